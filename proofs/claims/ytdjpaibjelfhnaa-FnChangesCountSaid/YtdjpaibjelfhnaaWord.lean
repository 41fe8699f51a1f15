/- Contracts: l1Word and partValid, whether a part is valid. -/
import Derived.Test.YtdjpaibjelfhnaaBaseS
import Derived.Test.YtdjpaibjelfhnaaIn
import Derived.Test.YtdjpaibjelfhnaaPlainPath
import Derived.Outline
namespace Go.Proofs.Ytdjpaibjelfhnaa
open Go.RowKit
set_option linter.unusedVariables false

theorem lower_iff (b : UInt8) : lower b = true ↔ 97 ≤ b.toNat ∧ b.toNat ≤ 122 := by simp [lower]

theorem all_false {l : List UInt8} {k : Nat} (h : k < l.length) (hb : lower l[k] = false) : l.all lower = false := by
  rw [List.all_eq_false]
  exact ⟨l[k], List.getElem_mem h, by simp [hb]⟩

theorem all_true {l : List UInt8} (h : ∀ j (hj : j < l.length), lower l[j] = true) : l.all lower = true := by
  rw [List.all_eq_true]
  intro x hx
  obtain ⟨j, hj, rfl⟩ := List.getElem_of_mem hx
  exact h j hj

theorem partV_eq (s : ByteArray) : partV (bts s) = (inB (s.size : Int) 1 5 && (bts s).all lower) := by
  unfold partV inB
  rw [bts_length, Bool.eq_iff_iff]
  simp only [Bool.and_eq_true, decide_eq_true_eq]
  constructor
  · rintro ⟨⟨a, b⟩, c⟩; exact ⟨⟨by omega, by omega⟩, c⟩
  · rintro ⟨⟨a, b⟩, c⟩; exact ⟨⟨by omega, by omega⟩, c⟩

set_option maxHeartbeats 400000 in
theorem l1Word_any (s : ByteArray) (w : World) (hs : s.size ≤ 4611686018427387904) :
    Calls Try.prog 58 #[.string s] w fun e w' => e = .returned (.bool (partV (bts s))) ∧ w = w' := by
  have HP := Lib.hid (partV_eq s)
  go_enter Try.func58, Try.ntmps58
  go_wp2
  go_loop [3] (fun i => ∃ k : Nat, k ≤ s.size ∧ i = .int .i64 k ∧ Hid (∀ j (hj : j < s.size), j < k → lower s[j] = true)) (fun i => s.size - (intOf i).toNat)
  case atStart => exact ⟨0, Nat.zero_le _, rfl, Lib.hid (fun j _ h => by omega)⟩
  case round =>
    obtain ⟨k, hk, rfl, hlo⟩ := hrel
    by_cases hlt : k < s.size
    · have hcase : (decide ((s[k].toNat : Int) < 97) = true ∧ Hid (lower s[k] = false)) ∨ (decide ((s[k].toNat : Int) < 97) = false ∧ decide ((122 : Int) < (s[k].toNat : Int)) = true ∧ Hid (lower s[k] = false)) ∨ (decide ((s[k].toNat : Int) < 97) = false ∧ decide ((122 : Int) < (s[k].toNat : Int)) = false ∧ Hid (lower s[k] = true)) := by
        by_cases h1 : s[k].toNat < 97
        · left; exact ⟨by simp; omega, Lib.hid (by simp [lower]; omega)⟩
        · by_cases h2 : 122 < s[k].toNat
          · right; left; exact ⟨by simp; omega, by simp; omega, Lib.hid (by simp [lower]; omega)⟩
          · right; right; exact ⟨by simp; omega, by simp; omega, Lib.hid (by simp [lower]; omega)⟩
      rcases hcase with ⟨d1, hb⟩ | ⟨d1, d2, hb⟩ | ⟨d1, d2, hb⟩
      · go_wp2
        go_ret
        have hf : (bts s).all lower = false := all_false (k := k) (by rw [bts_length]; exact hlt) (by rw [bts_get s k hlt]; exact hb.out)
        rw [HP.out, hf, Bool.and_false]
        exact ⟨rfl, rfl⟩
      · go_wp2
        go_ret
        have hf : (bts s).all lower = false := all_false (k := k) (by rw [bts_length]; exact hlt) (by rw [bts_get s k hlt]; exact hb.out)
        rw [HP.out, hf, Bool.and_false]
        exact ⟨rfl, rfl⟩
      · have hnx : Hid (∀ j (hj : j < s.size), j < k + 1 → lower s[j] = true) := Lib.hid (fun j hj h => by
          rcases Nat.lt_or_ge j k with h' | h'
          · exact hlo.out j hj h'
          · obtain rfl : j = k := by omega
            exact hb.out)
        go_wp2
        go_round
        case rel => exact ⟨k + 1, by omega, by go_num, hnx⟩
        case measure => simp [intOf]; omega
    · obtain rfl : k = s.size := by omega
      have hall : Hid (partV (bts s) = inB (s.size : Int) 1 5) := Lib.hid (by
        rw [HP.out, all_true (fun j hj => by rw [bts_length] at hj; rw [bts_get s j hj]; exact hlo.out j hj hj), Bool.and_true])
      go_wp2_with fail
      with_reducible refine (l6In_any (s.size : Int) 1 5 _).mono ?_
      rintro e w3 ⟨rfl, rfl⟩
      go_wp2
      go_ret
      rw [hall.out]
      exact ⟨rfl, rfl⟩

end Go.Proofs.Ytdjpaibjelfhnaa
