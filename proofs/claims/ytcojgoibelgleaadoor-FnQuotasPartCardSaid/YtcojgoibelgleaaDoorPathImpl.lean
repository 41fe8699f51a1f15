/- Contracts of the program's functions on paths. -/
import Derived.Test.YtcojgoibelgleaaDoorShelf
import Derived.Test.YtcojgoibelgleaaDoorSplitLaw
import Derived.Test.YtcojgoibelgleaaDoorPathSpec2
import Derived.Laws.OwnMore
namespace Go.Proofs.YtcojgoibelgleaaDoor
open Go.RowKit
set_option linter.unusedVariables false

/-- The library's variable MaxLen holds some number. -/
def MLen (w : World) : Prop := ∃ m, w.cell? ⟨0, 0, none⟩ = some (.int .i64 m)

theorem MLen.below {w w' : World} (h : MLen w) (hb : Below w.heap.size w w') : MLen w' := by
  obtain ⟨m, hm⟩ := h
  exact ⟨m, (hb.cell (p := ⟨0, 0, none⟩) (World.block_lt_of_cell? _ _ hm)).trans hm⟩

theorem pathV_long {s : ByteArray} (h : 23 < s.size) : pathV (bts s) = false := by
  cases hc : pathV (bts s) with
  | false => rfl
  | true => have := pathV_length hc; rw [bts_length] at this; omega

theorem pathV_many {s : ByteArray} (h : 4 < (cutS s).length) : pathV (bts s) = false := by
  cases hc : pathV (bts s) with
  | false => rfl
  | true => have := ((pathV_iff _).1 hc).1; simp [cutS] at h; omega

set_option maxHeartbeats 1000000 in
theorem implParts_any (s : ByteArray) (w : World) (hm : MLen w) (hs : s.size ≤ 1073741824) :
    Calls Tryd.prog 27 #[.string s] w (RetS w (partsS s)) := by
  by_cases h23 : 23 < s.size
  · have HE := Lib.hid (partsS_no (pathV_long h23))
    have d1 : decide ((23 : Int) < (s.size : Int)) = true := by simp; omega
    go_enter Tryd.func27, Tryd.ntmps27
    go_wp2
    go_ret
    rw [HE.out]
    exact ⟨_, _, rfl, OwnS.nil _ _, Below.refl _ _⟩
  · have d1 : decide ((23 : Int) < (s.size : Int)) = false := by simp; omega
    obtain ⟨m, hm⟩ := hm
    have HM := Lib.hid hm
    clear hm
    go_enter Tryd.func27, Tryd.ntmps27
    go_wp2_with fail
    refine (strings_Split s ⟨#[47]⟩ m _ (by omega) HM.out (by decide)).mono ?_
    rintro e w1 ⟨he, hw1⟩
    have hcs := count_slash s
    have hsp := split_slash s
    unfold slashS at hcs hsp
    rw [hcs] at he
    rw [hsp] at hw1
    subst he
    obtain ⟨L, hL⟩ : ∃ L, (cutS s).length = L := ⟨_, rfl⟩
    have hlen := cutS_length s
    have hO : OwnS w1 w.heap.size (some ⟨w.heap.size, 0, none⟩) (cutS s).length (cutS s) := by
      have := World.ownsRow_lit (base := w.heap.size) (size := 1) (e := 9) w ((cutS s).map Value.string).toArray (cutS s).length (Nat.le_refl _) (by unfold maxLen; omega) (by simp)
      rw [hw1]
      unfold OwnS
      simpa using this
    have hb1 : Below w.heap.size w w1 := by rw [hw1]; exact (Below.refl _ _).alloc (Nat.le_refl _) _
    have hrd := hO.rd
    have HG := Lib.hid (cutS_get s)
    have hLL : (cutS s).length = (cutL (bts s)).length := by simp [cutS]
    have HO := Lib.hid hO
    have HMANY := Lib.hid (@pathV_many s)
    rw [hL] at hrd hLL hlen ⊢
    have HL := Lib.hid hL
    have HLL := Lib.hid hLL
    clear hw1 hcs hsp hO hL hLL
    by_cases h4 : 4 < L
    · have HE := Lib.hid (partsS_no (HMANY.out (by rw [HL.out]; exact h4)))
      have d2 : decide ((4 : Int) < (L : Int)) = true := by simp; omega
      go_wp2
      go_ret
      rw [HE.out]
      exact ⟨_, _, rfl, OwnS.nil _ _, hb1⟩
    · have d2 : decide ((4 : Int) < (L : Int)) = false := by simp; omega
      go_wp2
      go_loop [16] (fun i => ∃ k : Nat, k ≤ L ∧ i = .int .i64 k ∧ Hid (∀ j, j < k → partV ((cutL (bts s)).getD j []) = true)) (fun i => L - (intOf i).toNat)
      case atStart => exact ⟨0, Nat.zero_le _, rfl, Lib.hid (fun j h => by omega)⟩
      case round =>
        obtain ⟨k, hk, rfl, hall⟩ := hrel
        by_cases hlt : k < L
        · obtain ⟨b, off, hbo, hblt, x, hx, cx⟩ := hrd.at_ hlt
          injection hbo with hbo
          injection hbo with hb' ho' _
          subst hb' ho'
          rw [Nat.zero_add] at cx
          have hg := HG.out k (by rw [HL.out]; exact hlt)
          rw [hx] at hg
          have hxs : x.size ≤ 1073741824 := by
            have hm : x ∈ cutS s := by
              rw [← hx, List.getD_eq_getElem?_getD, List.getElem?_eq_getElem (by rw [HL.out]; exact hlt)]; exact List.getElem_mem _
            have := part_size hm
            omega
          have HGK := Lib.hid hg
          clear hx hg
          go_wp2_with fail
          with_reducible refine (partValid_any x _ (by omega)).mono ?_
          rintro e w2 ⟨rfl, rfl⟩
          by_cases hv : partV (bts x) = true
          · have hnx : Hid (∀ j, j < k + 1 → partV ((cutL (bts s)).getD j []) = true) := Lib.hid (fun j h => by
              rcases Nat.lt_or_ge j k with h' | h'
              · exact hall.out j h'
              · obtain rfl : j = k := by omega
                rw [← HGK.out]; exact hv)
            rw [hv]
            clear hv
            go_wp2
            go_round
            case rel => exact ⟨k + 1, by omega, by go_num, hnx⟩
            case measure => simp [intOf]; omega
          · have hv' : partV (bts x) = false := by simpa using hv
            have hno : Hid (partsS s = []) := Lib.hid (partsS_no (pathV_not (k := k) (by rw [← HLL.out]; exact hlt) (by rw [← HGK.out]; exact hv')))
            rw [hv']
            clear hv hv'
            go_wp2
            go_ret
            rw [hno.out]
            exact ⟨_, _, rfl, OwnS.nil _ _, hb1⟩
        · obtain rfl : k = L := by omega
          have hyes : Hid (partsS s = cutS s) := Lib.hid (partsS_yes (by
            rw [pathV_all (fun j h => hall.out j (by rw [HLL.out]; exact h)), ← HLL.out]
            simp; omega))
          go_wp2
          go_ret
          rw [hyes.out]
          exact ⟨some ⟨w.heap.size, 0, none⟩, k, by rw [HL.out]; rfl, by have := HO.out; rwa [HL.out] at this, hb1⟩

theorem partsS_len (s : ByteArray) : ((partsS s).length : Int) = if pathV (bts s) = true then ((cutL (bts s)).length : Int) else 0 := by
  unfold partsS partsR
  split <;> simp

theorem partsS_pos {s : ByteArray} (h : pathV (bts s) = true) : 0 < (partsS s).length ∧ (partsS s).length ≤ 4 := by
  rw [partsS_yes h]
  have := pathV_parts h
  simp only [cutS, List.length_map]; omega

set_option maxHeartbeats 400000 in
theorem implValid_any (s : ByteArray) (w : World) (hm : MLen w) (hs : s.size ≤ 1073741824) :
    Calls Tryd.prog 24 #[.string s] w (RetB w (.bool (pathV (bts s)))) := by
  go_enter Tryd.func24, Tryd.ntmps24
  go_wp2_with fail
  with_reducible refine (implParts_any s _ hm hs).mono ?_
  rintro e w1 ⟨a, c, rfl, hO, hb1⟩
  by_cases hv : pathV (bts s) = true
  · have hp := (partsS_pos hv).1
    obtain ⟨L, hL⟩ : ∃ L, (partsS s).length = L := ⟨_, rfl⟩
    rw [hL] at hp ⊢
    have d1 : decide ((0 : Int) < (L : Int)) = true := by simp; omega
    have HV := Lib.hid hv
    clear hL hO hv
    go_wp2
    go_ret
    rw [HV.out]
    exact ⟨rfl, hb1⟩
  · have hv' : pathV (bts s) = false := by simpa using hv
    have hL : (partsS s).length = 0 := by rw [partsS_no hv']; rfl
    have HV := Lib.hid hv'
    rw [hL]
    clear hL hO hv hv'
    go_wp2
    go_ret
    rw [HV.out]
    exact ⟨rfl, hb1⟩

end Go.Proofs.YtcojgoibelgleaaDoor
