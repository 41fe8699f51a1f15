/- Contracts of the reference's functions on paths. -/
import Derived.Test.YtdjpaibjelfhnaaCut
import Derived.Test.YtdjpaibjelfhnaaPlainPath2
namespace Go.Proofs.Ytdjpaibjelfhnaa
open Go.RowKit
set_option linter.unusedVariables false

theorem cutS_get (s : ByteArray) (k : Nat) (h : k < (cutS s).length) : bts ((cutS s).getD k ByteArray.empty) = (cutL (bts s)).getD k [] := by
  unfold cutS at h ⊢
  have h' : k < (cutL (bts s)).length := by simpa using h
  simp [List.getD_eq_getElem?_getD, h', bts_mk]

theorem join_part : ∀ (ps : List (List UInt8)) (p : List UInt8), p ∈ ps → p.length ≤ (joinL ps).length := by
  intro ps
  induction ps with
  | nil => intro p hp; cases hp
  | cons q qs ih =>
    intro p hp
    by_cases hn : qs = []
    · subst hn; simp at hp; subst hp; simp [joinL]
    · rw [joinL_cons _ hn]
      simp only [List.length_append, List.length_cons]
      rcases List.mem_cons.1 hp with rfl | hp
      · omega
      · have := ih p hp; omega

theorem part_size {s x : ByteArray} (hm : x ∈ cutS s) : x.size ≤ s.size := by
  simp only [cutS, List.mem_map] at hm
  obtain ⟨p, hp, rfl⟩ := hm
  have h2 := join_part _ p hp
  rw [join_cut, bts_length] at h2
  rw [mkS_size]; exact h2

theorem pathV_not {l : List UInt8} {k : Nat} (hk : k < (cutL l).length) (h : partV ((cutL l).getD k []) = false) : pathV l = false := by
  cases hc : pathV l with
  | false => rfl
  | true =>
    have := ((pathV_iff l).1 hc).2 ((cutL l).getD k []) (by
      have e : (cutL l).getD k [] = (cutL l)[k] := by simp [List.getD_eq_getElem?_getD, hk]
      rw [e]; exact List.getElem_mem hk)
    rw [h] at this; cases this

theorem pathV_all {l : List UInt8} (h : ∀ j, j < (cutL l).length → partV ((cutL l).getD j []) = true) : pathV l = decide ((cutL l).length ≤ 4) := by
  unfold pathV
  have : (cutL l).all partV = true := by
    rw [List.all_eq_true]
    intro p hp
    obtain ⟨j, hj, rfl⟩ := List.getElem_of_mem hp
    have := h j hj
    simpa [List.getD_eq_getElem?_getD, hj] using this
  rw [this, Bool.and_true]

set_option maxHeartbeats 1000000 in
theorem specPathValid_any (s : ByteArray) (w : World) (hs : s.size ≤ 1073741824) :
    Calls Try.prog 55 #[.string s] w (RetB w (.bool (pathV (bts s)))) := by
  go_enter Try.func55, Try.ntmps55
  go_wp2_with fail
  with_reducible refine (l1Cut_any s _ hs).mono ?_
  rintro e w1 ⟨a, c, rfl, hO, hb1⟩
  have hcl := cutS_length s
  have hrd := hO.rd
  have HG := Lib.hid (cutS_get s)
  have hLL : (cutS s).length = (cutL (bts s)).length := by simp [cutS]
  obtain ⟨L, hL⟩ : ∃ L, (cutS s).length = L := ⟨_, rfl⟩
  rw [hL] at hrd hcl hLL ⊢
  have HL := Lib.hid hL
  have HLL := Lib.hid hLL
  clear hL hLL hO
  go_wp2
  go_loop [4] (fun i => ∃ k : Nat, k ≤ L ∧ i = .int .i64 k ∧ Hid (∀ j, j < k → partV ((cutL (bts s)).getD j []) = true)) (fun i => L - (intOf i).toNat)
  case atStart => exact ⟨0, Nat.zero_le _, rfl, Lib.hid (fun j h => by omega)⟩
  case round =>
    obtain ⟨k, hk, rfl, hall⟩ := hrel
    by_cases hlt : k < L
    · obtain ⟨b, off, rfl, hblt, x, hx, cx⟩ := hrd.at_ hlt
      have hg := HG.out k (by rw [HL.out]; exact hlt)
      rw [hx] at hg
      have hxs : x.size ≤ 1073741824 := by
        have hm : x ∈ cutS s := by
          rw [← hx, List.getD_eq_getElem?_getD, List.getElem?_eq_getElem (by rw [HL.out]; exact hlt)]; exact List.getElem_mem _
        have hj := join_cut (bts s)
        have : ∀ (ps : List (List UInt8)) (p : List UInt8), p ∈ ps → p.length ≤ (joinL ps).length := by
          intro ps
          induction ps with
          | nil => intro p hp; cases hp
          | cons q qs ih =>
            intro p hp
            by_cases hn : qs = []
            · subst hn; simp at hp; subst hp; simp [joinL]
            · rw [joinL_cons _ hn]
              simp only [List.length_append, List.length_cons]
              rcases List.mem_cons.1 hp with rfl | hp
              · omega
              · have := ih p hp; omega
        simp only [cutS, List.mem_map] at hm
        obtain ⟨p, hp, rfl⟩ := hm
        have h2 := this _ p hp
        rw [hj, bts_length] at h2
        rw [mkS_size]; omega
      have HGK := Lib.hid hg
      clear hx hg
      go_wp2_with fail
      with_reducible refine (l1Word_any x _ (by omega)).mono ?_
      rintro e w2 ⟨rfl, rfl⟩
      by_cases hv : partV (bts x) = true
      · have hnx : Hid (∀ j, j < k + 1 → partV ((cutL (bts s)).getD j []) = true) := Lib.hid (fun j h => by
          rcases Nat.lt_or_ge j k with h' | h'
          · exact hall.out j h'
          · obtain rfl : j = k := by omega
            rw [← HGK.out]; exact hv)
        rw [hv]
        clear hv
        go_wp2
        go_round
        case rel => exact ⟨k + 1, by omega, by go_num, hnx⟩
        case measure => simp [intOf]; omega
      · have hv' : partV (bts x) = false := by simpa using hv
        have hno : Hid (pathV (bts s) = false) := Lib.hid (pathV_not (k := k) (by rw [← HLL.out]; exact hlt) (by rw [← HGK.out]; exact hv'))
        rw [hv']
        clear hv hv'
        go_wp2
        go_ret
        rw [hno.out]
        exact ⟨rfl, hb1⟩
    · obtain rfl : k = L := by omega
      have hyes : Hid (pathV (bts s) = decide ((k : Int) ≤ 4)) := Lib.hid (by
        rw [pathV_all (fun j h => hall.out j (by rw [HLL.out]; exact h)), ← HLL.out, Bool.eq_iff_iff]
        simp only [decide_eq_true_eq]; omega)
      go_wp2
      go_ret
      rw [hyes.out]
      exact ⟨rfl, hb1⟩

/-- What PathParts answers, as strings. -/
def partsS (s : ByteArray) : List ByteArray := (partsR (bts s)).map mkS

theorem partsS_yes {s : ByteArray} (h : pathV (bts s) = true) : partsS s = cutS s := by simp [partsS, partsR, h, cutS]
theorem partsS_no {s : ByteArray} (h : pathV (bts s) = false) : partsS s = [] := by simp [partsS, partsR, h]

set_option maxHeartbeats 400000 in
theorem l1Last_any (s : ByteArray) (w : World) (hs : s.size ≤ 1073741824) :
    Calls Try.prog 56 #[.string s] w fun e w' => e = .returned (.int .i64 (lastL (bts s))) ∧ w = w' := by
  go_enter Try.func56, Try.ntmps56
  go_wp2
  go_loop [3, 4] (fun v i => ∃ k : Nat, k ≤ s.size ∧ i = .int .i64 k ∧ ∃ t : Int, v = .int .i64 t ∧ Hid (lastL ((bts s).take k) = t)) (fun _ i => s.size - (intOf i).toNat)
  case atStart => exact ⟨0, Nat.zero_le _, rfl, -1, rfl, Lib.hid (by simp [lastL])⟩
  case round =>
    obtain ⟨k, hk, rfl, t, rfl, ht⟩ := hrel
    by_cases hlt : k < s.size
    · have hg := bts_get? s k hlt
      have hsn : (bts s).take (k + 1) = (bts s).take k ++ [s[k]] := by
        rw [List.take_succ_eq_append_getElem (by rw [bts_length]; exact hlt), bts_get s k hlt]
      have hls := lastL_snoc ((bts s).take k) s[k]
      rw [← hsn, ht.out, List.length_take, bts_length] at hls
      have hmin : min k s.size = k := by omega
      rw [hmin] at hls
      by_cases h47 : s[k].toNat = 47
      · have e47 : s[k] = 47 := UInt8.toNat_inj.1 (by simpa using h47)
        have d1 : (((s[k].toNat : Nat) : Int) == 47) = true := by rw [beq_iff_eq]; omega
        have HT : Hid (lastL ((bts s).take (k + 1)) = (k : Int)) := Lib.hid (by rw [hls, if_pos e47])
        clear hls hsn hg h47 e47 hmin
        go_wp2
        go_round
        case rel => exact ⟨k + 1, by omega, by go_num, (k : Int), rfl, HT⟩
        case measure => simp [intOf]; omega
      · have d1 : (((s[k].toNat : Nat) : Int) == 47) = false := by rw [beq_eq_false_iff_ne]; omega
        have HT : Hid (lastL ((bts s).take (k + 1)) = t) := Lib.hid (by rw [hls, if_neg (fun hc => h47 (by rw [hc]; rfl))])
        clear hls hsn hg h47 hmin
        go_wp2
        go_round
        case rel => exact ⟨k + 1, by omega, by go_num, t, rfl, HT⟩
        case measure => simp [intOf]; omega
    · obtain rfl : k = s.size := by omega
      have HT : Hid (lastL (bts s) = t) := Lib.hid (by
        have := ht.out
        rwa [List.take_of_length_le (by rw [bts_length]; exact Nat.le_refl _)] at this)
      go_wp2
      go_ret
      rw [HT.out]
      exact ⟨rfl, rfl⟩

end Go.Proofs.Ytdjpaibjelfhnaa
