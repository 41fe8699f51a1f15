/- Contracts of spec.l2Pack and spec.BlockPack. -/
import Derived.Test.YtbegmliglabpfaaPackImpl
import Derived.BigQuiet
import Derived.Deep.QuietTactic
import Derived.Maps.AppendAt
namespace Go.Proofs.Ytbegmliglabpfaa
open Go.RowKit
set_option linter.unusedVariables false

theorem packL_succ_new {zs : List Int} {k : Nat} (h : k < zs.length) (hc : ¬ (runsP (zs.take k) ≠ [] ∧ ((runsP (zs.take k)).getD ((runsP (zs.take k)).length - 1) (0, 0)).2 = zs.getD k 0)) :
    packL (zs.take (k + 1)) = packL (zs.take k) ++ [1, zs.getD k 0] := by
  unfold packL
  rw [runsP_succ h, pushRun, if_neg hc, flatP_append]
  rfl

/-- A list that is not empty has a last element. -/
theorem split_last {α : Type} (ps : List α) (d : α) (h : ps ≠ []) : ∃ init, ps = init ++ [ps.getD (ps.length - 1) d] ∧ init.length = ps.length - 1 := by
  rcases List.eq_nil_or_concat ps with rfl | ⟨l, x, rfl⟩
  · exact absurd rfl h
  · refine ⟨l, ?_, by simp⟩
    simp [List.getD_eq_getElem?_getD]

theorem packL_succ_same {zs : List Int} {k : Nat} (h : k < zs.length) (hne : runsP (zs.take k) ≠ []) (hc : ((runsP (zs.take k)).getD ((runsP (zs.take k)).length - 1) (0, 0)).2 = zs.getD k 0) :
    2 ≤ (packL (zs.take k)).length ∧
    (packL (zs.take k)).getD ((packL (zs.take k)).length - 2) 0 = ((runsP (zs.take k)).getD ((runsP (zs.take k)).length - 1) (0, 0)).1 ∧
    packL (zs.take (k + 1)) = (packL (zs.take k)).set ((packL (zs.take k)).length - 2) (((runsP (zs.take k)).getD ((runsP (zs.take k)).length - 1) (0, 0)).1 + 1) := by
  unfold packL
  rw [runsP_succ h, pushRun, if_pos ⟨hne, hc⟩]
  generalize runsP (zs.take k) = ps at *
  obtain ⟨init, e, hl⟩ := split_last ps (0, 0) hne
  generalize hq : ps.getD (ps.length - 1) (0, 0) = q at *
  rw [← hl, e, ← hc]
  have hfl := flatP_length init
  have e2 : flatP (init ++ [q]) = flatP init ++ [q.1, q.2] := by rw [flatP_append]; rfl
  rw [e2]
  have hlen : (flatP init ++ [q.1, q.2]).length - 2 = (flatP init).length := by simp
  rw [hlen]
  refine ⟨by simp, by simp [List.getD_eq_getElem?_getD], ?_⟩
  rw [List.set_append_right _ _ (Nat.le_refl _), List.set_append_right _ _ (Nat.le_refl _), flatP_append]
  simp [flatP]

/-- The last run's byte is the last byte. -/
theorem runsP_last {zs : List Int} {k : Nat} (h : k < zs.length) : runsP (zs.take (k + 1)) ≠ [] ∧ ((runsP (zs.take (k + 1))).getD ((runsP (zs.take (k + 1))).length - 1) (0, 0)).2 = zs.getD k 0 := by
  have hp := runsP_pos h
  refine ⟨List.ne_nil_of_length_pos hp, ?_⟩
  rw [runsP_succ h] at hp ⊢
  unfold pushRun
  split
  · rename_i hc
    have hl : 0 < (runsP (zs.take k)).length := List.length_pos_iff.2 hc.1
    rw [List.length_set, getD_set_same _ _ _ _ (by omega)]
  · simp [List.getD_eq_getElem?_getD]

set_option maxHeartbeats 1600000 in
theorem l2Pack_any (a : Option Addr) (n c : Nat) (zs : List Int) (w : World) (hr : RdI w a n zs) (hwf : WfI zs) (hn : n ≤ 1099511627) :
    Calls Try.prog 44 #[.slice a n c] w (RetI w (packL zs)) := by
  have hl := Lib.hid hr.1
  go_enter Try.func44, Try.ntmps44
  go_wp2_with fail
  have hO0 : OwnI (w.alloc (.cells #[] 3)) w.heap.size (some ⟨w.heap.size, 0, none⟩) 0 [] := OwnI.empty (Nat.le_refl _)
  have hb0 : Below w.heap.size w (w.alloc (.cells #[] 3)) := (Below.refl _ _).alloc (Nat.le_refl _) _
  go_loopw [3, 4] (fun v i wr => ∃ k : Nat, k ≤ n ∧ i = .int .i64 k ∧ ∃ fs a2 c2, v = .slice a2 fs.length c2 ∧ Hid (fs = packL (zs.take k)) ∧ OwnI wr w.heap.size a2 c2 fs ∧ Below w.heap.size w wr)
    (fun _ i _ => n - (intOf i).toNat)
  case atStart => exact ⟨0, Nat.zero_le _, rfl, [], _, _, rfl, Lib.hid (by simp [packL, runsP, flatP]), hO0, hb0⟩
  case round =>
    clear hO0 hb0
    obtain ⟨k, hk, rfl, fs, a2, c2, rfl, hfs, hO, hb⟩ := hrel
    by_cases hlt : k < n
    · obtain ⟨b, off, rfl, hblt, hcc⟩ := hr.2 k hlt
      obtain ⟨x, hx⟩ : ∃ x, x = zs.getD k 0 := ⟨_, rfl⟩
      have hcx := (hb.cell (p := ⟨b, off + k, none⟩) hblt).trans (hcc k hlt)
      rw [← hx] at hcx
      have hxw := hwf.at_ (i := k) (by have := hl.out; omega)
      rw [← hx] at hxw
      have HX := Lib.hid hx
      have hflen : fs.length ≤ 2 * k := by
        have h1 := flatP_length (runsP (zs.take k))
        have h2 := runsP_le (zs.take k)
        have h3 := List.length_take_le k zs
        have h4 := hfs.out
        unfold packL at h4
        rw [h4]; omega
      clear hx
      have hk0 : (0 : Int) ≤ (k : Int) := by omega
      have hk1 : (k : Int) < (n : Int) := by omega
      by_cases hk00 : k = 0
      · have hnew := packL_succ_new (zs := zs) (k := k) (by have := hl.out; omega) (by subst hk00; simp [runsP])
        rw [← HX.out, ← hfs.out] at hnew
        have HN := Lib.hid hnew
        have hd : decide (0 < k) = false := by simp; omega
        have HK00 := Lib.hid hk00
        clear hnew hk00
        go_wp2_with fail
        go_quiet (fail)
        have hO' := hO.drewN nq
        have hb' := below_drewN hb nq
        have hcx' : (wr.drewN nq).cell? ⟨b, off + k, none⟩ = some (.int .i64 x) := hcx
        clear hO hb hcx
        generalize wr.drewN nq = wd at *
        have hsz := hb'.size
        have HW2 := Lib.hid (wf_two (x := 1) (y := x) (by omega) (by omega) hxw.1 hxw.2)
        go_wp2_with (at_builtin; go_must (refine wp_app rfl _ _ rfl rfl (hO'.alloc _) ⟨wd.heap.size, 0, none⟩ 2 2 [1, x] rfl rfl (news2 _ _ _) HW2.out (by omega) (by simp; omega) ?_); intro a3 c3 w3 hO3 hG3)
        have hb3 := (hb'.alloc hsz _).grown hG3 (by simp; omega) (fun r hr => (hO'.2.lt r hr).1)
        go_roundw
        case rel => exact ⟨k + 1, by omega, by go_num, fs ++ [1, x], a3, c3, by simp, Lib.hid HN.out.symm, hO3, hb3⟩
        case measure => simp [intOf]; omega
      · have hk0' : (0 : Int) < (k : Int) := by omega
        have hd : decide (0 < k) = true := by simp; omega
        obtain ⟨y, hy⟩ : ∃ y, y = zs.getD (k - 1) 0 := ⟨_, rfl⟩
        have hcp := (hb.cell (p := ⟨b, off + (k - 1), none⟩) hblt).trans (hcc (k - 1) (by omega))
        rw [← hy] at hcp
        have hk2 : (0 : Int) ≤ (k : Int) - 1 := by omega
        have hk3 : (k : Int) - 1 < (n : Int) := by omega
        have hk4 : ((k : Int) - 1).toNat = k - 1 := by omega
        have hlast := runsP_last (zs := zs) (k := k - 1) (by have := hl.out; omega)
        rw [show k - 1 + 1 = k by omega, ← hy] at hlast
        have HY := Lib.hid hy
        have HLST := Lib.hid hlast
        have HK4 := Lib.hid hk4
        clear hy hlast hcc hk4
        by_cases hxy : x = y
        · have ht : (x == y) = true := by simp [hxy]
          have hsame := packL_succ_same (zs := zs) (k := k) (by have := hl.out; omega) HLST.out.1 (by rw [HLST.out.2, ← HX.out, hxy])
          obtain ⟨mm, hmm⟩ : ∃ mm, mm = ((runsP (zs.take k)).getD ((runsP (zs.take k)).length - 1) (0, 0)).1 := ⟨_, rfl⟩
          rw [← hfs.out, ← hmm] at hsame
          have hmb : 1 ≤ mm ∧ mm ≤ 1099511627 := by
            have hp : 0 < (runsP (zs.take k)).length := List.length_pos_iff.2 HLST.out.1
            have e : (runsP (zs.take k)).getD ((runsP (zs.take k)).length - 1) (0, 0) = (runsP (zs.take k))[(runsP (zs.take k)).length - 1] := by
              simp [List.getD_eq_getElem?_getD, show (runsP (zs.take k)).length - 1 < (runsP (zs.take k)).length by omega]
            have := runsP_bd (zs.take k) _ (List.getElem_mem (show (runsP (zs.take k)).length - 1 < (runsP (zs.take k)).length by omega))
            rw [← e, ← hmm] at this
            have h3 := List.length_take_le k zs
            omega
          obtain ⟨hm1, hm2⟩ := hmb
          have HS := Lib.hid hsame
          clear hsame hmm hxy
          go_wp2_with fail
          go_quiet (fail)
          have hO' := hO.drewN nq
          have hb' := below_drewN hb nq
          obtain ⟨gg, rfl, hgg, hgl⟩ := hO'.head (by have := HS.out.1; omega)
          have hset := hO'.set (fs.length - 2) (mm + 1) (by omega) (by omega)
          have hold := hO'.2.cellAt (fs.length - 2) (by have := HS.out.1; omega)
          rw [getElem?_ints fs (fs.length - 2) (by have := HS.out.1; omega), HS.out.2.1] at hold
          have hfr := hO'.2.frozenAt (fs.length - 2)
          have hb3 := hb'.setCell (p := ⟨gg, fs.length - 2, none⟩) hgg (.int .i64 (mm + 1))
          have HO3 := Lib.hid hset.1
          have h2f := HS.out.1
          clear hO hb hcx hcp hset hO' hb'
          generalize wr.drewN nq = wd at *
          go_wp2
          go_roundw
          case rel => exact ⟨k + 1, by omega, by go_num, fs.set (fs.length - 2) (mm + 1), some ⟨gg, 0, none⟩, c2, by simp, Lib.hid HS.out.2.2.symm, HO3.out, hb3⟩
          case measure => simp [intOf]; omega
        · have ht : (x == y) = false := by simp [hxy]
          have hnew := packL_succ_new (zs := zs) (k := k) (by have := hl.out; omega) (fun h => hxy (by rw [HX.out, ← h.2, HLST.out.2]))
          rw [← HX.out, ← hfs.out] at hnew
          have HN := Lib.hid hnew
          clear hnew hxy
          go_wp2_with fail
          go_quiet (fail)
          have hO' := hO.drewN nq
          have hb' := below_drewN hb nq
          have hcx' : (wr.drewN nq).cell? ⟨b, off + k, none⟩ = some (.int .i64 x) := hcx
          clear hO hb hcx hcp
          generalize wr.drewN nq = wd at *
          have hsz := hb'.size
          have HW2 := Lib.hid (wf_two (x := 1) (y := x) (by omega) (by omega) hxw.1 hxw.2)
          go_wp2_with (at_builtin; go_must (refine wp_app rfl _ _ rfl rfl (hO'.alloc _) ⟨wd.heap.size, 0, none⟩ 2 2 [1, x] rfl rfl (news2 _ _ _) HW2.out (by omega) (by simp; omega) ?_); intro a3 c3 w3 hO3 hG3)
          have hb3 := (hb'.alloc hsz _).grown hG3 (by simp; omega) (fun r hr => (hO'.2.lt r hr).1)
          go_roundw
          case rel => exact ⟨k + 1, by omega, by go_num, fs ++ [1, x], a3, c3, by simp, Lib.hid HN.out.symm, hO3, hb3⟩
          case measure => simp [intOf]; omega
    · obtain rfl : k = n := by omega
      go_wp2
      go_ret
      have h := hfs.out
      rw [List.take_of_length_le (by have := hl.out; omega)] at h
      subst h
      exact ⟨a2, c2, rfl, hO, hb⟩

set_option maxHeartbeats 1000000 in
theorem specBlockPack_any (a : Option Addr) (n c : Nat) (zs : List Int) (w : World) (hr : RdI w a n zs) (hwf : WfI zs) (hn : n ≤ 1048576) :
    Calls Try.prog 29 #[.slice a n c] w (RetIB w (packR zs) (blockV zs)) := by
  by_cases hv : blockV zs = true
  · have hp : Hid (packR zs = packL zs) := Lib.hid (by simp [packR, hv])
    rw [hp.out, hv]
    go_enter Try.func29, Try.ntmps29
    go_wp2_with fail
    with_reducible refine (specBlockValid_any a n c zs _ hr (by omega)).mono ?_
    rintro e w' ⟨rfl, rfl⟩
    rw [hv]
    go_wp2_with fail
    with_reducible refine (l2Pack_any a n c zs _ hr hwf (by omega)).mono ?_
    rintro e w1 ⟨a1, c1, rfl, hO, hb⟩
    go_wp2
    go_ret2
    exact ⟨a1, c1, rfl, hO, hb⟩
  · have hv' : blockV zs = false := by simpa using hv
    have hp : Hid (packR zs = []) := Lib.hid (by simp [packR, hv])
    rw [hp.out, hv']
    clear hv
    go_enter Try.func29, Try.ntmps29
    go_wp2_with fail
    with_reducible refine (specBlockValid_any a n c zs _ hr (by omega)).mono ?_
    rintro e w' ⟨rfl, rfl⟩
    rw [hv']
    go_wp2
    go_ret2
    exact ⟨some ⟨w.heap.size, 0, none⟩, 0, rfl, OwnI.empty (Nat.le_refl _), (Below.refl _ _).alloc (Nat.le_refl _) _⟩

end Go.Proofs.Ytbegmliglabpfaa
