/- Contract of spec.BlockUnpack. -/
import Derived.Test.YtbegmliglabpfaaUnpackImpl
import Derived.Test.YtbegmliglabpfaaPackSpec
import Derived.Test.YtbegmliglabpfaaEq
namespace Go.Proofs.Ytbegmliglabpfaa
open Go.RowKit
set_option linter.unusedVariables false

theorem exp8_take {ps : List (Int × Int)} {k : Nat} (h : k < ps.length) : exp8 (ps.take (k + 1)) = exp8 (ps.take k) ++ List.replicate (cnt (ps.getD k (0, 0)).1) (ps.getD k (0, 0)).2 := by
  have e : ps.getD k (0, 0) = ps[k] := by simp [List.getD_eq_getElem?_getD, h]
  rw [List.take_succ_eq_append_getElem h, e]
  simp only [exp8, List.flatMap_append, List.flatMap_cons, List.flatMap_nil, List.append_nil]

theorem exp8_le (ps : List (Int × Int)) : (exp8 ps).length ≤ 8 * ps.length := by
  induction ps with
  | nil => simp [exp8]
  | cons p t ih =>
    have : cnt p.1 ≤ 8 := by unfold cnt; omega
    simp only [exp8, List.flatMap_cons, List.length_append, List.length_replicate, List.length_cons] at *
    omega

set_option maxHeartbeats 2000000 in
theorem specBlockUnpack_any (a : Option Addr) (n c : Nat) (rs : List Int) (w : World) (hr : RdI w a n rs) (hwf : WfI rs) (hn : n ≤ 1048576) :
    Calls Try.prog 33 #[.slice a n c] w (RetIB w (unR rs) (unOK rs)) := by
  have hl := Lib.hid hr.1
  go_enter Try.func33, Try.ntmps33
  go_wp2_with fail
  have hO0 : OwnI (w.alloc (.cells #[] 3)) w.heap.size (some ⟨w.heap.size, 0, none⟩) 0 [] := OwnI.empty (Nat.le_refl _)
  have hb0 : Below w.heap.size w (w.alloc (.cells #[] 3)) := (Below.refl _ _).alloc (Nat.le_refl _) _
  go_loopw [4, 5, 6] (fun v i _ wr => ∃ t : Nat, t ≤ n ∧ i = .int .i64 t ∧ ∃ zs a2 c2, v = .slice a2 zs.length c2 ∧ zs.length ≤ 4194304 ∧ (∃ k, Hid (t = 2 * k ∧ zs = exp8 ((pairsOf rs).take k))) ∧ OwnI wr w.heap.size a2 c2 zs ∧ Below w.heap.size w wr)
    (fun _ i _ _ => n + 2 - (intOf i).toNat)
  case atStart => exact ⟨0, Nat.zero_le _, rfl, [], _, _, rfl, by simp, ⟨0, Lib.hid ⟨rfl, by simp [exp8]⟩⟩, hO0, hb0⟩
  case round =>
    clear hO0 hb0
    obtain ⟨t, ht, rfl, zs, a2, c2, rfl, hzl, ⟨k, hh⟩, hO, hb⟩ := hrel
    by_cases hlt : t + 1 < n
    · have hkp : k < (pairsOf rs).length := by have := hh.out.1; have := pairsOf_length rs; have := hl.out; omega
      obtain ⟨b, off, rfl, hblt, hcc⟩ := hr.2 t (by omega)
      have hpg := pairsOf_getD rs k (by rw [← pairsOf_length]; exact hkp)
      rw [← hh.out.1] at hpg
      have hex := exp8_take hkp
      rw [hpg, ← hh.out.2] at hex
      obtain ⟨m, hm⟩ : ∃ m, m = rs.getD t 0 := ⟨_, rfl⟩
      obtain ⟨v, hv⟩ : ∃ v, v = rs.getD (t + 1) 0 := ⟨_, rfl⟩
      have cm0 := hcc t (by omega)
      have cv0 := hcc (t + 1) hlt
      rw [← hm] at cm0 hex
      rw [← hv] at cv0 hex
      have hwv := hwf.at_ (i := t + 1) (by have := hl.out; omega)
      rw [← hv] at hwv
      obtain ⟨wv0, wv1⟩ := hwv
      have hbig := exp8_le ((pairsOf rs).take (k + 1))
      rw [hex] at hbig
      have hkn : ((pairsOf rs).take (k + 1)).length ≤ 524288 := by
        have h1 := List.length_take_le (k + 1) (pairsOf rs)
        have h2 := List.length_take_le' (k + 1) (pairsOf rs)
        have h3 := pairsOf_length rs
        have := hl.out
        omega
      have hcnt : cnt m ≤ 8 ∧ (∀ j : Nat, j < cnt m ↔ ((j : Int) < m ∧ j < 8)) := by
        unfold cnt; exact ⟨by omega, fun j => by omega⟩
      have HCN := Lib.hid hcnt
      have HEX := Lib.hid hex
      have HBG : zs.length + cnt m ≤ 4194304 := by
        rw [List.length_append, List.length_replicate] at hbig
        simp only at hbig
        omega
      clear hm hv hpg hex hbig hcc hcnt
      go_wp2_with fail
      obtain ⟨wo, rfl⟩ : ∃ wo : World, wo = wr := ⟨_, rfl⟩
      go_loopw [4, 6] (fun v' i wq => ∃ j : Nat, j ≤ cnt m ∧ i = .int .i64 j ∧ ∃ a3 c3, v' = .slice a3 (zs.length + j) c3 ∧ OwnI wq w.heap.size a3 c3 (zs ++ List.replicate j v) ∧ Below w.heap.size w wq)
        (fun _ i _ => 8 - (intOf i).toNat)
      case atStart => exact ⟨0, Nat.zero_le _, rfl, a2, c2, rfl, by simpa using hO, hb⟩
      case round =>
        obtain ⟨j, hj, rfl, a3, c3, rfl, hO3, hb3⟩ := hrel
        have hlr : (zs ++ List.replicate j v).length = zs.length + j := by simp
        have cm := (hb3.cell (p := ⟨b, off + t, none⟩) hblt).trans cm0
        have cv := (hb3.cell (p := ⟨b, off + (t + 1), none⟩) hblt).trans cv0
        have hc8 := HCN.out.1
        by_cases hjm : j < cnt m
        · have hj2 := (HCN.out.2 j).1 hjm
          obtain ⟨hj3, hj4⟩ := hj2
          have HLR := Lib.hid hlr
          have HO3 := Lib.hid hO3
          have hsz := hb3.size
          clear hlr hO
          go_wp2_with (at_builtin; go_must (refine wp_appL rfl _ _ rfl HLR.out rfl HO3.out rfl (by omega) (by omega) (by omega) (by omega) ?_); intro a4 c4 w4 hO4 hG4)
          obtain ⟨hb4, _⟩ := appL_below HLR.out hb3 HO3.out hG4
          rw [List.append_assoc, ← List.replicate_succ'] at hO4
          go_roundw
          case rel => exact ⟨j + 1, by omega, by go_num, a4, c4, rfl, hO4, hb4⟩
          case measure => simp [intOf]; omega
        · have hje : j = cnt m := by omega
          have hnot := mt (HCN.out.2 j).2 hjm
          have HRES : Hid (zs ++ List.replicate j v = exp8 ((pairsOf rs).take (k + 1))) := Lib.hid (by rw [HEX.out, hje])
          clear hje hO
          by_cases hjmm : (j : Int) < m
          · have hj8 : ¬ j < 8 := fun h => hnot ⟨hjmm, h⟩
            clear hnot
            go_wp2
            go_roundw
            case rel => exact ⟨t + 2, by omega, by go_num, zs ++ List.replicate j v, a3, c3, by rw [hlr], by rw [hlr]; omega, ⟨k + 1, Lib.hid ⟨by have := hh.out.1; omega, HRES.out⟩⟩, hO3, hb3⟩
            case measure => simp [intOf]; omega
          · clear hnot
            go_wp2
            go_roundw
            case rel => exact ⟨t + 2, by omega, by go_num, zs ++ List.replicate j v, a3, c3, by rw [hlr], by rw [hlr]; omega, ⟨k + 1, Lib.hid ⟨by have := hh.out.1; omega, HRES.out⟩⟩, hO3, hb3⟩
            case measure => simp [intOf]; omega
    · have hz : zs = exp8 (pairsOf rs) := by
        have h1 := hh.out.1
        have h2 := pairsOf_length rs
        have h3 := hl.out
        rw [hh.out.2, List.take_of_length_le (by omega)]
      have HUN := Lib.hid (show unOK rs = (blockV zs && decide (packL zs = rs)) ∧ (unOK rs = true → unR rs = zs) ∧ (unOK rs = false → unR rs = []) from
        ⟨by rw [hz]; rfl, fun h => by rw [unR, if_pos h, hz], fun h => by rw [unR, h]; rfl⟩)
      clear hz
      by_cases hv : blockV zs = true
      · go_wp2_with fail
        with_reducible refine (specBlockValid_any a2 zs.length c2 zs _ hO.rd (by omega)).mono ?_
        rintro e w' ⟨rfl, rfl⟩
        rw [hv]
        go_wp2_with fail
        with_reducible refine (l2Pack_any a2 zs.length c2 zs _ hO.rd hO.wf (by omega)).mono ?_
        rintro e w1 ⟨a3, c3, rfl, hO3, hb3⟩
        have hb4 := hb.trans (hb3.mono hb.size)
        have hO4 := hO.below hb3
        have hpk : (packL zs).length ≤ 16 := by
          have h1 := flatP_length (runsP zs)
          have h2 := runsP_le zs
          have h3 := (blockV_parts hv).2.2
          unfold packL
          omega
        clear hO hb hb3
        go_wp2_with fail
        with_reducible refine (l2Same_any a3 a _ n c3 c (packL zs) rs _ hO3.rd (hr.below hb4) (by omega) (by omega)).mono ?_
        rintro e w2 ⟨rfl, m2, rfl⟩
        have hb5 := below_drewN hb4 m2
        have hO5 : OwnI (w1.drewN m2) w.heap.size a2 c2 zs := hO4
        have heq : Hid (unOK rs = eqI (packL zs) rs) := Lib.hid (by rw [HUN.out.1, hv]; rfl)
        clear hO4 hb4 hO3
        generalize w1.drewN m2 = wd at *
        by_cases hE : eqI (packL zs) rs = true
        · rw [hE] at heq ⊢
          go_wp2
          go_ret2
          rw [heq.out, HUN.out.2.1 heq.out]
          exact ⟨a2, c2, rfl, hO5, hb5⟩
        · have hE' : eqI (packL zs) rs = false := by simpa using hE
          rw [hE'] at heq ⊢
          clear hE
          go_wp2
          go_ret2
          rw [heq.out, HUN.out.2.2 heq.out]
          exact ⟨some ⟨wd.heap.size, 0, none⟩, 0, rfl, OwnI.empty hb5.size, hb5.alloc hb5.size _⟩
      · have hv' : blockV zs = false := by simpa using hv
        have heq : Hid (unOK rs = false) := Lib.hid (by rw [HUN.out.1, hv']; rfl)
        clear hv
        go_wp2_with fail
        with_reducible refine (specBlockValid_any a2 zs.length c2 zs _ hO.rd (by omega)).mono ?_
        rintro e w' ⟨rfl, rfl⟩
        rw [hv']
        go_wp2
        go_ret2
        rw [heq.out, HUN.out.2.2 heq.out]
        exact ⟨some ⟨wr.heap.size, 0, none⟩, 0, rfl, OwnI.empty hb.size, hb.alloc hb.size _⟩

end Go.Proofs.Ytbegmliglabpfaa
