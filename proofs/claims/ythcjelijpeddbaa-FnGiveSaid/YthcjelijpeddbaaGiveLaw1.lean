/- Walks of the laws of SpaceGive: FnGive, FnGiveParts, FnGiveOthers, FnTakeGive. -/
import Derived.Test.YthcjelijpeddbaaGiveSpec2
import Derived.Test.YthcjelijpeddbaaPlainGive2
import Derived.Test.YthcjelijpeddbaaDrawGive
import Derived.Test.YthcjelijpeddbaaSameX
import Derived.Test.YthcjelijpeddbaaExGive
import Derived.Test.YthcjelijpeddbaaFreeMost
import Derived.Test.YthcjelijpeddbaaTakeSpec
import Derived.Test.YthcjelijpeddbaaTr
import Derived.Deep.RegionWith
namespace Go.Proofs.Ythcjelijpeddbaa
open Go.RowKit
set_option linter.unusedVariables false

theorem sameSpace_self (a a' : Option Addr) (n c c' : Nat) (xs : List (Int × Int)) (w : World) (hr : RdX w a n xs) (hr' : RdX w a' n xs) (hw : WfX xs) (hn : n ≤ 4611686018427387904) :
    Calls Try.prog 11 #[.slice a n c, .slice a' n c'] w (RetB w (.bool true)) :=
  (sameSpace_any a a' n n c c' xs xs w hr hr' hw hw hn hn).mono fun e w' ⟨h1, m, h2⟩ => ⟨by rw [h1, eqX_self], by rw [h2]; exact below_drewN (Below.refl _ _) _⟩

/-- A boxed extent, the second block. -/
def BoxY (w wk : World) (f m : Int) : Prop := wk.cell? ⟨w.heap.size + 1, 0, none⟩ = some (.int .i64 f) ∧ wk.cell? ⟨w.heap.size + 1, 1, none⟩ = some (.int .i64 m) ∧ w.heap.size + 1 < wk.heap.size

theorem BoxY.below {w wk w2 : World} {f m : Int} (h : BoxY w wk f m) (hb : Below wk.heap.size wk w2) : BoxY w w2 f m :=
  ⟨(hb.cell (p := ⟨w.heap.size + 1, 0, none⟩) h.2.2).trans h.1, (hb.cell (p := ⟨w.heap.size + 1, 1, none⟩) h.2.2).trans h.2.1, Nat.lt_of_lt_of_le h.2.2 hb.size⟩

theorem BoxY.new (w : World) (o : Obj) (f m : Int) (t : TypeId) : BoxY w ((w.alloc o).alloc (.cells #[.int .i64 f, .int .i64 m] t)) f m := by
  have hs : (w.alloc o).heap.size = w.heap.size + 1 := by simp
  have h := BoxX.new (w.alloc o) f m t
  unfold BoxX at h
  rw [hs] at h
  exact h

theorem takeR_length (xs : List (Int × Int)) (m : Int) : (takeR xs m).1.length ≤ 100 := by
  unfold takeR
  split
  · rename_i h
    split
    · rename_i r hr
      exact space_count (takeX_spec h.2.1 h.1 hr).1
    · simp
  · simp

set_option maxHeartbeats 1000000 in
theorem FnGive_walk (a : Option Addr) (n c : Nat) (w : World) (h : RdC w a n) (hc : n ≤ c) (hm : c ≤ maxLen) :
    Calls Try.prog 7 #[.slice a n c] w (Tr w) := by
  unfold maxLen at hm
  by_cases hn : n ≤ 1048576
  · go_enter Try.func7, Try.ntmps7
    go_wp2_with fail
    with_reducible refine (DrawSpaceGive_any a n c _ h hc hn).mono ?_
    rintro e w0 ⟨zs, a1, c1, f, m, rfl, hz, hf, hmm, hO, hb⟩
    obtain ⟨W1, hW1⟩ : ∃ W1 : World, W1 = w0.alloc (.cells #[.int .i64 f, .int .i64 m] 32) := ⟨_, rfl⟩
    have hbx : Below w0.heap.size w0 W1 := by rw [hW1]; exact boxBelow w0 _
    have hQ_0 : BoxX w0 W1 f m := by rw [hW1]; exact BoxX.new w0 f m _
    have hO_0 := hO.below hbx
    have hb_0 := hb.trans (hbx.mono hb.size)
    have HW1 := Lib.hid hW1
    clear hW1 hO hb hbx h
    go_wp2_with fail
    rw [← HW1.out]
    with_reducible refine (implSpaceGive_any a1 zs.length c1 zs f m _ hO_0.rd hO_0.wf (by omega) hf hmm).mono ?_
    rintro e w1 ⟨aG, cG, rfl, hG_1, hb⟩
    have hQ_1 := hQ_0.below hb
    have hO_1 := hO_0.below hb
    have hb_1 := hb_0.trans (hb.mono hb_0.size)
    clear hQ_0 hO_0 hb_0 hb
    obtain ⟨y0, y1, _⟩ := hQ_1
    go_wp2_with fail
    with_reducible refine (specSpaceGive_any a1 zs.length c1 zs f m _ hO_1.rd hO_1.wf (by omega) hf hmm).mono ?_
    rintro e w2 ⟨aW, cW, rfl, hW_2, hb⟩
    have hQ_1 : BoxX w0 w1 f m := ⟨y0, y1, by assumption⟩
    clear y0 y1
    have hQ_2 := hQ_1.below hb
    have hO_2 := hO_1.below hb
    have hG_2 := hG_1.below hb
    have hb_2 := hb_1.trans (hb.mono hb_1.size)
    clear hQ_1 hO_1 hG_1 hb_1 hb
    have hlen := giveR_length zs (f, m)
    have hok := Lib.hid (@give_ok zs (f, m))
    obtain ⟨LL, hLL⟩ : ∃ LL, (giveR zs (f, m)).1 = LL := ⟨_, rfl⟩
    obtain ⟨bb, hbb⟩ : ∃ bb, (giveR zs (f, m)).2 = bb := ⟨_, rfl⟩
    rw [hLL, hbb] at hok
    rw [hLL] at hlen hG_2 hW_2 ⊢
    rw [hbb]
    clear hLL hbb
    have q1 : (bb != bb) = false := by simp
    have q3 : (bb == bb) = true := by simp
    go_wp2_with fail
    with_reducible refine (sameSpace_self aG aW _ cG cW LL _ hG_2.rd hW_2.rd hG_2.wf (by omega)).mono ?_
    rintro e w3 ⟨rfl, hb⟩
    have hQ_3 := hQ_2.below hb
    have hO_3 := hO_2.below hb
    have hG_3 := hG_2.below hb
    have hW_3 := hW_2.below hb
    have hb_3 := hb_2.trans (hb.mono hb_2.size)
    clear hQ_2 hO_2 hG_2 hW_2 hb_2 hb
    by_cases hbt : bb = true
    · subst hbt
      obtain ⟨hv, hx, hme, hL⟩ := hok.out rfl
      have hin := give_in hv hx hme
      rw [← hL] at hin
      obtain ⟨hvL, hin⟩ := hin
      have vx := (validX_iff _).1 hx
      simp only at vx
      obtain ⟨v0, v1, v2, v3⟩ := vx
      have HV := Lib.hid hv
      have HX := Lib.hid hx
      have HME := Lib.hid hme
      have HL := Lib.hid hL
      have HVL := Lib.hid hvL
      have HIN := Lib.hid hin
      clear hok hv hx hme hL hvL hin
      have hfr := Lib.hid ((meetsL_iff HV.out HX.out).1 HME.out)
      obtain ⟨sm, hsm⟩ : ∃ sm, sumX zs = sm := ⟨_, rfl⟩
      have hgs := give_sum zs (f, m)
      rw [← HL.out, hsm] at hgs
      simp only at hgs
      have hsb := sumX_bound HV.out (by omega)
      rw [hsm] at hsb
      obtain ⟨sb0, sb1⟩ := hsb
      have HFZ : Hid (freeV zs = sm) := Lib.hid (by rw [freeV, if_pos HV.out, hsm])
      have HFL : Hid (freeV LL = sm + m) := Lib.hid (by rw [freeV, if_pos HVL.out, hgs])
      clear hsm hgs
      obtain ⟨y0, y1, hq2⟩ := hQ_3
      go_wp2_with fail
      go_loopw [9] (fun i wr => ∃ k : Nat, (k : Int) ≤ m ∧ i = .int .i64 k ∧ Below w3.heap.size w3 wr) (fun i _ => m.toNat - (intOf i).toNat)
      case atStart => exact ⟨0, by omega, rfl, Below.refl _ _⟩
      case round =>
        obtain ⟨k, hk, rfl, hbr⟩ := hrel
        have hOr := hO_3.below hbr
        have hGr := hG_3.below hbr
        have hQr : BoxX w0 wr f m := BoxX.below ⟨y0, y1, hq2⟩ hbr
        obtain ⟨z0, z1, hq3⟩ := hQr
        by_cases hlt : (k : Int) < m
        · have HI : Hid (inS LL (f + k) = true) := Lib.hid (by
            rw [HIN.out]
            have e1 : inX (f, m) (f + (k : Int)) = true := by rw [inX_iff]; simp only; omega
            rw [e1, Bool.or_true])
          have HJ : Hid (inS zs (f + k) = false) := Lib.hid (hfr.out (f + k) (by show f ≤ f + (k : Int); omega) (by show f + (k : Int) < f + m; omega))
          go_wp2_with fail
          with_reducible refine (isFree_any aG _ cG LL (f + k) _ hGr.rd hGr.wf (by omega) HVL.out).mono ?_
          rintro e w5 ⟨rfl, hb⟩
          have hOs := hOr.below hb
          have hbs := hbr.trans (hb.mono hbr.size)
          have hQs : BoxX w0 w5 f m := BoxX.below ⟨z0, z1, hq3⟩ hb
          obtain ⟨x0, x1, _⟩ := hQs
          rw [HI.out]
          clear hb
          go_wp2_with fail
          with_reducible refine (isFree_any a1 _ c1 zs (f + k) _ hOs.rd hOs.wf (by omega) HV.out).mono ?_
          rintro e w6 ⟨rfl, hb⟩
          have hbt := hbs.trans (hb.mono hbs.size)
          rw [HJ.out]
          clear hb
          go_wp2
          go_roundw
          case rel => exact ⟨k + 1, by omega, by go_num, hbt⟩
          case measure => simp [intOf]; omega
        · have hbw := hb_3.trans (hbr.mono hb_3.size)
          have hQ : BoxX w0 wr f m := ⟨z0, z1, hq3⟩
          have s1 : IntKind.i64.wrap (sm + m) = sm + m := IntWalk.i64_in _ (by omega)
          have hse : ((sm + m) == (sm + m)) = true := by simp
          go_wp2_with fail
          go_region_with ((first
            | (go_at_call 22; refine (implSpaceValid_any aG _ cG LL _ ?_ hGr.wf (by omega)).mono ?_; exact hGr.rd; rintro e wA ⟨rfl, hbA⟩; rw [HVL.out]; have hGA := hGr.drew.below hbA; have hOA := hOr.drew.below hbA; have hQA := BoxX.belowD hQ hbA; obtain ⟨p0, p1⟩ := hQA.cells)
            | (go_at_call_of 23 (Value.slice aG LL.length cG); refine (implSpaceFree_any aG _ cG LL _ ?_ hGA.wf (by omega)).mono ?_; exact hGA.rd; rintro e wB ⟨rfl, hbB⟩; rw [HFL.out]; have hOB := hOA.below hbB; have hQB := BoxX.below hQA hbB; obtain ⟨p2, p3⟩ := hQB.cells)
            | (go_at_call_of 23 (Value.slice a1 zs.length c1); refine (implSpaceFree_any a1 _ c1 zs _ ?_ hOB.wf (by omega)).mono ?_; exact hOB.rd; rintro e wC ⟨rfl, hbC⟩; rw [HFZ.out]; have hQC := BoxX.below hQB hbC; obtain ⟨p4, p5⟩ := hQC.cells)))
          all_goals
            have hbD := below_drewN hbw 1
            have hbE := hbD.trans (hbA.mono hbD.size)
            have hbF := hbE.trans (hbB.mono hbE.size)
            have hbG := hbF.trans (hbC.mono hbF.size)
            go_wp2
            go_ret
            exact ⟨rfl, hbG⟩
    · have hbf : bb = false := by simpa using hbt
      subst hbf
      clear hok hbt
      go_wp2_with fail
      with_reducible refine (sameSpace_self aG aW _ cG cW LL _ hG_3.rd hW_3.rd hG_3.wf (by omega)).mono ?_
      rintro e w4 ⟨rfl, hb⟩
      have hb_4 := hb_3.trans (hb.mono hb_3.size)
      clear hb
      go_wp2
      go_ret
      exact ⟨rfl, hb_4⟩
  · go_enter Try.func7, Try.ntmps7
    go_wp2
    go_ret
    exact ⟨rfl, Below.refl _ _⟩

end Go.Proofs.Ythcjelijpeddbaa
