/- Walks of the laws FnPackRuns, FnPackSame: a packed block's runs are as long as can be; equal bytes are one run. -/
import Derived.Test.YtbegmliglabpfaaPlainPack
import Derived.Test.YtbegmliglabpfaaExTwo
import Derived.Test.YtbegmliglabpfaaDrawI
import Derived.Test.YtbegmliglabpfaaPart
namespace Go.Proofs.Ytbegmliglabpfaa
open Go.RowKit
set_option linter.unusedVariables false

theorem rd_lit2 (w : World) (x y : Int) : RdI (w.alloc (.cells #[.int .i64 x, .int .i64 y] 3)) (some ⟨w.heap.size, 0, none⟩) 2 [x, y] := by
  refine ⟨rfl, fun i hi => ⟨w.heap.size, 0, rfl, by simp, fun j hj => ?_⟩⟩
  rw [Nat.zero_add, cell_of_row _ w.heap.size _ _ _ (0, 0) (heap_alloc_new w _)]
  match j, hj with
  | 0, _ => rfl
  | 1, _ => rfl

/-- One more of the same number is appended. -/
theorem wp_app_rep {ops : Array Oper} {rest : List Oper} {o : Oper} {act : Act} {Q : Exit → Act → World → Prop} (hgd : o.guard = none) (s x : Operand)
    (ho : o.op = .call { callee := .builtin .append, args := #[s, x], argTypes := #[23, 23] })
    {W : World} {B : Nat} {a0 : Option Addr} {c0 k : Nat} {y : Int} (hs : act.eval s = .slice a0 k c0) (hO : OwnI W B a0 c0 (List.replicate k y))
    (hx : act.eval x = .slice (some ⟨W.heap.size, 0, none⟩) 1 1) (h0 : -9223372036854775808 ≤ y) (h1 : y ≤ 9223372036854775807) (hlen : k + 1 ≤ 1099511627776) (hB : B ≤ (W.alloc (.cells #[.int .i64 y] 3)).heap.size)
    (h : ∀ a' c' w', OwnI w' B a' c' (List.replicate (k + 1) y) → (W.alloc (.cells #[.int .i64 y] 3)).grownBy w' (Value.slice a0 k c0).ownBlock → wpList Try.prog ops Q rest (act.put o.dst (.slice a' (k + 1) c')) w') :
    wpList Try.prog ops Q (o :: rest) act (W.alloc (.cells #[.int .i64 y] 3)) := by
  have hl : (List.replicate k y).length = k := List.length_replicate ..
  refine wp_app hgd s x ho (zs := List.replicate k y) (a0 := a0) (c0 := c0) (by rw [hl]; exact hs) (hO.alloc _) ⟨W.heap.size, 0, none⟩ 1 1 [y] hx rfl (cell_one_new _ _ _) (wf_one h0 h1) (by rw [hl]; exact hlen) hB ?_
  intro a' c' w' hO' hG'
  have e : List.replicate k y ++ [y] = List.replicate (k + 1) y := by rw [List.replicate_succ']
  rw [e] at hO' ⊢
  rw [hl] at hG'
  rw [List.length_replicate]
  exact h a' c' w' hO' hG'

set_option maxHeartbeats 2000000 in
theorem FnPackRuns_walk (a : Option Addr) (n c : Nat) (w : World) (h : RdC w a n) (hc : n ≤ c) (hm : c ≤ maxLen) :
    Calls Try.prog 13 #[.slice a n c] w (Tr w) := by
  unfold maxLen at hm
  by_cases hn : n ≤ 1048576
  · go_enter Try.func13, Try.ntmps13
    go_wp2_with fail
    with_reducible refine (DrawBlockPack_any a n c _ h hc hn).mono ?_
    rintro e w1 ⟨zs, a1, c1, rfl, hz, hO1, hb1⟩
    go_wp2_with fail
    with_reducible refine (implBlockPack_any a1 zs.length c1 zs _ hO1.rd hO1.wf hO1.cap.1 (by omega)).mono ?_
    rintro e w2 ⟨aG, cG, rfl, hG2, hb⟩
    have hO2 := hO1.below hb
    have hb2 := hb1.trans (hb.mono hb1.size)
    clear hb hO1 hb1 h
    go_wp2_with fail
    with_reducible refine (specBlockPack_any a1 zs.length c1 zs _ hO2.rd hO2.wf (by omega)).mono ?_
    rintro e w3 ⟨aW, cW, rfl, hW3, hb⟩
    have hO3 := hO2.below hb
    have hG3 := hG2.below hb
    have hb3 := hb2.trans (hb.mono hb2.size)
    clear hb hO2 hG2 hb2
    have hpl := packR_length zs
    go_wp2_with fail
    with_reducible refine (sameInts_any aG aW _ _ cG cW (packR zs) (packR zs) _ hG3.rd hW3.rd (by omega) (by omega)).mono ?_
    rintro e w4 ⟨rfl, m4, hm4⟩
    have hb : Below w3.heap.size w3 w4 := by rw [hm4]; exact below_drewN (Below.refl _ _) _
    rw [eqI_self]
    have hO4 := hO3.below hb
    have hG4 := hG3.below hb
    have hW4 := hW3.below hb
    have hb4 := hb3.trans (hb.mono hb3.size)
    clear hb hm4 hO3 hG3 hW3 hb3
    by_cases hv : blockV zs = true
    · have hp : packR zs = packL zs := by simp [packR, hv]
      rw [hp] at hG4 hW4 hpl ⊢
      clear hp
      have hlen := (blockV_parts hv).2
      have hall := Lib.hid (blockV_parts hv).1
      have HV := Lib.hid hv
      obtain ⟨hl1, hl8⟩ := hlen
      obtain ⟨ps, hps⟩ : ∃ ps, ps = runsP zs := ⟨_, rfl⟩
      have hfl := flatP_length ps
      have hpe : packL zs = flatP ps := by rw [hps]; rfl
      rw [hpe] at hG4 hW4 hpl ⊢
      have hrd := hG4.rd
      obtain ⟨L, hL⟩ : ∃ L, L = (flatP ps).length := ⟨_, rfl⟩
      rw [← hL] at hrd hpl ⊢
      have HP := Lib.hid (show ((∀ p ∈ ps, 1 ≤ p.1 ∧ p.1 ≤ 8) ∧ Apart ps ∧ many ps = (zs.length : Int)) ∧ L = 2 * ps.length by
        rw [hL]
        refine ⟨?_, hfl⟩
        rw [hps]
        exact ⟨fun p hp => by have := runsP_bd zs p hp; omega, apart_runsP zs, many_runsP zs⟩)
      clear hps hfl hpe hL
      go_wp2_with fail
      go_loopw [8, 9] (fun v i wr => ∃ j : Nat, j ≤ L ∧ i = .int .i64 j ∧ ∃ s : Int, 0 ≤ s ∧ s ≤ 8 * j ∧ v = .int .i64 s ∧ (∃ k, Hid (j = 2 * k ∧ s = many (ps.take k))) ∧ ∃ m, wr = w4.drewN m)
        (fun _ i _ => L + 2 - (intOf i).toNat)
      case atStart => exact ⟨0, Nat.zero_le _, rfl, 0, by omega, by omega, rfl, ⟨0, Lib.hid ⟨rfl, by simp [many]⟩⟩, 0, rfl⟩
      case round =>
        obtain ⟨j, hj, rfl, s, hs0, hs1, rfl, ⟨k, hs⟩, m, rfl⟩ := hrel
        by_cases hlt : j + 1 < L
        · have hkp : k < ps.length := by have := hs.out.1; have := HP.out.2; omega
          obtain ⟨b, off, rfl, hblt, hcc⟩ := hrd.2 j (by omega)
          have hev := flatP_even ps k
          rw [← hs.out.1] at hev
          have hcx := hcc j (by omega)
          have hcy := hcc (j + 1) hlt
          rw [hev.1] at hcx
          rw [hev.2] at hcy
          have hmem : ps.getD k (0, 0) ∈ ps := by
            have e : ps.getD k (0, 0) = ps[k] := by simp [List.getD_eq_getElem?_getD, hkp]
            rw [e]; exact List.getElem_mem _
          have hpb := HP.out.1.1 _ hmem
          have hmt := many_take_succ hkp
          obtain ⟨x, hx⟩ : ∃ x, x = (ps.getD k (0, 0)).1 := ⟨_, rfl⟩
          obtain ⟨y, hy⟩ : ∃ y, y = (ps.getD k (0, 0)).2 := ⟨_, rfl⟩
          rw [← hx] at hcx hpb hmt
          rw [← hy] at hcy
          obtain ⟨hx0, hx1⟩ := hpb
          rw [← hs.out.2] at hmt
          have HMT := Lib.hid hmt
          have HY := Lib.hid hy
          have j0 : (0 : Int) ≤ (j : Int) := by omega
          have j1 : (j : Int) < (L : Int) := by omega
          have j2 : (0 : Int) ≤ (j : Int) + 1 := by omega
          have j3 : (j : Int) + 1 < (L : Int) := by omega
          have d1 : decide (x < 1) = false := by simp; omega
          clear hx hy hev hmem hmt
          by_cases hj0 : j = 0
          · have d2 : decide (0 < j) = false := by simp; omega
            have HJ := Lib.hid hj0
            clear hcc hj0
            go_wp2_with fail
            go_quiet (fail)
            go_wp2
            go_roundw
            case rel => exact ⟨j + 2, by omega, by go_num, s + x, by omega, by omega, rfl, ⟨k + 1, Lib.hid ⟨by have := hs.out.1; omega, HMT.out.symm⟩⟩, _, rfl⟩
            case measure => simp [intOf]; omega
          · have d2 : decide (0 < j) = true := by simp; omega
            obtain ⟨k', hk'⟩ : ∃ k', k = k' + 1 := ⟨k - 1, by have := hs.out.1; omega⟩
            have hcz := hcc (j - 1) (by omega)
            rw [show j - 1 = 2 * k' + 1 by have := hs.out.1; omega, (flatP_even ps k').2] at hcz
            obtain ⟨z, hz'⟩ : ∃ z, z = (ps.getD k' (0, 0)).2 := ⟨_, rfl⟩
            rw [← hz', show 2 * k' + 1 = j - 1 by have := hs.out.1; omega] at hcz
            have hne : z ≠ y := by
              have := HP.out.1.2.1 k' (by omega)
              rw [hz', HY.out, hk']; exact this
            have d3 : (y == z) = false := by simp; exact fun e => hne e.symm
            have j4 : (0 : Int) ≤ (j : Int) - 1 := by omega
            have j5 : (j : Int) - 1 < (L : Int) := by omega
            clear hcc hne hz' hj0 hk'
            go_wp2_with fail
            go_quiet (fail)
            go_wp2
            go_roundw
            case rel => exact ⟨j + 2, by omega, by go_num, s + x, by omega, by omega, rfl, ⟨k + 1, Lib.hid ⟨by have := hs.out.1; omega, HMT.out.symm⟩⟩, _, rfl⟩
            case measure => simp [intOf]; omega
        · have hfin : Hid ((s == (zs.length : Int)) = true ∧ ((L : Int) % 2 == 0) = true) := by
            have h1 := hs.out
            have h2 := HP.out
            refine Lib.hid ⟨?_, by simp; omega⟩
            rw [beq_iff_eq, h1.2, List.take_of_length_le (by omega)]
            exact h2.1.2.2
          have hf1 := hfin.out.1
          have hf2 := hfin.out.2
          go_wp2
          go_ret
          exact ⟨rfl, below_drewN hb4 _⟩

    · have hv' : blockV zs = false := by simpa using hv
      clear hv
      go_wp2_with fail
      with_reducible refine (sameInts_any aG aW _ _ cG cW (packR zs) (packR zs) _ hG4.rd hW4.rd (by omega) (by omega)).mono ?_
      rintro e w5 ⟨rfl, m5, hm5⟩
      have hb : Below w4.heap.size w4 w5 := by rw [hm5]; exact below_drewN (Below.refl _ _) _
      rw [eqI_self]
      have hb5 := hb4.trans (hb.mono hb4.size)
      clear hb hm5
      go_wp2
      go_ret
      exact ⟨rfl, hb5⟩
  · go_enter Try.func13, Try.ntmps13
    go_wp2
    go_ret
    exact ⟨rfl, Below.refl _ _⟩

set_option maxHeartbeats 2000000 in
theorem FnPackSame_walk (a : Option Addr) (n c : Nat) (w : World) (h : RdC w a n) (hc : n ≤ c) (hm : c ≤ maxLen) :
    Calls Try.prog 14 #[.slice a n c] w (Tr w) := by
  unfold maxLen at hm
  by_cases hn : n ≤ 1048576
  · go_enter Try.func14, Try.ntmps14
    go_wp2_with fail
    with_reducible refine (DrawBlockPack_any a n c _ h hc hn).mono ?_
    rintro e w1 ⟨zs, a1, c1, rfl, hz, hO1, hb1⟩
    go_wp2_with fail
    with_reducible refine (implBlockPack_any a1 zs.length c1 zs _ hO1.rd hO1.wf hO1.cap.1 (by omega)).mono ?_
    rintro e w2 ⟨aG, cG, rfl, hG2, hb⟩
    have hO2 := hO1.below hb
    have hb2 := hb1.trans (hb.mono hb1.size)
    clear hb hO1 hb1 h
    go_wp2_with fail
    with_reducible refine (specBlockPack_any a1 zs.length c1 zs _ hO2.rd hO2.wf (by omega)).mono ?_
    rintro e w3 ⟨aW, cW, rfl, hW3, hb⟩
    have hO3 := hO2.below hb
    have hG3 := hG2.below hb
    have hb3 := hb2.trans (hb.mono hb2.size)
    clear hb hO2 hG2 hb2
    have hpl := packR_length zs
    go_wp2_with fail
    with_reducible refine (sameInts_any aG aW _ _ cG cW (packR zs) (packR zs) _ hG3.rd hW3.rd (by omega) (by omega)).mono ?_
    rintro e w4 ⟨rfl, m4, hm4⟩
    have hb : Below w3.heap.size w3 w4 := by rw [hm4]; exact below_drewN (Below.refl _ _) _
    rw [eqI_self]
    have hO4 := hO3.below hb
    have hG4 := hG3.below hb
    have hW4 := hW3.below hb
    have hb4 := hb3.trans (hb.mono hb3.size)
    clear hb hm4 hO3 hG3 hW3 hb3
    by_cases hv : blockV zs = true
    · have hp : packR zs = packL zs := by simp [packR, hv]
      rw [hp] at hG4 hW4 hpl ⊢
      clear hp
      have hlen := (blockV_parts hv).2
      have hall := Lib.hid (blockV_parts hv).1
      have HV := Lib.hid hv
      obtain ⟨hl1, hl8⟩ := hlen
      obtain ⟨b, off, ha1, hblt, hcc⟩ := hO4.rd.2 0 (by omega)
      subst ha1
      obtain ⟨x0, hx0⟩ : ∃ x, x = zs.getD 0 0 := ⟨_, rfl⟩
      have hc0 := hcc 0 (by omega)
      rw [← hx0, Nat.add_zero] at hc0
      have hxb := allB_at hall.out (k := 0) (by omega)
      rw [← hx0] at hxb
      obtain ⟨hxb0, hxb1⟩ := hxb
      obtain ⟨L, hL⟩ : ∃ L, L = zs.length := ⟨_, rfl⟩
      have HL := Lib.hid hL
      rw [← hL] at hl1 hl8 ⊢
      have hbs := hb4.size
      clear hx0 hcc hL
      have hE : OwnI (w4.alloc (.cells #[] 3)) w4.heap.size (some ⟨w4.heap.size, 0, none⟩) 0 [] := OwnI.empty (Nat.le_refl _)
      have hE2 : Below w4.heap.size w4 (w4.alloc (.cells #[] 3)) := (Below.refl _ _).alloc (Nat.le_refl _) _
      go_wp2_with fail
      go_loopw [8, 9] (fun v i wr => ∃ k : Nat, k ≤ L ∧ i = .int .i64 k ∧ ∃ a5 c5, v = .slice a5 k c5 ∧ OwnI wr w4.heap.size a5 c5 (List.replicate k x0) ∧ Below w4.heap.size w4 wr)
        (fun _ i _ => L - (intOf i).toNat)
      case atStart => exact ⟨0, Nat.zero_le _, rfl, _, _, rfl, hE, hE2⟩
      case round =>
        clear hE hE2
        obtain ⟨k, hk, rfl, a5, c5, rfl, hO5, hb5⟩ := hrel
        have hcr := (hb5.cell (p := ⟨b, off, none⟩) hblt).trans hc0
        have hsz := hb5.size
        by_cases hlt : k < L
        · have HO5 := Lib.hid hO5
          go_wp2_with (at_builtin; go_must (refine wp_app_rep rfl _ _ rfl rfl hO5 rfl (by omega) (by omega) (by omega) (by simp; omega) ?_); intro a6 c6 w6 hO6 hG6)
          have hb6 := (hb5.alloc hsz _).grown hG6 (by simp; omega) (fun r hr => (hO5.2.lt r (by simpa using hr)).1)
          go_roundw
          case rel => exact ⟨k + 1, by omega, by go_num, a6, c6, rfl, hO6, hb6⟩
          case measure => simp [intOf]; omega
        · obtain rfl : k = L := by omega
          have hr5 := hO5.rd
          have hcap := hO5.cap.1
          rw [List.length_replicate] at hr5 hcap
          have hpk : Hid (packR (List.replicate k x0) = [(k : Int), x0] ∧ blockV (List.replicate k x0) = true) := Lib.hid (by
            have hb : blockV (List.replicate k x0) = true := by
              have h1 : allB (List.replicate k x0) = true := by
                simp only [allB, List.all_eq_true]
                intro z hz
                rw [List.eq_of_mem_replicate hz]
                exact inB_byte.2 ⟨hxb0, hxb1⟩
              simp only [blockV, inB, h1, List.length_replicate, Bool.true_and, Bool.and_eq_true, decide_eq_true_eq]
              omega
            refine ⟨?_, hb⟩
            rw [packR, if_pos hb, packL_replicate k x0 hl1])
          go_wp2_with fail
          with_reducible refine (implBlockPack_any a5 k c5 (List.replicate k x0) _ hr5 hO5.wf hcap (by omega)).mono ?_
          rintro e w6 ⟨aY, cY, rfl, hY, hb6⟩
          rw [hpk.out.1] at hY ⊢
          rw [hpk.out.2]
          have hcr6 := (hb6.cell (p := ⟨b, off, none⟩) (Nat.lt_of_lt_of_le hblt hsz)).trans hcr
          have hb7 := (hb4.trans (hb5.mono hbs)).trans (hb6.mono (Nat.le_trans hbs hsz))
          have hYr := hY.rd
          have hb7s := hb7.size
          clear hO5 hr5 hb6 hcr hY
          have h2 : (([(k : Int), x0] : List Int)).length = 2 := rfl
          rw [h2] at hYr ⊢
          have hlit := rd_lit2 w6 (k : Int) x0
          have hYr2 := hYr.below (w' := w6.alloc (.cells #[.int .i64 (k : Int), .int .i64 x0] 3)) ((Below.refl _ _).alloc (Nat.le_refl _) _)
          clear hYr h2
          go_wp2_with fail
          with_reducible refine (sameInts_any aY _ _ _ cY _ [(k : Int), x0] [(k : Int), x0] _ hYr2 hlit (by omega) (by omega)).mono ?_
          rintro e w8 ⟨rfl, m8, rfl⟩
          rw [eqI_self]
          go_wp2
          go_ret
          exact ⟨rfl, below_drewN (hb7.alloc hb7s _) _⟩

    · have hv' : blockV zs = false := by simpa using hv
      clear hv
      go_wp2_with fail
      with_reducible refine (sameInts_any aG aW _ _ cG cW (packR zs) (packR zs) _ hG4.rd hW4.rd (by omega) (by omega)).mono ?_
      rintro e w5 ⟨rfl, m5, hm5⟩
      have hb : Below w4.heap.size w4 w5 := by rw [hm5]; exact below_drewN (Below.refl _ _) _
      rw [eqI_self]
      have hb5 := hb4.trans (hb.mono hb4.size)
      clear hb hm5
      go_wp2
      go_ret
      exact ⟨rfl, hb5⟩
  · go_enter Try.func14, Try.ntmps14
    go_wp2
    go_ret
    exact ⟨rfl, Below.refl _ _⟩

end Go.Proofs.Ytbegmliglabpfaa
