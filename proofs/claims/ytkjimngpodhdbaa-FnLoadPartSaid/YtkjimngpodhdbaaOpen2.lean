/- Contract of openStore. -/
import Derived.Test.YtkjimngpodhdbaaOpen
import Derived.Test.YtkjimngpodhdbaaRegion
import Derived.Test.YtkjimngpodhdbaaOwnH
namespace Go.Proofs.Ytkjimngpodhdbaa
open Go.RowKit Go.Maps
set_option linter.unusedVariables false
set_option linter.unusedSimpArgs false

/-- A store was opened, or it is not valid. -/
def RetOpen (w : World) (xs : List HV) (e : Ending) (w' : World) : Prop :=
  (storeV (valsH xs) = false ∧ e = .returned (.tuple #[.map none, .bool false]) ∧ Below w.heap.size w w') ∨
  (storeV (valsH xs) = true ∧ ∃ b ys, e = .returned (.tuple #[.map (some b), .bool true]) ∧ valsH ys = valsH xs ∧ StoreM w' w.heap.size b ys ∧ Below w.heap.size w w')

theorem store_ids {xs : List HV} (h : storeV (valsH xs) = true) {k : Nat} {x : HV} (hx : xs[k]? = some x) : (1 ≤ x.id ∧ x.id ≤ 99 ∧ blockV x.zs = true) ∧ ∀ j z, j < k → xs[j]? = some z → z.id ≠ x.id := by
  obtain ⟨_, h2, h3⟩ := chain_pairwise befH_trans (storeV_iff.1 h).1
  have hv := valsH_get hx
  have hok := h2 x.val (List.mem_of_getElem? hv)
  unfold okH at hok
  rw [Bool.and_eq_true, Bool.and_eq_true] at hok
  have hid := hok.1.1
  simp only [inB, Bool.and_eq_true, decide_eq_true_eq] at hid
  refine ⟨⟨hid.1, hid.2, hok.1.2⟩, fun j z hj hz he => ?_⟩
  have hvz := valsH_get hz
  obtain ⟨hk, e1⟩ := List.getElem?_eq_some_iff.1 hv
  obtain ⟨hj', e2⟩ := List.getElem?_eq_some_iff.1 hvz
  have := (List.pairwise_iff_getElem.1 h3) j k hj' hk hj
  rw [e1, e2] at this
  simp only [befH, decide_eq_true_eq] at this
  have h4 : z.val.1 = z.id := rfl
  have h5 : x.val.1 = x.id := rfl
  omega

theorem vals_ids {xs ys : List HV} {k : Nat} (h : valsH ys = valsH (xs.take k)) {i : Int} (hn : ∀ j z, j < k → xs[j]? = some z → z.id ≠ i) : ∀ z ∈ ys, z.id ≠ i := by
  intro z hz
  have hm : z.val ∈ valsH ys := List.mem_map_of_mem hz
  rw [h] at hm
  obtain ⟨y, hy, he⟩ := List.mem_map.1 hm
  obtain ⟨j, hj, rfl⟩ := List.getElem_of_mem hy
  rw [List.length_take] at hj
  rw [List.getElem_take] at he
  have := hn j xs[j] (by omega) (List.getElem?_eq_getElem _)
  have h1 : (xs[j]).id = z.id := congrArg (fun p : Int × List Int × Int => p.1) he
  rw [← h1]; exact this

theorem vals_snoc {xs ys : List HV} {k : Nat} {x y : HV} (h : valsH ys = valsH (xs.take k)) (hx : xs[k]? = some x) (hy : y.val = x.val) : valsH (ys ++ [y]) = valsH (xs.take (k + 1)) := by
  obtain ⟨h1, h2⟩ := List.getElem?_eq_some_iff.1 hx
  rw [List.take_succ_eq_append_getElem h1, h2]
  unfold valsH at h ⊢
  rw [List.map_append, List.map_append, h, List.map_singleton, List.map_singleton, hy]

theorem blockV_wf {zs : List Int} (h : blockV zs = true) : WfI zs ∧ zs.length ≤ 8 := by
  obtain ⟨h1, _, h3⟩ := blockV_parts h
  refine ⟨fun z hz => ?_, h3⟩
  obtain ⟨k, hk, rfl⟩ := List.getElem_of_mem hz
  have := allB_at h1 hk
  simp only [List.getD, List.getElem?_eq_getElem hk, Option.getD_some] at this
  omega

theorem StoreM.push {w w' : World} {B b : Nat} {ys : List HV} {y : HV} (h : StoreM w B b ys) (hy : OwnI w B y.ad y.cp y.zs) (hne : ∀ z ∈ ys, z.id ≠ y.id) (hm : MapF w' b (ys.length + 1) (putF (mapOf ys) y.id (valH y))) (hg : w.grownBy w' (some b)) (hk : ∀ cs t fz, w.heap[b]? ≠ some (.cells cs t fz)) : StoreM w' B b (ys ++ [y]) := by
  have keep : ∀ z : HV, OwnI w B z.ad z.cp z.zs → OwnI w' B z.ad z.cp z.zs := fun z hz => hz.apartI hg (fun k hk' r hr e => by
    injection hr with hr
    subst hr
    subst e
    obtain ⟨cs, fz, h1⟩ := hz.kindI _ hk'
    exact hk cs _ fz h1)
  refine ⟨by rw [putF_mapOf hne] at hm; simpa using hm, h.blk, fun z hz => ?_⟩
  rcases List.mem_append.1 hz with hz | hz
  · exact keep z (h.ins z hz)
  · rw [List.mem_singleton] at hz; subst hz; exact keep z hy

theorem MapF.notCells {w : World} {b n : Nat} {f : Int → Option Value} (h : MapF w b n f) : ∀ cs t fz, w.heap[b]? ≠ some (.cells cs t fz) := by
  intro cs t fz e
  obtain ⟨es, clock, hb, _⟩ := h
  rw [hb] at e
  injection e with e
  cases e

set_option maxHeartbeats 1000000 in
theorem openStore_any (a : Option Addr) (n c : Nat) (xs : List HV) (w : World) (hr : RdR eltH w a n xs) (hi : InH w xs) (hs : ∀ x ∈ xs, x.zs.length ≤ 4611686018427387904) (hn : n ≤ c) (hc : c ≤ 9223372036854775807) :
    Calls Try.prog 36 #[.slice a n c] w (RetOpen w xs) := by
  have hl := Lib.hid hr.1
  have K := implStoreValid_any a n c xs w hr hi hs hn hc
  cases hv : storeV (valsH xs) with
  | false =>
    rw [hv] at K
    go_enter Try.func36, Try.ntmps36
    go_wp2_with fail
    with_reducible refine K.mono ?_
    rintro e w1 ⟨rfl, hb⟩
    go_wp2
    go_ret2
    exact .inl ⟨hv, rfl, hb⟩
  | true =>
    rw [hv] at K
    have HV1 := Lib.hid hv
    have HI := Lib.hid hi
    have hn16 : n ≤ 16 := by
      have := (chainV_iff.1 (storeV_iff.1 hv).1).1
      rw [valsH_len, hr.1] at this
      exact this
    have hmm := @run_makeMap Try.prog
    clear hv hi hs
    go_enter Try.func36, Try.ntmps36
    go_wp2_with fail
    with_reducible refine K.mono ?_
    rintro e w1 ⟨rfl, hb1⟩
    have hM0 : StoreM (w1.alloc (.map #[] 0)) w.heap.size w1.heap.size [] := ⟨MapF.made w1, hb1.size, by intro y hy; cases hy⟩
    have hb2 := hb1.alloc hb1.size (.map #[] 0)
    obtain ⟨G, hG⟩ : ∃ G, w1.heap.size = G := ⟨_, rfl⟩
    have hGw : w.heap.size ≤ G := by rw [← hG]; exact hb1.size
    clear K
    go_wp2
    rw [hG] at hM0
    generalize w1.alloc (.map #[] 0) = W0 at hM0 hb2 ⊢
    clear hG hb1
    go_loopw [13] (fun i wr => ∃ k : Nat, k ≤ n ∧ i = .int .i64 k ∧ Below w.heap.size w wr ∧ ∃ ys : List HV, Hid (ys.length = k) ∧ Hid (valsH ys = valsH (xs.take k)) ∧ StoreM wr w.heap.size G ys)
      (fun i _ => n - (intOf i).toNat)
    case atStart => exact ⟨0, Nat.zero_le _, rfl, hb2, [], Lib.hid rfl, Lib.hid rfl, hM0⟩
    case round =>
      clear hM0 hb2
      obtain ⟨k, hk, rfl, hb, ys, HYL, HYV, hM⟩ := hrel
      by_cases hlt : k < n
      · obtain ⟨b, off, x, rfl, hbl, hx, c0, c1, c2⟩ := atH (hr.below hb) hlt
        have hids := store_ids HV1.out hx
        obtain ⟨hid0, hid1, hbv⟩ := hids.1
        have hrx := (HI.out x (List.mem_of_getElem? hx)).below hb
        have hwx := (blockV_wf hbv).1
        have hl8 := (blockV_wf hbv).2
        have hlx : x.zs.length ≤ 1048576 := by omega
        have HNE := Lib.hid (vals_ids HYV.out hids.2)
        have HX := Lib.hid hx
        clear hx hids hbv
        have hk0 : (0 : Int) ≤ (k : Int) := by omega
        have hk1 : (k : Int) < (n : Int) := by omega
        obtain ⟨hHl, q0, q1, q2⟩ := one_boxH wr (.int .i64 x.id) (.slice x.ad x.zs.length x.cp) (.int .i64 x.us) 47
        have hbw := hb.alloc hb.size (.cells #[.int .i64 x.id, .slice x.ad x.zs.length x.cp, .int .i64 x.us] 47)
        have hbw1 : Below wr.heap.size wr (wr.alloc (.cells #[.int .i64 x.id, .slice x.ad x.zs.length x.cp, .int .i64 x.us] 47)) := (Below.refl _ _).alloc (Nat.le_refl _) _
        have hrx1 := hrx.below hbw1
        have hGl := hM.map.lt
        have hneG : some wr.heap.size ≠ some G := by intro e; injection e with e; omega
        have hwW : w.heap.size ≤ wr.heap.size := hb.size
        clear hrx
        go_wp2
        generalize wr.alloc (.cells #[.int .i64 x.id, .slice x.ad x.zs.length x.cp, .int .i64 x.us] 47) = W1 at hHl q0 q1 q2 hbw hbw1 hrx1 ⊢
        have hrx2 : RdI W1.drew x.ad x.zs.length x.zs := hrx1
        refine wp_region_noPanic ?_
        refine wp_region_held_drew (S := fun w' => w'.cell? ⟨wr.heap.size, 0, none⟩ = some (.int .i64 x.id) ∧ w'.cell? ⟨wr.heap.size, 1, none⟩ = some (.slice x.ad x.zs.length x.cp) ∧ w'.cell? ⟨wr.heap.size, 2, none⟩ = some (.int .i64 x.us)) (by kernel_rfl) ?_ (fun hHeld => ?_)
        · exact ⟨q0, q1, q2⟩
        refine held_yes (i := 0) 17 (v := ?_) rfl rfl (by kernel_rfl) (by kernel_rfl) (by kernel_rfl) (fun _ _ _ _ _ h => h) (by rfl) (by assumption) ?_ ?_
        rotate_left 1
        · intro w hSw
          (try dsimp only at hSw)
          first | (go_simp; done) | (go_simp; with_reducible rfl)
        try simp only [Act.put, List.setIfInBounds_toArray, List.set_cons_zero, List.set_cons_succ]
        refine held_yes (i := 1) 18 (v := ?_) rfl rfl (by kernel_rfl) (by kernel_rfl) (by kernel_rfl) (fun _ _ _ _ _ h => h) (by rfl) (by assumption) ?_ ?_
        rotate_left 1
        · intro w hSw
          (try dsimp only at hSw)
          first | (go_simp; done) | (go_simp; with_reducible rfl)
        try simp only [Act.put, List.setIfInBounds_toArray, List.set_cons_zero, List.set_cons_succ]
        refine held_yes (i := 2) 19 (v := ?_) rfl rfl (by kernel_rfl) (by kernel_rfl) (by kernel_rfl) (fun _ _ _ _ _ h => h) (by rfl) (by assumption) ?_ ?_
        rotate_left 1
        · intro w hSw
          (try dsimp only at hSw)
          first | (go_simp; done) | (go_simp; with_reducible rfl)
        try simp only [Act.put, List.setIfInBounds_toArray, List.set_cons_zero, List.set_cons_succ]
        refine held_yes (i := 3) 20 (v := ?_) rfl rfl (by kernel_rfl) (by kernel_rfl) (by kernel_rfl) (fun _ _ _ _ _ h => h) (by rfl) (by assumption) ?_ ?_
        rotate_left 1
        · intro w hSw
          (try dsimp only at hSw)
          first | (go_simp; done) | (go_simp; with_reducible rfl)
        try simp only [Act.put, List.setIfInBounds_toArray, List.set_cons_zero, List.set_cons_succ]
        refine held_yes (i := 4) 21 (v := ?_) rfl rfl (by kernel_rfl) (by kernel_rfl) (by kernel_rfl) (fun _ _ _ _ _ h => h) (by rfl) (by assumption) ?_ ?_
        rotate_left 1
        · intro w hSw
          (try dsimp only at hSw)
          first | (go_simp; done) | (go_simp; with_reducible rfl)
        try simp only [Act.put, List.setIfInBounds_toArray, List.set_cons_zero, List.set_cons_succ]
        refine held_yes (i := 5) 22 (v := ?_) rfl rfl (by kernel_rfl) (by kernel_rfl) (by kernel_rfl) (fun _ _ _ _ _ h => h) (by rfl) (by assumption) ?_ ?_
        rotate_left 1
        · intro w hSw
          (try dsimp only at hSw)
          first | (go_simp; done) | (go_simp; with_reducible rfl)
        try simp only [Act.put, List.setIfInBounds_toArray, List.set_cons_zero, List.set_cons_succ]
        refine held_yes (i := 6) 23 (v := ?_) rfl rfl (by kernel_rfl) (by kernel_rfl) (by kernel_rfl) (fun _ _ _ _ _ h => h) (by rfl) (by assumption) ?_ ?_
        rotate_left 1
        · intro w hSw
          (try dsimp only at hSw)
          first | (go_simp; done) | (go_simp; with_reducible rfl)
        try simp only [Act.put, List.setIfInBounds_toArray, List.set_cons_zero, List.set_cons_succ]
        refine held_yes (i := 8) 25 (v := ?_) rfl rfl (by kernel_rfl) (by kernel_rfl) (by kernel_rfl) (fun _ _ _ _ _ h => h) (by rfl) (by assumption) ?_ ?_
        rotate_left 1
        · intro w hSw
          (try dsimp only at hSw)
          first | (go_simp; done) | (go_simp; with_reducible rfl)
        try simp only [Act.put, List.setIfInBounds_toArray, List.set_cons_zero, List.set_cons_succ]
        refine held_yes (i := 9) 26 (v := ?_) rfl rfl (by kernel_rfl) (by kernel_rfl) (by kernel_rfl) (fun _ _ _ _ _ h => h) (by rfl) (by assumption) ?_ ?_
        rotate_left 1
        · intro w hSw
          (try dsimp only at hSw)
          first | (go_simp; done) | (go_simp; with_reducible rfl)
        try simp only [Act.put, List.setIfInBounds_toArray, List.set_cons_zero, List.set_cons_succ]
        refine wpAnyH_ready (rs := [7]) (by kernel_rfl) (by simp) ?_
        refine AllReadyH.cons rfl (fun K hK => ?_) AllReadyH.nil
        go_simp
        with_reducible refine (slClone_any x.ad x.zs.length x.cp x.zs W1.drew hrx2 hwx hlx).mono ?_
        rintro e w4 ⟨ad, cp, rfl, hO4, hb4⟩
        go_wp2_with fail
        refine hK.out _ _ ?_ (fun hHeld => ?_)
        · exact ⟨hb4.cell (p := ⟨wr.heap.size, 0, none⟩) hHl |>.trans q0, hb4.cell (p := ⟨wr.heap.size, 1, none⟩) hHl |>.trans q1, hb4.cell (p := ⟨wr.heap.size, 2, none⟩) hHl |>.trans q2⟩
        clear hK K
        try simp only [Act.put, List.setIfInBounds_toArray, List.set_cons_zero, List.set_cons_succ]
        refine held_yes (i := 10) 27 (v := ?_) rfl rfl (by kernel_rfl) (by kernel_rfl) (by kernel_rfl) (fun _ _ _ _ _ h => h) (by rfl) (by assumption) ?_ ?_
        rotate_left 1
        · intro w hSw
          (try dsimp only at hSw)
          first | (go_simp; done) | (go_simp; with_reducible rfl)
        try simp only [Act.put, List.setIfInBounds_toArray, List.set_cons_zero, List.set_cons_succ]
        have hM4 := (hM.below (show Below wr.heap.size wr W1.drew from ⟨hbw1.os, hbw1.tape, hbw1.output, hbw1.size, hbw1.block⟩)).below hb4
        refine wpAnyH_ready (rs := [11]) (by kernel_rfl) (by simp) ?_
        refine AllReadyH.cons rfl (fun K hK => ?_) AllReadyH.nil
        refine step_storeF rfl _ _ _ 56 47 rfl Try.underlying56 G _ (mapOf ys) rfl hM4.map (by unfold maxLen; have := HYL.out; omega) x.id (valH ⟨x.id, ad, cp, x.zs, x.us⟩) rfl rfl (WalkArith.wf_i64 (by omega)) ?_
        intro w5 hM5 hG5
        refine hK.out _ _ ?_ (fun hHeld => ?_)
        · exact ⟨hG5.cell (hb4.cell (p := ⟨wr.heap.size, 0, none⟩) hHl |>.trans q0) hneG, hG5.cell (hb4.cell (p := ⟨wr.heap.size, 1, none⟩) hHl |>.trans q1) hneG, hG5.cell (hb4.cell (p := ⟨wr.heap.size, 2, none⟩) hHl |>.trans q2) hneG⟩
        clear hK K
        refine wpAnyH_done (by kernel_rfl) ?_ _
        refine NoPanic.normal ?_
        have hS5 := hM4.push (y := ⟨x.id, ad, cp, x.zs, x.us⟩) (hO4.mono (show w.heap.size ≤ W1.heap.size from hbw.size)) HNE.out hM5 hG5 hM4.map.notCells
        have hb5 := ((show Below w.heap.size w W1.drew from ⟨hbw.os, hbw.tape, hbw.output, hbw.size, hbw.block⟩).trans (hb4.mono hbw.size)).grown hG5 (Nat.le_trans hbw.size hb4.size) (fun r hr => by injection hr with hr; omega)
        have HYL2 : Hid ((ys ++ [(⟨x.id, ad, cp, x.zs, x.us⟩ : HV)]).length = k + 1) := Lib.hid (by rw [List.length_append, HYL.out]; rfl)
        have HYV2 := Lib.hid (vals_snoc (y := ⟨x.id, ad, cp, x.zs, x.us⟩) HYV.out HX.out rfl)
        clear hM4 hM hM5 hG5 hO4 hb4 hbw hbw1 hb q0 q1 q2 hHl hrx1 hr
        go_wp2
        go_roundw
        case rel => exact ⟨k + 1, by omega, by go_num, hb5, _, HYL2, HYV2, hS5⟩
        case measure => simp [intOf]; omega
      · obtain rfl : k = n := by omega
        have HYF : Hid (valsH ys = valsH xs) := Lib.hid (by have := HYV.out; rwa [List.take_of_length_le (by have := hl.out; omega)] at this)
        go_wp2
        go_ret2
        exact .inr ⟨HV1.out, G, ys, rfl, HYF.out, hM, hb⟩

end Go.Proofs.Ytkjimngpodhdbaa
