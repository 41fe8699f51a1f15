/- Contract of markHeldS: only the blocks of what it writes over have changed. -/
import Derived.Test.YtkjimngpodhdbaaHeld
import Derived.Test.YtkjimngpodhdbaaMark
import Derived.Outline
namespace Go.Proofs.Ytkjimngpodhdbaa
open Go.RowKit
set_option linter.unusedVariables false

/-- Only blocks from lo on, ahead of hi, and new ones, have changed. -/
structure Within (lo hi : Nat) (w w' : World) : Prop where
  os : w'.os = w.os
  tape : w'.tape = w.tape
  output : w'.output = w.output
  size : w.heap.size ≤ w'.heap.size
  block : ∀ k, k < w.heap.size → k < lo ∨ hi ≤ k → w'.heap[k]? = w.heap[k]?

theorem Within.refl (lo hi : Nat) (w : World) : Within lo hi w w := ⟨rfl, rfl, rfl, Nat.le_refl _, fun _ _ _ => rfl⟩
theorem Within.grown {lo hi : Nat} {w w1 w2 : World} (h : Within lo hi w w1) {r : Option Nat} (hg : w1.grownBy w2 r) (hr : ∀ k, r = some k → lo ≤ k ∧ k < hi) : Within lo hi w w2 :=
  ⟨hg.os.trans h.os, hg.tape.trans h.tape, hg.output.trans h.output, Nat.le_trans h.size hg.size, fun k hk ho => (hg.block k (Nat.lt_of_lt_of_le hk h.size) (fun e => by have := hr k e.symm; omega)).trans (h.block k hk ho)⟩
theorem Within.below {lo hi : Nat} {w w' : World} (h : Within lo hi w w') {B : Nat} (hB : B ≤ lo) (hl : B ≤ w.heap.size) : Below B w w' :=
  ⟨h.os, h.tape, h.output, h.size, fun k hk => h.block k (by omega) (.inl (by omega))⟩
/-- What lies in blocks that have not changed is as it was. -/
theorem Within.row {lo hi : Nat} {w w' : World} (h : Within lo hi w w') {base size n : Nat} {e : TypeId} {v : Value} {xs : List Value} (ho : w.ownsRow base e size v n xs) (hk : ∀ k, v.ownBlock = some k → k < lo ∨ hi ≤ k) : w'.ownsRow base e size v n xs := by
  refine ⟨ho.1, ?_⟩
  rcases ho.2 with h1 | ⟨g, cap, cur, hv, hb, hg, hr⟩
  · exact .inl h1
  · refine .inr ⟨g, cap, cur, hv, hb, ?_, hr⟩
    rw [h.block g (Array.getElem?_eq_some_iff.1 hg).1 (hk g (by rw [hv]; rfl))]
    exact hg

theorem OwnI.kindI {w : World} {B : Nat} {a : Option Addr} {c : Nat} {zs : List Int} (h : OwnI w B a c zs) : ∀ k, (Value.slice a zs.length c).ownBlock = some k → ∃ cs fz, w.heap[k]? = some (.cells cs 3 fz) := by
  intro k hk
  rcases h.2.2 with ⟨h1, _⟩ | ⟨g, cap, cur, hv, _, hg, _⟩
  · rw [h1] at hk; cases hk
  · rw [hv] at hk
    injection hk with hk
    subst hk
    exact ⟨_, _, hg⟩

theorem OwnI.apartI {w w' : World} {B : Nat} {a : Option Addr} {c : Nat} {zs : List Int} (h : OwnI w B a c zs) {row : Option Nat} (hg : w.grownBy w' row)
    (hne : ∀ k, (Value.slice a zs.length c).ownBlock = some k → ∀ r, row = some r → k ≠ r) : OwnI w' B a c zs := by
  refine ⟨h.1, World.ownsRow.kept h.2 hg ?_⟩
  cases hv : (Value.slice a zs.length c).ownBlock with
  | none => exact .inl rfl
  | some k => exact .inr (fun e => hne k hv k e.symm rfl)

theorem OwnR.kindR {α : Type} {E : Elt α} {w : World} {B : Nat} {a : Option Addr} {c : Nat} {xs : List α} (h : OwnR E w B a c xs) : ∀ k, (Value.slice a xs.length c).ownBlock = some k → ∃ cs fz, w.heap[k]? = some (.cells cs E.ty fz) := by
  intro k hk
  rcases h.2 with ⟨h1, _⟩ | ⟨g, cap, cur, hv, _, hg, _⟩
  · rw [h1] at hk; cases hk
  · rw [hv] at hk
    injection hk with hk
    subst hk
    exact ⟨_, _, hg⟩

theorem drop_mem {α : Type} {xs : List α} {j : Nat} {x : α} (h : xs[j]? = some x) : xs.drop j = x :: xs.drop (j + 1) := by
  obtain ⟨hj, rfl⟩ := List.getElem?_eq_some_iff.1 h
  exact List.drop_eq_getElem_cons hj

theorem drop_set_after {α : Type} (xs : List α) (j : Nat) (y : α) : (xs.set j y).drop (j + 1) = xs.drop (j + 1) := by
  apply List.ext_getElem?
  intro i
  rw [List.getElem?_drop, List.getElem?_drop, List.getElem?_set_ne (by omega)]

set_option maxHeartbeats 1000000 in
theorem markHeldS_any (B hi : Nat) (a : Option Addr) (c n : Nat) (xs : List HV) (k0 : Int) (w : World) (ho : OwnH w B a c xs) (hl : xs.length = n)
    (hh : ∀ k, (Value.slice a n c).ownBlock = some k → k < hi) (hi2 : ∀ x ∈ xs, ∀ k, (Value.slice x.ad x.zs.length x.cp).ownBlock = some k → k < hi)
    (h0 : 0 ≤ k0) (h1 : k0 ≤ 1000) (hn : n ≤ 1048576) (hs : szH xs ≤ 1048576) :
    Calls Try.prog 17 #[.slice a n c, .int .i64 k0] w (fun e w' => ∃ k1 : Int, e = .returned (.int .i64 k1) ∧ (0 ≤ k1 ∧ k1 ≤ 10000000) ∧ Within B hi w w') := by
  have HL := Lib.hid hl
  have HO := Lib.hid ho
  have HH := Lib.hid hh
  have HI2 := Lib.hid hi2
  have HS := Lib.hid hs
  have hrow := ho.row
  clear ho hh hi2 hs hl
  go_enter Try.func17, Try.ntmps17
  go_wp2
  go_loopw [1, 5] (fun v i wr => ∃ j : Nat, j ≤ n ∧ i = .int .i64 j ∧ (∃ q : Int, v = .int .i64 q ∧ 0 ≤ q ∧ q ≤ 1000 + 2 * j + 1048576 ∧ Hid (q ≤ 1000 + 2 * j + szH xs - szH (xs.drop j))) ∧
      ∃ ys : List HV, Hid (ys.length = n) ∧ Hid (ys.drop j = xs.drop j) ∧ OwnR eltH wr B a c ys ∧ Hid (∀ x ∈ xs.drop j, OwnI wr B x.ad x.cp x.zs) ∧ Within B hi w wr)
    (fun _ i _ => n - (intOf i).toNat)
  case atStart => exact ⟨0, Nat.zero_le _, rfl, ⟨k0, rfl, h0, by omega, Lib.hid (by rw [List.drop_zero]; omega)⟩, xs, Lib.hid HL.out, Lib.hid rfl, hrow, Lib.hid (fun x hx => HO.out.ins x hx), Within.refl _ _ _⟩
  case round =>
    clear hrow
    obtain ⟨j, hj, rfl, ⟨q, rfl, q0, q1, hq⟩, ys, hyl, hyd, hor, hin, hwi⟩ := hrel
    by_cases hlt : j < n
    · obtain ⟨g, rfl, hBg, hgs⟩ := hor.head (by have := hyl.out; omega)
      obtain ⟨x, hx⟩ : ∃ x, xs[j]? = some x := ⟨_, List.getElem?_eq_getElem (by have := HL.out; omega)⟩
      have hyx : ys[j]? = some x := by
        have := congrArg (fun l => l[0]?) hyd.out
        simp only [List.getElem?_drop, Nat.add_zero] at this
        rw [this, hx]
      have hdx := drop_mem hx
      have hsd := szH_drop hx
      have hzn := szH_nonneg (xs.drop (j + 1))
      have hgh : g < hi := HH.out g rfl
      have hxb := hin.out x (by rw [hdx]; simp)
      have hbd : q + 1 + x.zs.length + 1 ≤ 1000 + 2 * ((j : Int) + 1) + szH xs - szH (xs.drop (j + 1)) := by have := hq.out; omega
      have hle : (x.zs.length : Int) ≤ 1048576 := by have := szH_mem (List.mem_of_getElem? hx); have := HS.out; omega
      obtain ⟨⟨c0, c1, c2⟩, f0, f1, f2⟩ := cellsH hor hyx
      have hs1 := hor.set1 j x { x with id := q } hyx 0 (.int .i64 q) (by decide) rfl
      obtain ⟨cs, hcs⟩ := hor.heapAt
      have hin1 := fun y (hy : y ∈ xs.drop j) => (hin.out y hy).set_kind hcs (by decide) hs1.2
      have hw1 := hwi.grown hs1.2 (fun k hk => by injection hk with hk; omega)
      have HBD := Lib.hid hbd
      have hHI := HI2.out x (List.mem_of_getElem? hx)
      have hap : ∀ y ∈ xs.drop (j + 1), apartH x y := by
        have hp := HO.out.apart
        have hp2 : (xs.drop j).Pairwise apartH := hp.sublist (List.drop_sublist _ _)
        rw [hdx] at hp2
        exact (List.pairwise_cons.1 hp2).1
      have hOx : OwnI (wr.setCell ⟨g, j * 3, none⟩ (.int .i64 q)) B x.ad x.cp x.zs := hin1 x (by rw [hdx]; simp)
      have HN := Lib.hid (show ∀ y ∈ xs.drop (j + 1), OwnI (wr.setCell ⟨g, j * 3, none⟩ (.int .i64 q)) B y.ad y.cp y.zs from fun y hy => hin1 y (by rw [hdx]; exact List.mem_cons_of_mem _ hy))
      have HAP := Lib.hid hap
      have HR1 : Hid (OwnR eltH (wr.setCell ⟨g, j * 3, none⟩ (.int .i64 q)) B (some ⟨g, 0, none⟩) c (ys.set j { x with id := q })) := Lib.hid hs1.1
      have HW1 : Hid (Within B hi w (wr.setCell ⟨g, j * 3, none⟩ (.int .i64 q))) := Lib.hid hw1
      have HYL : Hid ((ys.set j { x with id := q }).length = n) := Lib.hid (by rw [List.length_set]; exact hyl.out)
      have HYD : Hid ((ys.set j { x with id := q }).drop (j + 1) = xs.drop (j + 1)) := Lib.hid (by
        rw [drop_set_after]
        have := congrArg (List.drop 1) hyd.out
        rwa [List.drop_drop, List.drop_drop] at this)
      have hjl : j < ys.length := by have := hyl.out; omega
      have HJ : Hid ((ys.set j { x with id := q })[j]? = some { x with id := q }) := Lib.hid (by rw [List.getElem?_set_self hjl])
      have qa : 0 ≤ q + 1 := by omega
      have qb : q + 1 ≤ 4611686018427387904 := by omega
      have qc : x.zs.length ≤ 1099511627776 := by omega
      clear hs1 hcs hin1 hw1 hap hdx hsd hzn hor hin hwi hyx hbd hxb hx hyl hyd hq
      go_wp2_with fail
      with_reducible refine (markIntS_any B x.ad x.cp x.zs (q + 1) _ hOx qa qb qc).mono ?_
      rintro e w2 ⟨rfl, hO2, hg2⟩
      have hr2 := HR1.out.apart hg2 (fun k hk r hr => by
        intro e
        subst e
        obtain ⟨cs1, fz1, h1⟩ := OwnR.kindR HR1.out k hk
        obtain ⟨cs2, fz2, h2⟩ := hOx.kindI k hr
        rw [h1] at h2
        injection h2 with h2
        injection h2 with _ h2
        exact absurd h2 (by decide))
      have hw2 := HW1.out.grown hg2 (fun k hk => ⟨(hOx.blk k hk).1, hHI k hk⟩)
      have hn2 := fun y (hy : y ∈ xs.drop (j + 1)) => (HN.out y hy).apartI hg2 (fun k hk r hr => fun e => HAP.out y hy r k hr hk e.symm)
      obtain ⟨⟨d0, d1, d2⟩, g0, g1, g2⟩ := cellsH hr2 HJ.out
      have hs2 := hr2.set1 j { x with id := q } { x with id := q, us := q + 1 + x.zs.length } HJ.out 2 (.int .i64 (q + 1 + x.zs.length)) (by decide) rfl
      obtain ⟨cs, hcs⟩ := hr2.heapAt
      have HN2 := Lib.hid (fun y (hy : y ∈ xs.drop (j + 1)) => (hn2 y hy).set_kind hcs (by decide) hs2.2)
      have HR2 := Lib.hid hs2.1
      have HW2 := Lib.hid (hw2.grown hs2.2 (fun k hk => by injection hk with hk; omega))
      have HYL2 : Hid (((ys.set j { x with id := q }).set j { x with id := q, us := q + 1 + x.zs.length }).length = n) := Lib.hid (by rw [List.length_set]; exact HYL.out)
      have HYD2 : Hid (((ys.set j { x with id := q }).set j { x with id := q, us := q + 1 + x.zs.length }).drop (j + 1) = xs.drop (j + 1)) := Lib.hid (by rw [drop_set_after]; exact HYD.out)
      have HQ : Hid (q + 1 + x.zs.length + 1 ≤ 1000 + 2 * ((j + 1 : Nat) : Int) + szH xs - szH (xs.drop (j + 1))) := Lib.hid (by have := HBD.out; omega)
      have hq2 : q + 1 + (x.zs.length : Int) + 1 ≤ 1000 + 2 * ((j + 1 : Nat) : Int) + 1048576 := by have := HQ.out; have := HS.out; have := szH_nonneg (xs.drop (j + 1)); omega
      clear hs2 hcs hr2 hn2 hw2 hg2 hO2 hOx
      go_wp2
      go_roundw
      case rel => exact ⟨j + 1, by omega, by go_num, ⟨q + 1 + x.zs.length + 1, by go_num, by omega, hq2, HQ⟩, _, HYL2, HYD2, HR2.out, HN2, HW2.out⟩
      case measure => simp [intOf]; omega
    · obtain rfl : j = n := by omega
      go_wp2
      go_ret
      exact ⟨q, rfl, ⟨q0, by omega⟩, hwi⟩

end Go.Proofs.Ytkjimngpodhdbaa
