/- Contract of markChangeS: only the blocks of what it writes over have changed. -/
import Derived.Test.YtdjpaibjelfhnaaChange
import Derived.Test.YtdjpaibjelfhnaaMarkT
import Derived.Test.YtdjpaibjelfhnaaMark
import Derived.Outline
namespace Go.Proofs.Ytdjpaibjelfhnaa
open Go.RowKit
set_option linter.unusedVariables false

/-- Only blocks from lo on, ahead of hi, and new ones, have changed. -/
structure Within (lo hi : Nat) (w w' : World) : Prop where
  os : w'.os = w.os
  tape : w'.tape = w.tape
  output : w'.output = w.output
  size : w.heap.size ≤ w'.heap.size
  block : ∀ k, k < w.heap.size → k < lo ∨ hi ≤ k → w'.heap[k]? = w.heap[k]?

theorem Within.refl (lo hi : Nat) (w : World) : Within lo hi w w := ⟨rfl, rfl, rfl, Nat.le_refl _, fun _ _ _ => rfl⟩
theorem Within.grown {lo hi : Nat} {w w1 w2 : World} (h : Within lo hi w w1) {r : Option Nat} (hg : w1.grownBy w2 r) (hr : ∀ k, r = some k → lo ≤ k ∧ k < hi) : Within lo hi w w2 :=
  ⟨hg.os.trans h.os, hg.tape.trans h.tape, hg.output.trans h.output, Nat.le_trans h.size hg.size, fun k hk ho => (hg.block k (Nat.lt_of_lt_of_le hk h.size) (fun e => by have := hr k e.symm; omega)).trans (h.block k hk ho)⟩
theorem Within.below {lo hi : Nat} {w w' : World} (h : Within lo hi w w') {B : Nat} (hB : B ≤ lo) (hl : B ≤ w.heap.size) : Below B w w' :=
  ⟨h.os, h.tape, h.output, h.size, fun k hk => h.block k (by omega) (.inl (by omega))⟩
/-- What lies in blocks that have not changed is as it was. -/
theorem Within.row {lo hi : Nat} {w w' : World} (h : Within lo hi w w') {base size n : Nat} {e : TypeId} {v : Value} {xs : List Value} (ho : w.ownsRow base e size v n xs) (hk : ∀ k, v.ownBlock = some k → k < lo ∨ hi ≤ k) : w'.ownsRow base e size v n xs := by
  refine ⟨ho.1, ?_⟩
  rcases ho.2 with h1 | ⟨g, cap, cur, hv, hb, hg, hr⟩
  · exact .inl h1
  · refine .inr ⟨g, cap, cur, hv, hb, ?_, hr⟩
    rw [h.block g (Array.getElem?_eq_some_iff.1 hg).1 (hk g (by rw [hv]; rfl))]
    exact hg

theorem OwnI.kindI {w : World} {B : Nat} {a : Option Addr} {c : Nat} {zs : List Int} (h : OwnI w B a c zs) : ∀ k, (Value.slice a zs.length c).ownBlock = some k → ∃ cs fz, w.heap[k]? = some (.cells cs 3 fz) := by
  intro k hk
  rcases h.2.2 with ⟨h1, _⟩ | ⟨g, cap, cur, hv, _, hg, _⟩
  · rw [h1] at hk; cases hk
  · rw [hv] at hk
    injection hk with hk
    subst hk
    exact ⟨_, _, hg⟩

theorem OwnI.apartI {w w' : World} {B : Nat} {a : Option Addr} {c : Nat} {zs : List Int} (h : OwnI w B a c zs) {row : Option Nat} (hg : w.grownBy w' row)
    (hne : ∀ k, (Value.slice a zs.length c).ownBlock = some k → ∀ r, row = some r → k ≠ r) : OwnI w' B a c zs := by
  refine ⟨h.1, World.ownsRow.kept h.2 hg ?_⟩
  cases hv : (Value.slice a zs.length c).ownBlock with
  | none => exact .inl rfl
  | some k => exact .inr (fun e => hne k hv k e.symm rfl)

theorem OwnR.kindR {α : Type} {E : Elt α} {w : World} {B : Nat} {a : Option Addr} {c : Nat} {xs : List α} (h : OwnR E w B a c xs) : ∀ k, (Value.slice a xs.length c).ownBlock = some k → ∃ cs fz, w.heap[k]? = some (.cells cs E.ty fz) := by
  intro k hk
  rcases h.2 with ⟨h1, _⟩ | ⟨g, cap, cur, hv, _, hg, _⟩
  · rw [h1] at hk; cases hk
  · rw [hv] at hk
    injection hk with hk
    subst hk
    exact ⟨_, _, hg⟩

theorem drop_mem {α : Type} {xs : List α} {j : Nat} {x : α} (h : xs[j]? = some x) : xs.drop j = x :: xs.drop (j + 1) := by
  obtain ⟨hj, rfl⟩ := List.getElem?_eq_some_iff.1 h
  exact List.drop_eq_getElem_cons hj

theorem drop_set_after {α : Type} (xs : List α) (j : Nat) (y : α) : (xs.set j y).drop (j + 1) = xs.drop (j + 1) := by
  apply List.ext_getElem?
  intro i
  rw [List.getElem?_drop, List.getElem?_drop, List.getElem?_set_ne (by omega)]

theorem Within.step {lo hi : Nat} {w wr w1 : World} (h : Within lo hi w wr) (hb : Below wr.heap.size wr w1) : Within lo hi w w1 :=
  ⟨hb.os.trans h.os, hb.tape.trans h.tape, hb.output.trans h.output, Nat.le_trans h.size hb.size, fun k hk ho => (hb.block k (Nat.lt_of_lt_of_le hk h.size)).trans (h.block k hk ho)⟩

/-- Where the marks stand. -/
structure AtG (B hi g c n j : Nat) (xs ys : List PV) (x : PV) (w wr : World) : Prop where
  len : ys.length = n
  row : OwnR eltG wr B (some ⟨g, 0, none⟩) c ys
  ins : ∀ y ∈ xs.drop j, OwnI wr B y.ad y.cp y.zs
  wi : Within B hi w wr
  at_ : ys[j]? = some x
  rest : ys.drop (j + 1) = xs.drop (j + 1)
  lo : B ≤ g
  hi_ : g < hi

theorem AtG.set {B hi g c n j : Nat} {xs ys : List PV} {x : PV} {w wr : World} (h : AtG B hi g c n j xs ys x w wr) (y : PV) (k : Nat) (u : Value) (hk : k < 4) (hy : encG y = (encG x).set k u) :
    AtG B hi g c n j xs (ys.set j y) y w (wr.setCell ⟨g, j * 4 + k, none⟩ u) := by
  have hs := h.row.set1 j x y h.at_ k u hk hy
  obtain ⟨cs, hcs⟩ := h.row.heapAt
  exact ⟨by rw [List.length_set]; exact h.len, hs.1, fun z hz => (h.ins z hz).set_kind hcs (by decide) hs.2, h.wi.grown hs.2 (fun k hk => by injection hk with hk; rw [← hk]; exact ⟨h.lo, h.hi_⟩),
    List.getElem?_set_self (List.getElem?_eq_some_iff.1 h.at_).1, by rw [drop_set_after]; exact h.rest, h.lo, h.hi_⟩

theorem AtG.below {B hi g c n j : Nat} {xs ys : List PV} {x : PV} {w wr w1 : World} (h : AtG B hi g c n j xs ys x w wr) (hb : Below wr.heap.size wr w1) : AtG B hi g c n j xs ys x w w1 :=
  ⟨h.len, h.row.below hb, fun z hz => (h.ins z hz).below hb, h.wi.step hb, h.at_, h.rest, h.lo, h.hi_⟩

set_option maxRecDepth 100000 in
set_option maxHeartbeats 1000000 in
theorem markChangeS_any (B hi : Nat) (a : Option Addr) (c n : Nat) (xs : List PV) (k0 : Int) (w : World) (ho : OwnP w B a c xs) (hl : xs.length = n)
    (hh : ∀ k, (Value.slice a n c).ownBlock = some k → k < hi) (hi2 : ∀ x ∈ xs, ∀ k, (Value.slice x.ad x.zs.length x.cp).ownBlock = some k → k < hi)
    (h0 : 0 ≤ k0) (h1 : k0 ≤ 1000) (hn : n ≤ 1048576) (hs : szP xs ≤ 1048576) :
    Calls Try.prog 19 #[.slice a n c, .int .i64 k0] w (fun e w' => ∃ k1 : Int, e = .returned (.int .i64 k1) ∧ 0 ≤ k1 ∧ Within B hi w w') := by
  have HL := Lib.hid hl
  have HO := Lib.hid ho
  have HH := Lib.hid hh
  have HI2 := Lib.hid hi2
  have HS := Lib.hid hs
  have hrow := ho.row
  clear ho hh hi2 hs hl
  go_enter Try.func19, Try.ntmps19
  go_wp2
  go_loopw [1, 5] (fun v i wr => ∃ j : Nat, j ≤ n ∧ i = .int .i64 j ∧ (∃ q : Int, v = .int .i64 q ∧ 0 ≤ q ∧ q ≤ 1000 + 3 * j + 1048576 ∧ Hid (q ≤ 1000 + 3 * j + szP xs - szP (xs.drop j))) ∧
      ∃ ys : List PV, Hid (ys.length = n) ∧ Hid (ys.drop j = xs.drop j) ∧ OwnR eltG wr B a c ys ∧ Hid (∀ x ∈ xs.drop j, OwnI wr B x.ad x.cp x.zs) ∧ Within B hi w wr)
    (fun _ i _ => n - (intOf i).toNat)
  case atStart => exact ⟨0, Nat.zero_le _, rfl, ⟨k0, rfl, h0, by omega, Lib.hid (by rw [List.drop_zero]; omega)⟩, xs, Lib.hid HL.out, Lib.hid rfl, hrow, Lib.hid (fun x hx => HO.out.ins x hx), Within.refl _ _ _⟩
  case round =>
    clear hrow
    obtain ⟨j, hj, rfl, ⟨q, rfl, q0, q1, hq⟩, ys, hyl, hyd, hor, hin, hwi⟩ := hrel
    by_cases hlt : j < n
    · obtain ⟨g, rfl, hBg, hgs⟩ := hor.head (by have := hyl.out; omega)
      obtain ⟨x, hx⟩ : ∃ x, xs[j]? = some x := ⟨_, List.getElem?_eq_getElem (by have := HL.out; omega)⟩
      have hyx : ys[j]? = some x := by
        have := congrArg (fun l => l[0]?) hyd.out
        simp only [List.getElem?_drop, Nat.add_zero] at this
        rw [this, hx]
      have hdx := drop_mem hx
      have hsd := szP_drop hx
      have hzn := szP_nonneg (xs.drop (j + 1))
      have hgh : g < hi := HH.out g rfl
      have hbd : q + 3 + x.zs.length ≤ 1000 + 3 * ((j : Int) + 1) + szP xs - szP (xs.drop (j + 1)) := by have := hq.out; omega
      have hle : (x.zs.length : Int) ≤ 1048576 := by have := szP_mem (List.mem_of_getElem? hx); have := HS.out; omega
      have HBD := Lib.hid hbd
      have hHI := Lib.hid (HI2.out x (List.mem_of_getElem? hx))
      have hap : ∀ y ∈ xs.drop (j + 1), apartP x y := by
        have hp := HO.out.apart
        have hp2 : (xs.drop j).Pairwise apartP := hp.sublist (List.drop_sublist _ _)
        rw [hdx] at hp2
        exact (List.pairwise_cons.1 hp2).1
      have HAP := Lib.hid hap
      have HX : Hid (x ∈ xs.drop j) := Lib.hid (by rw [hdx]; simp)
      have HD : Hid (∀ y ∈ xs.drop (j + 1), y ∈ xs.drop j) := Lib.hid (fun y hy => by rw [hdx]; exact List.mem_cons_of_mem _ hy)
      have hrest : ys.drop (j + 1) = xs.drop (j + 1) := by
        have := congrArg (List.drop 1) hyd.out
        rwa [List.drop_drop, List.drop_drop] at this
      have hst : AtG B hi g c n j xs ys x w wr := ⟨hyl.out, hor, hin.out, hwi, hyx, hrest, hBg, hgh⟩
      obtain ⟨⟨c0, c1, c2, c3⟩, f0, f1, f2, f3⟩ := cellsG hor hyx
      have hs0 := Lib.hid (hst.set { x with kd := q } 0 (.int .i64 q) (by decide) rfl)
      clear hst hap hdx hsd hzn hor hin hwi hyx hbd hx hyl hyd hq hrest
      go_wp2_with fail
      with_reducible refine (markText_int _ _ (by omega) (by omega)).mono ?_
      rintro e w2 ⟨rfl, hb⟩
      have hs1 := hs0.out.below hb
      obtain ⟨⟨d0, d1, d2, d3⟩, g0, g1, g2, g3⟩ := cellsG hs1.row hs1.at_
      have hs2 := hs1.set { x with kd := q, pa := markT (q + 1).toNat } 1 (.string (markT (q + 1).toNat)) (by decide) rfl
      obtain ⟨⟨d0', d1', d2', d3'⟩, g0', g1', g2', g3'⟩ := cellsG hs2.row hs2.at_
      have hs3 := Lib.hid (hs2.set { x with kd := q, pa := markT (q + 1).toNat, dr := ((q + 1 + 1) % 3 == 0) } 2 (.bool ((q + 1 + 1) % 3 == 0)) (by decide) rfl)
      have hmem : Hid (x ∈ xs.drop j) := Lib.hid HX.out
      clear hs1 hs2 hb hs0 c0 c1 c2 c3 f0 f1 f2 f3
      go_wp2_with fail
      have hOx := hs3.out.ins x hmem.out
      with_reducible refine (markIntS_any B x.ad x.cp x.zs (q + 1 + 1 + 1) _ hOx (by omega) (by omega) (by omega)).mono ?_
      rintro e w3 ⟨rfl, hO3, hg3⟩
      have hr3 := Lib.hid (hs3.out.row.apart hg3 (fun k hk r hr => by
        intro e
        subst e
        obtain ⟨cs1, fz1, h1⟩ := OwnR.kindR hs3.out.row k hk
        obtain ⟨cs2, fz2, h2⟩ := hOx.kindI k hr
        rw [h1] at h2
        injection h2 with h2
        injection h2 with _ h2
        exact absurd h2 (by decide)))
      have hw3 := Lib.hid (hs3.out.wi.grown hg3 (fun k hk => ⟨(hOx.blk k hk).1, hHI.out k hk⟩))
      have hn3 : Hid (∀ y ∈ xs.drop (j + 1), OwnI w3 B y.ad y.cp y.zs) := Lib.hid (fun y hy => (hs3.out.ins y (HD.out y hy)).apartI hg3 (fun k hk r hr => fun e => HAP.out y hy r k hr hk e.symm))
      have hl3 := Lib.hid hs3.out.len
      have hd3 := Lib.hid hs3.out.rest
      have HQ : Hid (q + 1 + 1 + 1 + (x.zs.length : Int) ≤ 1000 + 3 * ((j + 1 : Nat) : Int) + szP xs - szP (xs.drop (j + 1))) := Lib.hid (by have := HBD.out; omega)
      have hq2 : q + 1 + 1 + 1 + (x.zs.length : Int) ≤ 1000 + 3 * ((j + 1 : Nat) : Int) + 1048576 := by have := HQ.out; have := HS.out; have := szP_nonneg (xs.drop (j + 1)); omega
      clear hO3 hg3 hOx hs3 d0 d1 d2 d3 g0 g1 g2 g3 d0' d1' d2' d3' g0' g1' g2' g3'
      go_wp2
      go_roundw
      case rel => exact ⟨j + 1, by omega, by go_num, ⟨q + 1 + 1 + 1 + x.zs.length, by go_num, by omega, hq2, HQ⟩, _, hl3, hd3, hr3.out, hn3, hw3.out⟩
      case measure => simp [intOf]; omega
    · obtain rfl : j = n := by omega
      go_wp2
      go_ret
      exact ⟨q, rfl, q0, hwi⟩

end Go.Proofs.Ytdjpaibjelfhnaa
