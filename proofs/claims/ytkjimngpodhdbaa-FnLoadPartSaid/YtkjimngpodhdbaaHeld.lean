/- Blocks of a store: what a slice of them reads as, that it is the call's own; contracts of szHeldS, toHeldS, eqHeldS. -/
import Derived.Test.YtkjimngpodhdbaaEltH
import Derived.Test.YtkjimngpodhdbaaEq
import Derived.Test.YtkjimngpodhdbaaCommon
import Derived.BigQuiet
import Derived.Deep.QuietTactic
import Derived.StillTailTactics
import Derived.Outline
namespace Go.Proofs.Ytkjimngpodhdbaa
open Go.RowKit
set_option linter.unusedVariables false

theorem below_drewNH {B : Nat} {w w' : World} (h : Below B w w') (k : Nat) : Below B w (w'.drewN k) := ⟨h.os, h.tape, h.output, h.size, h.block⟩

/-- What an element says. -/
def HV.val (x : HV) : Int × List Int × Int := (x.id, x.zs, x.us)
/-- What a list says. -/
def valsH (xs : List HV) : List (Int × List Int × Int) := xs.map HV.val

/-- Every element's own list reads as it says. -/
def InH (w : World) (xs : List HV) : Prop := ∀ x ∈ xs, RdI w x.ad x.zs.length x.zs
/-- All numbers fit. -/
def WfH (xs : List HV) : Prop := ∀ x ∈ xs, WfI x.zs ∧ x.zs.length ≤ maxLen ∧ (-9223372036854775808 ≤ x.id ∧ x.id ≤ 9223372036854775807) ∧ (-9223372036854775808 ≤ x.us ∧ x.us ≤ 9223372036854775807)

theorem InH.below {w w' : World} {xs : List HV} (h : InH w xs) (hb : Below w.heap.size w w') : InH w' xs := fun x hx => (h x hx).below hb

/-- The blocks of two elements' lists are not the same. -/
def apartH (x y : HV) : Prop := ∀ r s, (Value.slice x.ad x.zs.length x.cp).ownBlock = some r → (Value.slice y.ad y.zs.length y.cp).ownBlock = some s → r ≠ s

/-- A slice of the call's own, with lists of the call's own. -/
structure OwnH (w : World) (B : Nat) (a : Option Addr) (c : Nat) (xs : List HV) : Prop where
  row : OwnR eltH w B a c xs
  ins : ∀ x ∈ xs, OwnI w B x.ad x.cp x.zs
  apart : xs.Pairwise apartH

theorem OwnH.below {w w' : World} {B : Nat} {a : Option Addr} {c : Nat} {xs : List HV} (h : OwnH w B a c xs) (hb : Below w.heap.size w w') : OwnH w' B a c xs :=
  ⟨h.row.below hb, fun x hx => (h.ins x hx).below hb, h.apart⟩
theorem OwnH.mono {w : World} {B B' : Nat} {a : Option Addr} {c : Nat} {xs : List HV} (h : OwnH w B a c xs) (hB : B' ≤ B) : OwnH w B' a c xs :=
  ⟨h.row.mono hB, fun x hx => (h.ins x hx).mono hB, h.apart⟩
theorem OwnH.inn {w : World} {B : Nat} {a : Option Addr} {c : Nat} {xs : List HV} (h : OwnH w B a c xs) : InH w xs := fun x hx => (h.ins x hx).rd
theorem OwnI.capI {w : World} {B : Nat} {a : Option Addr} {c : Nat} {zs : List Int} (h : OwnI w B a c zs) : zs.length ≤ c ∧ c ≤ maxLen := by
  rcases h.2.2 with ⟨h1, h0⟩ | ⟨g, cap, cur, hv, hb, hg, hnc, hcm, _⟩
  · injection h1 with _ _ h3
    omega
  · injection hv with _ _ h3
    omega

/-- How many numbers the lists have. -/
def szH (xs : List HV) : Int := (xs.map fun x => (x.zs.length : Int)).sum

theorem szH_cons (x : HV) (xs : List HV) : szH (x :: xs) = x.zs.length + szH xs := by simp [szH]
theorem szH_nonneg (xs : List HV) : 0 ≤ szH xs := by
  induction xs with
  | nil => simp [szH]
  | cons x xs ih => rw [szH_cons]; omega
theorem szH_mem {xs : List HV} {x : HV} (h : x ∈ xs) : (x.zs.length : Int) ≤ szH xs := by
  induction xs with
  | nil => cases h
  | cons y ys ih =>
    rw [szH_cons]
    rcases List.mem_cons.1 h with rfl | h
    · have := szH_nonneg ys; omega
    · have := ih h; omega
theorem szH_drop {xs : List HV} {k : Nat} {x : HV} (h : xs[k]? = some x) : szH (xs.drop k) = x.zs.length + szH (xs.drop (k + 1)) := by
  obtain ⟨hk, rfl⟩ := List.getElem?_eq_some_iff.1 h
  rw [List.drop_eq_getElem_cons hk, szH_cons]

/-- What a size that is asked leaves. -/
def leftH (l s : Int) : Int := if l - s < 0 then -1 else l - s

set_option maxHeartbeats 400000 in
theorem szHeld_any (x : HV) (l : Int) (w : World) (h0 : 0 ≤ l) (h1 : l ≤ 4611686018427387904) (hx : x.zs.length ≤ maxLen) :
    Calls Try.prog 25 #[.agg #[.int .i64 x.id, .slice x.ad x.zs.length x.cp, .int .i64 x.us], .int .i64 l] w (RetB w (.int .i64 (leftH l x.zs.length))) := by
  unfold maxLen at hx
  obtain ⟨n, hn⟩ : ∃ n, x.zs.length = n := ⟨_, rfl⟩
  rw [hn] at hx ⊢
  clear hn
  by_cases a1 : l - n < 0
  · have hr : leftH l n = -1 := by unfold leftH; rw [if_pos (by omega)]
    rw [hr]
    clear hr
    have d1 : decide (l - (n : Int) < 0) = true := by simpa using a1
    go_enter Try.func25, Try.ntmps25
    go_wp2
    go_ret
    exact ⟨rfl, (Below.refl _ _).alloc (Nat.le_refl _) _⟩
  · have d1 : decide (l - (n : Int) < 0) = false := by simpa using a1
    have hr : leftH l n = l - n := by unfold leftH; rw [if_neg (by omega)]
    rw [hr]
    clear hr
    go_enter Try.func25, Try.ntmps25
    go_wp2
    go_ret
    exact ⟨rfl, (Below.refl _ _).alloc (Nat.le_refl _) _⟩

theorem szHeldS_big (a : Option Addr) (n c : Nat) (l : Int) (w : World) (hl : 0 ≤ l ∧ l ≤ 1099511627776) (hn : 4611686018427387904 < n ∧ n ≤ 9223372036854775807) :
    Calls Try.prog 8 #[.slice a n c, .int .i64 l] w (RetB w (.int .i64 (-1))) := by
  have d1 : decide (l - (n : Int) < 0) = true := by simp; omega
  go_enter Try.func8, Try.ntmps8
  go_wp2
  go_ret
  exact ⟨rfl, Below.refl _ _⟩

set_option maxHeartbeats 400000 in
theorem szHeldS_any (a : Option Addr) (n c : Nat) (xs : List HV) (l : Int) (w : World) (hr : RdR eltHL w a n xs) (hwf : WfH xs) (hn : n ≤ 4611686018427387904) (h0 : 0 ≤ l) (h1 : l ≤ 1099511627776) :
    Calls Try.prog 8 #[.slice a n c, .int .i64 l] w (RetB w (.int .i64 (leftH l (n + szH xs)))) := by
  have hsn := szH_nonneg xs
  by_cases a1 : l - n < 0
  · have hrr : leftH l (n + szH xs) = -1 := by unfold leftH; rw [if_pos (by omega)]
    rw [hrr]
    clear hrr
    have d1 : decide (l - (n : Int) < 0) = true := by simpa using a1
    go_enter Try.func8, Try.ntmps8
    go_wp2
    go_ret
    exact ⟨rfl, Below.refl _ _⟩
  have d1 : decide (l - (n : Int) < 0) = false := by simpa using a1
  have hl := Lib.hid hr.1
  have HW := Lib.hid hwf
  clear hwf
  go_enter Try.func8, Try.ntmps8
  go_wp2
  go_loopw [1, 5] (fun v i wr => ∃ k : Nat, k ≤ n ∧ i = .int .i64 k ∧ ∃ q : Int, v = .int .i64 q ∧ 0 ≤ q ∧ q ≤ 1099511627776 ∧ Hid (leftH l (n + szH xs) = leftH q (szH (xs.drop k))) ∧ Below w.heap.size w wr)
    (fun _ i _ => n - (intOf i).toNat)
  case atStart => exact ⟨0, Nat.zero_le _, rfl, l - n, rfl, by omega, by omega, Lib.hid (by rw [List.drop_zero]; unfold leftH; rw [show l - (n + szH xs) = l - n - szH xs by omega]), Below.refl _ _⟩
  case round =>
    obtain ⟨k, hk, rfl, q, rfl, q0, q1, he, hb⟩ := hrel
    by_cases hlt : k < n
    · obtain ⟨b, off, x, rfl, hbl, hx, c0, c1, c2⟩ := atHL (hr.below hb) hlt
      have hd := szH_drop hx
      have hw := HW.out x (List.mem_of_getElem? hx)
      have hnn := szH_nonneg (xs.drop (k + 1))
      have HD := Lib.hid hd
      have HS := Lib.hid hnn
      clear hd hx hnn
      go_wp2_with fail
      with_reducible refine (szHeld_any x q _ q0 (by omega) hw.2.1).mono ?_
      rintro e w2 ⟨rfl, hb2⟩
      have hb3 := hb.trans (hb2.mono hb.size)
      clear hb2 hb
      by_cases a2 : q - x.zs.length < 0
      · have hq : leftH q x.zs.length = -1 := by unfold leftH; rw [if_pos a2]
        have HR : Hid (leftH l (n + szH xs) = -1) := Lib.hid (by
          rw [he.out, HD.out]; have := HS.out; unfold leftH; rw [if_pos (by omega)])
        rw [hq]
        clear hq
        go_wp2
        go_ret
        rw [HR.out]
        exact ⟨rfl, hb3⟩
      · have hq : leftH q x.zs.length = q - x.zs.length := by unfold leftH; rw [if_neg a2]
        obtain ⟨q', hq'⟩ : ∃ q', q - (x.zs.length : Int) = q' := ⟨_, rfl⟩
        have HR : Hid (leftH l (n + szH xs) = leftH q' (szH (xs.drop (k + 1)))) := Lib.hid (by
          rw [he.out, HD.out, ← hq']; unfold leftH
          rw [show q - (x.zs.length + szH (xs.drop (k + 1))) = q - x.zs.length - szH (xs.drop (k + 1)) by omega])
        rw [hq, hq']
        have d2 : decide (q' < 0) = false := by simp; omega
        have e1 : q' ≤ 1099511627776 := by omega
        have e0 : 0 ≤ q' := by omega
        clear hq hq' he
        go_wp2
        go_roundw
        case rel => exact ⟨k + 1, by omega, by go_num, q', rfl, e0, e1, HR, hb3⟩
        case measure => simp [intOf]; omega
    · obtain rfl : k = n := by omega
      have HR : Hid (leftH l (k + szH xs) = q) := Lib.hid (by
        rw [he.out, List.drop_of_length_le (by have := hl.out; omega)]; unfold leftH; rw [if_neg (by simp [szH]; omega)]; simp [szH])
      go_wp2
      go_ret
      rw [HR.out]
      exact ⟨rfl, hb⟩

/-- One element was copied. -/
def RetOneH (w : World) (x : HV) (e : Ending) (w' : World) : Prop :=
  ∃ a c, e = .returned (.agg #[.int .i64 x.id, .slice a x.zs.length c, .int .i64 x.us]) ∧ OwnI w' w.heap.size a c x.zs ∧ Below w.heap.size w w'

theorem heap3 (w w1 : World) (o0 o1 o2 : Obj) (hb : Below (((w.alloc o0).alloc o1).alloc o2).heap.size (((w.alloc o0).alloc o1).alloc o2) w1) :
    w1.heap[w.heap.size]? = some o0 ∧ w1.heap[w.heap.size + 1]? = some o1 ∧ w1.heap[w.heap.size + 1 + 1]? = some o2 ∧ w.heap.size + 3 ≤ w1.heap.size ∧ Below w.heap.size w w1 := by
  have s1 : (w.alloc o0).heap.size = w.heap.size + 1 := by simp
  have s2 : ((w.alloc o0).alloc o1).heap.size = w.heap.size + 2 := by simp
  have s3 : (((w.alloc o0).alloc o1).alloc o2).heap.size = w.heap.size + 3 := by simp
  have hz := hb.size
  rw [s3] at hz
  refine ⟨?_, ?_, ?_, hz, (((Below.refl _ _).alloc (Nat.le_refl _) _).alloc (by omega) _ |>.alloc (by omega) _).trans (hb.mono (by omega))⟩
  · rw [hb.block _ (by omega), heap_alloc_old, heap_alloc_old, heap_alloc_new]
    · omega
    · omega
  · rw [hb.block _ (by omega), heap_alloc_old, ← s1, heap_alloc_new]
    omega
  · rw [hb.block _ (by omega), show w.heap.size + 1 + 1 = ((w.alloc o0).alloc o1).heap.size by omega, heap_alloc_new]

theorem OwnI.set_below {w : World} {B : Nat} {a : Option Addr} {c : Nat} {zs : List Int} (h : OwnI w B a c zs) {p : Addr} (hp : p.block < B) (u : Value) : OwnI (w.setCell p u) B a c zs := ⟨h.1, ownsRow_setCell_below h.2 hp u⟩

theorem set3 (w1 : World) (R O : Nat) (hRO : R ≠ O) (T : TypeId) (u0 u1 u2 p q v0 v1 v2 : Value) (h : w1.heap[R]? = some (.cells #[u0, u1, u2] T (0, 0))) :
    (((((w1.setCell ⟨O, 1, none⟩ p).setCell ⟨O, 2, none⟩ q).setCell ⟨R, 0, none⟩ v0).setCell ⟨R, 1, none⟩ v1).setCell ⟨R, 2, none⟩ v2).cell? ⟨R, 0, none⟩ = some v0 ∧
    (((((w1.setCell ⟨O, 1, none⟩ p).setCell ⟨O, 2, none⟩ q).setCell ⟨R, 0, none⟩ v0).setCell ⟨R, 1, none⟩ v1).setCell ⟨R, 2, none⟩ v2).cell? ⟨R, 1, none⟩ = some v1 ∧
    (((((w1.setCell ⟨O, 1, none⟩ p).setCell ⟨O, 2, none⟩ q).setCell ⟨R, 0, none⟩ v0).setCell ⟨R, 1, none⟩ v1).setCell ⟨R, 2, none⟩ v2).cell? ⟨R, 2, none⟩ = some v2 := by
  have e1 := (heap_setCell_other w1 ⟨O, 1, none⟩ R p (by simpa using hRO)).trans h
  have e2 := (heap_setCell_other (w1.setCell ⟨O, 1, none⟩ p) ⟨O, 2, none⟩ R q (by simpa using hRO)).trans e1
  have e3 := heap_setCell_same _ R 0 _ _ v0 e2
  have e4 := heap_setCell_same _ R 1 _ _ v1 e3
  have e5 := heap_setCell_same _ R 2 _ _ v2 e4
  refine ⟨?_, ?_, ?_⟩
  · rw [cell_of_row _ R 0 _ _ (0, 0) e5]; rfl
  · rw [cell_of_row _ R 1 _ _ (0, 0) e5]; rfl
  · rw [cell_of_row _ R 2 _ _ (0, 0) e5]; rfl

set_option maxHeartbeats 400000 in
theorem toHeld_any (x : HV) (w : World) (hr : RdI w x.ad x.zs.length x.zs) (hwf : WfI x.zs) (hn : x.zs.length ≤ 1048576) :
    Calls Try.prog 29 #[.agg #[.int .i64 x.id, .slice x.ad x.zs.length x.cp, .int .i64 x.us]] w (RetOneH w x) := by
  have hbw : ∀ o0 o1 o2, Below w.heap.size w (((w.alloc o0).alloc o1).alloc o2) := fun o0 o1 o2 => ((Below.refl _ _).alloc (Nat.le_refl _) _).alloc (by simp) _ |>.alloc (by simp; omega) _
  go_enter Try.func29, Try.ntmps29
  go_wp2_with fail
  with_reducible refine (toIntS_any x.ad x.zs.length x.cp x.zs _ (hr.below (hbw _ _ _)) hwf hn).mono ?_
  rintro e w1 ⟨a1, c1, rfl, ho, hb⟩
  have hh := heap3 _ _ _ _ _ hb
  have p2 := cell_of_row w1 w.heap.size 2 _ _ (0, 0) hh.1
  have r0 := cell_of_row w1 (w.heap.size + 1) 0 _ _ (0, 0) hh.2.1
  have r1 := cell_of_row w1 (w.heap.size + 1) 1 _ _ (0, 0) hh.2.1
  have r2 := cell_of_row w1 (w.heap.size + 1) 2 _ _ (0, 0) hh.2.1
  have o0 := cell_of_row w1 (w.heap.size + 1 + 1) 0 _ _ (0, 0) hh.2.2.1
  have o1 := cell_of_row w1 (w.heap.size + 1 + 1) 1 _ _ (0, 0) hh.2.2.1
  have o2 := cell_of_row w1 (w.heap.size + 1 + 1) 2 _ _ (0, 0) hh.2.2.1
  have f0 := frozen_of_row w1 (w.heap.size + 1) 0 _ _ hh.2.1
  have f1 := frozen_of_row w1 (w.heap.size + 1) 1 _ _ hh.2.1
  have f2 := frozen_of_row w1 (w.heap.size + 1) 2 _ _ hh.2.1
  have g1 := frozen_of_row w1 (w.heap.size + 1 + 1) 1 _ _ hh.2.2.1
  have g2 := frozen_of_row w1 (w.heap.size + 1 + 1) 2 _ _ hh.2.2.1
  obtain ⟨k0, k1, k2⟩ := set3 w1 (w.heap.size + 1) (w.heap.size + 1 + 1) (by omega) _ _ _ _ (.slice a1 x.zs.length c1) (.int .i64 x.us) (.int .i64 x.id) (.slice a1 x.zs.length c1) (.int .i64 x.us) hh.2.1
  have HB := Lib.hid hh.2.2.2
  have HO := Lib.hid (ho.mono (show w.heap.size + 3 ≤ _ by simp))
  have K0 := Lib.hid k0
  have K1 := Lib.hid k1
  have K2 := Lib.hid k2
  simp only [List.getElem?_toArray, List.getElem?_cons_zero, List.getElem?_cons_succ] at p2 r0 r1 r2 o0 o1 o2
  clear hh hb ho hr hbw k0 k1 k2
  go_wp2
  have k0 := K0.out
  have k1 := K1.out
  have k2 := K2.out
  refine bodyPost_ret (v := .agg #[.int .i64 x.id, .slice a1 x.zs.length c1, .int .i64 x.us]) ?_ rfl ⟨a1, c1, rfl, ?_, ?_⟩
  · simp [results, Try.results29, go_sem, k0, k1, k2]
  · exact ((((((HO.out.set_below (by simp <;> omega) _).set_below (by simp <;> omega) _).set_below (by simp <;> omega) _).set_below (by simp <;> omega) _).set_below (by simp <;> omega) _)).mono (by omega)
  · exact ((((HB.out.2.setCell (by simp <;> omega) _).setCell (by simp <;> omega) _).setCell (by simp <;> omega) _).setCell (by simp <;> omega) _).setCell (by simp <;> omega) _

/-- Elements were copied into new memory. -/
def RetH (w : World) (xs : List HV) (e : Ending) (w' : World) : Prop :=
  ∃ ys a c, e = .returned (.slice a xs.length c) ∧ ys.length = xs.length ∧ valsH ys = valsH xs ∧ OwnH w' w.heap.size a c ys ∧ Below w.heap.size w w'

def hv0 : HV := ⟨0, none, 0, [], 0⟩

theorem pairwise_snoc {α : Type} {R : α → α → Prop} {xs : List α} {x : α} (h : xs.Pairwise R) (hx : ∀ y ∈ xs, R y x) : (xs ++ [x]).Pairwise R := by
  rw [List.pairwise_append]
  exact ⟨h, List.pairwise_singleton _ _, fun a ha b hb => by rw [List.mem_singleton] at hb; subst hb; exact hx a ha⟩

theorem OwnI.set_kind {w : World} {B g : Nat} {a : Option Addr} {c : Nat} {zs : List Int} (h : OwnI w B a c zs) {cs : Array Value} {T : TypeId} {fz : Nat × Nat} (hg : w.heap[g]? = some (.cells cs T fz)) (hT : T ≠ 3) {w' : World} (hw : w.grownBy w' (some g)) : OwnI w' B a c zs := by
  refine ⟨h.1, World.ownsRow.kept h.2 hw ?_⟩
  rcases h.2.2 with ⟨h1, _⟩ | ⟨g', cap, cur, hv, _, hg', _⟩
  · rw [h1]; exact .inl rfl
  · rw [hv]
    right
    intro e
    injection e with e
    simp only at e
    subst e
    rw [hg'] at hg
    injection hg with hg
    injection hg with _ hg
    exact hT hg.symm

theorem OwnR.heapAt {α : Type} {E : Elt α} {w : World} {B g : Nat} {c : Nat} {xs : List α} (h : OwnR E w B (some ⟨g, 0, none⟩) c xs) : ∃ cs, w.heap[g]? = some (.cells cs E.ty (0, 0)) := by
  rcases h.2 with ⟨h1, _⟩ | ⟨g', cap, cur, hv, _, hg, _⟩
  · cases h1
  · injection hv with hv
    injection hv with hv
    injection hv with hv
    subst hv
    exact ⟨_, hg⟩

theorem OwnI.blk {w : World} {B : Nat} {a : Option Addr} {c : Nat} {zs : List Int} (h : OwnI w B a c zs) : ∀ k, (Value.slice a zs.length c).ownBlock = some k → B ≤ k ∧ k < w.heap.size := fun k hk => World.ownsRow.lt h.2 k hk

set_option maxHeartbeats 1000000 in
theorem toHeldS_any (a : Option Addr) (n c : Nat) (xs : List HV) (w : World) (hr : RdR eltHL w a n xs) (hin : InH w xs) (hwf : WfH xs) (hn : n ≤ 1048576) (hs : ∀ x ∈ xs, x.zs.length ≤ 1048576) :
    Calls Try.prog 10 #[.slice a n c] w (RetH w xs) := by
  go_enter Try.func10, Try.ntmps10
  go_wp2_with (at_make; refine wp_makeR eltH hv0 rfl rfl _ _ rfl n rfl rfl (by omega) ?_; intro w1 hown hg1)
  have hb1 : Below w.heap.size w w1 := (Below.refl _ _).grown hg1 (Nat.le_refl _) (fun k hk => by cases hk)
  have HZ := Lib.hid hr.1
  have HI := Lib.hid hin
  have HW := Lib.hid hwf
  have HS := Lib.hid hs
  clear hg1 hin hwf hs
  go_loopw [4] (fun i wr => ∃ k m : Nat, k + m = n ∧ i = .int .i64 k ∧ Below w.heap.size w wr ∧ ∃ ys : List HV, Hid (ys.length = k) ∧ Hid (valsH ys = valsH (xs.take k)) ∧ OwnR eltH wr w.heap.size (some { block := w.heap.size, off := 0 }) n (ys ++ List.replicate m hv0) ∧ Hid (∀ y ∈ ys, OwnI wr w.heap.size y.ad y.cp y.zs) ∧ Hid (ys.Pairwise apartH))
    (fun i _ => n - (intOf i).toNat)
  case atStart => exact ⟨0, n, by omega, rfl, hb1, [], Lib.hid rfl, Lib.hid rfl, hown, Lib.hid (by intro y hy; cases hy), Lib.hid List.Pairwise.nil⟩
  case round =>
    clear hown hb1
    obtain ⟨k, m, hk, rfl, hbr, ys, hyl, hyv, hor, hyi, hyp⟩ := hrel
    by_cases hlt : k < n
    · obtain ⟨m, rfl⟩ : ∃ m', m = m' + 1 := ⟨m - 1, by omega⟩
      obtain ⟨b, off, x, rfl, hbl, hx, c0, c1, c2⟩ := atHL (hr.below hbr) hlt
      have hmem := List.mem_of_getElem? hx
      have HX := Lib.hid hx
      clear hx
      have hw1 := (HW.out x hmem).1
      have hw2 := HS.out x hmem
      have hw3 := (HI.out x hmem).below hbr
      go_wp2_with fail
      with_reducible refine (toHeld_any x _ hw3 hw1 hw2).mono ?_
      rintro e w2 ⟨a2, c2, rfl, hoi, hb2⟩
      have ho2 := hor.below hb2
      have hb3 := hbr.trans (hb2.mono hbr.size)
      have hkl : k < (ys ++ List.replicate (m + 1) hv0).length := by rw [List.length_append, hyl.out, List.length_replicate]; omega
      have hxo : (ys ++ List.replicate (m + 1) hv0)[k]? = some hv0 := by
        rw [List.getElem?_append_right (by rw [hyl.out]; exact Nat.le_refl _), hyl.out, Nat.sub_self]; rfl
      obtain ⟨⟨q0, q1, q2⟩, f0, f1, f2⟩ := cellsH ho2 hxo
      have hput := putH ho2 k hkl ⟨x.id, a2, c2, x.zs, x.us⟩
      obtain ⟨cs, hcs⟩ := ho2.heapAt
      have hs := hput.1
      rw [set_next _ _ _ _ _ hyl.out] at hs
      have HT := Lib.hid hs
      have hyl2 : Hid ((ys ++ [(⟨x.id, a2, c2, x.zs, x.us⟩ : HV)]).length = k + 1) := Lib.hid (by rw [List.length_append, hyl.out]; rfl)
      have hyv2 : Hid (valsH (ys ++ [(⟨x.id, a2, c2, x.zs, x.us⟩ : HV)]) = valsH (xs.take (k + 1))) := Lib.hid (by
        obtain ⟨h1, h2⟩ := List.getElem?_eq_some_iff.1 HX.out
        rw [List.take_succ_eq_append_getElem h1, h2]
        unfold valsH at hyv ⊢
        rw [List.map_append, List.map_append, hyv.out]
        rfl)
      have hyi2 := Lib.hid (fun y (hy : y ∈ ys ++ [(⟨x.id, a2, c2, x.zs, x.us⟩ : HV)]) => (show OwnI _ w.heap.size y.ad y.cp y.zs by
        rcases List.mem_append.1 hy with hy | hy
        · exact ((hyi.out y hy).below hb2).set_kind hcs (by decide) hput.2
        · rw [List.mem_singleton] at hy
          subst hy
          exact (hoi.mono hbr.size).set_kind hcs (by decide) hput.2))
      have hyp2 := Lib.hid (pairwise_snoc hyp.out (x := (⟨x.id, a2, c2, x.zs, x.us⟩ : HV)) (fun y hy r s h1 h2 => by
        have := ((hyi.out y hy).blk r h1).2
        have := (hoi.blk s h2).1
        omega))
      clear hput hs ho2 hkl hxo hb2 hor hoi hcs hbr
      go_wp2
      go_roundw
      case rel => exact ⟨k + 1, m, by omega, by go_num, ((hb3.setCell (Nat.le_refl _) _).setCell (Nat.le_refl _) _).setCell (Nat.le_refl _) _, _, hyl2, hyv2, HT.out, hyi2, hyp2⟩
      case measure => simp [intOf]; omega
    · obtain rfl : m = 0 := by omega
      obtain rfl : k = n := by omega
      go_wp2
      go_ret
      have h := hor
      rw [List.replicate_zero, List.append_nil] at h
      have hz := HZ.out
      refine ⟨ys, _, k, by rw [hz]; rfl, by rw [hyl.out, hz], by rw [hyv.out, List.take_of_length_le (by omega)], ⟨h, hyi.out, hyp.out⟩, hbr⟩

theorem eqI_self (xs : List Int) : eqI xs xs = true := by simp [eqI]

set_option maxHeartbeats 400000 in
theorem eqHeld_self (x y : HV) (hxy : x.val = y.val) (w : World) (hr : RdI w x.ad x.zs.length x.zs) (hr' : RdI w y.ad y.zs.length y.zs) (hn : x.zs.length ≤ 4611686018427387904) :
    Calls Try.prog 32 #[.agg #[.int .i64 x.id, .slice x.ad x.zs.length x.cp, .int .i64 x.us], .agg #[.int .i64 y.id, .slice y.ad y.zs.length y.cp, .int .i64 y.us]] w (RetB w (.bool true)) := by
  obtain ⟨i, a, c, zs, u⟩ := x
  obtain ⟨i', a', c', zs', u'⟩ := y
  simp only [HV.val, Prod.mk.injEq] at hxy
  obtain ⟨rfl, rfl, rfl⟩ := hxy
  simp only at hr hr' hn ⊢
  have t1 : (i != i) = false := by simp
  have t2 : (u != u) = false := by simp
  have hb0 : ∀ o0 o1, Below w.heap.size w ((w.alloc o0).alloc o1) := fun o0 o1 => ((Below.refl _ _).alloc (Nat.le_refl _) _).alloc (by simp) _
  go_enter Try.func32, Try.ntmps32
  go_wp2_with fail
  with_reducible refine (eqIntS_any a a' zs.length zs.length c c' zs zs _ (hr.below (hb0 _ _)) (hr'.below (hb0 _ _)) hn hn).mono ?_
  rintro e w1 ⟨rfl, m, rfl⟩
  rw [eqI_self]
  go_wp2
  go_ret
  exact ⟨rfl, below_drewNH (hb0 _ _) m⟩

set_option maxRecDepth 100000 in
set_option maxHeartbeats 1000000 in
theorem eqHeldS_self (a a' : Option Addr) (n c c' : Nat) (xs ys : List HV) (hv : valsH xs = valsH ys) (w : World) (hr : RdR eltH w a n xs) (hr' : RdR eltH w a' n ys) (hi : InH w xs) (hi' : InH w ys) (hn : n ≤ 4611686018427387904) (hs : ∀ x ∈ xs, x.zs.length ≤ 4611686018427387904) :
    Calls Try.prog 12 #[.slice a n c, .slice a' n c'] w (RetB w (.bool true)) := by
  have HV' := Lib.hid hv
  have HI := Lib.hid hi
  have HI' := Lib.hid hi'
  have HS := Lib.hid hs
  clear hv hi hi' hs
  go_enter Try.func12, Try.ntmps12
  go_wp2
  go_loopw [5] (fun i wr => ∃ k : Nat, k ≤ n ∧ i = .int .i64 k ∧ Below w.heap.size w wr)
    (fun i _ => n - (intOf i).toNat)
  case atStart => exact ⟨0, Nat.zero_le _, rfl, Below.refl _ _⟩
  case round =>
    obtain ⟨k, hk, rfl, hbr⟩ := hrel
    by_cases hlt : k < n
    · obtain ⟨b, off, x, rfl, hbl, hx, c0, c1, c2⟩ := atH (hr.below hbr) hlt
      obtain ⟨b', off', y, rfl, hbl', hy, c0', c1', c2'⟩ := atH (hr'.below hbr) hlt
      have hxy : x.val = y.val := by
        have h1 : (valsH xs)[k]? = some x.val := by unfold valsH; rw [List.getElem?_map, hx]; rfl
        have h2 : (valsH ys)[k]? = some y.val := by unfold valsH; rw [List.getElem?_map, hy]; rfl
        rw [HV'.out, h2] at h1
        exact (Option.some.inj h1).symm
      have hr1 := (HI.out x (List.mem_of_getElem? hx)).below hbr
      have hr2 := (HI'.out y (List.mem_of_getElem? hy)).below hbr
      have hs1 := HS.out x (List.mem_of_getElem? hx)
      have HXY := Lib.hid hxy
      have HR1 := Lib.hid hr1
      have HR2 := Lib.hid hr2
      clear hx hy hxy hr1 hr2
      have hk0 : (0 : Int) ≤ (k : Int) := by omega
      have hk1 : (k : Int) < (n : Int) := by omega
      have hbd' : Below w.heap.size w wr.drew := below_drewNH hbr 1
      go_wp2
      go_still_tail 8, (by kernel_rfl)
      change wpList _ _ _ _ _ wr.drew
      have HQ1 : Hid (RdI wr.drew x.ad x.zs.length x.zs) := Lib.hid HR1.out
      have HQ2 : Hid (RdI wr.drew y.ad y.zs.length y.zs) := Lib.hid HR2.out
      clear HR1 HR2
      generalize wr.drew = W at hbd' HQ1 HQ2 ⊢
      go_wp2_with fail
      with_reducible refine (eqHeld_self x y HXY.out _ HQ1.out HQ2.out hs1).mono ?_
      rintro e w2 ⟨rfl, hb2⟩
      have hb3 := hbd'.trans (hb2.mono hbd'.size)
      clear hb2
      go_wp2
      go_roundw
      case rel => exact ⟨k + 1, by omega, by go_num, hb3⟩
      case measure => simp [intOf]; omega
    · obtain rfl : k = n := by omega
      go_wp2
      go_ret
      exact ⟨rfl, hbr⟩

end Go.Proofs.Ytkjimngpodhdbaa
