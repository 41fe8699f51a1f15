/- Changes: what a slice of them reads as, that it is the call's own; contracts of szChangeS, toChangeS, eqChangeS. -/
import Derived.Test.YtdjpaibjelfhnaaEltG
import Derived.Test.YtdjpaibjelfhnaaEq
import Derived.Test.YtdjpaibjelfhnaaCommon
import Derived.BigQuiet
import Derived.Deep.QuietTactic
import Derived.StillTailTactics
import Derived.Outline
namespace Go.Proofs.Ytdjpaibjelfhnaa
open Go.RowKit
set_option linter.unusedVariables false

theorem below_drewNP {B : Nat} {w w' : World} (h : Below B w w') (k : Nat) : Below B w (w'.drewN k) := ⟨h.os, h.tape, h.output, h.size, h.block⟩

/-- What an element says. -/
def PV.val (x : PV) : Int × ByteArray × Bool × List Int := (x.kd, x.pa, x.dr, x.zs)
/-- What a list says. -/
def valsP (xs : List PV) : List (Int × ByteArray × Bool × List Int) := xs.map PV.val

/-- Every element's own list reads as it says. -/
def InP (w : World) (xs : List PV) : Prop := ∀ x ∈ xs, RdI w x.ad x.zs.length x.zs
/-- All numbers fit. -/
def WfP (xs : List PV) : Prop := ∀ x ∈ xs, WfI x.zs ∧ x.zs.length ≤ maxLen ∧ x.pa.size ≤ maxLen ∧ (-9223372036854775808 ≤ x.kd ∧ x.kd ≤ 9223372036854775807)

theorem InP.below {w w' : World} {xs : List PV} (h : InP w xs) (hb : Below w.heap.size w w') : InP w' xs := fun x hx => (h x hx).below hb

/-- The blocks of two elements' lists are not the same. -/
def apartP (x y : PV) : Prop := ∀ r s, (Value.slice x.ad x.zs.length x.cp).ownBlock = some r → (Value.slice y.ad y.zs.length y.cp).ownBlock = some s → r ≠ s

/-- A slice of the call's own, with lists of the call's own. -/
structure OwnP (w : World) (B : Nat) (a : Option Addr) (c : Nat) (xs : List PV) : Prop where
  row : OwnR eltG w B a c xs
  ins : ∀ x ∈ xs, OwnI w B x.ad x.cp x.zs
  apart : xs.Pairwise apartP

theorem OwnP.below {w w' : World} {B : Nat} {a : Option Addr} {c : Nat} {xs : List PV} (h : OwnP w B a c xs) (hb : Below w.heap.size w w') : OwnP w' B a c xs :=
  ⟨h.row.below hb, fun x hx => (h.ins x hx).below hb, h.apart⟩
theorem OwnP.mono {w : World} {B B' : Nat} {a : Option Addr} {c : Nat} {xs : List PV} (h : OwnP w B a c xs) (hB : B' ≤ B) : OwnP w B' a c xs :=
  ⟨h.row.mono hB, fun x hx => (h.ins x hx).mono hB, h.apart⟩
theorem OwnP.inn {w : World} {B : Nat} {a : Option Addr} {c : Nat} {xs : List PV} (h : OwnP w B a c xs) : InP w xs := fun x hx => (h.ins x hx).rd
theorem OwnI.capI {w : World} {B : Nat} {a : Option Addr} {c : Nat} {zs : List Int} (h : OwnI w B a c zs) : zs.length ≤ c ∧ c ≤ maxLen := by
  rcases h.2.2 with ⟨h1, h0⟩ | ⟨g, cap, cur, hv, hb, hg, hnc, hcm, _⟩
  · injection h1 with _ _ h3
    omega
  · injection hv with _ _ h3
    omega

/-- How many numbers the lists have. -/
def szP (xs : List PV) : Int := (xs.map fun x => (x.pa.size : Int) + x.zs.length).sum

theorem szP_cons (x : PV) (xs : List PV) : szP (x :: xs) = x.pa.size + x.zs.length + szP xs := by simp [szP]
theorem szP_nonneg (xs : List PV) : 0 ≤ szP xs := by
  induction xs with
  | nil => simp [szP]
  | cons x xs ih => rw [szP_cons]; omega
theorem szP_mem {xs : List PV} {x : PV} (h : x ∈ xs) : (x.pa.size : Int) + x.zs.length ≤ szP xs := by
  induction xs with
  | nil => cases h
  | cons y ys ih =>
    rw [szP_cons]
    rcases List.mem_cons.1 h with rfl | h
    · have := szP_nonneg ys; omega
    · have := ih h; omega
theorem szP_drop {xs : List PV} {k : Nat} {x : PV} (h : xs[k]? = some x) : szP (xs.drop k) = x.pa.size + x.zs.length + szP (xs.drop (k + 1)) := by
  obtain ⟨hk, rfl⟩ := List.getElem?_eq_some_iff.1 h
  rw [List.drop_eq_getElem_cons hk, szP_cons]

/-- What a size that is asked leaves. -/
def leftP (l s : Int) : Int := if l - s < 0 then -1 else l - s

set_option maxHeartbeats 400000 in
theorem szItem_any (x : PV) (l : Int) (w : World) (h0 : 0 ≤ l) (h1 : l ≤ 4611686018427387904) (hp : x.pa.size ≤ maxLen) (hx : x.zs.length ≤ maxLen) :
    Calls Try.prog 41 #[.agg #[.string x.pa, .bool x.dr, .slice x.ad x.zs.length x.cp], .int .i64 l] w (RetB w (.int .i64 (leftP l (x.pa.size + x.zs.length)))) := by
  unfold maxLen at hx hp
  obtain ⟨n, hn⟩ : ∃ n, x.zs.length = n := ⟨_, rfl⟩
  obtain ⟨p, hpp⟩ : ∃ p, x.pa.size = p := ⟨_, rfl⟩
  rw [hn] at hx ⊢
  rw [hpp] at hp ⊢
  have hq : x.pa.size ≤ 9223372036854775807 := by rw [hpp]; exact hp
  clear hn
  by_cases a0 : l - p < 0
  · have hr : leftP l (p + n) = -1 := by unfold leftP; rw [if_pos (by omega)]
    rw [hr]
    clear hr
    have d0 : decide (l - (x.pa.size : Int) < 0) = true := by rw [hpp]; simpa using a0
    clear hpp
    go_enter Try.func41, Try.ntmps41
    go_wp2
    go_ret
    exact ⟨rfl, (Below.refl _ _).alloc (Nat.le_refl _) _⟩
  have d0 : decide (l - (x.pa.size : Int) < 0) = false := by rw [hpp]; simpa using a0
  by_cases a1 : l - p - n < 0
  · have hr : leftP l (p + n) = -1 := by unfold leftP; rw [if_pos (by omega)]
    rw [hr]
    clear hr
    have d1 : decide (l - (x.pa.size : Int) - (n : Int) < 0) = true := by rw [hpp]; simpa using a1
    have b0 : (0 : Int) ≤ l - (x.pa.size : Int) := by rw [hpp]; omega
    clear hpp
    go_enter Try.func41, Try.ntmps41
    go_wp2
    go_ret
    exact ⟨rfl, (Below.refl _ _).alloc (Nat.le_refl _) _⟩
  · have hr : leftP l (p + n) = l - x.pa.size - n := by rw [hpp]; unfold leftP; rw [if_neg (by omega)]; omega
    rw [hr]
    clear hr
    have d1 : decide (l - (x.pa.size : Int) - (n : Int) < 0) = false := by rw [hpp]; simpa using a1
    have b0 : (0 : Int) ≤ l - (x.pa.size : Int) := by rw [hpp]; omega
    clear hpp
    go_enter Try.func41, Try.ntmps41
    go_wp2
    go_ret
    exact ⟨rfl, (Below.refl _ _).alloc (Nat.le_refl _) _⟩

set_option maxHeartbeats 400000 in
theorem szChange_any (x : PV) (l : Int) (w : World) (h0 : 0 ≤ l) (h1 : l ≤ 4611686018427387904) (hp : x.pa.size ≤ maxLen) (hx : x.zs.length ≤ maxLen) :
    Calls Try.prog 31 #[.agg #[.int .i64 x.kd, .string x.pa, .bool x.dr, .slice x.ad x.zs.length x.cp], .int .i64 l] w (RetB w (.int .i64 (leftP l (x.pa.size + x.zs.length)))) := by
  have K := fun W => szItem_any x l W h0 h1 hp hx
  have hb0 : ∀ o0, Below w.heap.size w (w.alloc o0) := fun o0 => (Below.refl _ _).alloc (Nat.le_refl _) _
  obtain ⟨r, hr⟩ : ∃ r, leftP l (x.pa.size + x.zs.length) = r := ⟨_, rfl⟩
  have hr2 : r < 0 → r = -1 := by intro h; rw [← hr] at h ⊢; unfold leftP at h ⊢; split at h <;> simp_all <;> omega
  rw [hr] at K ⊢
  clear hr
  by_cases hneg : r < 0
  · obtain rfl := hr2 hneg
    clear hneg hr2
    go_enter Try.func31, Try.ntmps31
    go_wp2_with fail
    with_reducible refine (K _).mono ?_
    rintro e w1 ⟨rfl, hb⟩
    have hb1 := (hb0 _).trans (hb.mono (hb0 _).size)
    clear K hb
    go_wp2
    go_ret
    exact ⟨rfl, hb1⟩
  · have d0 : decide (r < 0) = false := by simpa using hneg
    clear hr2
    go_enter Try.func31, Try.ntmps31
    go_wp2_with fail
    with_reducible refine (K _).mono ?_
    rintro e w1 ⟨rfl, hb⟩
    have hb1 := (hb0 _).trans (hb.mono (hb0 _).size)
    clear K hb
    go_wp2
    go_ret
    exact ⟨rfl, hb1⟩

theorem szChangeS_big (a : Option Addr) (n c : Nat) (l : Int) (w : World) (hl : 0 ≤ l ∧ l ≤ 1099511627776) (hn : 4611686018427387904 < n ∧ n ≤ 9223372036854775807) :
    Calls Try.prog 13 #[.slice a n c, .int .i64 l] w (RetB w (.int .i64 (-1))) := by
  have d1 : decide (l - (n : Int) < 0) = true := by simp; omega
  go_enter Try.func13, Try.ntmps13
  go_wp2
  go_ret
  exact ⟨rfl, Below.refl _ _⟩

set_option maxHeartbeats 400000 in
theorem szChangeS_any (a : Option Addr) (n c : Nat) (xs : List PV) (l : Int) (w : World) (hr : RdR eltGL w a n xs) (hwf : WfP xs) (hn : n ≤ 4611686018427387904) (h0 : 0 ≤ l) (h1 : l ≤ 1099511627776) :
    Calls Try.prog 13 #[.slice a n c, .int .i64 l] w (RetB w (.int .i64 (leftP l (n + szP xs)))) := by
  have hsn := szP_nonneg xs
  by_cases a1 : l - n < 0
  · have hrr : leftP l (n + szP xs) = -1 := by unfold leftP; rw [if_pos (by omega)]
    rw [hrr]
    clear hrr
    have d1 : decide (l - (n : Int) < 0) = true := by simpa using a1
    go_enter Try.func13, Try.ntmps13
    go_wp2
    go_ret
    exact ⟨rfl, Below.refl _ _⟩
  have d1 : decide (l - (n : Int) < 0) = false := by simpa using a1
  have hl := Lib.hid hr.1
  have HW := Lib.hid hwf
  clear hwf
  go_enter Try.func13, Try.ntmps13
  go_wp2
  go_loopw [1, 5] (fun v i wr => ∃ k : Nat, k ≤ n ∧ i = .int .i64 k ∧ ∃ q : Int, v = .int .i64 q ∧ 0 ≤ q ∧ q ≤ 1099511627776 ∧ Hid (leftP l (n + szP xs) = leftP q (szP (xs.drop k))) ∧ Below w.heap.size w wr)
    (fun _ i _ => n - (intOf i).toNat)
  case atStart => exact ⟨0, Nat.zero_le _, rfl, l - n, rfl, by omega, by omega, Lib.hid (by rw [List.drop_zero]; unfold leftP; rw [show l - (n + szP xs) = l - n - szP xs by omega]), Below.refl _ _⟩
  case round =>
    obtain ⟨k, hk, rfl, q, rfl, q0, q1, he, hb⟩ := hrel
    by_cases hlt : k < n
    · obtain ⟨b, off, x, rfl, hbl, hx, c0, c1, c2, c3⟩ := atGL (hr.below hb) hlt
      have hd := szP_drop hx
      have hw := HW.out x (List.mem_of_getElem? hx)
      have hnn := szP_nonneg (xs.drop (k + 1))
      have HD := Lib.hid hd
      have HS := Lib.hid hnn
      clear hd hx hnn
      go_wp2_with fail
      with_reducible refine (szChange_any x q _ q0 (by omega) hw.2.2.1 hw.2.1).mono ?_
      rintro e w2 ⟨rfl, hb2⟩
      have hb3 := hb.trans (hb2.mono hb.size)
      clear hb2 hb
      by_cases a2 : q - (x.pa.size + x.zs.length) < 0
      · have hq : leftP q (x.pa.size + x.zs.length) = -1 := by unfold leftP; rw [if_pos a2]
        have HR : Hid (leftP l (n + szP xs) = -1) := Lib.hid (by
          rw [he.out, HD.out]; have := HS.out; unfold leftP; rw [if_pos (by omega)])
        rw [hq]
        clear hq
        go_wp2
        go_ret
        rw [HR.out]
        exact ⟨rfl, hb3⟩
      · have hq : leftP q (x.pa.size + x.zs.length) = q - (x.pa.size + x.zs.length) := by unfold leftP; rw [if_neg a2]
        obtain ⟨q', hq'⟩ : ∃ q', q - (x.pa.size + x.zs.length : Int) = q' := ⟨_, rfl⟩
        have HR : Hid (leftP l (n + szP xs) = leftP q' (szP (xs.drop (k + 1)))) := Lib.hid (by
          rw [he.out, HD.out, ← hq']; unfold leftP
          rw [show q - (x.pa.size + x.zs.length + szP (xs.drop (k + 1))) = q - (x.pa.size + x.zs.length) - szP (xs.drop (k + 1)) by omega])
        rw [hq, hq']
        have d2 : decide (q' < 0) = false := by simp; omega
        have e1 : q' ≤ 1099511627776 := by omega
        have e0 : 0 ≤ q' := by omega
        clear hq hq' he
        go_wp2
        go_roundw
        case rel => exact ⟨k + 1, by omega, by go_num, q', rfl, e0, e1, HR, hb3⟩
        case measure => simp [intOf]; omega
    · obtain rfl : k = n := by omega
      have HR : Hid (leftP l (k + szP xs) = q) := Lib.hid (by
        rw [he.out, List.drop_of_length_le (by have := hl.out; omega)]; unfold leftP; rw [if_neg (by simp [szP]; omega)]; simp [szP])
      go_wp2
      go_ret
      rw [HR.out]
      exact ⟨rfl, hb⟩

/-- One element was copied. -/
def RetOneP (w : World) (x : PV) (e : Ending) (w' : World) : Prop :=
  ∃ a c, e = .returned (.agg #[.int .i64 x.kd, .string x.pa, .bool x.dr, .slice a x.zs.length c]) ∧ OwnI w' w.heap.size a c x.zs ∧ Below w.heap.size w w'

theorem heap3 (w w1 : World) (o0 o1 o2 : Obj) (hb : Below (((w.alloc o0).alloc o1).alloc o2).heap.size (((w.alloc o0).alloc o1).alloc o2) w1) :
    w1.heap[w.heap.size]? = some o0 ∧ w1.heap[w.heap.size + 1]? = some o1 ∧ w1.heap[w.heap.size + 1 + 1]? = some o2 ∧ w.heap.size + 3 ≤ w1.heap.size ∧ Below w.heap.size w w1 := by
  have s1 : (w.alloc o0).heap.size = w.heap.size + 1 := by simp
  have s2 : ((w.alloc o0).alloc o1).heap.size = w.heap.size + 2 := by simp
  have s3 : (((w.alloc o0).alloc o1).alloc o2).heap.size = w.heap.size + 3 := by simp
  have hz := hb.size
  rw [s3] at hz
  refine ⟨?_, ?_, ?_, hz, (((Below.refl _ _).alloc (Nat.le_refl _) _).alloc (by omega) _ |>.alloc (by omega) _).trans (hb.mono (by omega))⟩
  · rw [hb.block _ (by omega), heap_alloc_old, heap_alloc_old, heap_alloc_new]
    · omega
    · omega
  · rw [hb.block _ (by omega), heap_alloc_old, ← s1, heap_alloc_new]
    omega
  · rw [hb.block _ (by omega), show w.heap.size + 1 + 1 = ((w.alloc o0).alloc o1).heap.size by omega, heap_alloc_new]

theorem OwnI.set_below {w : World} {B : Nat} {a : Option Addr} {c : Nat} {zs : List Int} (h : OwnI w B a c zs) {p : Addr} (hp : p.block < B) (u : Value) : OwnI (w.setCell p u) B a c zs := ⟨h.1, ownsRow_setCell_below h.2 hp u⟩

theorem set4 (w1 : World) (R O : Nat) (hRO : R ≠ O) (T : TypeId) (u0 u1 u2 u3 p v0 v1 v2 v3 : Value) (h : w1.heap[R]? = some (.cells #[u0, u1, u2, u3] T (0, 0))) :
    (((((w1.setCell ⟨O, 3, none⟩ p).setCell ⟨R, 0, none⟩ v0).setCell ⟨R, 1, none⟩ v1).setCell ⟨R, 2, none⟩ v2).setCell ⟨R, 3, none⟩ v3).cell? ⟨R, 0, none⟩ = some v0 ∧
    (((((w1.setCell ⟨O, 3, none⟩ p).setCell ⟨R, 0, none⟩ v0).setCell ⟨R, 1, none⟩ v1).setCell ⟨R, 2, none⟩ v2).setCell ⟨R, 3, none⟩ v3).cell? ⟨R, 1, none⟩ = some v1 ∧
    (((((w1.setCell ⟨O, 3, none⟩ p).setCell ⟨R, 0, none⟩ v0).setCell ⟨R, 1, none⟩ v1).setCell ⟨R, 2, none⟩ v2).setCell ⟨R, 3, none⟩ v3).cell? ⟨R, 2, none⟩ = some v2 ∧
    (((((w1.setCell ⟨O, 3, none⟩ p).setCell ⟨R, 0, none⟩ v0).setCell ⟨R, 1, none⟩ v1).setCell ⟨R, 2, none⟩ v2).setCell ⟨R, 3, none⟩ v3).cell? ⟨R, 3, none⟩ = some v3 := by
  have e1 := (heap_setCell_other w1 ⟨O, 3, none⟩ R p (by simpa using hRO)).trans h
  have e2 := heap_setCell_same _ R 0 _ _ v0 e1
  have e3 := heap_setCell_same _ R 1 _ _ v1 e2
  have e4 := heap_setCell_same _ R 2 _ _ v2 e3
  have e5 := heap_setCell_same _ R 3 _ _ v3 e4
  refine ⟨?_, ?_, ?_, ?_⟩
  · rw [cell_of_row _ R 0 _ _ (0, 0) e5]; rfl
  · rw [cell_of_row _ R 1 _ _ (0, 0) e5]; rfl
  · rw [cell_of_row _ R 2 _ _ (0, 0) e5]; rfl
  · rw [cell_of_row _ R 3 _ _ (0, 0) e5]; rfl

/-- One item was copied. -/
def RetItem (w : World) (x : PV) (e : Ending) (w' : World) : Prop :=
  ∃ a c, e = .returned (.agg #[.string x.pa, .bool x.dr, .slice a x.zs.length c]) ∧ OwnI w' w.heap.size a c x.zs ∧ Below w.heap.size w w'

theorem set3 (w1 : World) (R O : Nat) (hRO : R ≠ O) (T : TypeId) (u0 u1 u2 p v0 v1 v2 : Value) (h : w1.heap[R]? = some (.cells #[u0, u1, u2] T (0, 0))) :
    ((((w1.setCell ⟨O, 2, none⟩ p).setCell ⟨R, 0, none⟩ v0).setCell ⟨R, 1, none⟩ v1).setCell ⟨R, 2, none⟩ v2).cell? ⟨R, 0, none⟩ = some v0 ∧
    ((((w1.setCell ⟨O, 2, none⟩ p).setCell ⟨R, 0, none⟩ v0).setCell ⟨R, 1, none⟩ v1).setCell ⟨R, 2, none⟩ v2).cell? ⟨R, 1, none⟩ = some v1 ∧
    ((((w1.setCell ⟨O, 2, none⟩ p).setCell ⟨R, 0, none⟩ v0).setCell ⟨R, 1, none⟩ v1).setCell ⟨R, 2, none⟩ v2).cell? ⟨R, 2, none⟩ = some v2 := by
  have e1 := (heap_setCell_other w1 ⟨O, 2, none⟩ R p (by simpa using hRO)).trans h
  have e2 := heap_setCell_same _ R 0 _ _ v0 e1
  have e3 := heap_setCell_same _ R 1 _ _ v1 e2
  have e4 := heap_setCell_same _ R 2 _ _ v2 e3
  refine ⟨?_, ?_, ?_⟩
  · rw [cell_of_row _ R 0 _ _ (0, 0) e4]; rfl
  · rw [cell_of_row _ R 1 _ _ (0, 0) e4]; rfl
  · rw [cell_of_row _ R 2 _ _ (0, 0) e4]; rfl

set_option maxHeartbeats 400000 in
theorem toItem_any (x : PV) (w : World) (hr : RdI w x.ad x.zs.length x.zs) (hwf : WfI x.zs) (hn : x.zs.length ≤ 1048576) :
    Calls Try.prog 42 #[.agg #[.string x.pa, .bool x.dr, .slice x.ad x.zs.length x.cp]] w (RetItem w x) := by
  have hbw : ∀ o0 o1 o2, Below w.heap.size w (((w.alloc o0).alloc o1).alloc o2) := fun o0 o1 o2 => ((Below.refl _ _).alloc (Nat.le_refl _) _).alloc (by simp) _ |>.alloc (by simp; omega) _
  go_enter Try.func42, Try.ntmps42
  go_wp2_with fail
  with_reducible refine (toIntS_any x.ad x.zs.length x.cp x.zs _ (hr.below (hbw _ _ _)) hwf hn).mono ?_
  rintro e w1 ⟨a1, c1, rfl, ho, hb⟩
  have hh := heap3 _ _ _ _ _ hb
  have r0 := cell_of_row w1 (w.heap.size + 1) 0 _ _ (0, 0) hh.2.1
  have r1 := cell_of_row w1 (w.heap.size + 1) 1 _ _ (0, 0) hh.2.1
  have r2 := cell_of_row w1 (w.heap.size + 1) 2 _ _ (0, 0) hh.2.1
  have o0 := cell_of_row w1 (w.heap.size + 1 + 1) 0 _ _ (0, 0) hh.2.2.1
  have o1 := cell_of_row w1 (w.heap.size + 1 + 1) 1 _ _ (0, 0) hh.2.2.1
  have o2 := cell_of_row w1 (w.heap.size + 1 + 1) 2 _ _ (0, 0) hh.2.2.1
  have f0 := frozen_of_row w1 (w.heap.size + 1) 0 _ _ hh.2.1
  have f1 := frozen_of_row w1 (w.heap.size + 1) 1 _ _ hh.2.1
  have f2 := frozen_of_row w1 (w.heap.size + 1) 2 _ _ hh.2.1
  have g2 := frozen_of_row w1 (w.heap.size + 1 + 1) 2 _ _ hh.2.2.1
  obtain ⟨k0, k1, k2⟩ := set3 w1 (w.heap.size + 1) (w.heap.size + 1 + 1) (by omega) _ _ _ _ (.slice a1 x.zs.length c1) (.string x.pa) (.bool x.dr) (.slice a1 x.zs.length c1) hh.2.1
  have HB := Lib.hid hh.2.2.2
  have HO := Lib.hid (ho.mono (show w.heap.size + 3 ≤ _ by simp))
  have K0 := Lib.hid k0
  have K1 := Lib.hid k1
  have K2 := Lib.hid k2
  simp only [List.getElem?_toArray, List.getElem?_cons_zero, List.getElem?_cons_succ] at r0 r1 r2 o0 o1 o2
  clear hh hb ho hr hbw k0 k1 k2
  go_wp2
  have k0 := K0.out
  have k1 := K1.out
  have k2 := K2.out
  refine bodyPost_ret (v := .agg #[.string x.pa, .bool x.dr, .slice a1 x.zs.length c1]) ?_ rfl ⟨a1, c1, rfl, ?_, ?_⟩
  · simp [results, Try.results42, go_sem, k0, k1, k2]
  · exact (((((HO.out.set_below (by simp <;> omega) _).set_below (by simp <;> omega) _).set_below (by simp <;> omega) _).set_below (by simp <;> omega) _)).mono (by omega)
  · exact (((HB.out.2.setCell (by simp <;> omega) _).setCell (by simp <;> omega) _).setCell (by simp <;> omega) _).setCell (by simp <;> omega) _

theorem set34 (w1 : World) (R O : Nat) (hRO : R ≠ O) (T : TypeId) (u0 u1 u2 u3 p1 p2 p3 v0 v1 v2 v3 : Value) (h : w1.heap[R]? = some (.cells #[u0, u1, u2, u3] T (0, 0))) :
    (((((((w1.setCell ⟨O, 1, none⟩ p1).setCell ⟨O, 2, none⟩ p2).setCell ⟨O, 3, none⟩ p3).setCell ⟨R, 0, none⟩ v0).setCell ⟨R, 1, none⟩ v1).setCell ⟨R, 2, none⟩ v2).setCell ⟨R, 3, none⟩ v3).cell? ⟨R, 0, none⟩ = some v0 ∧
    (((((((w1.setCell ⟨O, 1, none⟩ p1).setCell ⟨O, 2, none⟩ p2).setCell ⟨O, 3, none⟩ p3).setCell ⟨R, 0, none⟩ v0).setCell ⟨R, 1, none⟩ v1).setCell ⟨R, 2, none⟩ v2).setCell ⟨R, 3, none⟩ v3).cell? ⟨R, 1, none⟩ = some v1 ∧
    (((((((w1.setCell ⟨O, 1, none⟩ p1).setCell ⟨O, 2, none⟩ p2).setCell ⟨O, 3, none⟩ p3).setCell ⟨R, 0, none⟩ v0).setCell ⟨R, 1, none⟩ v1).setCell ⟨R, 2, none⟩ v2).setCell ⟨R, 3, none⟩ v3).cell? ⟨R, 2, none⟩ = some v2 ∧
    (((((((w1.setCell ⟨O, 1, none⟩ p1).setCell ⟨O, 2, none⟩ p2).setCell ⟨O, 3, none⟩ p3).setCell ⟨R, 0, none⟩ v0).setCell ⟨R, 1, none⟩ v1).setCell ⟨R, 2, none⟩ v2).setCell ⟨R, 3, none⟩ v3).cell? ⟨R, 3, none⟩ = some v3 := by
  have d1 := (heap_setCell_other w1 ⟨O, 1, none⟩ R p1 (by simpa using hRO)).trans h
  have d2 := (heap_setCell_other _ ⟨O, 2, none⟩ R p2 (by simpa using hRO)).trans d1
  have e1 := (heap_setCell_other _ ⟨O, 3, none⟩ R p3 (by simpa using hRO)).trans d2
  have e2 := heap_setCell_same _ R 0 _ _ v0 e1
  have e3 := heap_setCell_same _ R 1 _ _ v1 e2
  have e4 := heap_setCell_same _ R 2 _ _ v2 e3
  have e5 := heap_setCell_same _ R 3 _ _ v3 e4
  refine ⟨?_, ?_, ?_, ?_⟩
  · rw [cell_of_row _ R 0 _ _ (0, 0) e5]; rfl
  · rw [cell_of_row _ R 1 _ _ (0, 0) e5]; rfl
  · rw [cell_of_row _ R 2 _ _ (0, 0) e5]; rfl
  · rw [cell_of_row _ R 3 _ _ (0, 0) e5]; rfl

set_option maxHeartbeats 400000 in
theorem toChange_any (x : PV) (w : World) (hr : RdI w x.ad x.zs.length x.zs) (hwf : WfI x.zs) (hn : x.zs.length ≤ 1048576) :
    Calls Try.prog 33 #[.agg #[.int .i64 x.kd, .string x.pa, .bool x.dr, .slice x.ad x.zs.length x.cp]] w (RetOneP w x) := by
  have hbw : ∀ o0 o1 o2, Below w.heap.size w (((w.alloc o0).alloc o1).alloc o2) := fun o0 o1 o2 => ((Below.refl _ _).alloc (Nat.le_refl _) _).alloc (by simp) _ |>.alloc (by simp; omega) _
  go_enter Try.func33, Try.ntmps33
  go_wp2_with fail
  with_reducible refine (toItem_any x _ (hr.below (hbw _ _ _)) hwf hn).mono ?_
  rintro e w1 ⟨a1, c1, rfl, ho, hb⟩
  have hh := heap3 _ _ _ _ _ hb
  have r0 := cell_of_row w1 (w.heap.size + 1) 0 _ _ (0, 0) hh.2.1
  have r1 := cell_of_row w1 (w.heap.size + 1) 1 _ _ (0, 0) hh.2.1
  have r2 := cell_of_row w1 (w.heap.size + 1) 2 _ _ (0, 0) hh.2.1
  have r3 := cell_of_row w1 (w.heap.size + 1) 3 _ _ (0, 0) hh.2.1
  have o0 := cell_of_row w1 (w.heap.size + 1 + 1) 0 _ _ (0, 0) hh.2.2.1
  have o1 := cell_of_row w1 (w.heap.size + 1 + 1) 1 _ _ (0, 0) hh.2.2.1
  have o2 := cell_of_row w1 (w.heap.size + 1 + 1) 2 _ _ (0, 0) hh.2.2.1
  have o3 := cell_of_row w1 (w.heap.size + 1 + 1) 3 _ _ (0, 0) hh.2.2.1
  have f0 := frozen_of_row w1 (w.heap.size + 1) 0 _ _ hh.2.1
  have f1 := frozen_of_row w1 (w.heap.size + 1) 1 _ _ hh.2.1
  have f2 := frozen_of_row w1 (w.heap.size + 1) 2 _ _ hh.2.1
  have f3 := frozen_of_row w1 (w.heap.size + 1) 3 _ _ hh.2.1
  have g1 := frozen_of_row w1 (w.heap.size + 1 + 1) 1 _ _ hh.2.2.1
  have g2 := frozen_of_row w1 (w.heap.size + 1 + 1) 2 _ _ hh.2.2.1
  have g3 := frozen_of_row w1 (w.heap.size + 1 + 1) 3 _ _ hh.2.2.1
  have HB := Lib.hid hh.2.2.2
  have HO := Lib.hid (ho.mono (show w.heap.size + 3 ≤ _ by simp))
  have HR := Lib.hid hh.2.1
  simp only [List.getElem?_toArray, List.getElem?_cons_zero, List.getElem?_cons_succ] at r0 r1 r2 r3 o0 o1 o2 o3
  obtain ⟨k0, k1, k2, k3⟩ := set34 w1 (w.heap.size + 1) (w.heap.size + 1 + 1) (by omega) _ _ _ _ _ (.string x.pa) (.bool x.dr) (.slice a1 x.zs.length c1) (.int .i64 x.kd) (.string x.pa) (.bool x.dr) (.slice a1 x.zs.length c1) hh.2.1
  have K0 := Lib.hid k0
  have K1 := Lib.hid k1
  have K2 := Lib.hid k2
  have K3 := Lib.hid k3
  clear hh hb ho hr hbw k0 k1 k2 k3 HR
  go_wp2
  have k0 := K0.out
  have k1 := K1.out
  have k2 := K2.out
  have k3 := K3.out
  refine bodyPost_ret (v := .agg #[.int .i64 x.kd, .string x.pa, .bool x.dr, .slice a1 x.zs.length c1]) ?_ rfl ⟨a1, c1, rfl, ?_, ?_⟩
  · simp [results, Try.results33, go_sem, k0, k1, k2, k3]
  · exact ((((((((HO.out.set_below (by simp <;> omega) _).set_below (by simp <;> omega) _).set_below (by simp <;> omega) _).set_below (by simp <;> omega) _).set_below (by simp <;> omega) _).set_below (by simp <;> omega) _).set_below (by simp <;> omega) _)).mono (by omega)
  · exact ((((((HB.out.2.setCell (by simp <;> omega) _).setCell (by simp <;> omega) _).setCell (by simp <;> omega) _).setCell (by simp <;> omega) _).setCell (by simp <;> omega) _).setCell (by simp <;> omega) _).setCell (by simp <;> omega) _

/-- Elements were copied into new memory. -/
def RetPa (w : World) (xs : List PV) (e : Ending) (w' : World) : Prop :=
  ∃ ys a c, e = .returned (.slice a xs.length c) ∧ ys.length = xs.length ∧ valsP ys = valsP xs ∧ OwnP w' w.heap.size a c ys ∧ Below w.heap.size w w'

def pv0 : PV := ⟨0, ByteArray.empty, false, none, 0, []⟩

theorem pairwise_snoc {α : Type} {R : α → α → Prop} {xs : List α} {x : α} (h : xs.Pairwise R) (hx : ∀ y ∈ xs, R y x) : (xs ++ [x]).Pairwise R := by
  rw [List.pairwise_append]
  exact ⟨h, List.pairwise_singleton _ _, fun a ha b hb => by rw [List.mem_singleton] at hb; subst hb; exact hx a ha⟩

theorem OwnI.set_kind {w : World} {B g : Nat} {a : Option Addr} {c : Nat} {zs : List Int} (h : OwnI w B a c zs) {cs : Array Value} {T : TypeId} {fz : Nat × Nat} (hg : w.heap[g]? = some (.cells cs T fz)) (hT : T ≠ 3) {w' : World} (hw : w.grownBy w' (some g)) : OwnI w' B a c zs := by
  refine ⟨h.1, World.ownsRow.kept h.2 hw ?_⟩
  rcases h.2.2 with ⟨h1, _⟩ | ⟨g', cap, cur, hv, _, hg', _⟩
  · rw [h1]; exact .inl rfl
  · rw [hv]
    right
    intro e
    injection e with e
    simp only at e
    subst e
    rw [hg'] at hg
    injection hg with hg
    injection hg with _ hg
    exact hT hg.symm

theorem OwnR.heapAt {α : Type} {E : Elt α} {w : World} {B g : Nat} {c : Nat} {xs : List α} (h : OwnR E w B (some ⟨g, 0, none⟩) c xs) : ∃ cs, w.heap[g]? = some (.cells cs E.ty (0, 0)) := by
  rcases h.2 with ⟨h1, _⟩ | ⟨g', cap, cur, hv, _, hg, _⟩
  · cases h1
  · injection hv with hv
    injection hv with hv
    injection hv with hv
    subst hv
    exact ⟨_, hg⟩

theorem OwnI.blk {w : World} {B : Nat} {a : Option Addr} {c : Nat} {zs : List Int} (h : OwnI w B a c zs) : ∀ k, (Value.slice a zs.length c).ownBlock = some k → B ≤ k ∧ k < w.heap.size := fun k hk => World.ownsRow.lt h.2 k hk

set_option maxHeartbeats 1000000 in
theorem toChangeS_any (a : Option Addr) (n c : Nat) (xs : List PV) (w : World) (hr : RdR eltGL w a n xs) (hin : InP w xs) (hwf : WfP xs) (hn : n ≤ 1048576) (hs : ∀ x ∈ xs, x.zs.length ≤ 1048576) :
    Calls Try.prog 15 #[.slice a n c] w (RetPa w xs) := by
  go_enter Try.func15, Try.ntmps15
  go_wp2_with (at_make; refine wp_makeR eltG pv0 rfl rfl _ _ rfl n rfl rfl (by omega) ?_; intro w1 hown hg1)
  have hb1 : Below w.heap.size w w1 := (Below.refl _ _).grown hg1 (Nat.le_refl _) (fun k hk => by cases hk)
  have HZ := Lib.hid hr.1
  have HI := Lib.hid hin
  have HW := Lib.hid hwf
  have HS := Lib.hid hs
  clear hg1 hin hwf hs
  go_loopw [4] (fun i wr => ∃ k m : Nat, k + m = n ∧ i = .int .i64 k ∧ Below w.heap.size w wr ∧ ∃ ys : List PV, Hid (ys.length = k) ∧ Hid (valsP ys = valsP (xs.take k)) ∧ OwnR eltG wr w.heap.size (some { block := w.heap.size, off := 0 }) n (ys ++ List.replicate m pv0) ∧ Hid (∀ y ∈ ys, OwnI wr w.heap.size y.ad y.cp y.zs) ∧ Hid (ys.Pairwise apartP))
    (fun i _ => n - (intOf i).toNat)
  case atStart => exact ⟨0, n, by omega, rfl, hb1, [], Lib.hid rfl, Lib.hid rfl, hown, Lib.hid (by intro y hy; cases hy), Lib.hid List.Pairwise.nil⟩
  case round =>
    clear hown hb1
    obtain ⟨k, m, hk, rfl, hbr, ys, hyl, hyv, hor, hyi, hyp⟩ := hrel
    by_cases hlt : k < n
    · obtain ⟨m, rfl⟩ : ∃ m', m = m' + 1 := ⟨m - 1, by omega⟩
      obtain ⟨b, off, x, rfl, hbl, hx, c0, c1, c2, c3⟩ := atGL (hr.below hbr) hlt
      have hmem := List.mem_of_getElem? hx
      have HX := Lib.hid hx
      clear hx
      have hw1 := (HW.out x hmem).1
      have hw2 := HS.out x hmem
      have hw3 := (HI.out x hmem).below hbr
      go_wp2_with fail
      with_reducible refine (toChange_any x _ hw3 hw1 hw2).mono ?_
      rintro e w2 ⟨a2, c2, rfl, hoi, hb2⟩
      have ho2 := hor.below hb2
      have hb3 := hbr.trans (hb2.mono hbr.size)
      have hkl : k < (ys ++ List.replicate (m + 1) pv0).length := by rw [List.length_append, hyl.out, List.length_replicate]; omega
      have hxo : (ys ++ List.replicate (m + 1) pv0)[k]? = some pv0 := by
        rw [List.getElem?_append_right (by rw [hyl.out]; exact Nat.le_refl _), hyl.out, Nat.sub_self]; rfl
      obtain ⟨⟨q0, q1, q2, q3⟩, f0, f1, f2, f3⟩ := cellsG ho2 hxo
      have hput := putG ho2 k hkl ⟨x.kd, x.pa, x.dr, a2, c2, x.zs⟩
      obtain ⟨cs, hcs⟩ := ho2.heapAt
      have hs := hput.1
      rw [set_next _ _ _ _ _ hyl.out] at hs
      have HT := Lib.hid hs
      have hyl2 : Hid ((ys ++ [(⟨x.kd, x.pa, x.dr, a2, c2, x.zs⟩ : PV)]).length = k + 1) := Lib.hid (by rw [List.length_append, hyl.out]; rfl)
      have hyv2 : Hid (valsP (ys ++ [(⟨x.kd, x.pa, x.dr, a2, c2, x.zs⟩ : PV)]) = valsP (xs.take (k + 1))) := Lib.hid (by
        obtain ⟨h1, h2⟩ := List.getElem?_eq_some_iff.1 HX.out
        rw [List.take_succ_eq_append_getElem h1, h2]
        unfold valsP at hyv ⊢
        rw [List.map_append, List.map_append, hyv.out]
        rfl)
      have hyi2 := Lib.hid (fun y (hy : y ∈ ys ++ [(⟨x.kd, x.pa, x.dr, a2, c2, x.zs⟩ : PV)]) => (show OwnI _ w.heap.size y.ad y.cp y.zs by
        rcases List.mem_append.1 hy with hy | hy
        · exact ((hyi.out y hy).below hb2).set_kind hcs (by decide) hput.2
        · rw [List.mem_singleton] at hy
          subst hy
          exact (hoi.mono hbr.size).set_kind hcs (by decide) hput.2))
      have hyp2 := Lib.hid (pairwise_snoc hyp.out (x := (⟨x.kd, x.pa, x.dr, a2, c2, x.zs⟩ : PV)) (fun y hy r s h1 h2 => by
        have := ((hyi.out y hy).blk r h1).2
        have := (hoi.blk s h2).1
        omega))
      clear hput hs ho2 hkl hxo hb2 hor hoi hcs hbr
      go_wp2
      go_roundw
      case rel => exact ⟨k + 1, m, by omega, by go_num, (((hb3.setCell (Nat.le_refl _) _).setCell (Nat.le_refl _) _).setCell (Nat.le_refl _) _).setCell (Nat.le_refl _) _, _, hyl2, hyv2, HT.out, hyi2, hyp2⟩
      case measure => simp [intOf]; omega
    · obtain rfl : m = 0 := by omega
      obtain rfl : k = n := by omega
      go_wp2
      go_ret
      have h := hor
      rw [List.replicate_zero, List.append_nil] at h
      have hz := HZ.out
      refine ⟨ys, _, k, by rw [hz]; rfl, by rw [hyl.out, hz], by rw [hyv.out, List.take_of_length_le (by omega)], ⟨h, hyi.out, hyp.out⟩, hbr⟩

theorem eqI_self (xs : List Int) : eqI xs xs = true := by simp [eqI]

set_option maxHeartbeats 400000 in
theorem eqItem_self (u : ByteArray) (t : Bool) (a a' : Option Addr) (c c' : Nat) (zs : List Int) (w : World) (hr : RdI w a zs.length zs) (hr' : RdI w a' zs.length zs) (hn : zs.length ≤ 4611686018427387904) :
    Calls Try.prog 43 #[.agg #[.string u, .bool t, .slice a zs.length c], .agg #[.string u, .bool t, .slice a' zs.length c']] w (RetB w (.bool true)) := by
  have t2 : (u.toList != u.toList) = false := by simp
  have t3 : (t != t) = false := by simp
  have t4 : (u.toList == u.toList) = true := by simp
  have hb0 : ∀ o0 o1, Below w.heap.size w ((w.alloc o0).alloc o1) := fun o0 o1 => ((Below.refl _ _).alloc (Nat.le_refl _) _).alloc (by simp) _
  go_enter Try.func43, Try.ntmps43
  go_wp2_with fail
  with_reducible refine (eqIntS_any a a' zs.length zs.length c c' zs zs _ (hr.below (hb0 _ _)) (hr'.below (hb0 _ _)) hn hn).mono ?_
  rintro e w1 ⟨rfl, m, rfl⟩
  rw [eqI_self]
  go_wp2
  go_ret
  exact ⟨rfl, below_drewNP (hb0 _ _) m⟩

set_option maxHeartbeats 400000 in
theorem eqChange_self (x y : PV) (hxy : x.val = y.val) (w : World) (hr : RdI w x.ad x.zs.length x.zs) (hr' : RdI w y.ad y.zs.length y.zs) (hn : x.zs.length ≤ 4611686018427387904) :
    Calls Try.prog 34 #[.agg #[.int .i64 x.kd, .string x.pa, .bool x.dr, .slice x.ad x.zs.length x.cp], .agg #[.int .i64 y.kd, .string y.pa, .bool y.dr, .slice y.ad y.zs.length y.cp]] w (RetB w (.bool true)) := by
  obtain ⟨i, u, t, a, c, zs⟩ := x
  obtain ⟨i', u', t', a', c', zs'⟩ := y
  simp only [PV.val, Prod.mk.injEq] at hxy
  obtain ⟨rfl, rfl, rfl, rfl⟩ := hxy
  simp only at hr hr' hn ⊢
  have t1 : (i != i) = false := by simp
  have hb0 : ∀ o0 o1, Below w.heap.size w ((w.alloc o0).alloc o1) := fun o0 o1 => ((Below.refl _ _).alloc (Nat.le_refl _) _).alloc (by simp) _
  go_enter Try.func34, Try.ntmps34
  go_wp2_with fail
  with_reducible refine (eqItem_self u t a a' c c' zs _ (hr.below (hb0 _ _)) (hr'.below (hb0 _ _)) hn).mono ?_
  rintro e w1 ⟨rfl, hb⟩
  have hb2 := (hb0 _ _).trans (hb.mono (hb0 _ _).size)
  go_wp2
  go_ret
  exact ⟨rfl, hb2⟩

set_option maxHeartbeats 1000000 in
theorem eqChangeS_self (a a' : Option Addr) (n c c' : Nat) (xs ys : List PV) (hv : valsP xs = valsP ys) (w : World) (hr : RdR eltG w a n xs) (hr' : RdR eltG w a' n ys) (hi : InP w xs) (hi' : InP w ys) (hn : n ≤ 4611686018427387904) (hs : ∀ x ∈ xs, x.zs.length ≤ 4611686018427387904) :
    Calls Try.prog 18 #[.slice a n c, .slice a' n c'] w (RetB w (.bool true)) := by
  have PV' := Lib.hid hv
  have HI := Lib.hid hi
  have HI' := Lib.hid hi'
  have HS := Lib.hid hs
  clear hv hi hi' hs
  go_enter Try.func18, Try.ntmps18
  go_wp2
  go_loopw [5] (fun i wr => ∃ k : Nat, k ≤ n ∧ i = .int .i64 k ∧ Below w.heap.size w wr)
    (fun i _ => n - (intOf i).toNat)
  case atStart => exact ⟨0, Nat.zero_le _, rfl, Below.refl _ _⟩
  case round =>
    obtain ⟨k, hk, rfl, hbr⟩ := hrel
    by_cases hlt : k < n
    · obtain ⟨b, off, x, rfl, hbl, hx, c0, c1, c2, c3⟩ := atG (hr.below hbr) hlt
      obtain ⟨b', off', y, rfl, hbl', hy, c0', c1', c2', c3'⟩ := atG (hr'.below hbr) hlt
      have hxy : x.val = y.val := by
        have h1 : (valsP xs)[k]? = some x.val := by unfold valsP; rw [List.getElem?_map, hx]; rfl
        have h2 : (valsP ys)[k]? = some y.val := by unfold valsP; rw [List.getElem?_map, hy]; rfl
        rw [PV'.out, h2] at h1
        exact (Option.some.inj h1).symm
      have hr1 := (HI.out x (List.mem_of_getElem? hx)).below hbr
      have hr2 := (HI'.out y (List.mem_of_getElem? hy)).below hbr
      have hs1 := HS.out x (List.mem_of_getElem? hx)
      have HXY := Lib.hid hxy
      have HR1 := Lib.hid hr1
      have HR2 := Lib.hid hr2
      clear hx hy hxy hr1 hr2
      have hk0 : (0 : Int) ≤ (k : Int) := by omega
      have hk1 : (k : Int) < (n : Int) := by omega
      have hbd' : Below w.heap.size w wr.drew := below_drewNP hbr 1
      go_wp2
      go_still_tail 8, (by kernel_rfl)
      change wpList _ _ _ _ _ wr.drew
      have HQ1 : Hid (RdI wr.drew x.ad x.zs.length x.zs) := Lib.hid HR1.out
      have HQ2 : Hid (RdI wr.drew y.ad y.zs.length y.zs) := Lib.hid HR2.out
      clear HR1 HR2
      generalize wr.drew = W at hbd' HQ1 HQ2 ⊢
      go_wp2_with fail
      with_reducible refine (eqChange_self x y HXY.out _ HQ1.out HQ2.out hs1).mono ?_
      rintro e w2 ⟨rfl, hb2⟩
      have hb3 := hbd'.trans (hb2.mono hbd'.size)
      clear hb2
      go_wp2
      go_roundw
      case rel => exact ⟨k + 1, by omega, by go_num, hb3⟩
      case measure => simp [intOf]; omega
    · obtain rfl : k = n := by omega
      go_wp2
      go_ret
      exact ⟨rfl, hbr⟩

end Go.Proofs.Ytdjpaibjelfhnaa
