/- Contracts of impl's space: free, give, take, two words of bits behind a pointer. -/
import Derived.Test.YthcjelijpeddbaaPlainBits
import Derived.Test.YthcjelijpeddbaaValidX
import Derived.Test.YthcjelijpeddbaaDrawn
import Derived.BigQuiet
import Derived.Deep.QuietTactic
import Derived.StillTailTactics
import Derived.Outline
namespace Go.Proofs.Ythcjelijpeddbaa
open Go.RowKit
set_option linter.unusedVariables false

/-- Block g is a space, whose two words are x and y. -/
def SpX (w : World) (g x y : Nat) : Prop :=
  x < 18446744073709551616 ∧ y < 18446744073709551616 ∧ w.heap[g]? = some (.cells #[.int .u64 x, .int .u64 y] 65 (0, 0))

theorem SpX.cells {w : World} {g x y : Nat} (h : SpX w g x y) : w.cell? ⟨g, 0, none⟩ = some (.int .u64 x) ∧ w.cell? ⟨g, 1, none⟩ = some (.int .u64 y) ∧ w.frozen? ⟨g, 0, none⟩ = false ∧ w.frozen? ⟨g, 1, none⟩ = false := by
  obtain ⟨_, _, hh⟩ := h
  refine ⟨?_, ?_, frozen_of_row w g 0 _ _ hh, frozen_of_row w g 1 _ _ hh⟩
  · rw [cell_of_row w g 0 _ _ (0, 0) hh]; rfl
  · rw [cell_of_row w g 1 _ _ (0, 0) hh]; rfl

theorem SpX.lt {w : World} {g x y : Nat} (h : SpX w g x y) : g < w.heap.size := (Array.getElem?_eq_some_iff.1 h.2.2).1

theorem SpX.below {w w' : World} {g x y : Nat} (h : SpX w g x y) (hb : Below w.heap.size w w') : SpX w' g x y :=
  ⟨h.1, h.2.1, (hb.block g h.lt).trans h.2.2⟩

theorem SpX.grown {w w' : World} {g x y r : Nat} (h : SpX w g x y) (hg : w.grownBy w' (some r)) (hne : g ≠ r) : SpX w' g x y :=
  ⟨h.1, h.2.1, (hg.block g h.lt (fun e => by injection e with e; exact hne e)).trans h.2.2⟩

theorem and_one_eq (x k : Nat) (hx : x < 18446744073709551616) : (bits BinOp.and IntKind.u64 ((x : Int) / 2 ^ k) 1 == 1) = x.testBit k := by
  have d : ((x : Int) / 2 ^ k) = ((x / 2 ^ k : Nat) : Int) := by simp
  have hlt : x / 2 ^ k < 18446744073709551616 := Nat.lt_of_le_of_lt (Nat.div_le_self _ _) hx
  have h1 := u64_and_nat (x / 2 ^ k) 1 hlt (by omega)
  rw [nat_mask1] at h1
  rw [testBit_mod, d]
  rw [show ((1 : Nat) : Int) = 1 from rfl] at h1
  rw [h1, Bool.eq_iff_iff]
  simp only [beq_iff_eq, decide_eq_true_eq]
  generalize x / 2 ^ k = z
  omega

set_option maxHeartbeats 400000 in
theorem free_lo (g x y p : Nat) (w : World) (hs : SpX w g x y) (hp : p < 64) :
    Calls Try.prog 37 #[.pointer (some ⟨g, 0, none⟩), .int .i64 p] w fun e w' => e = .returned (.bool (bitS x y p)) ∧ w = w' := by
  obtain ⟨c0, c1, _, _⟩ := hs.cells
  obtain ⟨hx, hy, _⟩ := hs
  have hb := Lib.hid ((and_one_eq x p hx).trans (bitS_lo x y p hp).symm)
  have e1 : (p : Int) / 64 = 0 := by omega
  have e2 : (p : Int) % 64 = p := by omega
  go_enter Try.func37, Try.ntmps37
  go_wp2
  go_ret
  rw [← hb.out]
  exact ⟨rfl, rfl⟩

set_option maxHeartbeats 400000 in
theorem free_hi (g x y p : Nat) (w : World) (hs : SpX w g x y) (hp : p < 64) :
    Calls Try.prog 37 #[.pointer (some ⟨g, 0, none⟩), .int .i64 ((p : Int) + 64)] w fun e w' => e = .returned (.bool (bitS x y ((p : Int) + 64))) ∧ w = w' := by
  obtain ⟨c0, c1, _, _⟩ := hs.cells
  obtain ⟨hx, hy, _⟩ := hs
  have hb := Lib.hid ((and_one_eq y p hy).trans ((bitS_hi x y (p + 64) (by omega) (by omega)).trans (by rw [Nat.add_sub_cancel])).symm)
  have e1 : ((p : Int) + 64) / 64 = 1 := by omega
  have e2 : ((p : Int) + 64) % 64 = p := by omega
  go_enter Try.func37, Try.ntmps37
  go_wp2
  go_ret
  have hb' := hb.out
  rw [show (((p + 64 : Nat) : Int)) = (p : Int) + 64 by omega] at hb'
  rw [← hb']
  exact ⟨rfl, rfl⟩

/-- Whether a place is free. -/
theorem free_any (g x y p : Nat) (w : World) (hs : SpX w g x y) (hp : p < 128) :
    Calls Try.prog 37 #[.pointer (some ⟨g, 0, none⟩), .int .i64 p] w fun e w' => e = .returned (.bool (bitS x y p)) ∧ w = w' := by
  by_cases h : p < 64
  · exact free_lo g x y p w hs h
  · obtain ⟨q, rfl⟩ : ∃ q, p = q + 64 := ⟨p - 64, by omega⟩
    rw [show (((q + 64 : Nat) : Int)) = (q : Int) + 64 by omega]
    exact free_hi g x y q w hs (by omega)

/-- Places were marked or cleared; nothing else has changed. -/
def Gave (w : World) (g : Nat) (S : Int → Bool) (r : Ending) (e : Ending) (w' : World) : Prop :=
  e = r ∧ (∃ x' y', SpX w' g x' y' ∧ ∀ p, bitS x' y' p = S p) ∧ w.grownBy w' (some g)

theorem wrap_pow (q : Nat) (hq : q < 64) : IntKind.u64.wrap (2 ^ q) = ((2 ^ q : Nat) : Int) := by
  have h : 2 ^ q < 2 ^ 64 := Nat.pow_lt_pow_of_lt (by omega) hq
  rw [IntKind.wrap_u64]
  have e : ((2 : Int) ^ q) = ((2 ^ q : Nat) : Int) := by simp
  rw [e]
  have h' : 2 ^ q < 18446744073709551616 := h
  generalize 2 ^ q = z at *
  omega

theorem or_word (x q : Nat) (hx : x < 18446744073709551616) (hq : q < 64) : bits BinOp.or IntKind.u64 (x : Int) (IntKind.u64.wrap (2 ^ q)) = ((x ||| 2 ^ q : Nat) : Int) := by
  rw [wrap_pow q hq]
  exact u64_or_nat _ _ hx (Nat.pow_lt_pow_of_lt (by omega) hq : 2 ^ q < 2 ^ 64)

theorem clear_word (x q : Nat) (hx : x < 18446744073709551616) (hq : q < 64) : bits BinOp.andNot IntKind.u64 (x : Int) (IntKind.u64.wrap (2 ^ q)) = ((x &&& (18446744073709551615 - 2 ^ q) : Nat) : Int) := by
  rw [wrap_pow q hq]
  exact u64_andNot_nat _ _ hx (Nat.pow_lt_pow_of_lt (by omega) hq : 2 ^ q < 2 ^ 64)

theorem grownBy_set (w : World) (g k : Nat) (v : Value) : w.grownBy (w.setCell ⟨g, k, none⟩ v) (some g) :=
  ⟨rfl, rfl, rfl, by simp [World.setCell], fun j _ hj => Below.heap_setCell _ _ _ _ (fun e => hj (by rw [e]))⟩

theorem SpX.set0 {w : World} {g x y : Nat} (h : SpX w g x y) (v : Int) (z : Nat) (hv : v = z) (hz : z < 18446744073709551616) : SpX (w.setCell ⟨g, 0, none⟩ (.int .u64 v)) g z y := by
  subst hv
  exact ⟨hz, h.2.1, heap_setCell_same w g 0 _ _ _ h.2.2⟩

theorem SpX.set1 {w : World} {g x y : Nat} (h : SpX w g x y) (v : Int) (z : Nat) (hv : v = z) (hz : z < 18446744073709551616) : SpX (w.setCell ⟨g, 1, none⟩ (.int .u64 v)) g x z := by
  subst hv
  exact ⟨h.1, hz, heap_setCell_same w g 1 _ _ _ h.2.2⟩

theorem SpX.drew {w : World} {g x y : Nat} (h : SpX w g x y) : SpX w.drew g x y := h

theorem cell_keep {w w' : World} {b o : Nat} {v : Value} {r : Nat} (h : w.cell? ⟨b, o, none⟩ = some v) (hg : w.grownBy w' (some r)) (hne : b ≠ r) : w'.cell? ⟨b, o, none⟩ = some v :=
  hg.cell h (fun e => by injection e with e; exact hne e)

set_option maxHeartbeats 1000000 in
theorem give_yes (g x y F M : Nat) (w : World) (hs : SpX w g x y) (hF : F + M ≤ 100) (hfree : ∀ p : Int, F ≤ p → p < F + M → bitS x y p = false) :
    Calls Try.prog 33 #[.pointer (some ⟨g, 0, none⟩), .agg #[.int .i64 F, .int .i64 M]] w (Gave w g (fun p => bitS x y p || inX ((F : Int), (M : Int)) p) (.returned (.bool true))) := by
  have HF := Lib.hid hfree
  clear hfree
  have hglt := hs.lt
  have hne : w.heap.size ≠ g := by omega
  go_enter Try.func33, Try.ntmps33
  go_wp2
  go_loopw [5] (fun i wr => ∃ q : Nat, F ≤ q ∧ q ≤ F + M ∧ i = .int .i64 (q : Int) ∧ (∃ x' y', SpX wr g x' y' ∧ Hid (∀ p, bitS x' y' p = (bitS x y p || (decide ((F : Int) ≤ p) && decide (p < q))))) ∧ w.grownBy wr (some g) ∧ wr.cell? ⟨w.heap.size, 0, none⟩ = some (.int .i64 F) ∧ wr.cell? ⟨w.heap.size, 1, none⟩ = some (.int .i64 M))
    (fun i _ => F + M - (intOf i).toNat)
  case atStart =>
    refine ⟨F, Nat.le_refl _, by omega, rfl, ⟨x, y, hs.below ((Below.refl _ _).alloc (Nat.le_refl _) _), Lib.hid (fun p => ?_)⟩, World.grownBy_alloc _ _ _, ?_, ?_⟩
    · have : (decide ((F : Int) ≤ p) && decide (p < F)) = false := by simp
      rw [this, Bool.or_false]
    · go_simp
    · go_simp
  case round =>
    obtain ⟨q, hq0, hq, rfl, ⟨x', y', hs', hb'⟩, hg, cF, cM⟩ := hrel
    by_cases hlt : q < F + M
    · have hi : (q : Int) < (F : Int) + (M : Int) := by omega
      have hfr : Hid (bitS x' y' (q : Int) = false) := Lib.hid (by rw [hb'.out, HF.out q (by omega) (by omega)]; simp)
      go_wp2_with fail
      with_reducible refine (free_any g x' y' q _ hs' (by omega)).mono ?_
      rintro e w1 ⟨rfl, rfl⟩
      rw [hfr.out]
      obtain ⟨c0, c1, f0, f1⟩ := hs'.cells
      by_cases h64 : q < 64
      · skip
        obtain ⟨r, hr⟩ : ∃ r, r = q := ⟨q, rfl⟩
        have hr64 : r < 64 := by omega
        have HS := Lib.hid (hs'.set0 _ _ (or_word x' r hs'.1 hr64) (or_lt _ _ hs'.1 hr64))
        have HG := Lib.hid (grownBy_trans hg (grownBy_drewN (grownBy_set wr g 0 (.int .u64 (bits BinOp.or IntKind.u64 (x' : Int) (IntKind.u64.wrap (2 ^ r))))) 1))
        have HC := Lib.hid (And.intro (cell_keep cF (grownBy_set wr g 0 (.int .u64 (bits BinOp.or IntKind.u64 (x' : Int) (IntKind.u64.wrap (2 ^ r))))) hne) (cell_keep cM (grownBy_set wr g 0 (.int .u64 (bits BinOp.or IntKind.u64 (x' : Int) (IntKind.u64.wrap (2 ^ r))))) hne))
        have HB : Hid (∀ p, bitS (x' ||| 2 ^ r) y' p = (bitS x y p || (decide ((F : Int) ≤ p) && decide (p < ((q + 1 : Nat) : Int))))) := Lib.hid (fun p => by rw [bitS_set_lo x' y' r hr64, hb'.out, Bool.eq_iff_iff]; simp only [Bool.or_eq_true, Bool.and_eq_true, decide_eq_true_eq]; constructor; (rintro ((a | a) | a); exact .inl a; (right; omega); (right; omega)); (rintro (a | a); exact .inl (.inl a); (by_cases h : p < (q : Int); (left; right; omega); (right; omega))))
        have HR := Lib.hid hr
        have e1 : (q : Int) / 64 = 0 := by omega
        have e4 : (q : Int).tmod 64 = r := by rw [Int.tmod_eq_emod_of_nonneg (by omega)]; omega
        have e3 : IntKind.i64.wrap 0 = 0 := rfl
        have e5 : IntKind.i64.wrap (r : Int) = r := by rw [IntKind.wrap_i64]; omega
        clear hr hs' hg cF cM
        go_wp2
        go_still_tail 12, (by kernel_rfl)
        clear e1 e3 e4 e5
        go_wp2
        go_roundw
        case rel => exact ⟨q + 1, by omega, by omega, by go_num, ⟨_, _, HS.out.drew, HB⟩, HG.out, HC.out.1, HC.out.2⟩
        case measure => simp [intOf]; omega
      · skip
        obtain ⟨r, hr⟩ : ∃ r, r + 64 = q := ⟨q - 64, by omega⟩
        have hr64 : r < 64 := by omega
        have HS := Lib.hid (hs'.set1 _ _ (or_word y' r hs'.2.1 hr64) (or_lt _ _ hs'.2.1 hr64))
        have HG := Lib.hid (grownBy_trans hg (grownBy_drewN (grownBy_set wr g 1 (.int .u64 (bits BinOp.or IntKind.u64 (y' : Int) (IntKind.u64.wrap (2 ^ r))))) 1))
        have HC := Lib.hid (And.intro (cell_keep cF (grownBy_set wr g 1 (.int .u64 (bits BinOp.or IntKind.u64 (y' : Int) (IntKind.u64.wrap (2 ^ r))))) hne) (cell_keep cM (grownBy_set wr g 1 (.int .u64 (bits BinOp.or IntKind.u64 (y' : Int) (IntKind.u64.wrap (2 ^ r))))) hne))
        have HB : Hid (∀ p, bitS x' (y' ||| 2 ^ r) p = (bitS x y p || (decide ((F : Int) ≤ p) && decide (p < ((q + 1 : Nat) : Int))))) := Lib.hid (fun p => by rw [bitS_set_hi x' y' r hr64, hb'.out, Bool.eq_iff_iff]; simp only [Bool.or_eq_true, Bool.and_eq_true, decide_eq_true_eq]; constructor; (rintro ((a | a) | a); exact .inl a; (right; omega); (right; omega)); (rintro (a | a); exact .inl (.inl a); (by_cases h : p < (q : Int); (left; right; omega); (right; omega))))
        have HR := Lib.hid hr
        have e1 : (q : Int) / 64 = 1 := by omega
        have e4 : (q : Int).tmod 64 = r := by rw [Int.tmod_eq_emod_of_nonneg (by omega)]; omega
        have e3 : IntKind.i64.wrap 1 = 1 := rfl
        have e5 : IntKind.i64.wrap (r : Int) = r := by rw [IntKind.wrap_i64]; omega
        clear hr hs' hg cF cM
        go_wp2
        go_still_tail 12, (by kernel_rfl)
        clear e1 e3 e4 e5
        go_wp2
        go_roundw
        case rel => exact ⟨q + 1, by omega, by omega, by go_num, ⟨_, _, HS.out.drew, HB⟩, HG.out, HC.out.1, HC.out.2⟩
        case measure => simp [intOf]; omega
    · obtain rfl : q = F + M := by omega
      go_wp2
      go_ret
      refine ⟨rfl, ⟨x', y', hs', fun p => ?_⟩, hg⟩
      rw [hb'.out]
      simp [inX]

set_option maxHeartbeats 1000000 in
theorem give_no (g x y F M : Nat) (w : World) (hs : SpX w g x y) (hF : F + M ≤ 100) (hmet : ∃ p : Int, F ≤ p ∧ p < F + M ∧ bitS x y p = true) :
    Calls Try.prog 33 #[.pointer (some ⟨g, 0, none⟩), .agg #[.int .i64 F, .int .i64 M]] w (fun e w' => e = .returned (.bool false) ∧ w.grownBy w' (some g)) := by
  have HF := Lib.hid hmet
  clear hmet
  have hglt := hs.lt
  have hne : w.heap.size ≠ g := by omega
  go_enter Try.func33, Try.ntmps33
  go_wp2
  go_loopw [5] (fun i wr => ∃ q : Nat, F ≤ q ∧ q ≤ F + M ∧ i = .int .i64 (q : Int) ∧ Hid (∀ p : Int, F ≤ p → p < q → bitS x y p = false) ∧ (∃ x' y', SpX wr g x' y' ∧ Hid (∀ p, bitS x' y' p = (bitS x y p || (decide ((F : Int) ≤ p) && decide (p < q))))) ∧ w.grownBy wr (some g) ∧ wr.cell? ⟨w.heap.size, 0, none⟩ = some (.int .i64 F) ∧ wr.cell? ⟨w.heap.size, 1, none⟩ = some (.int .i64 M))
    (fun i _ => F + M - (intOf i).toNat)
  case atStart =>
    refine ⟨F, Nat.le_refl _, by omega, rfl, Lib.hid (fun p h1 h2 => by omega), ⟨x, y, hs.below ((Below.refl _ _).alloc (Nat.le_refl _) _), Lib.hid (fun p => ?_)⟩, World.grownBy_alloc _ _ _, ?_, ?_⟩
    · have : (decide ((F : Int) ≤ p) && decide (p < F)) = false := by simp
      rw [this, Bool.or_false]
    · go_simp
    · go_simp
  case round =>
    obtain ⟨q, hq0, hq, rfl, hno, ⟨x', y', hs', hb'⟩, hg, cF, cM⟩ := hrel
    by_cases hlt : q < F + M
    · have hi : (q : Int) < (F : Int) + (M : Int) := by omega
      have hbq : bitS x' y' (q : Int) = bitS x y q := by rw [hb'.out]; simp
      have hcs : (bitS x' y' (q : Int) = true ∧ True) ∨ (bitS x' y' (q : Int) = false ∧ bitS x y q = false) := by
        rw [hbq]; cases bitS x y q <;> simp
      clear hbq
      rcases hcs with ⟨hyes, _⟩ | ⟨hfr0, hfr1⟩
      · have HY := Lib.hid hyes
        clear hyes
        go_wp2_with fail
        with_reducible refine (free_any g x' y' q _ hs' (by omega)).mono ?_
        rintro e w1 ⟨rfl, rfl⟩
        rw [HY.out]
        go_wp2
        go_ret
        exact ⟨rfl, hg⟩
      have hfr := Lib.hid hfr0
      have HNO : Hid (∀ p : Int, F ≤ p → p < ((q + 1 : Nat) : Int) → bitS x y p = false) := Lib.hid (fun p h1 h2 => by
        rcases Int.lt_or_le p q with h | h
        · exact hno.out p h1 h
        · obtain rfl : p = q := by omega
          exact hfr1)
      clear hfr0 hfr1
      go_wp2_with fail
      with_reducible refine (free_any g x' y' q _ hs' (by omega)).mono ?_
      rintro e w1 ⟨rfl, rfl⟩
      rw [hfr.out]
      obtain ⟨c0, c1, f0, f1⟩ := hs'.cells
      by_cases h64 : q < 64
      · skip
        obtain ⟨r, hr⟩ : ∃ r, r = q := ⟨q, rfl⟩
        have hr64 : r < 64 := by omega
        have HS := Lib.hid (hs'.set0 _ _ (or_word x' r hs'.1 hr64) (or_lt _ _ hs'.1 hr64))
        have HG := Lib.hid (grownBy_trans hg (grownBy_drewN (grownBy_set wr g 0 (.int .u64 (bits BinOp.or IntKind.u64 (x' : Int) (IntKind.u64.wrap (2 ^ r))))) 1))
        have HC := Lib.hid (And.intro (cell_keep cF (grownBy_set wr g 0 (.int .u64 (bits BinOp.or IntKind.u64 (x' : Int) (IntKind.u64.wrap (2 ^ r))))) hne) (cell_keep cM (grownBy_set wr g 0 (.int .u64 (bits BinOp.or IntKind.u64 (x' : Int) (IntKind.u64.wrap (2 ^ r))))) hne))
        have HB : Hid (∀ p, bitS (x' ||| 2 ^ r) y' p = (bitS x y p || (decide ((F : Int) ≤ p) && decide (p < ((q + 1 : Nat) : Int))))) := Lib.hid (fun p => by rw [bitS_set_lo x' y' r hr64, hb'.out, Bool.eq_iff_iff]; simp only [Bool.or_eq_true, Bool.and_eq_true, decide_eq_true_eq]; constructor; (rintro ((a | a) | a); exact .inl a; (right; omega); (right; omega)); (rintro (a | a); exact .inl (.inl a); (by_cases h : p < (q : Int); (left; right; omega); (right; omega))))
        have HR := Lib.hid hr
        have e1 : (q : Int) / 64 = 0 := by omega
        have e4 : (q : Int).tmod 64 = r := by rw [Int.tmod_eq_emod_of_nonneg (by omega)]; omega
        have e3 : IntKind.i64.wrap 0 = 0 := rfl
        have e5 : IntKind.i64.wrap (r : Int) = r := by rw [IntKind.wrap_i64]; omega
        clear hr hs' hg cF cM
        go_wp2
        go_still_tail 12, (by kernel_rfl)
        clear e1 e3 e4 e5
        go_wp2
        go_roundw
        case rel => exact ⟨q + 1, by omega, by omega, by go_num, HNO, ⟨_, _, HS.out.drew, HB⟩, HG.out, HC.out.1, HC.out.2⟩
        case measure => simp [intOf]; omega
      · skip
        obtain ⟨r, hr⟩ : ∃ r, r + 64 = q := ⟨q - 64, by omega⟩
        have hr64 : r < 64 := by omega
        have HS := Lib.hid (hs'.set1 _ _ (or_word y' r hs'.2.1 hr64) (or_lt _ _ hs'.2.1 hr64))
        have HG := Lib.hid (grownBy_trans hg (grownBy_drewN (grownBy_set wr g 1 (.int .u64 (bits BinOp.or IntKind.u64 (y' : Int) (IntKind.u64.wrap (2 ^ r))))) 1))
        have HC := Lib.hid (And.intro (cell_keep cF (grownBy_set wr g 1 (.int .u64 (bits BinOp.or IntKind.u64 (y' : Int) (IntKind.u64.wrap (2 ^ r))))) hne) (cell_keep cM (grownBy_set wr g 1 (.int .u64 (bits BinOp.or IntKind.u64 (y' : Int) (IntKind.u64.wrap (2 ^ r))))) hne))
        have HB : Hid (∀ p, bitS x' (y' ||| 2 ^ r) p = (bitS x y p || (decide ((F : Int) ≤ p) && decide (p < ((q + 1 : Nat) : Int))))) := Lib.hid (fun p => by rw [bitS_set_hi x' y' r hr64, hb'.out, Bool.eq_iff_iff]; simp only [Bool.or_eq_true, Bool.and_eq_true, decide_eq_true_eq]; constructor; (rintro ((a | a) | a); exact .inl a; (right; omega); (right; omega)); (rintro (a | a); exact .inl (.inl a); (by_cases h : p < (q : Int); (left; right; omega); (right; omega))))
        have HR := Lib.hid hr
        have e1 : (q : Int) / 64 = 1 := by omega
        have e4 : (q : Int).tmod 64 = r := by rw [Int.tmod_eq_emod_of_nonneg (by omega)]; omega
        have e3 : IntKind.i64.wrap 1 = 1 := rfl
        have e5 : IntKind.i64.wrap (r : Int) = r := by rw [IntKind.wrap_i64]; omega
        clear hr hs' hg cF cM
        go_wp2
        go_still_tail 12, (by kernel_rfl)
        clear e1 e3 e4 e5
        go_wp2
        go_roundw
        case rel => exact ⟨q + 1, by omega, by omega, by go_num, HNO, ⟨_, _, HS.out.drew, HB⟩, HG.out, HC.out.1, HC.out.2⟩
        case measure => simp [intOf]; omega
    · obtain rfl : q = F + M := by omega
      obtain ⟨p, p1, p2, p3⟩ := HF.out
      have := hno.out p p1 (by omega)
      rw [p3] at this
      cases this

set_option maxHeartbeats 1000000 in
theorem take_yes (g x y F M : Nat) (w : World) (hs : SpX w g x y) (hF : F + M ≤ 100) :
    Calls Try.prog 28 #[.pointer (some ⟨g, 0, none⟩), .agg #[.int .i64 F, .int .i64 M]] w (Gave w g (fun p => bitS x y p && !inX ((F : Int), (M : Int)) p) (.returned (.tuple #[]))) := by
  have hglt := hs.lt
  have hne : w.heap.size ≠ g := by omega
  go_enter Try.func28, Try.ntmps28
  go_wp2
  go_loopw [4] (fun i wr => ∃ q : Nat, F ≤ q ∧ q ≤ F + M ∧ i = .int .i64 (q : Int) ∧ (∃ x' y', SpX wr g x' y' ∧ Hid (∀ p, bitS x' y' p = (bitS x y p && !(decide ((F : Int) ≤ p) && decide (p < q))))) ∧ w.grownBy wr (some g) ∧ wr.cell? ⟨w.heap.size, 0, none⟩ = some (.int .i64 F) ∧ wr.cell? ⟨w.heap.size, 1, none⟩ = some (.int .i64 M))
    (fun i _ => F + M - (intOf i).toNat)
  case atStart =>
    refine ⟨F, Nat.le_refl _, by omega, rfl, ⟨x, y, hs.below ((Below.refl _ _).alloc (Nat.le_refl _) _), Lib.hid (fun p => ?_)⟩, World.grownBy_alloc _ _ _, ?_, ?_⟩
    · have : (decide ((F : Int) ≤ p) && decide (p < F)) = false := by simp
      rw [this, Bool.not_false, Bool.and_true]
    · go_simp
    · go_simp
  case round =>
    obtain ⟨q, hq0, hq, rfl, ⟨x', y', hs', hb'⟩, hg, cF, cM⟩ := hrel
    by_cases hlt : q < F + M
    · have hi : (q : Int) < (F : Int) + (M : Int) := by omega
      obtain ⟨c0, c1, f0, f1⟩ := hs'.cells
      by_cases h64 : q < 64
      · skip
        obtain ⟨r, hr⟩ : ∃ r, r = q := ⟨q, rfl⟩
        have hr64 : r < 64 := by omega
        have HS := Lib.hid (hs'.set0 _ _ (clear_word x' r hs'.1 hr64) (clear_lt _ _ hs'.1))
        have HG := Lib.hid (grownBy_trans hg (grownBy_drewN (grownBy_set wr g 0 (.int .u64 (bits BinOp.andNot IntKind.u64 (x' : Int) (IntKind.u64.wrap (2 ^ r))))) 1))
        have HC := Lib.hid (And.intro (cell_keep cF (grownBy_set wr g 0 (.int .u64 (bits BinOp.andNot IntKind.u64 (x' : Int) (IntKind.u64.wrap (2 ^ r))))) hne) (cell_keep cM (grownBy_set wr g 0 (.int .u64 (bits BinOp.andNot IntKind.u64 (x' : Int) (IntKind.u64.wrap (2 ^ r))))) hne))
        have HB : Hid (∀ p, bitS (x' &&& (18446744073709551615 - 2 ^ r)) y' p = (bitS x y p && !(decide ((F : Int) ≤ p) && decide (p < ((q + 1 : Nat) : Int))))) := Lib.hid (fun p => by rw [bitS_clear_lo x' y' r hs'.1 hr64, hb'.out, Bool.eq_iff_iff]; simp only [Bool.and_eq_true, Bool.not_eq_true', Bool.and_eq_false_iff, decide_eq_false_iff_not]; constructor; (rintro ⟨⟨a, b⟩, c⟩; exact ⟨a, by omega⟩); (rintro ⟨a, b⟩; exact ⟨⟨a, by omega⟩, by omega⟩))
        have HR := Lib.hid hr
        have e1 : (q : Int) / 64 = 0 := by omega
        have e4 : (q : Int).tmod 64 = r := by rw [Int.tmod_eq_emod_of_nonneg (by omega)]; omega
        have e3 : IntKind.i64.wrap 0 = 0 := rfl
        have e5 : IntKind.i64.wrap (r : Int) = r := by rw [IntKind.wrap_i64]; omega
        clear hr hs' hg
        go_wp2
        go_still_tail 12, (by kernel_rfl)
        clear e1 e3 e4 e5
        go_wp2
        go_roundw
        case rel => exact ⟨q + 1, by omega, by omega, by go_num, ⟨_, _, HS.out.drew, HB⟩, HG.out, HC.out.1, HC.out.2⟩
        case measure => simp [intOf]; omega
      · skip
        obtain ⟨r, hr⟩ : ∃ r, r + 64 = q := ⟨q - 64, by omega⟩
        have hr64 : r < 64 := by omega
        have HS := Lib.hid (hs'.set1 _ _ (clear_word y' r hs'.2.1 hr64) (clear_lt _ _ hs'.2.1))
        have HG := Lib.hid (grownBy_trans hg (grownBy_drewN (grownBy_set wr g 1 (.int .u64 (bits BinOp.andNot IntKind.u64 (y' : Int) (IntKind.u64.wrap (2 ^ r))))) 1))
        have HC := Lib.hid (And.intro (cell_keep cF (grownBy_set wr g 1 (.int .u64 (bits BinOp.andNot IntKind.u64 (y' : Int) (IntKind.u64.wrap (2 ^ r))))) hne) (cell_keep cM (grownBy_set wr g 1 (.int .u64 (bits BinOp.andNot IntKind.u64 (y' : Int) (IntKind.u64.wrap (2 ^ r))))) hne))
        have HB : Hid (∀ p, bitS x' (y' &&& (18446744073709551615 - 2 ^ r)) p = (bitS x y p && !(decide ((F : Int) ≤ p) && decide (p < ((q + 1 : Nat) : Int))))) := Lib.hid (fun p => by rw [bitS_clear_hi x' y' r hs'.2.1 hr64, hb'.out, Bool.eq_iff_iff]; simp only [Bool.and_eq_true, Bool.not_eq_true', Bool.and_eq_false_iff, decide_eq_false_iff_not]; constructor; (rintro ⟨⟨a, b⟩, c⟩; exact ⟨a, by omega⟩); (rintro ⟨a, b⟩; exact ⟨⟨a, by omega⟩, by omega⟩))
        have HR := Lib.hid hr
        have e1 : (q : Int) / 64 = 1 := by omega
        have e4 : (q : Int).tmod 64 = r := by rw [Int.tmod_eq_emod_of_nonneg (by omega)]; omega
        have e3 : IntKind.i64.wrap 1 = 1 := rfl
        have e5 : IntKind.i64.wrap (r : Int) = r := by rw [IntKind.wrap_i64]; omega
        clear hr hs' hg
        go_wp2
        go_still_tail 12, (by kernel_rfl)
        clear e1 e3 e4 e5
        go_wp2
        go_roundw
        case rel => exact ⟨q + 1, by omega, by omega, by go_num, ⟨_, _, HS.out.drew, HB⟩, HG.out, HC.out.1, HC.out.2⟩
        case measure => simp [intOf]; omega
    · obtain rfl : q = F + M := by omega
      go_wp2
      go_end0
      refine ⟨rfl, ⟨x', y', hs', fun p => ?_⟩, hg⟩
      rw [hb'.out]
      simp [inX]

end Go.Proofs.Ythcjelijpeddbaa
