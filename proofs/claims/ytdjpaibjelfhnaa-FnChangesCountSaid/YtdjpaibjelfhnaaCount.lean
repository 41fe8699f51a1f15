/- Contracts of the reference's and the program's ChangesCount. -/
import Derived.Test.YtdjpaibjelfhnaaChange
import Derived.Test.YtdjpaibjelfhnaaIn
import Derived.BigQuiet
import Derived.Deep.QuietTactic
import Derived.StillTailTactics
import Derived.Outline
namespace Go.Proofs.Ytdjpaibjelfhnaa
open Go.RowKit
set_option linter.unusedVariables false

/-- The kind is one of three. -/
def okK (x : PV) : Bool := decide (1 ≤ x.kd) && decide (x.kd ≤ 3)
/-- How many have a kind. -/
def cnt (xs : List PV) (t : Int) : Nat := xs.countP fun x => x.kd == t
/-- What ChangesCount answers. -/
def countsR (xs : List PV) : List Int := if xs.all okK = true then [(cnt xs 1 : Int), (cnt xs 2 : Int), (cnt xs 3 : Int)] else []

theorem cnt_take {xs : List PV} {k : Nat} {x : PV} (h : xs[k]? = some x) (t : Int) : cnt (xs.take (k + 1)) t = cnt (xs.take k) t + (if x.kd = t then 1 else 0) := by
  obtain ⟨hk, rfl⟩ := List.getElem?_eq_some_iff.1 h
  rw [List.take_succ_eq_append_getElem hk]
  unfold cnt
  rw [List.countP_append, List.countP_singleton]
  simp

theorem cnt_le (xs : List PV) (t : Int) : cnt xs t ≤ xs.length := List.countP_le_length

/-- Three numbers of the call's own. -/
def Own3 (w : World) (B g : Nat) (p q r : Int) : Prop := w.ownsRow B 3 1 (.slice (some ⟨g, 0, none⟩) 3 3) 3 [.int .i64 p, .int .i64 q, .int .i64 r]

theorem Own3.below {w w' : World} {B g : Nat} {p q r : Int} (h : Own3 w B g p q r) (hb : Below w.heap.size w w') : Own3 w' B g p q r :=
  World.ownsRow.kept h (row := none) ⟨hb.os, hb.tape, hb.output, hb.size, fun k hk _ => hb.block k hk⟩ (.inr (by simp [Value.ownBlock]))

theorem Own3.cells {w : World} {B g : Nat} {p q r : Int} (h : Own3 w B g p q r) : w.cell? ⟨g, 0, none⟩ = some (.int .i64 p) ∧ w.cell? ⟨g, 1, none⟩ = some (.int .i64 q) ∧ w.cell? ⟨g, 2, none⟩ = some (.int .i64 r) ∧ w.frozen? ⟨g, 0, none⟩ = false ∧ w.frozen? ⟨g, 1, none⟩ = false ∧ w.frozen? ⟨g, 2, none⟩ = false := by
  refine ⟨?_, ?_, ?_, World.ownsRow.frozenAt h 0, World.ownsRow.frozenAt h 1, World.ownsRow.frozenAt h 2⟩
  · rw [World.ownsRow.cellAt h 0 (by omega)]; rfl
  · rw [World.ownsRow.cellAt h 1 (by omega)]; rfl
  · rw [World.ownsRow.cellAt h 2 (by omega)]; rfl

theorem Own3.set0 {w : World} {B g : Nat} {p q r : Int} (h : Own3 w B g p q r) (u : Int) : Own3 (w.setCell ⟨g, 0, none⟩ (.int .i64 u)) B g u q r := (World.ownsRow.stored h 0 (.int .i64 u)).1
theorem Own3.set1 {w : World} {B g : Nat} {p q r : Int} (h : Own3 w B g p q r) (u : Int) : Own3 (w.setCell ⟨g, 1, none⟩ (.int .i64 u)) B g p u r := (World.ownsRow.stored h 1 (.int .i64 u)).1
theorem Own3.set2 {w : World} {B g : Nat} {p q r : Int} (h : Own3 w B g p q r) (u : Int) : Own3 (w.setCell ⟨g, 2, none⟩ (.int .i64 u)) B g p q u := (World.ownsRow.stored h 2 (.int .i64 u)).1

theorem own3_made {w : World} {B g : Nat} (h : w.ownsRow B 3 1 (.slice (some ⟨g, 0, none⟩) 3 3) 3 (madeCells (Value.int IntKind.i64 0).cells (3 * 1)).toList) : Own3 w B g 0 0 0 := by
  have e : (madeCells (Value.int IntKind.i64 0).cells (3 * 1)).toList = [.int .i64 0, .int .i64 0, .int .i64 0] := by
    rw [show (Value.int IntKind.i64 0).cells = #[Value.int IntKind.i64 0] from rfl, toList_madeCells_one]; rfl
  rw [e] at h
  exact h

theorem Own3.own {w : World} {B g : Nat} {p q r : Int} (h : Own3 w B g p q r) (hp : -9223372036854775808 ≤ p ∧ p ≤ 9223372036854775807) (hq : -9223372036854775808 ≤ q ∧ q ≤ 9223372036854775807) (hr : -9223372036854775808 ≤ r ∧ r ≤ 9223372036854775807) : OwnI w B (some ⟨g, 0, none⟩) 3 [p, q, r] :=
  ⟨by intro z hz; simp only [List.mem_cons, List.mem_nil_iff, or_false] at hz; rcases hz with rfl | rfl | rfl <;> assumption, h⟩

theorem OwnI.nilC (w : World) (B : Nat) : OwnI w B none 0 [] := ⟨(by intro z hz; cases hz), World.ownsRow_nil w B 3 1⟩

theorem OwnI.emptyC {w : World} {B : Nat} (hB : B ≤ w.heap.size) : OwnI (w.alloc (.cells #[] 3)) B (some ⟨w.heap.size, 0, none⟩) 0 [] := by
  refine ⟨(by intro z hz; cases hz), rfl, .inr ⟨w.heap.size, 0, #[], rfl, hB, heap_alloc_new w _, Nat.le_refl _, Nat.zero_le _, rfl, rfl⟩⟩

theorem countsR_bad {xs : List PV} {k : Nat} {x : PV} (hx : xs[k]? = some x) (h : okK x = false) : countsR xs = [] := by
  unfold countsR
  rw [if_neg]
  intro hall
  have := List.all_eq_true.1 hall x (List.mem_of_getElem? hx)
  rw [h] at this
  cases this

theorem all_take {xs : List PV} {k : Nat} {x : PV} (hx : xs[k]? = some x) (h : (xs.take k).all okK = true) (hk : okK x = true) : (xs.take (k + 1)).all okK = true := by
  obtain ⟨hl, rfl⟩ := List.getElem?_eq_some_iff.1 hx
  rw [List.take_succ_eq_append_getElem hl, List.all_append, h]
  simp [hk]

theorem countsR_full {xs : List PV} {n : Nat} {p q r : Int} (hl : xs.length = n) (h : (xs.take n).all okK = true) (hp : p = cnt (xs.take n) 1) (hq : q = cnt (xs.take n) 2) (hr : r = cnt (xs.take n) 3) : countsR xs = [p, q, r] := by
  rw [List.take_of_length_le (by omega)] at h hp hq hr
  unfold countsR
  rw [if_pos h, hp, hq, hr]

theorem box4 (w : World) (a b c d : Value) (t : TypeId) :
    w.heap.size < (w.alloc (.cells #[a, b, c, d] t)).heap.size ∧ (w.alloc (.cells #[a, b, c, d] t)).cell? ⟨w.heap.size, 0, none⟩ = some a := by
  have h1 : ∀ j, (w.alloc (.cells #[a, b, c, d] t)).cell? ⟨w.heap.size, j, none⟩ = #[a, b, c, d][j]? := fun j => cell_of_row _ w.heap.size _ _ _ (0, 0) (heap_alloc_new w _)
  exact ⟨by simp, by rw [h1]; rfl⟩

set_option maxRecDepth 100000 in
set_option maxHeartbeats 1000000 in
theorem implChangesCount_any (a : Option Addr) (n c : Nat) (xs : List PV) (w : World) (hr : RdR eltG w a n xs) (hn : n ≤ 1099511627776) :
    Calls Try.prog 16 #[.slice a n c] w (RetI w (countsR xs)) := by
  have hl := Lib.hid hr.1
  obtain ⟨i0, hi, hz0, hz1, hz2⟩ := info_parts info_int
  go_enter Try.func16, Try.ntmps16
  go_wp2_with (at_make; refine wpList_make_full _ rfl _ _ 34 rfl w.heap.size 3 i0 (.int .i64 0) 1 Try.underlying34 hi hz0 hz1 .i64 .i64 3 3 3 rfl rfl rfl rfl (by rw [hz2]; omega) (by unfold maxLen; omega) (by omega) ?_; intro w1 hown hg1)
  have hO1 := own3_made hown
  have hb1 : Below w.heap.size w w1 := (Below.refl _ _).grown hg1 (Nat.le_refl _) (fun k hk => by cases hk)
  clear hown hg1
  clear hi hz0 hz1 hz2
  go_loopw [9] (fun i wr => ∃ k : Nat, k ≤ n ∧ i = .int .i64 k ∧ Hid ((xs.take k).all okK = true) ∧ ∃ p q r : Int, (0 ≤ p ∧ p ≤ k) ∧ (0 ≤ q ∧ q ≤ k) ∧ (0 ≤ r ∧ r ≤ k) ∧ Hid (p = cnt (xs.take k) 1) ∧ Hid (q = cnt (xs.take k) 2) ∧ Hid (r = cnt (xs.take k) 3) ∧ Own3 wr w.heap.size w.heap.size p q r ∧ Below w.heap.size w wr)
    (fun i _ => n - (intOf i).toNat)
  case atStart => exact ⟨0, Nat.zero_le _, rfl, Lib.hid rfl, 0, 0, 0, by omega, by omega, by omega, Lib.hid rfl, Lib.hid rfl, Lib.hid rfl, hO1, hb1⟩
  case round =>
    clear hO1 hb1
    obtain ⟨k, hk, rfl, hok, p, q, r, ⟨p0, p1⟩, ⟨q0, q1⟩, ⟨r0, r1⟩, hp, hq, hr', hO, hb⟩ := hrel
    by_cases hlt : k < n
    · obtain ⟨b, off, x, rfl, hbl, hx, c0, c1, c2, c3⟩ := atG (hr.below hb) hlt
      have HX := Lib.hid hx
      have t1 := cnt_take hx 1
      have t2 := cnt_take hx 2
      have t3 := cnt_take hx 3
      clear hx
      have hk0 : (0 : Int) ≤ (k : Int) := by omega
      have hk1 : (k : Int) < (n : Int) := by omega
      have hbx := box4 wr (.int .i64 x.kd) (.string x.pa) (.bool x.dr) (.slice x.ad x.zs.length x.cp) 64
      have hHl := hbx.1
      have b0 := hbx.2
      have hbw := hb.alloc hb.size (.cells #[.int .i64 x.kd, .string x.pa, .bool x.dr, .slice x.ad x.zs.length x.cp] 64)
      have hOw := hO.below ((Below.refl wr.heap.size wr).alloc (Nat.le_refl _) (.cells #[.int .i64 x.kd, .string x.pa, .bool x.dr, .slice x.ad x.zs.length x.cp] 64))
      clear hbx
      by_cases h1 : x.kd < 1
      · have d1 : decide (x.kd < 1) = true := by simpa using h1
        have HF := Lib.hid (countsR_bad HX.out (show okK x = false by simp [okK]; omega))
        clear h1 t1 t2 t3
        go_wp2
        go_ret
        rw [HF.out]
        exact ⟨none, 0, rfl, OwnI.nilC _ _, hbw⟩
      have d1 : decide (x.kd < 1) = false := by simpa using h1
      by_cases h3 : 3 < x.kd
      · have d3 : decide (3 < x.kd) = true := by simpa using h3
        have HF := Lib.hid (countsR_bad HX.out (show okK x = false by simp [okK]; omega))
        clear h1 h3 t1 t2 t3
        go_wp2
        go_ret
        rw [HF.out]
        exact ⟨none, 0, rfl, OwnI.nilC _ _, hbw⟩
      have d3 : decide (3 < x.kd) = false := by simpa using h3
      have HK := Lib.hid (all_take HX.out hok.out (show okK x = true by simp [okK]; omega))
      obtain ⟨e0, e1, e2, f0, f1, f2⟩ := hOw.cells
      have hOw0 := Lib.hid (hOw.set0 (p + 1))
      have hOw1 := Lib.hid (hOw.set1 (q + 1))
      have hOw2 := Lib.hid (hOw.set2 (r + 1))
      have hkd : x.kd = 1 ∨ x.kd = 2 ∨ x.kd = 3 := by omega
      clear h1 h3 hOw hO hok d1 d3
      generalize x.kd = kd at hkd b0 c0 t1 t2 t3 hbw e0 e1 e2 f0 f1 f2 hOw0 hOw1 hOw2 hHl ⊢
      rcases hkd with rfl | rfl | rfl
      · go_wp2
        go_roundw
        case rel => exact ⟨k + 1, by omega, by go_num, HK, p + 1, q, r, by omega, by omega, by omega, Lib.hid (show p + 1 = _ by rw [t1, Int.natCast_add, ← hp.out]; simp), Lib.hid (show q = _ by rw [t2, Int.natCast_add, ← hq.out]; simp), Lib.hid (show r = _ by rw [t3, Int.natCast_add, ← hr'.out]; simp), hOw0.out, hbw.setCell (Nat.le_refl _) _⟩
        case measure => simp [intOf]; omega
      · go_wp2
        go_roundw
        case rel => exact ⟨k + 1, by omega, by go_num, HK, p, q + 1, r, by omega, by omega, by omega, Lib.hid (show p = _ by rw [t1, Int.natCast_add, ← hp.out]; simp), Lib.hid (show q + 1 = _ by rw [t2, Int.natCast_add, ← hq.out]; simp), Lib.hid (show r = _ by rw [t3, Int.natCast_add, ← hr'.out]; simp), hOw1.out, hbw.setCell (Nat.le_refl _) _⟩
        case measure => simp [intOf]; omega
      · go_wp2
        go_roundw
        case rel => exact ⟨k + 1, by omega, by go_num, HK, p, q, r + 1, by omega, by omega, by omega, Lib.hid (show p = _ by rw [t1, Int.natCast_add, ← hp.out]; simp), Lib.hid (show q = _ by rw [t2, Int.natCast_add, ← hq.out]; simp), Lib.hid (show r + 1 = _ by rw [t3, Int.natCast_add, ← hr'.out]; simp), hOw2.out, hbw.setCell (Nat.le_refl _) _⟩
        case measure => simp [intOf]; omega
    · obtain rfl : k = n := by omega
      have HF := Lib.hid (countsR_full hl.out hok.out hp.out hq.out hr'.out)
      go_wp2
      go_ret
      rw [HF.out]
      exact ⟨_, _, rfl, hO.own (by omega) (by omega) (by omega), hb⟩

set_option maxRecDepth 100000 in
set_option maxHeartbeats 1000000 in
theorem specChangesCount_any (a : Option Addr) (n c : Nat) (xs : List PV) (w : World) (hr : RdR eltG w a n xs) (hn : n ≤ 1099511627776) :
    Calls Try.prog 14 #[.slice a n c] w (RetI w (countsR xs)) := by
  have hl := Lib.hid hr.1
  obtain ⟨i0, hi, hz0, hz1, hz2⟩ := info_parts info_int
  go_enter Try.func14, Try.ntmps14
  go_wp2_with (at_make; refine wpList_make_full _ rfl _ _ 34 rfl w.heap.size 3 i0 (.int .i64 0) 1 Try.underlying34 hi hz0 hz1 .i64 .i64 3 3 3 rfl rfl rfl rfl (by rw [hz2]; omega) (by unfold maxLen; omega) (by omega) ?_; intro w1 hown hg1)
  have hO1 := own3_made hown
  have hb1 : Below w.heap.size w w1 := (Below.refl _ _).grown hg1 (Nat.le_refl _) (fun k hk => by cases hk)
  clear hown hg1
  clear hi hz0 hz1 hz2
  go_loopw [4] (fun i wr => ∃ k : Nat, k ≤ n ∧ i = .int .i64 k ∧ Hid ((xs.take k).all okK = true) ∧ ∃ p q r : Int, (0 ≤ p ∧ p ≤ k) ∧ (0 ≤ q ∧ q ≤ k) ∧ (0 ≤ r ∧ r ≤ k) ∧ Hid (p = cnt (xs.take k) 1) ∧ Hid (q = cnt (xs.take k) 2) ∧ Hid (r = cnt (xs.take k) 3) ∧ Own3 wr w.heap.size w.heap.size p q r ∧ Below w.heap.size w wr)
    (fun i _ => n - (intOf i).toNat)
  case atStart => exact ⟨0, Nat.zero_le _, rfl, Lib.hid rfl, 0, 0, 0, by omega, by omega, by omega, Lib.hid rfl, Lib.hid rfl, Lib.hid rfl, hO1, hb1⟩
  case round =>
    clear hO1 hb1
    obtain ⟨k, hk, rfl, hok, p, q, r, ⟨p0, p1⟩, ⟨q0, q1⟩, ⟨r0, r1⟩, hp, hq, hr', hO, hb⟩ := hrel
    by_cases hlt : k < n
    · obtain ⟨b, off, x, rfl, hbl, hx, c0, c1, c2, c3⟩ := atG (hr.below hb) hlt
      have HX := Lib.hid hx
      have t1 := cnt_take hx 1
      have t2 := cnt_take hx 2
      have t3 := cnt_take hx 3
      clear hx
      have hk0 : (0 : Int) ≤ (k : Int) := by omega
      have hk1 : (k : Int) < (n : Int) := by omega
      have hOw : Own3 wr.drew w.heap.size w.heap.size p q r := hO
      have hbw : Below w.heap.size w wr.drew := below_drewNP hb 1
      have K := l6In_any x.kd 1 3
      by_cases h1 : 1 ≤ x.kd ∧ x.kd ≤ 3
      case neg =>
        have HF := Lib.hid (countsR_bad HX.out (show okK x = false by simp [okK]; omega))
        rw [show inB x.kd 1 3 = false by simp [inB]; omega] at K
        clear h1 t1 t2 t3
        go_wp2_with fail
        with_reducible refine (K _).mono ?_
        rintro e w2 ⟨rfl, rfl⟩
        go_wp2
        go_ret
        rw [HF.out]
        exact ⟨_, 0, rfl, OwnI.emptyC hb.size, hb.alloc hb.size _⟩
      rw [show inB x.kd 1 3 = true by simp [inB]; omega] at K
      have HK := Lib.hid (all_take HX.out hok.out (show okK x = true by simp [okK]; omega))
      obtain ⟨e0, e1, e2, f0, f1, f2⟩ := hO.cells
      have hOw0 := Lib.hid (hOw.set0 (p + 1))
      have hOw1 := Lib.hid (hOw.set1 (q + 1))
      have hOw2 := Lib.hid (hOw.set2 (r + 1))
      have hkd : x.kd = 1 ∨ x.kd = 2 ∨ x.kd = 3 := by omega
      clear h1 hOw hO hok
      go_wp2_with fail
      with_reducible refine (K _).mono ?_
      rintro e w2 ⟨rfl, rfl⟩
      clear K
      generalize x.kd = kd at hkd c0 t1 t2 t3 ⊢
      have z0 : IntKind.i64.wrap 0 = 0 := IntWalk.i64_in _ (by omega)
      have z1 : IntKind.i64.wrap 1 = 1 := IntWalk.i64_in _ (by omega)
      have z2 : IntKind.i64.wrap 2 = 2 := IntWalk.i64_in _ (by omega)
      have y0 : IntKind.i64.wrap (p + 1) = p + 1 := IntWalk.i64_in _ (by omega)
      have y1 : IntKind.i64.wrap (q + 1) = q + 1 := IntWalk.i64_in _ (by omega)
      have y2 : IntKind.i64.wrap (r + 1) = r + 1 := IntWalk.i64_in _ (by omega)
      rcases hkd with rfl | rfl | rfl
      · go_wp2
        go_still_tail 18, (by kernel_rfl)
        change wpList _ _ _ _ _ wr.drew
        go_wp2
        go_roundw
        case rel => exact ⟨k + 1, by omega, by go_num, HK, p + 1, q, r, by omega, by omega, by omega, Lib.hid (show p + 1 = _ by rw [t1, Int.natCast_add, ← hp.out]; simp), Lib.hid (show q = _ by rw [t2, Int.natCast_add, ← hq.out]; simp), Lib.hid (show r = _ by rw [t3, Int.natCast_add, ← hr'.out]; simp), hOw0.out, hbw.setCell (Nat.le_refl _) _⟩
        case measure => simp [intOf]; omega
      · go_wp2
        go_still_tail 18, (by kernel_rfl)
        change wpList _ _ _ _ _ wr.drew
        go_wp2
        go_roundw
        case rel => exact ⟨k + 1, by omega, by go_num, HK, p, q + 1, r, by omega, by omega, by omega, Lib.hid (show p = _ by rw [t1, Int.natCast_add, ← hp.out]; simp), Lib.hid (show q + 1 = _ by rw [t2, Int.natCast_add, ← hq.out]; simp), Lib.hid (show r = _ by rw [t3, Int.natCast_add, ← hr'.out]; simp), hOw1.out, hbw.setCell (Nat.le_refl _) _⟩
        case measure => simp [intOf]; omega
      · go_wp2
        go_still_tail 18, (by kernel_rfl)
        change wpList _ _ _ _ _ wr.drew
        go_wp2
        go_roundw
        case rel => exact ⟨k + 1, by omega, by go_num, HK, p, q, r + 1, by omega, by omega, by omega, Lib.hid (show p = _ by rw [t1, Int.natCast_add, ← hp.out]; simp), Lib.hid (show q = _ by rw [t2, Int.natCast_add, ← hq.out]; simp), Lib.hid (show r + 1 = _ by rw [t3, Int.natCast_add, ← hr'.out]; simp), hOw2.out, hbw.setCell (Nat.le_refl _) _⟩
        case measure => simp [intOf]; omega
    · obtain rfl : k = n := by omega
      have HF := Lib.hid (countsR_full hl.out hok.out hp.out hq.out hr'.out)
      go_wp2
      go_ret
      rw [HF.out]
      exact ⟨_, _, rfl, hO.own (by omega) (by omega) (by omega), hb⟩

end Go.Proofs.Ytdjpaibjelfhnaa
