/- Contracts: toExtent, toExtentS, szExtentS. -/
import Derived.Test.YthcjelijpeddbaaBaseX
import Derived.BigQuiet
import Derived.Deep.QuietTactic
import Derived.Outline
namespace Go.Proofs.Ythcjelijpeddbaa
open Go.RowKit
set_option linter.unusedVariables false

set_option maxHeartbeats 400000 in
theorem toExtent_any (f m : Int) (w : World) :
    Calls Try.prog 17 #[.agg #[.int .i64 f, .int .i64 m]] w fun e w' => e = .returned (.agg #[.int .i64 f, .int .i64 m]) ∧ Below w.heap.size w w' := by
  go_enter Try.func17, Try.ntmps17
  go_wp2
  refine bodyPost_ret (v := .agg #[.int .i64 f, .int .i64 m]) ?_ rfl ⟨rfl, ?_⟩
  · simp [results, Try.results17, go_sem]
  · exact ((Below.refl _ _).alloc (Nat.le_refl _) _).alloc (by simp) _ |>.alloc (by simp; omega) _

theorem szExtentS_ok (a : Option Addr) (n c : Nat) (l : Int) (w : World) (h0 : 0 ≤ l) (h1 : l ≤ 4611686018427387904) (h : (n : Int) ≤ l) :
    Calls Try.prog 15 #[.slice a n c, .int .i64 l] w fun e w' => e = .returned (.int .i64 (l - n)) ∧ w = w' := by
  go_enter Try.func15, Try.ntmps15
  go_wp2
  go_ret
  exact ⟨rfl, rfl⟩

theorem szExtentS_no (a : Option Addr) (n c : Nat) (l : Int) (w : World) (hn : n ≤ 9223372036854775807) (h0 : 0 ≤ l) (h1 : l ≤ 4611686018427387904) (h : l < n) :
    Calls Try.prog 15 #[.slice a n c, .int .i64 l] w fun e w' => e = .returned (.int .i64 (-1)) ∧ w = w' := by
  go_enter Try.func15, Try.ntmps15
  go_wp2
  go_ret
  exact ⟨rfl, rfl⟩

/-- A new slice of extents is handed back, all that was there is as it was. -/
def RetX (w : World) (xs : List (Int × Int)) (e : Ending) (w' : World) : Prop :=
  ∃ a c, e = .returned (.slice a xs.length c) ∧ OwnX w' w.heap.size a c xs ∧ Below w.heap.size w w'

/-- Laid extents ahead, zeros behind. -/
def laidX (xs : List (Int × Int)) (k : Nat) : List (Int × Int) := xs.take k ++ List.replicate (xs.length - k) (0, 0)

theorem laidX_length (xs : List (Int × Int)) (k : Nat) (h : k ≤ xs.length) : (laidX xs k).length = xs.length := by
  simp [laidX]; omega

theorem laidX_step (xs : List (Int × Int)) (k : Nat) (hk : k < xs.length) : (laidX xs k).set k (xs.getD k (0, 0)) = laidX xs (k + 1) := by
  unfold laidX
  apply List.ext_getElem?
  intro j
  simp only [List.getElem?_set, List.getElem?_append, List.length_take, List.getElem?_take, List.getElem?_replicate, List.length_append, List.length_replicate]
  have h1 : min k xs.length = k := by omega
  have h2 : min (k + 1) xs.length = k + 1 := by omega
  rw [h1, h2]
  by_cases hj : k = j
  · subst hj
    simp [hk]
    omega
  · by_cases hlt : j < k
    · simp [hj, hlt, show j < k + 1 by omega]
    · simp [hj, hlt, show ¬ j < k + 1 by omega]
      by_cases h : j < xs.length
      · simp [show j - k < xs.length - k by omega, show j - (k + 1) < xs.length - (k + 1) by omega]
      · simp [show ¬ j - k < xs.length - k by omega, show ¬ j - (k + 1) < xs.length - (k + 1) by omega]

theorem flatX_zero (n : Nat) : flatX (List.replicate n (0, 0)) = List.replicate (n * 2) (.int .i64 0) := by
  induction n with
  | zero => rfl
  | succ n ih =>
    rw [List.replicate_succ, show (n + 1) * 2 = n * 2 + 1 + 1 by omega, List.replicate_succ, List.replicate_succ, ← ih]
    rfl

theorem madeCells_two (z : Value) (n : Nat) : (madeCells #[z, z] n).toList = List.replicate n z := by
  apply List.ext_getElem?
  intro j
  by_cases hj : j < n
  · have : j % 2 = 0 ∨ j % 2 = 1 := by omega
    rcases this with h | h <;> simp [madeCells, hj, h]
  · simp [madeCells, hj]

theorem WfX.laid {xs : List (Int × Int)} (h : WfX xs) (k : Nat) : WfX (laidX xs k) := by
  intro z hz
  unfold laidX at hz
  rcases List.mem_append.1 hz with h' | h'
  · exact h z (List.mem_of_mem_take h')
  · have := List.eq_of_mem_replicate h'
    subst this
    decide

set_option maxHeartbeats 1000000 in
theorem toExtentS_any (a : Option Addr) (n c : Nat) (xs : List (Int × Int)) (w : World) (hr : RdX w a n xs) (hwf : WfX xs) (hn : n ≤ 1048576) :
    Calls Try.prog 16 #[.slice a n c] w (RetX w xs) := by
  obtain ⟨i0, hi, hz0, hz1, hz2⟩ := info_parts info_ext
  go_enter Try.func16, Try.ntmps16
  go_wp2_with (at_make; refine wpList_make_full _ rfl _ _ 23 rfl w.heap.size 32 i0 (.agg #[.int .i64 0, .int .i64 0]) 2 Try.underlying23 hi hz0 hz1 .i64 .i64 n n n rfl rfl rfl rfl (by rw [hz2]; omega) (by unfold maxLen; omega) (by omega) ?_; intro w1 hown hg1)
  have hb1 : Below w.heap.size w w1 := (Below.refl _ _).grown hg1 (Nat.le_refl _) (fun k hk => by cases hk)
  have hor0 : OwnX w1 w.heap.size (some { block := w.heap.size, off := 0 }) n (laidX xs 0) := by
    refine ⟨hwf.laid 0, ?_⟩
    rw [laidX_length _ _ (Nat.zero_le _), hr.1]
    have e : flatX (laidX xs 0) = (madeCells (Value.agg #[Value.int IntKind.i64 0, Value.int IntKind.i64 0]).cells (n * 2)).toList := by
      rw [show laidX xs 0 = List.replicate n (0, 0) by unfold laidX; rw [hr.1]; simp, flatX_zero]
      exact (madeCells_two _ _).symm
    rw [e]; exact hown
  have HZ := Lib.hid hr.1
  clear hown hg1
  go_loopw [4] (fun i wr => ∃ k : Nat, k ≤ n ∧ i = .int .i64 k ∧ Below w.heap.size w wr ∧ OwnX wr w.heap.size (some { block := w.heap.size, off := 0 }) n (laidX xs k))
    (fun i _ => n - (intOf i).toNat)
  case atStart => exact ⟨0, Nat.zero_le _, rfl, hb1, hor0⟩
  case round =>
    obtain ⟨k, hk, rfl, hbr, hor⟩ := hrel
    by_cases hlt : k < n
    · obtain ⟨b, off, rfl, hblt, f, m, hfm, cf, cm, ⟨wf0, wf1⟩, wm0, wm1⟩ := (hr.below hbr).at_ hwf hlt
      have HX := Lib.hid hfm
      clear hfm
      go_wp2_with fail
      with_reducible refine (toExtent_any f m _).mono ?_
      rintro e w2 ⟨rfl, hb2⟩
      have ho2 := hor.below hb2
      have hb3 := hbr.trans (hb2.mono hbr.size)
      have hkl : k < (laidX xs k).length := by rw [laidX_length _ _ (by have := HZ.out; omega)]; have := HZ.out; omega
      obtain ⟨⟨q1, q2⟩, q3, q4⟩ := ho2.cells k hkl
      clear hb2 hor cf cm hbr
      have hs := ho2.setBoth k hkl f m wf0 wf1 wm0 wm1
      rw [← HX.out, laidX_step xs k (by have := HZ.out; omega)] at hs
      have HS := Lib.hid hs
      clear hs ho2
      go_wp2
      go_roundw
      case rel => exact ⟨k + 1, by omega, by go_num, (hb3.setCell (Nat.le_refl _) _).setCell (Nat.le_refl _) _, HS.out.1⟩
      case measure => simp [intOf]; omega
    · obtain rfl : k = n := by omega
      go_wp2
      go_ret
      have h := hor
      have e : laidX xs k = xs := by unfold laidX; rw [HZ.out, List.take_of_length_le (by have := HZ.out; omega)]; simp
      rw [e] at h
      have hz := HZ.out
      rw [← hz]
      rw [← hz] at h
      exact ⟨_, _, rfl, h, hbr⟩

end Go.Proofs.Ythcjelijpeddbaa
