/- Contracts of small helpers: l6In, toIntS, eqIntS, sameInts, l2Same, markIntS, heldIntS. -/
import Derived.Test.YtdjpaibjelfhnaaIn
import Derived.BigQuiet
import Derived.Deep.QuietTactic
import Derived.Outline
namespace Go.Proofs.Ytdjpaibjelfhnaa
open Go.RowKit

/-- A new slice of ints is handed back, all that was there is as it was. -/
def RetI (w : World) (zs : List Int) (e : Ending) (w' : World) : Prop :=
  ∃ a c, e = .returned (.slice a zs.length c) ∧ OwnI w' w.heap.size a c zs ∧ Below w.heap.size w w'

theorem toIntS_step (zs : List Int) (k : Nat) (hk : k < zs.length) :
    ((zs.take k).map (Value.int .i64) ++ List.replicate (zs.length - k) (Value.int .i64 0)).set k (.int .i64 (zs.getD k 0)) =
      (zs.take (k + 1)).map (Value.int .i64) ++ List.replicate (zs.length - (k + 1)) (Value.int .i64 0) := by
  apply List.ext_getElem?
  intro j
  simp only [List.getElem?_set, List.getElem?_append, List.length_map, List.length_take, List.getElem?_map, List.getElem?_take, List.getElem?_replicate, List.length_append, List.length_replicate]
  have h1 : min k zs.length = k := by omega
  have h2 : min (k + 1) zs.length = k + 1 := by omega
  rw [h1, h2]
  by_cases hj : k = j
  · subst hj
    simp [hk]
    omega
  · by_cases hlt : j < k
    · simp [hj, hlt, show j < k + 1 by omega]
    · simp [hj, hlt, show ¬ j < k + 1 by omega]
      by_cases h : j < zs.length
      · simp [show j - k < zs.length - k by omega, show j - (k + 1) < zs.length - (k + 1) by omega]
      · simp [show ¬ j - k < zs.length - k by omega, show ¬ j - (k + 1) < zs.length - (k + 1) by omega]

set_option maxHeartbeats 400000 in
theorem toIntS_any (a : Option Addr) (n c : Nat) (zs : List Int) (w : World) (hr : RdI w a n zs) (hwf : WfI zs) (hn : n ≤ 1048576) :
    Calls Try.prog 40 #[.slice a n c] w (RetI w zs) := by
  obtain ⟨i0, hi, hz0, hz1, hz2⟩ := info_parts info_int
  go_enter Try.func40, Try.ntmps40
  go_wp2_with (at_make; refine wpList_make_full _ rfl _ _ 34 rfl w.heap.size 3 i0 (.int .i64 0) 1 Try.underlying34 hi hz0 hz1 .i64 .i64 n n n rfl rfl rfl rfl (by rw [hz2]; omega) (by unfold maxLen; omega) (by omega) ?_; intro w1 hown hg1)
  have hzl := hr.1
  have hb1 : Below w.heap.size w w1 := (Below.refl _ _).grown hg1 (Nat.le_refl _) (fun k hk => by cases hk)
  have hrow : w1.ownsRow w.heap.size 3 1 (Value.slice (some { block := w.heap.size, off := 0 }) n n) n
      ((zs.take 0).map (Value.int .i64) ++ List.replicate (zs.length - 0) (Value.int .i64 0)) := by
    have e : (madeCells (Value.int IntKind.i64 0).cells (n * 1)).toList = (zs.take 0).map (Value.int .i64) ++ List.replicate (zs.length - 0) (Value.int .i64 0) := by
      rw [show (Value.int IntKind.i64 0).cells = #[Value.int IntKind.i64 0] from rfl, toList_madeCells_one, Nat.mul_one, hzl]; simp
    rw [← e]; exact hown
  have HZ := Lib.hid hzl
  clear hown hg1 hzl
  go_loopw [4] (fun i wr => ∃ k : Nat, k ≤ n ∧ i = .int .i64 k ∧ Below w.heap.size w wr ∧
      wr.ownsRow w.heap.size 3 1 (Value.slice (some { block := w.heap.size, off := 0 }) n n) n ((zs.take k).map (Value.int .i64) ++ List.replicate (zs.length - k) (Value.int .i64 0)))
    (fun i _ => n - (intOf i).toNat)
  case atStart => exact ⟨0, Nat.zero_le _, rfl, hb1, hrow⟩
  case round =>
    obtain ⟨k, hk, rfl, hbr, hor⟩ := hrel
    by_cases hlt : k < n
    · obtain ⟨b, off, rfl, x, hx, hcell⟩ := (hr.below hbr).at_ hlt
      have HX := Lib.hid hx
      clear hx
      have hst := hor.stored k (.int .i64 x)
      have hfr := hor.frozenAt k
      have hold : wr.cell? ⟨w.heap.size, k, none⟩ = some (.int .i64 0) := by
        rw [hor.cellAt k (by omega)]
        rw [List.getElem?_append_right (by simp; omega), List.getElem?_replicate, if_pos (by have := HZ.out; simp; omega)]
      have hs1 := hst.1
      rw [HX.out, toIntS_step zs k (by have := HZ.out; omega), ← HX.out] at hs1
      have HS := Lib.hid hs1
      clear hst hs1 hor
      go_wp2
      go_roundw
      case rel => exact ⟨k + 1, by omega, by go_num, hbr.setCell (Nat.le_refl _) _, HS.out⟩
      case measure => simp [intOf]; omega
    · obtain rfl : k = n := by omega
      go_wp2
      go_ret
      have h := hor
      rw [← HZ.out] at h ⊢
      exact ⟨_, _, rfl, ⟨hwf, by simpa using h⟩, hbr⟩

end Go.Proofs.Ytdjpaibjelfhnaa
