/- Contract of impl's openSpace: the places of extents, if these are valid. -/
import Derived.Test.YthcjelijpeddbaaExtents
import Derived.Test.YthcjelijpeddbaaPlainNum
namespace Go.Proofs.Ythcjelijpeddbaa
open Go.RowKit
set_option linter.unusedVariables false

theorem take_snocX {xs : List (Int × Int)} {k : Nat} (h : k < xs.length) : xs.take (k + 1) = xs.take k ++ [xs.getD k (0, 0)] := by
  rw [List.take_succ_eq_append_getElem h]
  simp [List.getD_eq_getElem?_getD, h]

/-- The places of an extent are in none of those ahead of it. -/
theorem free_ahead {xs : List (Int × Int)} {k : Nat} (hv : spaceV xs = true) (h : k < xs.length) (p : Int) (hp : (xs.getD k (0, 0)).1 ≤ p) : inS (xs.take k) p = false := by
  have ht := validFrom_take (k + 1) hv
  rw [take_snocX h] at ht
  obtain ⟨_, _, _, h4⟩ := valid_init ht
  simp only [inS, List.any_eq_false]
  intro y hy hc
  have := h4 y hy
  rw [inX_iff] at hc
  omega

theorem inS_take_succ {xs : List (Int × Int)} {k : Nat} (h : k < xs.length) (p : Int) : inS (xs.take (k + 1)) p = (inS (xs.take k) p || inX (xs.getD k (0, 0)) p) := by
  rw [take_snocX h, inS_append]; simp [inS]

/-- A space was opened. -/
def OpenedX (w : World) (xs : List (Int × Int)) (e : Ending) (w' : World) : Prop :=
  ∃ g, e = .returned (.tuple #[.pointer (some ⟨g, 0, none⟩), .bool true]) ∧ w.heap.size ≤ g ∧ (∃ x y, SpX w' g x y ∧ ∀ p, bitS x y p = inS xs p) ∧ Below w.heap.size w w'

set_option maxHeartbeats 1000000 in
theorem openSpace_yes (a : Option Addr) (n c : Nat) (xs : List (Int × Int)) (w : World) (hr : RdX w a n xs) (hwf : WfX xs) (hn : n ≤ 4611686018427387904) (hv : spaceV xs = true) :
    Calls Try.prog 27 #[.slice a n c] w (OpenedX w xs) := by
  have hl := Lib.hid hr.1
  have HV := Lib.hid hv
  go_enter Try.func27, Try.ntmps27
  go_wp2_with fail
  with_reducible refine (implSpaceValid_any a n c xs _ hr hwf hn).mono ?_
  rintro e w2 ⟨rfl, hb2⟩
  rw [hv]
  clear hv
  obtain ⟨G, hG⟩ : ∃ G, w2.heap.size = G := ⟨_, rfl⟩
  have hGs : w.heap.size ≤ G := by have := hb2.size; omega
  have hsp : SpX (w2.alloc (.cells #[.int .u64 0, .int .u64 0] 65)) G 0 0 := ⟨by omega, by omega, by rw [← hG]; exact heap_alloc_new w2 _⟩
  have hb3 := hb2.alloc hb2.size (.cells #[.int .u64 0, .int .u64 0] 65)
  go_wp2
  go_loopw [14] (fun i wr => ∃ k : Nat, k ≤ n ∧ i = .int .i64 k ∧ (∃ x y, SpX wr G x y ∧ Hid (∀ p, bitS x y p = inS (xs.take k) p)) ∧ Below w.heap.size w wr)
    (fun i _ => n - (intOf i).toNat)
  case atStart => exact ⟨0, Nat.zero_le _, rfl, ⟨0, 0, hsp, Lib.hid (fun p => by rw [bitS_zero]; simp [inS])⟩, hb3⟩
  case round =>
    skip
    obtain ⟨k, hk, rfl, ⟨x, y, hs, hx⟩, hb⟩ := hrel
    by_cases hlt : k < n
    · obtain ⟨b, off, rfl, hblt, f, m, hfm, cf, cm, _, _, _⟩ := (hr.below hb).at_ hwf hlt
      have hkl : k < xs.length := by have := hl.out; omega
      have hm := valid_at HV.out hkl
      have hfa := free_ahead HV.out hkl
      have hts := inS_take_succ hkl
      rw [hfm, validX_iff] at hm
      rw [hfm] at hfa hts
      simp only at hm hfa
      obtain ⟨v0, v1, v2, v3⟩ := hm
      obtain ⟨F, rfl⟩ := Int.eq_ofNat_of_zero_le v0
      obtain ⟨M, rfl⟩ := Int.eq_ofNat_of_zero_le (show 0 ≤ m by omega)
      have HF : Hid (∀ p : Int, F ≤ p → p < F + M → bitS x y p = false) := Lib.hid (fun p h1 h2 => by rw [hx.out]; exact hfa p h1)
      have HT := Lib.hid hts
      clear hfm hfa hts
      go_wp2_with fail
      with_reducible refine (give_yes G x y F M _ (hs.below ((Below.refl _ _).alloc (Nat.le_refl _) _)) (by omega) HF.out).mono ?_
      rintro e w3 ⟨rfl, ⟨x', y', hs', hx'⟩, hg3⟩
      have HX : Hid (∀ p, bitS x' y' p = inS (xs.take (k + 1)) p) := Lib.hid (fun p => by rw [hx']; show (bitS x y p || inX _ p) = _; rw [hx.out, HT.out])
      have hb4 := (hb.alloc hb.size (.cells #[.int .i64 F, .int .i64 M] 32)).grown hg3 (by have := hb.size; simp; omega) (fun r hr => by injection hr with hr; omega)
      clear hx' hg3 hs hb
      go_wp2
      go_roundw
      case rel => exact ⟨k + 1, by omega, by go_num, ⟨x', y', hs', HX⟩, hb4⟩
      case measure => simp [intOf]; omega
    · obtain rfl : k = n := by omega
      have HX : Hid (∀ p, bitS x y p = inS xs p) := Lib.hid (fun p => by rw [hx.out, List.take_of_length_le (by have := hl.out; omega)])
      go_wp2
      go_ret2
      exact ⟨G, rfl, hGs, ⟨x, y, hs, HX.out⟩, hb⟩

theorem openSpace_no (a : Option Addr) (n c : Nat) (xs : List (Int × Int)) (w : World) (hr : RdX w a n xs) (hwf : WfX xs) (hn : n ≤ 4611686018427387904) (hv : spaceV xs = false) :
    Calls Try.prog 27 #[.slice a n c] w fun e w' => e = .returned (.tuple #[.pointer none, .bool false]) ∧ Below w.heap.size w w' := by
  go_enter Try.func27, Try.ntmps27
  go_wp2_with fail
  with_reducible refine (implSpaceValid_any a n c xs _ hr hwf hn).mono ?_
  rintro e w2 ⟨rfl, hb2⟩
  rw [hv]
  clear hv
  go_wp2
  go_ret2
  exact ⟨rfl, hb2⟩

end Go.Proofs.Ythcjelijpeddbaa
