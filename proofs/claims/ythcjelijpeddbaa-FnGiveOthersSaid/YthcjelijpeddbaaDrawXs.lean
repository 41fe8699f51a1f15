/- Contracts of the draws of extents. -/
import Derived.Test.YthcjelijpeddbaaDrawX
import Derived.Test.YthcjelijpeddbaaPlainExt
import Derived.Test.YthcjelijpeddbaaValidX
import Derived.IntWalk
namespace Go.Proofs.Ythcjelijpeddbaa
open Go.RowKit
set_option linter.unusedVariables false

/-- Extents were drawn into new memory, at most m. -/
def GotX (w : World) (m : Nat) (e : Ending) (w' : World) : Prop :=
  ∃ xs a c, e = .returned (.slice a xs.length c) ∧ xs.length ≤ m ∧ OwnX w' w.heap.size a c xs ∧ Below w.heap.size w w'

theorem gotX_below {w w1 w2 : World} (hb : Below w.heap.size w w1) (hs : w1.heap.size = w.heap.size + 1) (hg : w1.grownBy w2 (some w.heap.size)) : Below w.heap.size w w2 :=
  hb.trans ⟨hg.os, hg.tape, hg.output, hg.size, fun k hk => hg.block k (by omega) (fun e => by injection e; omega)⟩

/-- Extents and a number were drawn. -/
def GotXi (w : World) (m : Nat) (e : Ending) (w' : World) : Prop :=
  ∃ xs a c t, e = .returned (.tuple #[.slice a xs.length c, .int .i64 t]) ∧ xs.length ≤ m ∧ -1000 ≤ t ∧ t ≤ 1000 ∧ OwnX w' w.heap.size a c xs ∧ Below w.heap.size w w'

set_option maxHeartbeats 800000 in
theorem DrawSpaceTake_any (a : Option Addr) (n c : Nat) (w : World) (h : RdC w a n) (hc : n ≤ c) (hn : n ≤ 1048576) :
    Calls Try.prog 8 #[.slice a n c] w (GotXi w 8) := by
  go_enter Try.func8, Try.ntmps8
  go_wp2_with fail
  refine (l6Open_any a n c _ h hc hn).mono ?_
  rintro e w1 ⟨rfl, hR, hb1, hsz⟩
  have HS := Lib.hid hsz
  clear hsz
  go_wp2_with fail
  refine (l92Space_any _ _ _ _ hR (by omega)).mono ?_
  rintro e w2 ⟨zs, a2, c2, rfl, hm, hO, hD⟩
  have hlt : w.heap.size < w1.heap.size := by rw [HS.out]; omega
  clear hR
  go_wp2_with fail
  refine (pickD _ hD (by omega)).mono ?_
  rintro e w3 ⟨x, rfl, hx0, hx1, hD3, hg3⟩
  have hO3 := hO.grown hg3 hlt
  have hx2 := hx1 (by omega)
  clear hx1 hg3 hO hD
  go_wp2_with fail
  refine (pickD _ hD3 (by omega)).mono ?_
  rintro e w4 ⟨y, rfl, hy0, hy1, hD4, hg4⟩
  have hO4 := hO3.grown hg4 hlt
  have hy2 := hy1 (by omega)
  clear hy1 hg4 hO3 hD3
  have hb2 := gotX_below hb1 HS.out hD4.2
  have hO2 := hO4.mono hb1.size
  have q0 : 0 ≤ y / 23 := by omega
  have q1 : y / 23 ≤ 1 := by omega
  clear hO4 hD4 hb1
  go_wp2
  go_ret2
  exact ⟨zs, a2, c2, _, rfl, hm, by omega, by omega, hO2, hb2⟩

set_option maxHeartbeats 1000000 in
theorem isFree_any (a : Option Addr) (n c : Nat) (xs : List (Int × Int)) (p : Int) (w : World) (hr : RdX w a n xs) (hwf : WfX xs) (hn : n ≤ 4611686018427387904) (hv : spaceV xs = true) :
    Calls Try.prog 21 #[.slice a n c, .int .i64 p] w (RetB w (.bool (inS xs p))) := by
  have hl := Lib.hid hr.1
  have HV := Lib.hid (wf_space hv)
  clear hv
  go_enter Try.func21, Try.ntmps21
  go_wp2
  go_loopw [5] (fun i wr => ∃ k : Nat, k ≤ n ∧ i = .int .i64 k ∧ Hid (inS xs p = inS (xs.drop k) p) ∧ ∃ m, wr = w.drewN m)
    (fun i _ => n - (intOf i).toNat)
  case atStart => exact ⟨0, Nat.zero_le _, rfl, Lib.hid (by simp), 0, rfl⟩
  case round =>
    obtain ⟨k, hk, rfl, he, q, rfl⟩ := hrel
    by_cases hlt : k < n
    · obtain ⟨b, off, rfl, hblt, f, m, hfm, cf, cm, _, _, _⟩ := hr.at_ hwf hlt
      have hkl : k < xs.length := by have := hl.out; omega
      have hvv := HV.out _ (getD_mem_pair hkl)
      rw [hfm] at hvv
      simp only at hvv
      obtain ⟨v0, v1, v2, v3⟩ := hvv
      have hst : Hid (inS xs p = (inX (f, m) p || inS (xs.drop (k + 1)) p)) := Lib.hid (by
        rw [he.out, List.drop_eq_getElem_cons hkl, inS_cons]
        have : xs[k] = (f, m) := by rw [← hfm]; simp [List.getD_eq_getElem?_getD, hkl]
        rw [this])
      have hk0 : (0 : Int) ≤ (k : Int) := by omega
      have hk1 : (k : Int) < (n : Int) := by omega
      have s1 : IntKind.i64.wrap (f + m) = f + m := IntWalk.i64_in _ (by omega)
      clear hfm
      by_cases h1 : f ≤ p
      · have d1 : decide (f ≤ p) = true := by simpa using h1
        by_cases h2 : p < f + m
        · have d2 : decide (p < f + m) = true := by simpa using h2
          have hyes : Hid (inS xs p = true) := Lib.hid (by rw [hst.out]; simp [inX, h1, h2])
          go_wp2
          go_quiet (fail)
          go_wp2
          go_ret
          rw [hyes.out]
          exact ⟨rfl, below_drewN (below_drewN (Below.refl _ _) _) _⟩
        · have d2 : decide (p < f + m) = false := by simpa using h2
          have hnx : Hid (inS xs p = inS (xs.drop (k + 1)) p) := Lib.hid (by rw [hst.out]; simp [inX, h2])
          go_wp2
          go_quiet (fail)
          go_wp2
          go_roundw
          case rel => exact ⟨k + 1, by omega, by go_num, hnx, q + nq, rfl⟩
          case measure => simp [intOf]; omega
      · have d1 : decide (f ≤ p) = false := by simpa using h1
        have hnx : Hid (inS xs p = inS (xs.drop (k + 1)) p) := Lib.hid (by rw [hst.out]; simp [inX, h1])
        go_wp2
        go_quiet (fail)
        go_wp2
        go_roundw
        case rel => exact ⟨k + 1, by omega, by go_num, hnx, q + nq, rfl⟩
        case measure => simp [intOf]; omega
    · obtain rfl : k = n := by omega
      have hno : Hid (inS xs p = false) := Lib.hid (by rw [he.out, List.drop_of_length_le (by have := hl.out; omega)]; rfl)
      go_wp2
      go_ret
      rw [hno.out]
      exact ⟨rfl, below_drewN (Below.refl _ _) _⟩

end Go.Proofs.Ythcjelijpeddbaa
