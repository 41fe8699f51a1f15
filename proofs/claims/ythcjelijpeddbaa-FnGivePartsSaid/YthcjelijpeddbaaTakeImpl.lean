/- Contract of impl's SpaceTake. -/
import Derived.Test.YthcjelijpeddbaaOpenSpace
import Derived.Test.YthcjelijpeddbaaPlainTake
import Derived.Deep.RegionHeld3
namespace Go.Proofs.Ythcjelijpeddbaa
open Go.RowKit
set_option linter.unusedVariables false

/-- Extents, the first place and a bool are handed back, the extents in new memory. -/
def RetT (w : World) (xs : List (Int × Int)) (at_ : Int) (ok : Bool) (e : Ending) (w' : World) : Prop :=
  ∃ a c, e = .returned (.tuple #[.slice a xs.length c, .int .i64 at_, .bool ok]) ∧ OwnX w' w.heap.size a c xs ∧ Below w.heap.size w w'

set_option maxHeartbeats 1000000 in
theorem implTake_bad (a : Option Addr) (n c : Nat) (xs : List (Int × Int)) (m : Int) (w : World) (hr : RdX w a n xs) (hwf : WfX xs) (hn : n ≤ 4611686018427387904) (hv : spaceV xs = false) :
    Calls Try.prog 9 #[.slice a n c, .int .i64 m] w (RetT w [] 0 false) := by
  go_enter Try.func9, Try.ntmps9
  go_wp2_with fail
  with_reducible refine (openSpace_no a n c xs _ hr hwf hn hv).mono ?_
  rintro e w2 ⟨rfl, hb2⟩
  go_wp2
  go_ret3
  exact ⟨_, _, rfl, OwnX.nil _ _, hb2⟩

set_option maxHeartbeats 1000000 in
theorem implTake_out (a : Option Addr) (n c : Nat) (xs : List (Int × Int)) (m : Int) (w : World) (hr : RdX w a n xs) (hwf : WfX xs) (hn : n ≤ 4611686018427387904) (hv : spaceV xs = true) (hm : m < 1 ∨ 100 < m) :
    Calls Try.prog 9 #[.slice a n c, .int .i64 m] w (RetT w [] 0 false) := by
  have hm' : decide (m < 1) = true ∨ (decide (m < 1) = false ∧ decide (100 < m) = true) := by
    by_cases h : m < 1
    · left; simpa using h
    · right; exact ⟨by simpa using h, by simp; omega⟩
  clear hm
  rcases hm' with d1 | ⟨d1, d2⟩
  all_goals
    go_enter Try.func9, Try.ntmps9
    go_wp2_with fail
    with_reducible refine (openSpace_yes a n c xs _ hr hwf hn hv).mono ?_
    rintro e w2 ⟨g, rfl, hg, _, hb2⟩
    go_wp2
    go_ret3
    exact ⟨_, _, rfl, OwnX.nil _ _, hb2⟩

set_option maxHeartbeats 2000000 in
theorem implTake_go (a : Option Addr) (n c : Nat) (xs : List (Int × Int)) (m : Int) (w : World) (hr : RdX w a n xs) (hwf : WfX xs) (hn : n ≤ 4611686018427387904) (hv : spaceV xs = true) (hm0 : 1 ≤ m) (hm1 : m ≤ 100) :
    Calls Try.prog 9 #[.slice a n c, .int .i64 m] w (RetT w (takeR xs m).1 (takeR xs m).2.1 (takeR xs m).2.2) := by
  have hl := Lib.hid hr.1
  have HV := Lib.hid hv
  have d1 : decide (m < 1) = false := by simp; omega
  have d2 : decide (100 < m) = false := by simp; omega
  go_enter Try.func9, Try.ntmps9
  go_wp2_with fail
  with_reducible refine (openSpace_yes a n c xs _ hr hwf hn hv).mono ?_
  rintro e w2 ⟨g, rfl, hg, ⟨x, y, hsp, hbit⟩, hb2⟩
  have HB := Lib.hid hbit
  have hglt := hsp.lt
  clear hv hbit
  go_wp2
  go_loopw [28] (fun i wr => ∃ k : Nat, k ≤ n ∧ i = .int .i64 k ∧ Hid (∀ j, j < k → (xs.getD j (0, 0)).2 < m) ∧ Below w2.heap.size w2 wr)
    (fun i _ => n - (intOf i).toNat)
  case atStart => exact ⟨0, Nat.zero_le _, rfl, Lib.hid (fun j hj => by omega), Below.refl _ _⟩
  case round =>
    obtain ⟨k, hk, rfl, hj, hb⟩ := hrel
    have hb3 := hb2.trans (hb.mono hb2.size)
    by_cases hlt : k < n
    · obtain ⟨b, off, rfl, hblt, f, q, hfm, cf, cm, _, _, _⟩ := (hr.below hb3).at_ hwf hlt
      have hkl : k < xs.length := by have := hl.out; omega
      have hmv := valid_at HV.out hkl
      rw [hfm, validX_iff] at hmv
      simp only at hmv
      obtain ⟨v0, v1, v2, v3⟩ := hmv
      by_cases hle : m ≤ q
      · obtain ⟨F, rfl⟩ := Int.eq_ofNat_of_zero_le v0
        obtain ⟨M, rfl⟩ := Int.eq_ofNat_of_zero_le (show 0 ≤ m by omega)
        have hta := takeX_at (m := (M : Int)) hkl hj.out (by rw [hfm]; exact hle)
        rw [hfm] at hta
        have HT := Lib.hid hta
        have d3 : decide ((M : Int) ≤ q) = true := by simpa using hle
        clear hfm hta
        go_wp2_with fail
        with_reducible refine (take_yes g x y F M _ (hsp.below (hb.alloc hb.size _)) (by omega)).mono ?_
        rintro e w3 ⟨rfl, ⟨x', y', hs', hx'⟩, hg3⟩
        have hx2 : Hid (∀ p, bitS x' y' p = (inS xs p && !inX ((F : Int), (M : Int)) p)) := Lib.hid (fun p => by rw [hx']; show (bitS x y p && _) = _; rw [HB.out])
        have hne : wr.heap.size ≠ g := by have := hb.size; omega
        have hcell : w3.cell? ⟨wr.heap.size, 0, none⟩ = some (.int .i64 F) := by
          refine cell_keep ?_ hg3 hne
          go_simp
        have hb4 : Below w.heap.size w w3 := (hb3.alloc hb3.size (.cells #[.int .i64 F, .int .i64 q] 32)).grown hg3 (by have := hb3.size; simp; omega) (fun r hr => by injection hr with hr; omega)
        have hlt3 : wr.heap.size < w3.heap.size := by have := hg3.size; simp at this; omega
        clear hx' hg3
        go_wp2
        go_region_held3 (fun w' => w'.cell? ⟨wr.heap.size, 0, none⟩ = some (.int .i64 F)) (first | go_keep | exact (hb5.cell (p := ⟨wr.heap.size, 0, none⟩) hlt3).trans hcell) ((go_at_call 29; refine (extents_any g x' y' _ hs'.drew).mono ?_; rintro e w4 ⟨ys, a4, c4, rfl, hO4, hb5, hvy, hys⟩))
        go_wp2
        go_ret3
        have hr3 := takeR_some ⟨HV.out, hm0, hm1⟩ HT.out
        rw [hr3]
        have hu := take_unique HV.out hm0 HT.out hvy (fun p => by rw [hys, hx2.out])
        rw [hu] at hO4 ⊢
        exact ⟨a4, c4, rfl, hO4.mono hb4.size, hb4.drew.trans (hb5.mono hb4.size)⟩
      · have hj2 : Hid (∀ j, j < k + 1 → (xs.getD j (0, 0)).2 < m) := Lib.hid (fun j h => by
          rcases Nat.lt_or_ge j k with h' | h'
          · exact hj.out j h'
          · obtain rfl : j = k := by omega
            rw [hfm]; simp only; omega)
        have d3 : decide (m ≤ q) = false := by simpa using hle
        have hbx := hb.alloc hb.size (.cells #[.int .i64 f, .int .i64 q] 32)
        clear hfm
        go_wp2
        go_roundw
        case rel => exact ⟨k + 1, by omega, by go_num, hj2, hbx⟩
        case measure => simp [intOf]; omega
    · obtain rfl : k = n := by omega
      have hno := takeX_none (xs := xs) (m := m) (fun j h => hj.out j (by have := hl.out; omega))
      have HN := Lib.hid (takeR_none hno)
      clear hno
      go_wp2
      go_ret3
      rw [HN.out]
      exact ⟨_, _, rfl, OwnX.nil _ _, hb3⟩

theorem implSpaceTake_any (a : Option Addr) (n c : Nat) (xs : List (Int × Int)) (m : Int) (w : World) (hr : RdX w a n xs) (hwf : WfX xs) (hn : n ≤ 4611686018427387904) :
    Calls Try.prog 9 #[.slice a n c, .int .i64 m] w (RetT w (takeR xs m).1 (takeR xs m).2.1 (takeR xs m).2.2) := by
  by_cases h : spaceV xs = true ∧ 1 ≤ m ∧ m ≤ 100
  · exact implTake_go a n c xs m w hr hwf hn h.1 h.2.1 h.2.2
  · rw [takeR_bad h]
    by_cases hv : spaceV xs = true
    · exact implTake_out a n c xs m w hr hwf hn hv (by
        by_cases h1 : m < 1
        · exact .inl h1
        · right
          refine Int.lt_of_not_ge fun h2 => h ⟨hv, by omega, by omega⟩)
    · exact implTake_bad a n c xs m w hr hwf hn (by simpa using hv)

end Go.Proofs.Ythcjelijpeddbaa
