/- Contract of impl's SpaceGive. -/
import Derived.Test.YthcjelijpeddbaaOpenSpace
import Derived.Test.YthcjelijpeddbaaPlainTake
import Derived.Deep.RegionHeld3
namespace Go.Proofs.Ythcjelijpeddbaa
open Go.RowKit
set_option linter.unusedVariables false

/-- Extents and a bool are handed back, the extents in new memory. -/
def RetG (w : World) (xs : List (Int × Int)) (ok : Bool) (e : Ending) (w' : World) : Prop :=
  ∃ a c, e = .returned (.tuple #[.slice a xs.length c, .bool ok]) ∧ OwnX w' w.heap.size a c xs ∧ Below w.heap.size w w'

theorem boxBelow (w : World) (o : Obj) : Below w.heap.size w (w.alloc o) := (Below.refl _ _).alloc (Nat.le_refl _) _

set_option maxHeartbeats 1000000 in
theorem implGive_bad (a : Option Addr) (n c : Nat) (xs : List (Int × Int)) (f m : Int) (w : World) (hr : RdX w a n xs) (hwf : WfX xs) (hn : n ≤ 4611686018427387904) (hv : spaceV xs = false) :
    Calls Try.prog 12 #[.slice a n c, .agg #[.int .i64 f, .int .i64 m]] w (RetG w [] false) := by
  have hb0 := boxBelow w (.cells #[.int .i64 f, .int .i64 m] 32)
  have hr0 := hr.below hb0
  go_enter Try.func12, Try.ntmps12
  go_wp2_with fail
  with_reducible refine (openSpace_no a n c xs _ hr0 hwf hn hv).mono ?_
  rintro e w2 ⟨rfl, hb2⟩
  have hb3 := hb0.trans (hb2.mono hb0.size)
  go_wp2
  go_ret2
  exact ⟨_, _, rfl, OwnX.nil _ _, hb3⟩

set_option maxHeartbeats 1000000 in
theorem implGive_inv (a : Option Addr) (n c : Nat) (xs : List (Int × Int)) (f m : Int) (w : World) (hr : RdX w a n xs) (hwf : WfX xs) (hn : n ≤ 4611686018427387904) (hv : spaceV xs = true)
    (hf : -9223372036854775808 ≤ f ∧ f ≤ 9223372036854775807) (hm : -9223372036854775808 ≤ m ∧ m ≤ 9223372036854775807) (hx : validX (f, m) = false) :
    Calls Try.prog 12 #[.slice a n c, .agg #[.int .i64 f, .int .i64 m]] w (RetG w [] false) := by
  have hb0 := boxBelow w (.cells #[.int .i64 f, .int .i64 m] 32)
  have hr0 := hr.below hb0
  go_enter Try.func12, Try.ntmps12
  go_wp2_with fail
  with_reducible refine (openSpace_yes a n c xs _ hr0 hwf hn hv).mono ?_
  rintro e w2 ⟨g, rfl, hg, _, hb2⟩
  obtain ⟨b0, b1, hb3, _⟩ := box_keep hb2
  clear hb2 hg
  go_wp2_with fail
  with_reducible refine (extValid_any f m _ hf.1 hf.2 hm.1 hm.2).mono ?_
  rintro e w3 ⟨rfl, hb⟩
  have hb4 := hb3.trans (hb.mono hb3.size)
  rw [hx]
  clear hb hx
  go_wp2
  go_ret2
  exact ⟨_, _, rfl, OwnX.nil _ _, hb4⟩

set_option maxHeartbeats 1000000 in
theorem implGive_met (a : Option Addr) (n c : Nat) (xs : List (Int × Int)) (F M : Nat) (w : World) (hr : RdX w a n xs) (hwf : WfX xs) (hn : n ≤ 4611686018427387904) (hv : spaceV xs = true)
    (hx : validX ((F : Int), (M : Int)) = true) (hme : meetsL xs ((F : Int), (M : Int)) = true) :
    Calls Try.prog 12 #[.slice a n c, .agg #[.int .i64 F, .int .i64 M]] w (RetG w [] false) := by
  have hb0 := boxBelow w (.cells #[.int .i64 F, .int .i64 M] 32)
  have hr0 := hr.below hb0
  have vx := (validX_iff _).1 hx
  simp only at vx
  obtain ⟨v0, v1, v2, v3⟩ := vx
  have HME := Lib.hid (meetsL_true hv hx hme)
  clear hme
  go_enter Try.func12, Try.ntmps12
  go_wp2_with fail
  with_reducible refine (openSpace_yes a n c xs _ hr0 hwf hn hv).mono ?_
  rintro e w2 ⟨g, rfl, hg, ⟨x, y, hsp, hbit⟩, hb2⟩
  have HB := Lib.hid hbit
  obtain ⟨b0, b1, hb3, hlt⟩ := box_keep hb2
  clear hb2 hbit
  go_wp2_with fail
  with_reducible refine (extValid_any F M _ (by omega) (by omega) (by omega) (by omega)).mono ?_
  rintro e w3 ⟨rfl, hb⟩
  have hsp3 := hsp.below hb
  have b03 := (hb.cell (p := ⟨w.heap.size, 0, none⟩) hlt).trans b0
  have b13 := (hb.cell (p := ⟨w.heap.size, 1, none⟩) hlt).trans b1
  have hb4 := hb3.trans (hb.mono hb3.size)
  have HM2 : Hid (∃ p : Int, F ≤ p ∧ p < F + M ∧ bitS x y p = true) := Lib.hid (by
    obtain ⟨p, p1, p2, p3⟩ := HME.out
    exact ⟨p, p1, p2, by rw [HB.out]; exact p3⟩)
  rw [hx]
  clear hb hx b0 b1 hsp hb3
  go_wp2_with fail
  with_reducible refine (give_no g x y F M _ hsp3 (by omega) HM2.out).mono ?_
  rintro e w4 ⟨rfl, hg4⟩
  have hgw : w.heap.size ≤ g := by simp at hg; omega
  have hb5 := hb4.grown hg4 hb4.size (fun r hr => by injection hr with hr; omega)
  clear hg4
  go_wp2
  go_ret2
  exact ⟨_, _, rfl, OwnX.nil _ _, hb5⟩

set_option maxHeartbeats 1000000 in
theorem implGive_go (a : Option Addr) (n c : Nat) (xs : List (Int × Int)) (F M : Nat) (w : World) (hr : RdX w a n xs) (hwf : WfX xs) (hn : n ≤ 4611686018427387904) (hv : spaceV xs = true)
    (hx : validX ((F : Int), (M : Int)) = true) (hme : meetsL xs ((F : Int), (M : Int)) = false) :
    Calls Try.prog 12 #[.slice a n c, .agg #[.int .i64 F, .int .i64 M]] w (RetG w (giveL xs ((F : Int), (M : Int))) true) := by
  have hb0 := boxBelow w (.cells #[.int .i64 F, .int .i64 M] 32)
  have hr0 := hr.below hb0
  have vx := (validX_iff _).1 hx
  simp only at vx
  obtain ⟨v0, v1, v2, v3⟩ := vx
  have HME := Lib.hid ((meetsL_iff hv hx).1 hme)
  have HUN := Lib.hid (fun (ys : List (Int × Int)) => @give_unique xs ys ((F : Int), (M : Int)) hv hx hme)
  clear hme
  go_enter Try.func12, Try.ntmps12
  go_wp2_with fail
  with_reducible refine (openSpace_yes a n c xs _ hr0 hwf hn hv).mono ?_
  rintro e w2 ⟨g, rfl, hg, ⟨x, y, hsp, hbit⟩, hb2⟩
  have HB := Lib.hid hbit
  obtain ⟨b0, b1, hb3, hlt⟩ := box_keep hb2
  clear hb2 hbit
  go_wp2_with fail
  with_reducible refine (extValid_any F M _ (by omega) (by omega) (by omega) (by omega)).mono ?_
  rintro e w3 ⟨rfl, hb⟩
  have hsp3 := hsp.below hb
  have b03 := (hb.cell (p := ⟨w.heap.size, 0, none⟩) hlt).trans b0
  have b13 := (hb.cell (p := ⟨w.heap.size, 1, none⟩) hlt).trans b1
  have hb4 := hb3.trans (hb.mono hb3.size)
  have HM2 : Hid (∀ p : Int, F ≤ p → p < F + M → bitS x y p = false) := Lib.hid (fun p h1 h2 => by rw [HB.out]; exact HME.out p h1 h2)
  rw [hx]
  clear hb hx b0 b1 hsp hb3
  go_wp2_with fail
  with_reducible refine (give_yes g x y F M _ hsp3 (by omega) HM2.out).mono ?_
  rintro e w4 ⟨rfl, ⟨x', y', hs', hx'⟩, hg4⟩
  have hgw : w.heap.size ≤ g := by simp at hg; omega
  have hb5 := hb4.grown hg4 hb4.size (fun r hr => by injection hr with hr; omega)
  have HX : Hid (∀ p, bitS x' y' p = (inS xs p || inX ((F : Int), (M : Int)) p)) := Lib.hid (fun p => by rw [hx']; show (bitS x y p || _) = _; rw [HB.out])
  clear hg4 hx'
  go_wp2_with fail
  with_reducible refine (extents_any g x' y' _ hs').mono ?_
  rintro e w5 ⟨ys, a5, c5, rfl, hO5, hb, hvy, hys⟩
  have hb6 := hb5.trans (hb.mono hb5.size)
  have hu := HUN.out ys hvy (fun p => by rw [hys, HX.out])
  rw [hu] at hO5 ⊢
  have hO6 := hO5.mono hb5.size
  clear hb hys hvy hu hO5
  go_wp2
  go_ret2
  exact ⟨a5, c5, rfl, hO6, hb6⟩

theorem implSpaceGive_any (a : Option Addr) (n c : Nat) (xs : List (Int × Int)) (f m : Int) (w : World) (hr : RdX w a n xs) (hwf : WfX xs) (hn : n ≤ 4611686018427387904)
    (hf : -9223372036854775808 ≤ f ∧ f ≤ 9223372036854775807) (hm : -9223372036854775808 ≤ m ∧ m ≤ 9223372036854775807) :
    Calls Try.prog 12 #[.slice a n c, .agg #[.int .i64 f, .int .i64 m]] w (RetG w (giveR xs (f, m)).1 (giveR xs (f, m)).2) := by
  by_cases hv : spaceV xs = true
  · by_cases hx : validX (f, m) = true
    · have vx := (validX_iff _).1 hx
      simp only at vx
      obtain ⟨F, rfl⟩ := Int.eq_ofNat_of_zero_le vx.1
      obtain ⟨M, rfl⟩ := Int.eq_ofNat_of_zero_le (show 0 ≤ m by omega)
      by_cases hme : meetsL xs ((F : Int), (M : Int)) = false
      · rw [giveR_good ⟨hv, hx, hme⟩]
        exact implGive_go a n c xs F M w hr hwf hn hv hx hme
      · rw [giveR_bad (fun h => hme h.2.2)]
        exact implGive_met a n c xs F M w hr hwf hn hv hx (by simpa using hme)
    · rw [giveR_bad (fun h => hx h.2.1)]
      exact implGive_inv a n c xs f m w hr hwf hn hv hf hm (by simpa using hx)
  · rw [giveR_bad (fun h => hv h.1)]
    exact implGive_bad a n c xs f m w hr hwf hn (by simpa using hv)

end Go.Proofs.Ythcjelijpeddbaa
