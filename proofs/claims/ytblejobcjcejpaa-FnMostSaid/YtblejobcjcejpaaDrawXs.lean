/- Contracts of the draws of extents. -/
import Derived.Test.YtblejobcjcejpaaDrawX
import Derived.Test.YtblejobcjcejpaaPlainExt
import Derived.Test.YtblejobcjcejpaaValidX
import Derived.IntWalk
namespace Go.Proofs.Ytblejobcjcejpaa
open Go.RowKit
set_option linter.unusedVariables false

/-- Extents were drawn into new memory, at most m. -/
def GotX (w : World) (m : Nat) (e : Ending) (w' : World) : Prop :=
  ∃ xs a c, e = .returned (.slice a xs.length c) ∧ xs.length ≤ m ∧ OwnX w' w.heap.size a c xs ∧ Below w.heap.size w w'

theorem gotX_below {w w1 w2 : World} (hb : Below w.heap.size w w1) (hs : w1.heap.size = w.heap.size + 1) (hg : w1.grownBy w2 (some w.heap.size)) : Below w.heap.size w w2 :=
  hb.trans ⟨hg.os, hg.tape, hg.output, hg.size, fun k hk => hg.block k (by omega) (fun e => by injection e; omega)⟩

set_option maxHeartbeats 400000 in
theorem DrawSpaceValid_any (a : Option Addr) (n c : Nat) (w : World) (h : RdC w a n) (hc : n ≤ c) (hn : n ≤ 1048576) :
    Calls Try.prog 14 #[.slice a n c] w (GotX w 8) := by
  go_enter Try.func14, Try.ntmps14
  go_wp2_with fail
  refine (l6Open_any a n c _ h hc hn).mono ?_
  rintro e w1 ⟨rfl, hR, hb1, hsz⟩
  have HS := Lib.hid hsz
  clear hsz
  go_wp2_with fail
  refine (l92Space_any _ _ _ _ hR (by omega)).mono ?_
  rintro e w2 ⟨zs, a2, c2, rfl, hm, hO, hD⟩
  have hb2 := gotX_below hb1 HS.out hD.2
  have hO2 := hO.mono hb1.size
  clear hO hD hR hb1
  go_wp2_with fail
  go_ret
  exact ⟨zs, a2, c2, rfl, hm, hO2, hb2⟩

set_option maxHeartbeats 400000 in
theorem DrawSpaceFree_any (a : Option Addr) (n c : Nat) (w : World) (h : RdC w a n) (hc : n ≤ c) (hn : n ≤ 1048576) :
    Calls Try.prog 20 #[.slice a n c] w (GotX w 8) := by
  go_enter Try.func20, Try.ntmps20
  go_wp2_with fail
  refine (l6Open_any a n c _ h hc hn).mono ?_
  rintro e w1 ⟨rfl, hR, hb1, hsz⟩
  have HS := Lib.hid hsz
  clear hsz
  go_wp2_with fail
  refine (l92Space_any _ _ _ _ hR (by omega)).mono ?_
  rintro e w2 ⟨zs, a2, c2, rfl, hm, hO, hD⟩
  have hb2 := gotX_below hb1 HS.out hD.2
  have hO2 := hO.mono hb1.size
  clear hO hD hR hb1
  go_wp2_with fail
  go_ret
  exact ⟨zs, a2, c2, rfl, hm, hO2, hb2⟩

set_option maxHeartbeats 400000 in
theorem DrawSpaceMost_any (a : Option Addr) (n c : Nat) (w : World) (h : RdC w a n) (hc : n ≤ c) (hn : n ≤ 1048576) :
    Calls Try.prog 19 #[.slice a n c] w (GotX w 8) := by
  go_enter Try.func19, Try.ntmps19
  go_wp2_with fail
  refine (l6Open_any a n c _ h hc hn).mono ?_
  rintro e w1 ⟨rfl, hR, hb1, hsz⟩
  have HS := Lib.hid hsz
  clear hsz
  go_wp2_with fail
  refine (l92Space_any _ _ _ _ hR (by omega)).mono ?_
  rintro e w2 ⟨zs, a2, c2, rfl, hm, hO, hD⟩
  have hb2 := gotX_below hb1 HS.out hD.2
  have hO2 := hO.mono hb1.size
  clear hO hD hR hb1
  go_wp2_with fail
  go_ret
  exact ⟨zs, a2, c2, rfl, hm, hO2, hb2⟩

/-- Extents and a number were drawn. -/
def GotXi (w : World) (m : Nat) (e : Ending) (w' : World) : Prop :=
  ∃ xs a c t, e = .returned (.tuple #[.slice a xs.length c, .int .i64 t]) ∧ xs.length ≤ m ∧ -1000 ≤ t ∧ t ≤ 1000 ∧ OwnX w' w.heap.size a c xs ∧ Below w.heap.size w w'

end Go.Proofs.Ytblejobcjcejpaa
