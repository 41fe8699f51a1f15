/- Contracts of the draws that open a code and draw one list of ints. -/
import Derived.Test.YtbegmliglabpfaaDrawFile
namespace Go.Proofs.Ytbegmliglabpfaa
open Go.RowKit

/-- A list of ints was drawn into new memory. -/
def GotI (w : World) (m : Nat) (e : Ending) (w' : World) : Prop :=
  ∃ zs a c, e = .returned (.slice a zs.length c) ∧ zs.length ≤ m ∧ OwnI w' w.heap.size a c zs ∧ Below w.heap.size w w'

theorem gotI_below {w w1 w2 : World} (hb : Below w.heap.size w w1) (hs : w1.heap.size = w.heap.size + 1) (hg : w1.grownBy w2 (some w.heap.size)) : Below w.heap.size w w2 :=
  hb.trans ⟨hg.os, hg.tape, hg.output, hg.size, fun k hk => hg.block k (by omega) (fun e => by injection e; omega)⟩

set_option maxHeartbeats 400000 in
theorem DrawBlockValid_any (a : Option Addr) (n c : Nat) (w : World) (h : RdC w a n) (hc : n ≤ c) (hn : n ≤ 1048576) :
    Calls Try.prog 26 #[.slice a n c] w (GotI w 20) := by
  go_enter Try.func26, Try.ntmps26
  go_wp2_with fail
  refine (l6Open_any a n c _ h hc hn).mono ?_
  rintro e w1 ⟨rfl, hR, hb1, hsz⟩
  have HS := Lib.hid hsz
  clear hsz
  go_wp2_with fail
  refine (l91Block_any _ _ _ _ hR (by omega)).mono ?_
  rintro e w2 ⟨zs, a2, c2, rfl, hm, hO, hD⟩
  have hb2 := gotI_below hb1 HS.out hD.2
  have hO2 := hO.mono hb1.size
  clear hO hD hR hb1
  go_wp2_with fail
  go_ret
  exact ⟨zs, a2, c2, rfl, hm, hO2, hb2⟩

set_option maxHeartbeats 400000 in
theorem DrawFileValid_any (a : Option Addr) (n c : Nat) (w : World) (h : RdC w a n) (hc : n ≤ c) (hn : n ≤ 1048576) :
    Calls Try.prog 27 #[.slice a n c] w (GotI w 33) := by
  go_enter Try.func27, Try.ntmps27
  go_wp2_with fail
  refine (l6Open_any a n c _ h hc hn).mono ?_
  rintro e w1 ⟨rfl, hR, hb1, hsz⟩
  have HS := Lib.hid hsz
  clear hsz
  go_wp2_with fail
  refine (l91File_any _ _ _ _ hR (by omega)).mono ?_
  rintro e w2 ⟨zs, a2, c2, rfl, hm, hO, hD⟩
  have hb2 := gotI_below hb1 HS.out hD.2
  have hO2 := hO.mono hb1.size
  clear hO hD hR hb1
  go_wp2_with fail
  go_ret
  exact ⟨zs, a2, c2, rfl, hm, hO2, hb2⟩

set_option maxHeartbeats 400000 in
theorem DrawBlockSum_any (a : Option Addr) (n c : Nat) (w : World) (h : RdC w a n) (hc : n ≤ c) (hn : n ≤ 1048576) :
    Calls Try.prog 28 #[.slice a n c] w (GotI w 20) := by
  go_enter Try.func28, Try.ntmps28
  go_wp2_with fail
  refine (l6Open_any a n c _ h hc hn).mono ?_
  rintro e w1 ⟨rfl, hR, hb1, hsz⟩
  have HS := Lib.hid hsz
  clear hsz
  go_wp2_with fail
  refine (l91Block_any _ _ _ _ hR (by omega)).mono ?_
  rintro e w2 ⟨zs, a2, c2, rfl, hm, hO, hD⟩
  have hb2 := gotI_below hb1 HS.out hD.2
  have hO2 := hO.mono hb1.size
  clear hO hD hR hb1
  go_wp2_with fail
  go_ret
  exact ⟨zs, a2, c2, rfl, hm, hO2, hb2⟩

set_option maxHeartbeats 400000 in
theorem DrawBlockPack_any (a : Option Addr) (n c : Nat) (w : World) (h : RdC w a n) (hc : n ≤ c) (hn : n ≤ 1048576) :
    Calls Try.prog 35 #[.slice a n c] w (GotI w 20) := by
  go_enter Try.func35, Try.ntmps35
  go_wp2_with fail
  refine (l6Open_any a n c _ h hc hn).mono ?_
  rintro e w1 ⟨rfl, hR, hb1, hsz⟩
  have HS := Lib.hid hsz
  clear hsz
  go_wp2_with fail
  refine (l91Block_any _ _ _ _ hR (by omega)).mono ?_
  rintro e w2 ⟨zs, a2, c2, rfl, hm, hO, hD⟩
  have hb2 := gotI_below hb1 HS.out hD.2
  have hO2 := hO.mono hb1.size
  clear hO hD hR hb1
  go_wp2_with fail
  go_ret
  exact ⟨zs, a2, c2, rfl, hm, hO2, hb2⟩

end Go.Proofs.Ytbegmliglabpfaa
