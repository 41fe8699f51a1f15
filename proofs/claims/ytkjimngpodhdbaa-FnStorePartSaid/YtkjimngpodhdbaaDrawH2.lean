/- The draw of a store out of a code; validity of a list of elements, of a part of it. -/
import Derived.Test.YtkjimngpodhdbaaDrawH
import Derived.Test.YtkjimngpodhdbaaStoreImpl
namespace Go.Proofs.Ytkjimngpodhdbaa
open Go.RowKit
set_option linter.unusedVariables false

theorem InH.sub {w : World} {xs ys : List HV} (h : InH w xs) (hs : ∀ x ∈ ys, x ∈ xs) : InH w ys := fun x hx => h x (hs x hx)

def storeHV (xs : List HV) : Bool := storeV (valsH xs)

theorem storeH_less {xs : List HV} (h : storeHV xs = true) (k : Nat) : storeHV (xs.take k ++ xs.drop (k + 1)) = true := by
  have := store_less h k
  unfold storeHV valsH at *
  rwa [List.map_append, List.map_take, List.map_drop]

theorem storeH_twice {xs : List HV} {k : Nat} (hk : k < xs.length) : storeHV (xs.take (k + 1) ++ xs.drop k) = false := by
  have := store_twice (vs := valsH xs) (k := k) (by rw [valsH_len]; exact hk)
  unfold storeHV valsH at *
  rwa [List.map_append, List.map_take, List.map_drop]

theorem implSH_any (a : Option Addr) (n c : Nat) (xs : List HV) (w : World) (hr : RdR eltH w a n xs) (hi : InH w xs) (hs : ∀ x ∈ xs, x.zs.length ≤ 4611686018427387904) (hc : n ≤ c ∧ c ≤ maxLen) :
    Calls Try.prog 11 #[.slice a n c] w (RetB w (.bool (storeHV xs))) := implStoreValid_any a n c xs w hr hi hs hc.1 (by have := hc.2; unfold maxLen at this; omega)

theorem specSH_any (a : Option Addr) (n c : Nat) (xs : List HV) (w : World) (hr : RdR eltH w a n xs) (hi : InH w xs) (hs : ∀ x ∈ xs, x.zs.length ≤ 4611686018427387904) (hn : n ≤ 4611686018427387904) :
    Calls Try.prog 9 #[.slice a n c] w (RetB w (.bool (storeHV xs))) := specStoreValid_any a n c xs w hr hi hs hn

/-- A store was drawn into new memory. -/
def GotH (w : World) (e : Ending) (w' : World) : Prop :=
  ∃ xs a c, e = .returned (.slice a xs.length c) ∧ xs.length ≤ 16 ∧ (∀ x ∈ xs, x.zs.length ≤ 8) ∧ OwnR eltH w' w.heap.size a c xs ∧ InH w' xs ∧ Below w.heap.size w w'

theorem got_belowH {w w1 w2 : World} (hb : Below w.heap.size w w1) (hs : w1.heap.size = w.heap.size + 1) (hg : w1.grownBy w2 (some w.heap.size)) : Below w.heap.size w w2 :=
  ⟨hg.os.trans hb.os, hg.tape.trans hb.tape, hg.output.trans hb.output, Nat.le_trans hb.size hg.size, fun k hk => (hg.block k (by omega) (fun e => by injection e with e; omega)).trans (hb.block k hk)⟩

set_option maxHeartbeats 400000 in
theorem DrawStoreValid_any (a : Option Addr) (n c : Nat) (w : World) (h : RdC w a n) (hc : n ≤ c) (hn : n ≤ 1048576) :
    Calls Try.prog 13 #[.slice a n c] w (GotH w) := by
  go_enter Try.func13, Try.ntmps13
  go_wp2_with fail
  with_reducible refine (l6Open_any a n c _ h hc hn).mono ?_
  rintro e w1 ⟨rfl, hR, hb1, hsz⟩
  have HS := Lib.hid hsz
  clear hsz
  go_wp2_with fail
  with_reducible refine (l91Store_any _ _ _ _ _ (Drawn.start hR) (by omega)).mono ?_
  rintro e w2 ⟨zs, a2, c2, rfl, hz5, hsm, hO, hD, hg⟩
  have hb2 := got_belowH hb1 HS.out hg
  go_wp2
  go_ret
  exact ⟨zs, a2, c2, rfl, hz5, fun x hx => (hsm x hx).2.1, hO.row.mono hb1.size, hO.inn, hb2⟩

end Go.Proofs.Ytkjimngpodhdbaa
