/- What the exact laws over stores want of lists of numbers: rows that stay, sizes. -/
import Derived.Test.YtkjimngpodhdbaaMarkH
import Derived.Test.YtkjimngpodhdbaaApp
namespace Go.Proofs.Ytkjimngpodhdbaa
open Go.RowKit
set_option linter.unusedVariables false

theorem below_drewN {B : Nat} {w w' : World} (h : Below B w w') (k : Nat) : Below B w (w'.drewN k) := ⟨h.os, h.tape, h.output, h.size, h.block⟩

theorem heldRd {w : World} {B : Nat} {a : Option Addr} {c n : Nat} {k : Int} (h : OwnI w B a c (seqI k n)) : RdI w a n (seqI k n) := by
  have := h.rd
  rwa [seqI_length] at this

theorem OwnH.rdN {w : World} {B : Nat} {a : Option Addr} {c n : Nat} {xs : List HV} (h : OwnH w B a c xs) (hn : xs.length = n) : RdR eltH w a n xs := hn ▸ h.row.rd

theorem vals_size {xs ys : List HV} (h : valsH ys = valsH xs) {m : Nat} (hs : ∀ x ∈ xs, x.zs.length ≤ m) : ∀ y ∈ ys, y.zs.length ≤ m := by
  intro y hy
  have : y.val ∈ valsH ys := List.mem_map_of_mem hy
  rw [h] at this
  obtain ⟨x, hx, he⟩ := List.mem_map.1 this
  have := hs x hx
  have hz : x.zs = y.zs := congrArg (fun p : Int × List Int × Int => p.2.1) he
  rw [← hz]; exact this

theorem szH_vals {xs ys : List HV} (h : valsH ys = valsH xs) : szH ys = szH xs := by
  have e : ∀ zs : List HV, szH zs = ((valsH zs).map fun v => (v.2.1.length : Int)).sum := by
    intro zs
    unfold szH valsH
    rw [List.map_map]
    rfl
  rw [e, e, h]

theorem OwnI.within {lo hi : Nat} {w w' : World} {B : Nat} {a : Option Addr} {c : Nat} {xs : List Int} (ho : OwnI w B a c xs) (h : Within lo hi w w') (hk : ∀ k, (Value.slice a xs.length c).ownBlock = some k → k < lo ∨ hi ≤ k) : OwnI w' B a c xs :=
  ⟨ho.1, h.row ho.2 hk⟩

end Go.Proofs.Ytkjimngpodhdbaa
