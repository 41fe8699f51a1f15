/- Contracts of the draws of paths: a short text is drawn. -/
import Derived.Test.YtcojgoibelgleaaDrawn
import Derived.Test.YtcojgoibelgleaaPathSpec2
import Derived.Outline
namespace Go.Proofs.Ytcojgoibelgleaa
open Go.RowKit
set_option linter.unusedVariables false

/-- A short text was drawn; only the reader, and what is new, has changed. -/
def DrewT (w wr : World) (B g : Nat) (lim : Int) (e : Ending) (w1 : World) : Prop :=
  ∃ s : ByteArray, e = .returned (.string s) ∧ s.size ≤ 16 ∧ Drawn w w1 B g lim ∧ wr.grownBy w1 (some g)

theorem OwnS.one {W : World} {B : Nat} (ss : List ByteArray) (hB : B ≤ W.heap.size) (hn : ss.length ≤ 1099511627776) :
    OwnS (W.alloc (.cells (ss.map Value.string).toArray 9)) B (some ⟨W.heap.size, 0, none⟩) ss.length ss := by
  have := World.ownsRow_lit (e := 9) (size := 1) (base := B) W (ss.map Value.string).toArray ss.length hB (by unfold maxLen; omega) (by simp)
  simpa [OwnS] using this

set_option maxHeartbeats 400000 in
theorem of_any (B g : Nat) (w wr : World) (lim : Int) (a : Option Addr) (c n : Nat) (ss : List ByteArray) (B' : Nat) (hO : OwnS wr B' a c ss) (hn : ss.length = n) (hB : g < B') (h : Drawn w wr B g lim) (h0 : 0 < n) (h1 : n ≤ 1000) (hl : lim ≤ 1000000000000) (hs : ∀ s ∈ ss, s.size ≤ 16) :
    Calls Try.prog 26 #[.pointer (some ⟨g, 0, none⟩), .slice a n c] wr (DrewT w wr B g (lim + 1)) := by
  have HS := Lib.hid hs
  have HN := Lib.hid hn
  clear hs
  go_enter Try.func26, Try.ntmps26
  go_wp2_with fail
  refine (pickD _ h (by omega)).mono ?_
  rintro e w1 ⟨x, rfl, hx0, hx1, hD1, hg1⟩
  have hx2 := hx1 (by omega)
  have hO1 := hO.grown hg1 hB
  obtain ⟨i, rfl⟩ := Int.eq_ofNat_of_zero_le hx0
  have hil : i < ss.length := by omega
  obtain ⟨b, off, rfl, hbl, s, hs, hcell⟩ := hO1.rd.at_ hil
  have hsz : s.size ≤ 16 := HS.out s (by rw [← hs, List.getD_eq_getElem?_getD, List.getElem?_eq_getElem hil]; exact List.getElem_mem _)
  clear hs hO hO1 hx1 hn hil
  have hi0 : (0 : Int) ≤ (i : Int) := by omega
  go_wp2
  go_ret
  exact ⟨s, rfl, hsz, hD1, hg1⟩

/-- One of the texts that the call lists is drawn. -/
theorem of_lit (B g : Nat) (w wr : World) (lim : Int) (n : Nat) (xs : Array Value) (ss : List ByteArray) (hx : xs = (ss.map Value.string).toArray) (hn : ss.length = n) (h : Drawn w wr B g lim) (h0 : 0 < n) (h1 : n ≤ 1000) (hl : lim ≤ 1000000000000) (hs : ∀ s ∈ ss, s.size ≤ 16) :
    Calls Try.prog 26 #[.pointer (some ⟨g, 0, none⟩), .slice (some ⟨wr.heap.size, 0, none⟩) n n] (wr.alloc (.cells xs 9)) (DrewT w wr B g (lim + 1)) := by
  subst hx
  have hO := OwnS.one (W := wr) ss (Nat.le_refl _) (by omega)
  rw [hn] at hO
  refine (of_any B g w _ lim _ _ n ss wr.heap.size hO hn h.lt (h.alloc _) h0 h1 hl hs).mono ?_
  rintro e w1 ⟨s, rfl, hsz, hD, hG⟩
  exact ⟨s, rfl, hsz, hD, grownBy_trans (World.grownBy_alloc wr _ _) hG⟩

def t0 : List ByteArray := [⟨#[]⟩, ⟨#[97, 47, 47, 98]⟩, ⟨#[47, 97]⟩, ⟨#[97, 47]⟩, ⟨#[65]⟩, ⟨#[97, 98, 99, 100, 101, 102]⟩, ⟨#[97, 47, 98, 47, 99, 47, 100, 47, 101]⟩, ⟨#[97, 47, 98, 47, 99, 47, 100]⟩]
theorem t0_arr : #[Value.string ⟨#[]⟩, Value.string ⟨#[97, 47, 47, 98]⟩, Value.string ⟨#[47, 97]⟩, Value.string ⟨#[97, 47]⟩, Value.string ⟨#[65]⟩, Value.string ⟨#[97, 98, 99, 100, 101, 102]⟩, Value.string ⟨#[97, 47, 98, 47, 99, 47, 100, 47, 101]⟩, Value.string ⟨#[97, 47, 98, 47, 99, 47, 100]⟩] = (t0.map Value.string).toArray := rfl
def t1 : List ByteArray := [⟨#[97]⟩, ⟨#[98]⟩, ⟨#[97, 47, 120]⟩, ⟨#[97, 47, 121]⟩, ⟨#[98, 47, 120]⟩, ⟨#[97, 47, 120, 47, 112]⟩, ⟨#[99]⟩, ⟨#[97, 47, 120, 47, 113]⟩]
theorem t1_arr : #[Value.string ⟨#[97]⟩, Value.string ⟨#[98]⟩, Value.string ⟨#[97, 47, 120]⟩, Value.string ⟨#[97, 47, 121]⟩, Value.string ⟨#[98, 47, 120]⟩, Value.string ⟨#[97, 47, 120, 47, 112]⟩, Value.string ⟨#[99]⟩, Value.string ⟨#[97, 47, 120, 47, 113]⟩] = (t1.map Value.string).toArray := rfl

/-- A text was drawn. -/
def GotT (w : World) (e : Ending) (w' : World) : Prop := ∃ s : ByteArray, e = .returned (.string s) ∧ s.size ≤ 16 ∧ Below w.heap.size w w'
/-- Two texts were drawn. -/
def GotTT (w : World) (e : Ending) (w' : World) : Prop := ∃ s d : ByteArray, e = .returned (.tuple #[.string s, .string d]) ∧ s.size ≤ 16 ∧ d.size ≤ 16 ∧ Below w.heap.size w w'
/-- Three texts were drawn. -/
def GotTTT (w : World) (e : Ending) (w' : World) : Prop := ∃ s d t : ByteArray, e = .returned (.tuple #[.string s, .string d, .string t]) ∧ s.size ≤ 16 ∧ d.size ≤ 16 ∧ t.size ≤ 16 ∧ Below w.heap.size w w'

theorem got_below {w w1 w2 : World} (hb : Below w.heap.size w w1) (hs : w1.heap.size = w.heap.size + 1) (hg : w1.grownBy w2 (some w.heap.size)) : Below w.heap.size w w2 :=
  hb.trans ⟨hg.os, hg.tape, hg.output, hg.size, fun k hk => hg.block k (by omega) (fun e => by injection e; omega)⟩

theorem parentR_size (s : ByteArray) : (mkS (parentR (bts s)).1).size ≤ s.size := by
  rw [mkS_size, ← bts_length]
  unfold parentR
  split
  · simp; omega
  · simp

def t2 : List ByteArray := [⟨#[98]⟩, ⟨#[99]⟩, ⟨#[97]⟩, ⟨#[99, 47, 100]⟩, ⟨#[99, 47, 100, 47, 101]⟩, ⟨#[67]⟩]
theorem t2_arr : #[Value.string ⟨#[98]⟩, Value.string ⟨#[99]⟩, Value.string ⟨#[97]⟩, Value.string ⟨#[99, 47, 100]⟩, Value.string ⟨#[99, 47, 100, 47, 101]⟩, Value.string ⟨#[67]⟩] = (t2.map Value.string).toArray := rfl

end Go.Proofs.Ytcojgoibelgleaa
