/- Readings of slices of strings; the builtin append onto one of the call's own. -/
import Derived.Test.YtdjpaibjelfhnaaBase
import Derived.Test.YtdjpaibjelfhnaaTr
import Derived.Test.YtdjpaibjelfhnaaIn
import Derived.OwnWalk
import Derived.Lib.Split
namespace Go.Proofs.Ytdjpaibjelfhnaa
open Go.RowKit
set_option linter.unusedVariables false

/-- The first n elements from a on read as the strings ss. -/
def RdS (w : World) (a : Option Addr) (n : Nat) (ss : List ByteArray) : Prop :=
  ss.length = n ∧ ∀ i, i < n → ∃ b off, a = some ⟨b, off, none⟩ ∧ b < w.heap.size ∧ ∀ j, j < n → w.cell? ⟨b, off + j, none⟩ = some (.string (ss.getD j ByteArray.empty))

theorem RdS.below {w w' : World} {a : Option Addr} {n : Nat} {ss : List ByteArray} (h : RdS w a n ss) (hb : Below w.heap.size w w') : RdS w' a n ss := by
  refine ⟨h.1, fun i hi => ?_⟩
  obtain ⟨b, off, rfl, hlt, hc⟩ := h.2 i hi
  exact ⟨b, off, rfl, Nat.lt_of_lt_of_le hlt hb.size, fun j hj => (hb.cell (p := ⟨b, off + j, none⟩) hlt).trans (hc j hj)⟩

theorem RdS.at_ {w : World} {a : Option Addr} {n : Nat} {ss : List ByteArray} (h : RdS w a n ss) {i : Nat} (hi : i < n) :
    ∃ b off, a = some ⟨b, off, none⟩ ∧ b < w.heap.size ∧ ∃ x, ss.getD i ByteArray.empty = x ∧ w.cell? ⟨b, off + i, none⟩ = some (.string x) := by
  obtain ⟨b, off, rfl, hlt, hc⟩ := h.2 i hi
  exact ⟨b, off, rfl, hlt, _, rfl, hc i hi⟩

/-- A slice of strings of the call's own. -/
def OwnS (w : World) (B : Nat) (a : Option Addr) (c : Nat) (ss : List ByteArray) : Prop :=
  w.ownsRow B 9 1 (.slice a ss.length c) ss.length (ss.map Value.string)

theorem info_string : (Try.prog.info? 9).map (fun i => (i.zero, i.size, i.bytes)) = some (some (.string ByteArray.empty), 1, 16) := by kernel_rfl

theorem getElem?_strs (ss : List ByteArray) (j : Nat) (h : j < ss.length) : (ss.map Value.string)[j]? = some (.string (ss.getD j ByteArray.empty)) := by
  simp [h]

theorem OwnS.rd {w : World} {B : Nat} {a : Option Addr} {c : Nat} {ss : List ByteArray} (h : OwnS w B a c ss) : RdS w a ss.length ss := by
  refine ⟨rfl, fun i hi => ?_⟩
  rcases h.2 with ⟨h', h0⟩ | ⟨g, cap, cur, h', hb, hg, hnc, hcm, hcs, htake⟩
  · omega
  · injection h' with h1 h2 h3
    subst h1
    refine ⟨g, 0, rfl, (Array.getElem?_eq_some_iff.1 hg).1, fun j hj => ?_⟩
    rw [Nat.zero_add, cell_of_row w g j cur 9 (0, 0) hg]
    have := getElem?_strs ss j hj
    rw [← htake, List.getElem?_take] at this
    simpa [hj] using this

theorem OwnS.below {w w' : World} {B : Nat} {a : Option Addr} {c : Nat} {ss : List ByteArray} (h : OwnS w B a c ss) (hb : Below w.heap.size w w') : OwnS w' B a c ss :=
  h.kept (row := none) ⟨hb.os, hb.tape, hb.output, hb.size, fun k hk _ => hb.block k hk⟩ (by cases hv : (Value.slice a ss.length c).ownBlock <;> simp)

theorem OwnS.mono {w : World} {B B' : Nat} {a : Option Addr} {c : Nat} {ss : List ByteArray} (h : OwnS w B a c ss) (hB : B' ≤ B) : OwnS w B' a c ss := by
  refine ⟨h.1, ?_⟩
  rcases h.2 with h0 | ⟨g, cap, cur, h', hb, hr⟩
  · exact .inl h0
  · exact .inr ⟨g, cap, cur, h', Nat.le_trans hB hb, hr⟩

theorem OwnS.alloc {w : World} {B : Nat} {a : Option Addr} {c : Nat} {ss : List ByteArray} (h : OwnS w B a c ss) (o : Obj) : OwnS (w.alloc o) B a c ss := World.ownsRow.alloc h o
theorem OwnS.drew {w : World} {B : Nat} {a : Option Addr} {c : Nat} {ss : List ByteArray} (h : OwnS w B a c ss) : OwnS w.drew B a c ss := h
theorem OwnS.nil (w : World) (B : Nat) : OwnS w B none 0 [] := World.ownsRow_nil w B _ 1
theorem OwnS.empty {w : World} {B : Nat} (hB : B ≤ w.heap.size) : OwnS (w.alloc (.cells #[] 9)) B (some ⟨w.heap.size, 0, none⟩) 0 [] := World.ownsRow_made w #[] 0 hB (Nat.zero_le _) (by simp)

theorem OwnS.cap {w : World} {B : Nat} {a : Option Addr} {c : Nat} {ss : List ByteArray} (h : OwnS w B a c ss) : ss.length ≤ c ∧ c ≤ maxLen := by
  rcases h.2 with ⟨h1, h0⟩ | ⟨g, cap, cur, hv, hb, hg, hnc, hcm, _⟩
  · injection h1 with _ _ h3
    omega
  · injection hv with _ _ h3
    omega

theorem OwnS.head {w : World} {B : Nat} {a : Option Addr} {c : Nat} {ss : List ByteArray} (h : OwnS w B a c ss) (h0 : 0 < ss.length) : ∃ g, a = some ⟨g, 0, none⟩ ∧ B ≤ g ∧ g < w.heap.size := by
  rcases h.2 with ⟨_, h'⟩ | ⟨g, cap, cur, hv, hb, hg, _⟩
  · omega
  · injection hv with hv
    exact ⟨g, hv, hb, (Array.getElem?_eq_some_iff.1 hg).1⟩

theorem OwnS.grown {w w' : World} {B : Nat} {a : Option Addr} {c g : Nat} {ss : List ByteArray} (h : OwnS w B a c ss) (hg : w.grownBy w' (some g)) (hB : g < B) : OwnS w' B a c ss := by
  refine World.ownsRow.kept h hg ?_
  cases hv : (Value.slice a ss.length c).ownBlock with
  | none => exact .inl rfl
  | some k => exact .inr (fun e => by have := (World.ownsRow.lt h k hv).1; injection e; omega)

theorem OwnS.apart {w w' : World} {B : Nat} {a : Option Addr} {c : Nat} {ss : List ByteArray} (h : OwnS w B a c ss) {row : Option Nat} (hg : w.grownBy w' row)
    (hne : ∀ k, (Value.slice a ss.length c).ownBlock = some k → ∀ r, row = some r → k ≠ r) : OwnS w' B a c ss := by
  refine World.ownsRow.kept h hg ?_
  cases hv : (Value.slice a ss.length c).ownBlock with
  | none => exact .inl rfl
  | some k => exact .inr (fun e => hne k hv k e.symm rfl)

theorem OwnS.lt {w : World} {B : Nat} {a : Option Addr} {c : Nat} {ss : List ByteArray} (h : OwnS w B a c ss) : ∀ k, (Value.slice a ss.length c).ownBlock = some k → B ≤ k ∧ k < w.heap.size := fun k hk => World.ownsRow.lt h k hk

theorem OwnS.set {w : World} {B g : Nat} {c : Nat} {ss : List ByteArray} (h : OwnS w B (some ⟨g, 0, none⟩) c ss) (j : Nat) (y : ByteArray) :
    OwnS (w.setCell ⟨g, j, none⟩ (.string y)) B (some ⟨g, 0, none⟩) c (ss.set j y) ∧ w.grownBy (w.setCell ⟨g, j, none⟩ (.string y)) (some g) := by
  have hst := World.ownsRow.stored h j (.string y)
  refine ⟨?_, hst.2⟩
  have e : (ss.set j y).map Value.string = (ss.map Value.string).set j (.string y) := by rw [List.map_set]
  have := hst.1
  rw [← e] at this
  unfold OwnS
  rw [List.length_set]
  exact this

theorem own_formS {w : World} {base : Nat} {e : TypeId} {size : Nat} {v : Value} {n : Nat} {xs : List Value} (h : w.ownsRow base e size v n xs) : ∃ a c, v = .slice a n c ∧ n ≤ c ∧ c ≤ maxLen := by
  rcases h.2 with ⟨rfl, rfl⟩ | ⟨g, cap, cur, rfl, _, _, hc, hm, _⟩
  · exact ⟨_, _, rfl, Nat.le_refl _, Nat.zero_le _⟩
  · exact ⟨_, _, rfl, hc, hm⟩

/-- 'append(out, ss...)', out a slice of strings of the call's own, the source at an address. -/
theorem wp_appS {ops : Array Oper} {rest : List Oper} {o : Oper} {act : Act} {Q : Exit → Act → World → Prop} (hgd : o.guard = none) (s x : Operand)
    (ho : o.op = .call { callee := .builtin .append, args := #[s, x], argTypes := #[76, 76] })
    {W : World} {B : Nat} {a0 : Option Addr} {c0 L : Nat} {zs : List ByteArray} (hL : zs.length = L) (hs : act.eval s = .slice a0 L c0) (hO : OwnS W B a0 c0 zs)
    (ad : Addr) (m c : Nat) (news : List ByteArray) (hx : act.eval x = .slice (some ad) m c) (hm : news.length = m)
    (hnews : ∀ j u, (news.map Value.string)[j]? = some u → W.cell? (ad.add j) = some u) (hlen : L + m ≤ 1099511627776) (hB : B ≤ W.heap.size)
    (h : ∀ a' c' w', OwnS w' B a' c' (zs ++ news) → W.grownBy w' (Value.slice a0 L c0).ownBlock → wpList Try.prog ops Q rest (act.put o.dst (.slice a' (L + m) c')) w') :
    wpList Try.prog ops Q (o :: rest) act W := by
  subst hL
  obtain ⟨i0, hi, hz0, hz1, hz2⟩ := info_parts info_string
  refine wpList_append_own W hgd s x 76 ho B 9 i0 (.string ByteArray.empty) 1 16 Try.underlying76 hi hz0 hz1 hz2 rfl (by decide) _ zs.length _ hs hO ad m c (news.map Value.string) hx (by simp [hm]) hnews
    (by intro v hv; simp only [List.mem_map] at hv; obtain ⟨y, _, rfl⟩ := hv; rfl) (by unfold maxLen; omega) (by omega) hB ?_
  intro v' w' hown hg _
  obtain ⟨a', c', rfl, _⟩ := own_formS hown
  refine h a' c' w' ?_ hg
  unfold OwnS
  rw [List.length_append, hm, List.map_append]
  exact hown

theorem newS_at (W : World) (s : ByteArray) (n : Nat) (hn : W.heap.size = n) : ∀ j u, (([s] : List ByteArray).map Value.string)[j]? = some u → (W.alloc (.cells #[.string s] 9)).cell? ((⟨n, 0, none⟩ : Addr).add j) = some u := by
  subst hn
  intro j u hj
  rw [Addr.add_lit, cell_of_row _ W.heap.size _ _ _ (0, 0) (heap_alloc_new W _)]
  simpa using hj

/-- A new slice of strings is handed back. -/
def RetS (w : World) (ss : List ByteArray) (e : Ending) (w' : World) : Prop :=
  ∃ a c, e = .returned (.slice a ss.length c) ∧ OwnS w' w.heap.size a c ss ∧ Below w.heap.size w w'

theorem below_drewN {B : Nat} {w w' : World} (h : Below B w w') (k : Nat) : Below B w (w'.drewN k) := ⟨h.os, h.tape, h.output, h.size, h.block⟩

/-- A string of some bytes. -/
def mkS (l : List UInt8) : ByteArray := ⟨l.toArray⟩
/-- A text's bytes. -/
def bts (s : ByteArray) : List UInt8 := s.data.toList

theorem bts_mk (l : List UInt8) : bts (mkS l) = l := by simp [bts, mkS]
theorem mk_bts (s : ByteArray) : mkS (bts s) = s := by
  cases s; simp [bts, mkS]
theorem bts_length (s : ByteArray) : (bts s).length = s.size := by unfold bts; rw [Array.length_toList]; rfl
theorem mkS_size (l : List UInt8) : (mkS l).size = l.length := by simp [mkS, ByteArray.size]
theorem bts_get (s : ByteArray) (k : Nat) (h : k < s.size) : (bts s)[k]'(by rw [bts_length]; exact h) = s[k] := by simp [bts]; rfl
theorem bts_get? (s : ByteArray) (k : Nat) (h : k < s.size) : (bts s)[k]? = some s[k] := by
  rw [List.getElem?_eq_getElem (by rw [bts_length]; exact h), bts_get s k h]
theorem bts_inj {s t : ByteArray} (h : bts s = bts t) : s = t := by rw [← mk_bts s, ← mk_bts t, h]
theorem bts_extract (s : ByteArray) (a b : Nat) : bts (s.extract a b) = ((bts s).drop a).take (b - a) := by
  unfold bts
  rw [Lib.extract_data]
theorem bts_append (s t : ByteArray) : bts (s ++ t) = bts s ++ bts t := by
  unfold bts; simp

end Go.Proofs.Ytdjpaibjelfhnaa
