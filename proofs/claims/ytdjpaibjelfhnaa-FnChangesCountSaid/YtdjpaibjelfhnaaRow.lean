/- Rows of elements of several cells: what a slice of them reads as, that it is the call's own, a store of an element, append, make. -/
import Derived.Test.YtdjpaibjelfhnaaBase
import Derived.OwnWalk
namespace Go.Proofs.Ytdjpaibjelfhnaa
open Go.RowKit
set_option linter.unusedVariables false

/-- A kind of element: its type, the slice's type, how many cells it has, and which. -/
structure Elt (α : Type) where
  ty : TypeId
  sl : TypeId
  m : Nat
  bytes : Nat
  z : Value
  enc : α → List Value
  pos : 0 < m
  len : ∀ x, (enc x).length = m
  one : ∀ x, ∀ v ∈ enc x, v.oneCell' = true
  under : Try.prog.underlying sl = some (.slice ty)
  info : (Try.prog.info? ty).map (fun i => (i.zero, i.size, i.bytes)) = some (some z, m, bytes)
  zcells : z.cells.size = m
  small : bytes ≤ 128

/-- All cells of some elements. -/
def Elt.flat {α : Type} (E : Elt α) (xs : List α) : List Value := xs.flatMap E.enc

theorem Elt.flat_cons {α : Type} (E : Elt α) (x : α) (xs : List α) : E.flat (x :: xs) = E.enc x ++ E.flat xs := by simp [Elt.flat]

theorem Elt.flat_length {α : Type} (E : Elt α) (xs : List α) : (E.flat xs).length = xs.length * E.m := by
  induction xs with
  | nil => simp [Elt.flat]
  | cons x xs ih => rw [E.flat_cons, List.length_append, ih, E.len, List.length_cons, Nat.add_mul]; omega

theorem Elt.flat_append {α : Type} (E : Elt α) (xs ys : List α) : E.flat (xs ++ ys) = E.flat xs ++ E.flat ys := by simp [Elt.flat]

theorem Elt.flat_get {α : Type} (E : Elt α) (xs : List α) (j k : Nat) (x : α) (u : Value) (hx : xs[j]? = some x) (hu : (E.enc x)[k]? = some u) : (E.flat xs)[j * E.m + k]? = some u := by
  have hk : k < E.m := by rw [← E.len x]; exact (List.getElem?_eq_some_iff.1 hu).1
  induction xs generalizing j with
  | nil => simp at hx
  | cons p ps ih =>
    rw [E.flat_cons]
    cases j with
    | zero =>
      simp only [List.getElem?_cons_zero, Option.some.injEq] at hx
      subst hx
      rw [Nat.zero_mul, Nat.zero_add, List.getElem?_append_left (by rw [E.len]; exact hk)]
      exact hu
    | succ j =>
      have := ih j (by simpa using hx)
      rw [Nat.add_mul, List.getElem?_append_right (by rw [E.len]; omega), E.len, show j * E.m + 1 * E.m + k - E.m = j * E.m + k by omega]
      exact this

theorem Elt.flat_one {α : Type} (E : Elt α) (xs : List α) : ∀ v ∈ E.flat xs, v.oneCell' = true := by
  intro v hv
  simp only [Elt.flat, List.mem_flatMap] at hv
  obtain ⟨x, _, hx⟩ := hv
  exact E.one x v hx

/-- The first n elements from a on read as the xs. -/
def RdR {α : Type} (E : Elt α) (w : World) (a : Option Addr) (n : Nat) (xs : List α) : Prop :=
  xs.length = n ∧ ∀ i, i < n → ∃ b off, a = some ⟨b, off, none⟩ ∧ b < w.heap.size ∧
    ∀ j x, xs[j]? = some x → ∀ k u, (E.enc x)[k]? = some u → w.cell? ⟨b, off + j * E.m + k, none⟩ = some u

theorem RdR.below {α : Type} {E : Elt α} {w w' : World} {a : Option Addr} {n : Nat} {xs : List α} (h : RdR E w a n xs) (hb : Below w.heap.size w w') : RdR E w' a n xs := by
  refine ⟨h.1, fun i hi => ?_⟩
  obtain ⟨b, off, rfl, hlt, hc⟩ := h.2 i hi
  exact ⟨b, off, rfl, Nat.lt_of_lt_of_le hlt hb.size, fun j x hx k u hu => (hb.cell (p := ⟨b, off + j * E.m + k, none⟩) hlt).trans (hc j x hx k u hu)⟩

theorem RdR.drewN {α : Type} {E : Elt α} {w : World} {a : Option Addr} {n : Nat} {xs : List α} (h : RdR E w a n xs) (k : Nat) : RdR E (w.drewN k) a n xs := h

theorem RdR.at_ {α : Type} {E : Elt α} {w : World} {a : Option Addr} {n : Nat} {xs : List α} (h : RdR E w a n xs) {i : Nat} (hi : i < n) :
    ∃ b off x, a = some ⟨b, off, none⟩ ∧ b < w.heap.size ∧ xs[i]? = some x ∧ ∀ k u, (E.enc x)[k]? = some u → w.cell? ⟨b, off + i * E.m + k, none⟩ = some u := by
  obtain ⟨b, off, rfl, hlt, hc⟩ := h.2 i hi
  have hl : i < xs.length := by rw [h.1]; exact hi
  exact ⟨b, off, xs[i], rfl, hlt, List.getElem?_eq_getElem hl, hc i _ (List.getElem?_eq_getElem hl)⟩

theorem RdR.pre {α : Type} {E : Elt α} {w : World} {a : Option Addr} {n m : Nat} {xs : List α} (h : RdR E w a n xs) (hm : m ≤ n) : RdR E w a m (xs.take m) := by
  refine ⟨by rw [List.length_take, h.1]; omega, fun i hi => ?_⟩
  obtain ⟨b, off, rfl, hlt, hc⟩ := h.2 i (by omega)
  refine ⟨b, off, rfl, hlt, fun j x hx => hc j x ?_⟩
  rw [List.getElem?_take] at hx
  split at hx
  · exact hx
  · cases hx

theorem RdR.suf {α : Type} {E : Elt α} {w : World} {b off : Nat} {n m : Nat} {xs : List α} (h : RdR E w (some ⟨b, off, none⟩) n xs) (hm : m ≤ n) : RdR E w (some ⟨b, off + m * E.m, none⟩) (n - m) (xs.drop m) := by
  refine ⟨by rw [List.length_drop, h.1], fun i hi => ?_⟩
  obtain ⟨b', off', e, hlt, hc⟩ := h.2 i (by omega)
  injection e with e
  injection e with e1 e2
  subst e1 e2
  refine ⟨b, off + m * E.m, rfl, hlt, fun j x hx k u hu => ?_⟩
  rw [List.getElem?_drop] at hx
  have := hc (m + j) x hx k u hu
  rwa [Nat.add_mul, ← Nat.add_assoc] at this

/-- A slice of the call's own: it lies in a block from B on (or is nil). -/
def OwnR {α : Type} (E : Elt α) (w : World) (B : Nat) (a : Option Addr) (c : Nat) (xs : List α) : Prop :=
  w.ownsRow B E.ty E.m (.slice a xs.length c) xs.length (E.flat xs)

theorem OwnR.rd {α : Type} {E : Elt α} {w : World} {B : Nat} {a : Option Addr} {c : Nat} {xs : List α} (h : OwnR E w B a c xs) : RdR E w a xs.length xs := by
  refine ⟨rfl, fun i hi => ?_⟩
  rcases h.2 with ⟨h', h0⟩ | ⟨g, cap, cur, h', hb, hg, hnc, hcm, hcs, htake⟩
  · omega
  · injection h' with h1 h2 h3
    subst h1
    refine ⟨g, 0, rfl, (Array.getElem?_eq_some_iff.1 hg).1, fun j x hx k u hu => ?_⟩
    have hf := E.flat_get xs j k x u hx hu
    have hlt : j * E.m + k < xs.length * E.m := by rw [← E.flat_length]; exact (List.getElem?_eq_some_iff.1 hf).1
    rw [Nat.zero_add, cell_of_row w g _ cur _ (0, 0) hg]
    rw [← htake, List.getElem?_take, if_pos hlt] at hf
    simpa using hf

theorem OwnR.below {α : Type} {E : Elt α} {w w' : World} {B : Nat} {a : Option Addr} {c : Nat} {xs : List α} (h : OwnR E w B a c xs) (hb : Below w.heap.size w w') : OwnR E w' B a c xs :=
  World.ownsRow.kept h (row := none) ⟨hb.os, hb.tape, hb.output, hb.size, fun k hk _ => hb.block k hk⟩ (by cases hv : (Value.slice a xs.length c).ownBlock <;> simp)

theorem OwnR.mono {α : Type} {E : Elt α} {w : World} {B B' : Nat} {a : Option Addr} {c : Nat} {xs : List α} (h : OwnR E w B a c xs) (hB : B' ≤ B) : OwnR E w B' a c xs := by
  refine ⟨h.1, ?_⟩
  rcases h.2 with h0 | ⟨g, cap, cur, h', hb, hr⟩
  · exact .inl h0
  · exact .inr ⟨g, cap, cur, h', Nat.le_trans hB hb, hr⟩

theorem OwnR.alloc {α : Type} {E : Elt α} {w : World} {B : Nat} {a : Option Addr} {c : Nat} {xs : List α} (h : OwnR E w B a c xs) (o : Obj) : OwnR E (w.alloc o) B a c xs := World.ownsRow.alloc h o
theorem OwnR.drew {α : Type} {E : Elt α} {w : World} {B : Nat} {a : Option Addr} {c : Nat} {xs : List α} (h : OwnR E w B a c xs) : OwnR E w.drew B a c xs := h
theorem OwnR.drewN {α : Type} {E : Elt α} {w : World} {B : Nat} {a : Option Addr} {c : Nat} {xs : List α} (h : OwnR E w B a c xs) (k : Nat) : OwnR E (w.drewN k) B a c xs := h
theorem OwnR.nil {α : Type} (E : Elt α) (w : World) (B : Nat) : OwnR E w B none 0 [] := World.ownsRow_nil w B _ _
theorem OwnR.empty {α : Type} (E : Elt α) {w : World} {B : Nat} (hB : B ≤ w.heap.size) : OwnR E (w.alloc (.cells #[] E.ty)) B (some ⟨w.heap.size, 0, none⟩) 0 [] := World.ownsRow_made w #[] 0 hB (Nat.zero_le _) (by simp)

theorem OwnR.cap {α : Type} {E : Elt α} {w : World} {B : Nat} {a : Option Addr} {c : Nat} {xs : List α} (h : OwnR E w B a c xs) : xs.length ≤ c ∧ c ≤ maxLen := by
  rcases h.2 with ⟨h1, h0⟩ | ⟨g, cap, cur, hv, hb, hg, hnc, hcm, _⟩
  · injection h1 with _ _ h3
    omega
  · injection hv with _ _ h3
    omega

theorem OwnR.head {α : Type} {E : Elt α} {w : World} {B : Nat} {a : Option Addr} {c : Nat} {xs : List α} (h : OwnR E w B a c xs) (h0 : 0 < xs.length) : ∃ g, a = some ⟨g, 0, none⟩ ∧ B ≤ g ∧ g < w.heap.size := by
  rcases h.2 with ⟨_, h'⟩ | ⟨g, cap, cur, hv, hb, hg, _⟩
  · omega
  · injection hv with hv
    exact ⟨g, hv, hb, (Array.getElem?_eq_some_iff.1 hg).1⟩

theorem OwnR.lt {α : Type} {E : Elt α} {w : World} {B : Nat} {a : Option Addr} {c : Nat} {xs : List α} (h : OwnR E w B a c xs) : ∀ k, (Value.slice a xs.length c).ownBlock = some k → B ≤ k ∧ k < w.heap.size := fun k hk => World.ownsRow.lt h k hk

theorem OwnR.apart {α : Type} {E : Elt α} {w w' : World} {B : Nat} {a : Option Addr} {c : Nat} {xs : List α} (h : OwnR E w B a c xs) {row : Option Nat} (hg : w.grownBy w' row)
    (hne : ∀ k, (Value.slice a xs.length c).ownBlock = some k → ∀ r, row = some r → k ≠ r) : OwnR E w' B a c xs := by
  refine World.ownsRow.kept h hg ?_
  cases hv : (Value.slice a xs.length c).ownBlock with
  | none => exact .inl rfl
  | some k => exact .inr (fun e => hne k hv k e.symm rfl)

theorem OwnR.grown {α : Type} {E : Elt α} {w w' : World} {B : Nat} {a : Option Addr} {c g : Nat} {xs : List α} (h : OwnR E w B a c xs) (hg : w.grownBy w' (some g)) (hB : g < B) : OwnR E w' B a c xs :=
  h.apart hg (fun k hk r hr => by injection hr with hr; have := (h.lt k hk).1; omega)

theorem own_rowR {α : Type} {E : Elt α} {w : World} {B g : Nat} {a : Option Addr} {c : Nat} {xs : List α} (h : OwnR E w B a c xs) (hB : g < B) : ∀ r, (Value.slice a xs.length c).ownBlock = some r → g < r ∧ B ≤ r := by
  intro r hr
  have := (h.lt r hr).1
  omega

/-- The cells of an element of an owned slice, and that they may be written. -/
theorem OwnR.cellAt {α : Type} {E : Elt α} {w : World} {B g : Nat} {c : Nat} {xs : List α} (h : OwnR E w B (some ⟨g, 0, none⟩) c xs) {j : Nat} {x : α} (hx : xs[j]? = some x) {k : Nat} {u : Value} (hu : (E.enc x)[k]? = some u) :
    w.cell? ⟨g, j * E.m + k, none⟩ = some u ∧ w.frozen? ⟨g, j * E.m + k, none⟩ = false := by
  have hf := E.flat_get xs j k x u hx hu
  have hlt : j * E.m + k < xs.length * E.m := by rw [← E.flat_length]; exact (List.getElem?_eq_some_iff.1 hf).1
  exact ⟨(World.ownsRow.cellAt h _ hlt).trans hf, World.ownsRow.frozenAt h _⟩

/-- Several cells are written, one behind the other. -/
def setRun (w : World) (g p : Nat) : List Value → World
  | [] => w
  | v :: vs => setRun (w.setCell ⟨g, p, none⟩ v) g (p + 1) vs

def splice (xs : List Value) (p : Nat) : List Value → List Value
  | [] => xs
  | v :: vs => splice (xs.set p v) (p + 1) vs

theorem splice_right (l r : List Value) (p : Nat) (vs : List Value) : splice (l ++ r) (l.length + p) vs = l ++ splice r p vs := by
  induction vs generalizing r p with
  | nil => rfl
  | cons v vs ih =>
    unfold splice
    rw [List.set_append_right (h := by omega), show l.length + p - l.length = p by omega, Nat.add_assoc, ih]

theorem splice_mid (a l r vs : List Value) (h : vs.length = l.length) : splice (a ++ l ++ r) a.length vs = a ++ vs ++ r := by
  induction vs generalizing a l with
  | nil =>
    have : l = [] := List.length_eq_zero_iff.1 h.symm
    subst this; rfl
  | cons v vs ih =>
    cases l with
    | nil => simp at h
    | cons x l =>
      unfold splice
      have e : (a ++ x :: l ++ r).set a.length v = (a ++ [v]) ++ l ++ r := by
        rw [List.append_assoc, List.set_append_right (h := Nat.le_refl _), Nat.sub_self]
        simp
      rw [e, show a.length + 1 = (a ++ [v]).length by simp, ih (a ++ [v]) l (by simpa using h)]
      simp

theorem Elt.flat_set {α : Type} (E : Elt α) (xs : List α) (j : Nat) (hj : j < xs.length) (y : α) : splice (E.flat xs) (j * E.m) (E.enc y) = E.flat (xs.set j y) := by
  induction xs generalizing j with
  | nil => simp at hj
  | cons x xs ih =>
    cases j with
    | zero =>
      rw [List.set_cons_zero, E.flat_cons, E.flat_cons, Nat.zero_mul]
      have := splice_mid [] (E.enc x) (E.flat xs) (E.enc y) (by rw [E.len, E.len])
      simpa using this
    | succ j =>
      rw [List.set_cons_succ, E.flat_cons, E.flat_cons, ← ih j (by simpa using hj), Nat.add_mul, Nat.one_mul, Nat.add_comm, ← E.len x, splice_right]

theorem ownsRow_setRun {base size : Nat} {e : TypeId} {g n cap : Nat} (vs : List Value) : ∀ {w : World} {xs : List Value} (p : Nat), w.ownsRow base e size (.slice (some ⟨g, 0, none⟩) n cap) n xs →
    (setRun w g p vs).ownsRow base e size (.slice (some ⟨g, 0, none⟩) n cap) n (splice xs p vs) ∧ w.grownBy (setRun w g p vs) (some g) := by
  induction vs with
  | nil => intro w xs p h; exact ⟨h, World.grownBy.refl _ _⟩
  | cons v vs ih =>
    intro w xs p h
    obtain ⟨h1, h2⟩ := h.stored p v
    obtain ⟨h3, h4⟩ := ih (p + 1) h1
    exact ⟨h3, ⟨h4.os.trans h2.os, h4.tape.trans h2.tape, h4.output.trans h2.output, Nat.le_trans h2.size h4.size, fun i hi hn => (h4.block i (Nat.lt_of_lt_of_le hi h2.size) hn).trans (h2.block i hi hn)⟩⟩

/-- All cells of element j are written. -/
theorem OwnR.set {α : Type} {E : Elt α} {w : World} {B g : Nat} {c : Nat} {xs : List α} (h : OwnR E w B (some ⟨g, 0, none⟩) c xs) (j : Nat) (hj : j < xs.length) (y : α) :
    OwnR E (setRun w g (j * E.m) (E.enc y)) B (some ⟨g, 0, none⟩) c (xs.set j y) ∧ w.grownBy (setRun w g (j * E.m) (E.enc y)) (some g) := by
  have := ownsRow_setRun (E.enc y) (j * E.m) h
  rw [E.flat_set xs j hj y] at this
  unfold OwnR
  rw [List.length_set]
  exact this

/-- One cell of element j is written. -/
theorem OwnR.set1 {α : Type} {E : Elt α} {w : World} {B g : Nat} {c : Nat} {xs : List α} (h : OwnR E w B (some ⟨g, 0, none⟩) c xs) (j : Nat) (x y : α) (hx : xs[j]? = some x) (k : Nat) (u : Value) (hk : k < E.m) (hy : E.enc y = (E.enc x).set k u) :
    OwnR E (w.setCell ⟨g, j * E.m + k, none⟩ u) B (some ⟨g, 0, none⟩) c (xs.set j y) ∧ w.grownBy (w.setCell ⟨g, j * E.m + k, none⟩ u) (some g) := by
  have hst := World.ownsRow.stored h (j * E.m + k) u
  have hj : j < xs.length := (List.getElem?_eq_some_iff.1 hx).1
  refine ⟨?_, hst.2⟩
  have e : E.flat (xs.set j y) = (E.flat xs).set (j * E.m + k) u := by
    clear hst h
    induction xs generalizing j with
    | nil => simp at hj
    | cons p ps ih =>
      cases j with
      | zero =>
        simp only [List.getElem?_cons_zero, Option.some.injEq] at hx
        subst hx
        rw [List.set_cons_zero, E.flat_cons, E.flat_cons, hy, Nat.zero_mul, Nat.zero_add, List.set_append_left _ _ (by rw [E.len]; exact hk)]
      | succ j =>
        have := ih j (by simpa using hx) (by simpa using hj)
        rw [List.set_cons_succ, E.flat_cons, E.flat_cons, this, Nat.add_mul, List.set_append_right (h := by rw [E.len]; omega), E.len, show j * E.m + 1 * E.m + k - E.m = j * E.m + k by omega]
  unfold OwnR
  rw [List.length_set, e]
  exact hst.1

theorem own_formR {w : World} {base : Nat} {e : TypeId} {size : Nat} {v : Value} {n : Nat} {xs : List Value} (h : w.ownsRow base e size v n xs) : ∃ a c, v = .slice a n c ∧ n ≤ c ∧ c ≤ maxLen := by
  rcases h.2 with ⟨rfl, rfl⟩ | ⟨g, cap, cur, rfl, _, _, hc, hm, _⟩
  · exact ⟨_, _, rfl, Nat.le_refl _, Nat.zero_le _⟩
  · exact ⟨_, _, rfl, hc, hm⟩

/-- 'append(out, xs...)', out a slice of the call's own, the source at an address. -/
theorem wp_appR {α : Type} (E : Elt α) {ops : Array Oper} {rest : List Oper} {o : Oper} {act : Act} {Q : Exit → Act → World → Prop} (hgd : o.guard = none) (s x : Operand)
    (ho : o.op = .call { callee := .builtin .append, args := #[s, x], argTypes := #[E.sl, E.sl] })
    {W : World} {B : Nat} {a0 : Option Addr} {c0 L : Nat} {zs : List α} (hL : zs.length = L) (hs : act.eval s = .slice a0 L c0) (hO : OwnR E W B a0 c0 zs)
    (ad : Addr) (m c : Nat) (news : List α) (hx : act.eval x = .slice (some ad) m c) (hm : news.length = m)
    (hnews : ∀ j u, (E.flat news)[j]? = some u → W.cell? (ad.add j) = some u) (hlen : L + m ≤ 1099511627776) (hB : B ≤ W.heap.size)
    (h : ∀ a' c' w', OwnR E w' B a' c' (zs ++ news) → W.grownBy w' (Value.slice a0 L c0).ownBlock → wpList Try.prog ops Q rest (act.put o.dst (.slice a' (L + m) c')) w') :
    wpList Try.prog ops Q (o :: rest) act W := by
  subst hL
  obtain ⟨i0, hi, hz0, hz1, hz2⟩ := info_parts E.info
  refine wpList_append_own W hgd s x E.sl ho B E.ty i0 E.z E.m E.bytes E.under hi hz0 hz1 hz2 E.zcells E.pos _ zs.length _ hs hO ad m c (E.flat news) hx (by rw [E.flat_length, hm]) hnews
    (E.flat_one _) (by unfold maxLen; omega) (Nat.le_trans (Nat.mul_le_mul hlen E.small) (by decide)) hB ?_
  intro v' w' hown hg _
  obtain ⟨a', c', rfl, _⟩ := own_formR hown
  refine h a' c' w' ?_ hg
  unfold OwnR
  rw [E.flat_append, List.length_append, hm]; exact hown

/-- 'append(out, xs...)' at a step of a region that draws. -/
theorem step_appR {α : Type} (E : Elt α) {ops : Array Oper} {o : Oper} {act : Act} {K : Act → World → Prop} {Q : Exit → Act → World → Prop} {F : Prop} (hgd : o.guard = none) (s x : Operand)
    (ho : o.op = .call { callee := .builtin .append, args := #[s, x], argTypes := #[E.sl, E.sl] })
    {W : World} {B : Nat} {a0 : Option Addr} {c0 L : Nat} {zs : List α} (hL : zs.length = L) (hs : act.eval s = .slice a0 L c0) (hO : OwnR E W B a0 c0 zs)
    (ad : Addr) (m c : Nat) (news : List α) (hx : act.eval x = .slice (some ad) m c) (hm : news.length = m)
    (hnews : ∀ j u, (E.flat news)[j]? = some u → W.cell? (ad.add j) = some u) (hlen : L + m ≤ 1099511627776) (hB : B ≤ W.heap.size)
    (h : ∀ a' c' w', OwnR E w' B a' c' (zs ++ news) → W.grownBy w' (Value.slice a0 L c0).ownBlock → K (act.put o.dst (.slice a' (L + m) c')) w') :
    if Region.wanted o (yielded ops act.tmps) = true then Oper.wp Try.prog o act W K Q else F := by
  have hw : Region.wanted o (yielded ops act.tmps) = true := by simp [Region.wanted, hgd]
  rw [if_pos hw]
  subst hL
  obtain ⟨i0, hi, hz0, hz1, hz2⟩ := info_parts E.info
  refine wp_append_own W s x E.sl ho B E.ty i0 E.z E.m E.bytes E.under hi hz0 hz1 hz2 E.zcells E.pos _ zs.length _ hs hO ad m c (E.flat news) hx (by rw [E.flat_length, hm]) hnews
    (E.flat_one _) (by unfold maxLen; omega) (Nat.le_trans (Nat.mul_le_mul hlen E.small) (by decide)) hB ?_
  intro v' w' hown hg _
  obtain ⟨a', c', rfl, _⟩ := own_formR hown
  refine h a' c' w' ?_ hg
  unfold OwnR
  rw [E.flat_append, List.length_append, hm]; exact hown

/-- A new block holds one element. -/
theorem newR {α : Type} (E : Elt α) (W : World) (x : α) (cs : Array Value) (hcs : cs.toList = E.enc x) : ∀ j u, (E.flat [x])[j]? = some u → (W.alloc (.cells cs E.ty)).cell? ((⟨W.heap.size, 0, none⟩ : Addr).add j) = some u := by
  intro j u hj
  rw [Addr.add_lit, cell_of_row _ W.heap.size _ _ _ (0, 0) (heap_alloc_new W _), Nat.zero_add]
  rw [show E.flat [x] = E.enc x by simp [Elt.flat], ← hcs] at hj
  simpa using hj

theorem madeCells_rep (cs : Array Value) (m : Nat) (hm : cs.size = m) (h0 : 0 < m) (n : Nat) : (madeCells cs (n * m)).toList = (List.replicate n cs.toList).flatten := by
  subst hm
  apply List.ext_getElem?
  intro j
  by_cases hj : j < n * cs.size
  · have hmod : j % cs.size < cs.size := Nat.mod_lt _ h0
    have e1 : (madeCells cs (n * cs.size)).toList[j]? = some cs[j % cs.size] := by simp [madeCells, hj, hmod]
    have e2 : (List.replicate n cs.toList).flatten[j]? = some cs[j % cs.size] := by
      clear e1
      induction n generalizing j with
      | zero => omega
      | succ n ih =>
        rw [List.replicate_succ, List.flatten_cons]
        by_cases hlt : j < cs.size
        · rw [List.getElem?_append_left (by simpa using hlt)]
          simp [Nat.mod_eq_of_lt hlt, hlt]
        · rw [Nat.add_mul] at hj
          rw [List.getElem?_append_right (by simpa using hlt), Array.length_toList]
          have hm2 : (j - cs.size) % cs.size = j % cs.size := (Nat.mod_eq_sub_mod (by omega)).symm
          have := ih (j - cs.size) (by omega) (Nat.mod_lt _ h0)
          rw [this]
          simp only [hm2]
    rw [e1, e2]
  · have e1 : (madeCells cs (n * cs.size)).toList[j]? = none := by simp [madeCells, hj]
    have e2 : (List.replicate n cs.toList).flatten[j]? = none := by
      rw [List.getElem?_eq_none_iff, List.length_flatten]
      simp; omega
    rw [e1, e2]

/-- 'make([]T, n)': n zero elements. -/
theorem wp_makeR {α : Type} (E : Elt α) (x0 : α) (hx0 : E.enc x0 = E.z.cells.toList) {ops : Array Oper} {rest : List Oper} {o : Oper} {act : Act} {Q : Exit → Act → World → Prop} (hgd : o.guard = none) (l c : Operand)
    (ho : o.op = Op.makeSlice E.sl l c) {W : World} (n : Nat) (hl : act.eval l = .int .i64 n) (hc : act.eval c = .int .i64 n) (hn : n ≤ 1099511627776)
    (h : ∀ w', OwnR E w' W.heap.size (some ⟨W.heap.size, 0, none⟩) n (List.replicate n x0) → W.grownBy w' none → wpList Try.prog ops Q rest (act.put o.dst (.slice (some ⟨W.heap.size, 0, none⟩) n n)) w') :
    wpList Try.prog ops Q (o :: rest) act W := by
  obtain ⟨i0, hi, hz0, hz1, hz2⟩ := info_parts E.info
  refine wpList_make_full W hgd l c E.sl ho W.heap.size E.ty i0 E.z E.m E.under hi hz0 hz1 .i64 .i64 n n n hl hc rfl rfl ?_ (by unfold maxLen; omega) (Nat.le_refl _) ?_
  · rw [hz2]; exact Nat.le_trans (Nat.mul_le_mul E.small hn) (by decide)
  · intro w1 hown hg1
    refine h w1 ?_ hg1
    unfold OwnR
    rw [List.length_replicate]
    have e : E.flat (List.replicate n x0) = (madeCells E.z.cells (n * E.m)).toList := by
      rw [madeCells_rep _ _ E.zcells E.pos, ← hx0]
      simp [Elt.flat, List.flatMap]
    rw [e]; exact hown

theorem set_next {α : Type} (ys : List α) (m : Nat) (x0 y : α) (k : Nat) (hk : ys.length = k) : (ys ++ List.replicate (m + 1) x0).set k y = (ys ++ [y]) ++ List.replicate m x0 := by
  subst hk
  rw [List.set_append_right (h := Nat.le_refl _), Nat.sub_self, List.replicate_succ, List.set_cons_zero]
  simp

/-- A new slice is handed back, all that was there is as it was. -/
def RetR {α : Type} (E : Elt α) (w : World) (xs : List α) (e : Ending) (w' : World) : Prop :=
  ∃ a c, e = .returned (.slice a xs.length c) ∧ OwnR E w' w.heap.size a c xs ∧ Below w.heap.size w w'

end Go.Proofs.Ytdjpaibjelfhnaa
