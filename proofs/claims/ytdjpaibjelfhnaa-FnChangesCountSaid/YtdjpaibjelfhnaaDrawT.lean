/- A tree in the midst of its draw. -/
import Derived.Test.YtdjpaibjelfhnaaTree3
import Derived.Test.YtdjpaibjelfhnaaDrawn
import Derived.Test.YtdjpaibjelfhnaaDraw
namespace Go.Proofs.Ytdjpaibjelfhnaa
open Go.RowKit
set_option linter.unusedVariables false

/-- A tree was drawn. -/
def DrewT (w wr : World) (B g : Nat) (lim : Int) (e : Ending) (w' : World) : Prop :=
  ∃ xs a c, e = .returned (.slice a xs.length c) ∧ xs.length ≤ 9 ∧ OwnT w' wr.heap.size a c xs ∧ Drawn w w' B g lim ∧ wr.grownBy w' (some g)

def pathsT : List ByteArray := [⟨#[97]⟩, ⟨#[97, 47, 120]⟩, ⟨#[97, 47, 120, 47, 112]⟩, ⟨#[97, 47, 120, 47, 113]⟩, ⟨#[97, 47, 121]⟩, ⟨#[98]⟩, ⟨#[98, 47, 120]⟩, ⟨#[99]⟩]

theorem pathsT_at (k : Nat) (h : k < 8) : ∃ d : ByteArray, (pathsT.map Value.string).toArray[k]? = some (.string d) ∧ d.size ≤ 16 := by
  obtain rfl | rfl | rfl | rfl | rfl | rfl | rfl | rfl : k = 0 ∨ k = 1 ∨ k = 2 ∨ k = 3 ∨ k = 4 ∨ k = 5 ∨ k = 6 ∨ k = 7 := by omega
  all_goals exact ⟨_, rfl, by decide⟩

/-- What is held of the world in the midst of a draw of a tree. -/
structure DT (w wr : World) (B g : Nat) (lim : Int) (W : World) (a : Option Addr) (c L : Nat) (zs : List TV) : Prop where
  len : zs.length = L
  own : OwnT W wr.heap.size a c zs
  drawn : Drawn w W B g lim
  grow : wr.grownBy W (some g)
  lt : g < wr.heap.size
  le : w.heap.size ≤ wr.heap.size
  ps : W.heap[wr.heap.size + 1]? = some (.cells (pathsT.map Value.string).toArray 9 (0, 0))

theorem DT.start {w wr : World} {B g : Nat} {lim : Int} (h : Drawn w wr B g lim) :
    DT w wr B g lim ((wr.alloc (.cells #[] 62)).alloc (.cells (pathsT.map Value.string).toArray 9)) (some ⟨wr.heap.size, 0, none⟩) 0 0 [] := by
  refine ⟨rfl, (OwnT.empty (Nat.le_refl _)).alloc _, (h.alloc _).alloc _, grownBy_trans (World.grownBy_alloc _ _ _) (World.grownBy_alloc _ _ _), h.lt, h.2.size, ?_⟩
  rw [show wr.heap.size + 1 = (wr.alloc (.cells #[] 62)).heap.size by simp]
  exact heap_alloc_new _ _

theorem DT.pick {w wr : World} {B g : Nat} {lim lim' : Int} {W W' : World} {a : Option Addr} {c L : Nat} {zs : List TV} (h : DT w wr B g lim W a c L zs) (hD : Drawn w W' B g lim') (hg : W.grownBy W' (some g)) : DT w wr B g lim' W' a c L zs :=
  ⟨h.len, h.own.grown hg h.lt, hD, grownBy_trans h.grow hg, h.lt, h.le, (hg.block _ (Array.getElem?_eq_some_iff.1 h.ps).1 (fun e => by injection e with e; have := h.lt; omega)).trans h.ps⟩

theorem DT.le' {w wr : World} {B g : Nat} {lim lim' : Int} {W : World} {a : Option Addr} {c L : Nat} {zs : List TV} (h : DT w wr B g lim W a c L zs) (hl : lim ≤ lim') : DT w wr B g lim' W a c L zs :=
  ⟨h.len, h.own, h.drawn.le hl, h.grow, h.lt, h.le, h.ps⟩

theorem DT.alloc {w wr : World} {B g : Nat} {lim : Int} {W : World} {a : Option Addr} {c L : Nat} {zs : List TV} (h : DT w wr B g lim W a c L zs) (o : Obj) : DT w wr B g lim (W.alloc o) a c L zs :=
  h.pick (h.drawn.alloc o) (World.grownBy_alloc W o _)

theorem DT.path {w wr : World} {B g : Nat} {lim : Int} {W : World} {a : Option Addr} {c L : Nat} {zs : List TV} (h : DT w wr B g lim W a c L zs) {k : Nat} (hk : k < 8) :
    ∃ d : ByteArray, W.cell? ⟨wr.heap.size + 1, k, none⟩ = some (.string d) ∧ d.size ≤ 16 ∧ wr.heap.size + 1 < W.heap.size := by
  obtain ⟨d, hd, hd16⟩ := pathsT_at k hk
  refine ⟨d, ?_, hd16, (Array.getElem?_eq_some_iff.1 h.ps).1⟩
  rw [cell_of_row _ _ _ _ _ (0, 0) h.ps]
  exact hd

theorem DT.push {w wr : World} {B g : Nat} {lim : Int} {W W' : World} {a a' : Option Addr} {c c' L : Nat} {zs : List TV} {x : TV} {o : Obj} (h : DT w wr B g lim W a c L zs) (hx : OwnI W wr.heap.size x.ad x.cp x.zs) (hs : x.pa.size ≤ 1000 ∧ x.zs.length ≤ 1000)
    (hg : (W.alloc o).grownBy W' (Value.slice a L c).ownBlock) (hr : OwnR eltT W' wr.heap.size a' c' (zs ++ [x])) : DT w wr B g lim W' a' c' (L + 1) (zs ++ [x]) := by
  have hrow := fun r (hr : (Value.slice a L c).ownBlock = some r) => (h.own.row.lt r (by rw [h.len]; exact hr)).1
  have hA := h.alloc o
  refine ⟨by rw [List.length_append, h.len]; rfl, h.own.push h.len hx hs hg hr, ?_, ?_, h.lt, h.le, ?_⟩
  · exact (h.drawn.alloc o).step hg (fun r hr => by have := hrow r hr; have := h.lt; have := h.le; omega)
  · have h1 := grownBy_trans h.grow (World.grownBy_alloc W o (some g))
    refine ⟨hg.os.trans h1.os, hg.tape.trans h1.tape, hg.output.trans h1.output, Nat.le_trans h1.size hg.size, fun k hk hn => ?_⟩
    exact (hg.block k (Nat.lt_of_lt_of_le hk h1.size) (fun e => by have := hrow k e.symm; omega)).trans (h1.block k hk hn)
  · refine (hg.block _ (Array.getElem?_eq_some_iff.1 hA.ps).1 (fun e => ?_)).trans hA.ps
    obtain ⟨cs, fz, h1⟩ := hA.own.row.kindR _ (by rw [h.len]; exact e.symm)
    have h2 := h1.symm.trans hA.ps
    injection h2 with h2
    injection h2 with _ h2
    exact absurd h2 (by decide)

/-- The box of the item that is being drawn; W0: the world when its draw began. -/
structure DB (w W0 : World) (B g : Nat) (lim : Int) (W : World) (Bx : Nat) (x : TV) : Prop where
  g0 : W0.grownBy W (some g)
  dr : Drawn w W B g lim
  row : W.heap[Bx]? = some (.cells #[.string x.pa, .bool x.dr, .slice x.ad x.zs.length x.cp] 62 (0, 0))
  lo : W0.heap.size ≤ Bx
  lt : g < W0.heap.size
  le : w.heap.size ≤ W0.heap.size
  own : OwnI W W0.heap.size x.ad x.cp x.zs

theorem DB.blt {w W0 : World} {B g : Nat} {lim : Int} {W : World} {Bx : Nat} {x : TV} (h : DB w W0 B g lim W Bx x) : Bx < W.heap.size := (Array.getElem?_eq_some_iff.1 h.row).1

theorem DB.pick {w W0 : World} {B g : Nat} {lim lim' : Int} {W W' : World} {Bx : Nat} {x : TV} (h : DB w W0 B g lim W Bx x) (hD : Drawn w W' B g lim') (hg : W.grownBy W' (some g)) : DB w W0 B g lim' W' Bx x :=
  ⟨grownBy_trans h.g0 hg, hD, (hg.block _ h.blt (fun e => by injection e with e; have := h.lt; have := h.lo; omega)).trans h.row, h.lo, h.lt, h.le, h.own.grown hg h.lt⟩

theorem DB.alloc {w W0 : World} {B g : Nat} {lim : Int} {W : World} {Bx : Nat} {x : TV} (h : DB w W0 B g lim W Bx x) (o : Obj) : DB w W0 B g lim (W.alloc o) Bx x :=
  h.pick (h.dr.alloc o) (World.grownBy_alloc W o _)

theorem DB.le' {w W0 : World} {B g : Nat} {lim lim' : Int} {W : World} {Bx : Nat} {x : TV} (h : DB w W0 B g lim W Bx x) (hl : lim ≤ lim') : DB w W0 B g lim' W Bx x :=
  ⟨h.g0, h.dr.le hl, h.row, h.lo, h.lt, h.le, h.own⟩

theorem DB.drew {w W0 : World} {B g : Nat} {lim : Int} {W : World} {Bx : Nat} {x : TV} (h : DB w W0 B g lim W Bx x) : DB w W0 B g lim W.drew Bx x :=
  h.pick (h.dr.step (row := none) ⟨rfl, rfl, rfl, Nat.le_refl _, fun _ _ _ => rfl⟩ (fun r e => by cases e)) ⟨rfl, rfl, rfl, Nat.le_refl _, fun _ _ _ => rfl⟩

theorem DB.cells {w W0 : World} {B g : Nat} {lim : Int} {W : World} {Bx : Nat} {x : TV} (h : DB w W0 B g lim W Bx x) :
    W.cell? ⟨Bx, 0, none⟩ = some (.string x.pa) ∧ W.cell? ⟨Bx, 1, none⟩ = some (.bool x.dr) ∧ W.cell? ⟨Bx, 2, none⟩ = some (.slice x.ad x.zs.length x.cp) ∧ W.frozen? ⟨Bx, 2, none⟩ = false :=
  ⟨cell_of_row _ _ 0 _ _ (0, 0) h.row, cell_of_row _ _ 1 _ _ (0, 0) h.row, cell_of_row _ _ 2 _ _ (0, 0) h.row, frozen_of_row _ _ 2 _ _ h.row⟩

theorem DB.grown {w W0 : World} {B g : Nat} {lim : Int} {W W' : World} {Bx : Nat} {x : TV} {o : Obj} (h : DB w W0 B g lim W Bx x) (hg : (W.alloc o).grownBy W' (Value.slice x.ad x.zs.length x.cp).ownBlock) :
    W0.grownBy W' (some g) ∧ Drawn w W' B g lim ∧ W'.heap[Bx]? = some (.cells #[.string x.pa, .bool x.dr, .slice x.ad x.zs.length x.cp] 62 (0, 0)) := by
  have hA := h.alloc o
  have hrow := fun r (hr : (Value.slice x.ad x.zs.length x.cp).ownBlock = some r) => (hA.own.blkI r hr).1
  refine ⟨?_, hA.dr.step hg (fun r hr => by have := hrow r hr; have := h.lt; have := h.le; omega), ?_⟩
  · refine ⟨hg.os.trans hA.g0.os, hg.tape.trans hA.g0.tape, hg.output.trans hA.g0.output, Nat.le_trans hA.g0.size hg.size, fun k hk hn => ?_⟩
    exact (hg.block k (Nat.lt_of_lt_of_le hk hA.g0.size) (fun e => by have := hrow k e.symm; omega)).trans (hA.g0.block k hk hn)
  · refine (hg.block _ hA.blt (fun e => ?_)).trans hA.row
    obtain ⟨cs, fz, h1⟩ := hA.own.kindI _ e.symm
    have h2 := h1.symm.trans hA.row
    injection h2 with h2
    injection h2 with _ h2
    exact absurd h2 (by decide)

theorem grownBy_setT (w : World) (g k : Nat) (v : Value) : w.grownBy (w.setCell ⟨g, k, none⟩ v) (some g) :=
  ⟨rfl, rfl, rfl, by simp [World.setCell], fun j _ hj => Below.heap_setCell _ _ _ _ (fun e => hj (by rw [e]))⟩

theorem DB.app {w W0 : World} {B g : Nat} {lim : Int} {W W' : World} {Bx : Nat} {pa : ByteArray} {dr : Bool} {ad a' : Option Addr} {cp c' : Nat} {zs zs' : List Int} {o : Obj} (h : DB w W0 B g lim W Bx ⟨pa, dr, ad, cp, zs⟩)
    (hg : (W.alloc o).grownBy W' (Value.slice ad zs.length cp).ownBlock) (hO : OwnI W' W0.heap.size a' c' zs') {n : Nat} (hn : n = zs'.length) : DB w W0 B g lim (W'.setCell ⟨Bx, 2, none⟩ (.slice a' n c')) Bx ⟨pa, dr, a', c', zs'⟩ := by
  subst hn
  obtain ⟨h0, hD, hrow⟩ := h.grown hg
  simp only at hrow
  have hs := grownBy_setT W' Bx 2 (.slice a' zs'.length c')
  have e1 := heap_setCell_same _ Bx 2 _ _ (.slice a' zs'.length c') hrow
  refine ⟨?_, hD.step hs (fun r e => by injection e with e; have := h.lt; have := h.lo; have := h.le; omega), e1, h.lo, h.lt, h.le, ?_⟩
  · refine ⟨hs.os.trans h0.os, hs.tape.trans h0.tape, hs.output.trans h0.output, Nat.le_trans h0.size hs.size, fun k hk hn => ?_⟩
    exact (hs.block k (Nat.lt_of_lt_of_le hk h0.size) (fun e => by injection e with e; have := h.lo; omega)).trans (h0.block k hk hn)
  · refine hO.apartI hs (fun k hk r hr e => ?_)
    subst e
    injection hr with hr
    subst hr
    obtain ⟨cs', fz', h1⟩ := hO.kindI _ hk
    have h2 := h1.symm.trans hrow
    injection h2 with h2
    injection h2 with _ h2
    exact absurd h2 (by decide)

theorem OwnI.nilT (W : World) (B : Nat) : OwnI W B none 0 [] := ⟨(by intro z hz; cases hz), World.ownsRow_nil W B _ 1⟩

theorem OwnI.litT (w : World) (zs : List Int) (hwf : WfI zs) (hn : zs.length ≤ 1048576) : OwnI (w.alloc (.cells (zs.map (Value.int .i64)).toArray 3)) w.heap.size (some ⟨w.heap.size, 0, none⟩) zs.length zs := by
  refine ⟨hwf, ?_⟩
  have := World.ownsRow_lit (e := 3) (size := 1) (base := w.heap.size) w (zs.map (Value.int .i64)).toArray zs.length (Nat.le_refl _) (by unfold maxLen; omega) (by simp)
  simpa using this

/-- A box and an empty list are being made; so, bo: their blocks, where they are made. -/
structure GX (w W0 : World) (B g : Nat) (lim : Int) (W : World) (so bo : Option Nat) : Prop where
  g0 : W0.grownBy W (some g)
  dr : Drawn w W B g lim
  lt : g < W0.heap.size
  le : w.heap.size ≤ W0.heap.size
  own : ∀ s, so = some s → OwnI W W0.heap.size (some ⟨s, 0, none⟩) 0 []
  row : ∀ b, bo = some b → W.heap[b]? = some (.cells #[.string ⟨#[]⟩, .bool false, .slice none 0 0] 62 (0, 0)) ∧ W0.heap.size ≤ b

theorem GX.pick {w W0 : World} {B g : Nat} {lim lim' : Int} {W W' : World} {so bo : Option Nat} (h : GX w W0 B g lim W so bo) (hD : Drawn w W' B g lim') (hg : W.grownBy W' (some g)) : GX w W0 B g lim' W' so bo :=
  ⟨grownBy_trans h.g0 hg, hD, h.lt, h.le, fun s hs => (h.own s hs).grown hg h.lt, fun b hb => ⟨(hg.block _ (Array.getElem?_eq_some_iff.1 (h.row b hb).1).1 (fun e => by injection e with e; have := h.lt; have := (h.row b hb).2; omega)).trans (h.row b hb).1, (h.row b hb).2⟩⟩

theorem GX.slice {w W0 : World} {B g : Nat} {lim : Int} {W : World} {bo : Option Nat} (h : GX w W0 B g lim W none bo) : GX w W0 B g lim (W.alloc (.cells #[] 3)) (some W.heap.size) bo := by
  have h1 := h.pick (h.dr.alloc (.cells #[] 3)) (World.grownBy_alloc W _ _)
  exact ⟨h1.g0, h1.dr, h1.lt, h1.le, fun s hs => by injection hs with hs; subst hs; exact OwnI.empty h.g0.size, h1.row⟩

theorem GX.box {w W0 : World} {B g : Nat} {lim : Int} {W : World} {so : Option Nat} (h : GX w W0 B g lim W so none) : GX w W0 B g lim (W.alloc (.cells #[.string ⟨#[]⟩, .bool false, .slice none 0 0] 62)) so (some W.heap.size) := by
  have h1 := h.pick (h.dr.alloc (.cells #[.string ⟨#[]⟩, .bool false, .slice none 0 0] 62)) (World.grownBy_alloc W _ _)
  exact ⟨h1.g0, h1.dr, h1.lt, h1.le, h1.own, fun b hb => by injection hb with hb; subst hb; exact ⟨heap_alloc_new _ _, h.g0.size⟩⟩

theorem GX.cells {w W0 : World} {B g : Nat} {lim : Int} {W : World} {so : Option Nat} {b : Nat} (h : GX w W0 B g lim W so (some b)) :
    (W.cell? ⟨b, 0, none⟩ = some (.string ⟨#[]⟩) ∧ W.cell? ⟨b, 1, none⟩ = some (.bool false) ∧ W.cell? ⟨b, 2, none⟩ = some (.slice none 0 0)) ∧ W.frozen? ⟨b, 0, none⟩ = false ∧ W.frozen? ⟨b, 1, none⟩ = false ∧ W.frozen? ⟨b, 2, none⟩ = false := by
  obtain ⟨hr, _⟩ := h.row b rfl
  exact ⟨⟨cell_of_row _ _ 0 _ _ (0, 0) hr, cell_of_row _ _ 1 _ _ (0, 0) hr, cell_of_row _ _ 2 _ _ (0, 0) hr⟩, frozen_of_row _ _ 0 _ _ hr, frozen_of_row _ _ 1 _ _ hr, frozen_of_row _ _ 2 _ _ hr⟩

theorem OwnI.apartB {W : World} {B b : Nat} {a : Option Addr} {c : Nat} {zs : List Int} (hO : OwnI W B a c zs) {cs : Array Value} {T : TypeId} {fz : Nat × Nat} (hrow : W.heap[b]? = some (.cells cs T fz)) (hT : 3 ≠ T) (k : Nat) (v : Value) : OwnI (W.setCell ⟨b, k, none⟩ v) B a c zs := by
  refine hO.apartI (grownBy_setT W b k v) (fun j hj r hr e => ?_)
  subst e
  injection hr with hr
  subst hr
  obtain ⟨cs', fz', h1⟩ := hO.kindI _ hj
  have h2 := h1.symm.trans hrow
  injection h2 with h2
  injection h2 with _ h2
  exact hT h2

theorem GX.fin {w W0 : World} {B g : Nat} {lim : Int} {W : World} {s b : Nat} (h : GX w W0 B g lim W (some s) (some b)) (d : ByteArray) (v : Bool) :
    DB w W0 B g lim (((W.setCell ⟨b, 0, none⟩ (.string d)).setCell ⟨b, 1, none⟩ (.bool v)).setCell ⟨b, 2, none⟩ (.slice (some ⟨s, 0, none⟩) 0 0)) b ⟨d, v, some ⟨s, 0, none⟩, 0, []⟩ := by
  obtain ⟨hr, hb⟩ := h.row b rfl
  have e1 := heap_setCell_same _ b 0 _ _ (.string d) hr
  have e2 := heap_setCell_same _ b 1 _ _ (.bool v) e1
  have e3 := heap_setCell_same _ b 2 _ _ (.slice (some ⟨s, 0, none⟩) 0 0) e2
  have hlt := h.lt
  have hle := h.le
  have s1 := grownBy_setT W b 0 (.string d)
  have s2 := grownBy_setT (W.setCell ⟨b, 0, none⟩ (.string d)) b 1 (.bool v)
  have s3 := grownBy_setT ((W.setCell ⟨b, 0, none⟩ (.string d)).setCell ⟨b, 1, none⟩ (.bool v)) b 2 (.slice (some ⟨s, 0, none⟩) 0 0)
  have ss := grownBy_trans (grownBy_trans s1 s2) s3
  refine ⟨?_, h.dr.step ss (fun r e => by injection e with e; omega), e3, hb, hlt, hle, ?_⟩
  · refine ⟨ss.os.trans h.g0.os, ss.tape.trans h.g0.tape, ss.output.trans h.g0.output, Nat.le_trans h.g0.size ss.size, fun k hk hn => ?_⟩
    exact (ss.block k (Nat.lt_of_lt_of_le hk h.g0.size) (fun e => by injection e with e; omega)).trans (h.g0.block k hk hn)
  · exact (((h.own s rfl).apartB hr (by decide) 0 _).apartB e1 (by decide) 1 _).apartB e2 (by decide) 2 _

theorem keepS {W : World} {a : Addr} {u : Value} (h : W.cell? a = some u) (o : Obj) : (W.alloc o).cell? a = some u := (World.cell?_alloc_lt W o a (World.block_lt_of_cell? _ _ h)).trans h
theorem keepC {W : World} {a : Addr} {u : Value} (h : W.cell? a = some u) (b k : Nat) (hn : b ≠ a.block) (v : Value) : (W.setCell ⟨b, k, none⟩ v).cell? a = some u := (World.cell?_setCell_other W _ a v (fun e => hn (by rw [← e]))).trans h

end Go.Proofs.Ytdjpaibjelfhnaa
