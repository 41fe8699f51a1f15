/- The builtin append onto a slice of ints of the call's own. -/
import Derived.Test.YtdjpaibjelfhnaaBase
import Derived.OwnWalk
namespace Go.Proofs.Ytdjpaibjelfhnaa
open Go.RowKit

theorem own_form {w : World} {base : Nat} {e : TypeId} {size : Nat} {v : Value} {n : Nat} {xs : List Value} (h : w.ownsRow base e size v n xs) : ∃ a c, v = .slice a n c ∧ n ≤ c ∧ c ≤ maxLen := by
  rcases h.2 with ⟨rfl, rfl⟩ | ⟨g, cap, cur, rfl, _, _, hc, hm, _⟩
  · exact ⟨_, _, rfl, Nat.le_refl _, Nat.zero_le _⟩
  · exact ⟨_, _, rfl, hc, hm⟩

/-- 'append(out, xs...)', out a slice of ints of the call's own, the source at an address. -/
theorem wp_app {ops : Array Oper} {rest : List Oper} {o : Oper} {act : Act} {Q : Exit → Act → World → Prop} (hgd : o.guard = none) (s x : Operand)
    (ho : o.op = .call { callee := .builtin .append, args := #[s, x], argTypes := #[34, 34] })
    {W : World} {B : Nat} {a0 : Option Addr} {c0 : Nat} {zs : List Int} (hs : act.eval s = .slice a0 zs.length c0) (hO : OwnI W B a0 c0 zs)
    (ad : Addr) (m c : Nat) (news : List Int) (hx : act.eval x = .slice (some ad) m c) (hm : news.length = m)
    (hnews : ∀ j u, (news.map (Value.int .i64))[j]? = some u → W.cell? (ad.add j) = some u) (hwf : WfI news) (hlen : zs.length + m ≤ 1099511627776) (hB : B ≤ W.heap.size)
    (h : ∀ a' c' w', OwnI w' B a' c' (zs ++ news) → W.grownBy w' (Value.slice a0 zs.length c0).ownBlock → wpList Try.prog ops Q rest (act.put o.dst (.slice a' (zs ++ news).length c')) w') :
    wpList Try.prog ops Q (o :: rest) act W := by
  obtain ⟨i0, hi, hz0, hz1, hz2⟩ := info_parts info_int
  refine wpList_append_own W hgd s x 34 ho B 3 i0 (.int .i64 0) 1 8 Try.underlying34 hi hz0 hz1 hz2 rfl (by decide) _ zs.length _ hs hO.2 ad m c (news.map (Value.int .i64)) hx (by simp [hm]) hnews
    (ints_oneCell _ _) (by unfold maxLen; omega) (by omega) hB ?_
  intro v' w' hown hg _
  obtain ⟨a', c', rfl, _⟩ := own_form hown
  have e : (zs ++ news).length = zs.length + m := by simp [hm]
  have hO' : OwnI w' B a' c' (zs ++ news) := by
    refine ⟨fun z hz => ?_, ?_⟩
    · rcases List.mem_append.1 hz with h | h
      · exact hO.1 z h
      · exact hwf z h
    · rw [e, List.map_append]; exact hown
  have := h a' c' w' hO' hg
  rw [e] at this
  exact this

/-- 'append(out, xs...)' where xs is nil: nothing happens. -/
theorem wp_app_nil {ops : Array Oper} {rest : List Oper} {o : Oper} {act : Act} {Q : Exit → Act → World → Prop} (hgd : o.guard = none) (s x : Operand)
    (ho : o.op = .call { callee := .builtin .append, args := #[s, x], argTypes := #[34, 34] })
    {W : World} {B : Nat} {a0 : Option Addr} {c0 : Nat} {zs : List Int} (hs : act.eval s = .slice a0 zs.length c0) (hO : OwnI W B a0 c0 zs)
    (hx : act.eval x = .slice none 0 0)
    (h : wpList Try.prog ops Q rest (act.put o.dst (.slice a0 zs.length c0)) W) :
    wpList Try.prog ops Q (o :: rest) act W := by
  obtain ⟨i0, hi, hz0, hz1, hz2⟩ := info_parts info_int
  refine wpList_plain hgd fun K hK => ?_
  have hr : (Builtin.append_ #[34, 34] o.type #[.slice a0 zs.length c0, .slice none 0 0]).run Try.prog W = .ok (.slice a0 zs.length c0) W := by
    rcases hO.2.2 with ⟨h1, h0⟩ | ⟨g, cap, cur, h1, _, _, hnc, _⟩
    · rw [h1]; simp [Builtin.append_, run_underlying Try.underlying34, sizeOf, typeInfo, hi, Builtin.lenOf, Builtin.firstCells]
    · rw [h1]; simp [Builtin.append_, run_underlying Try.underlying34, sizeOf, typeInfo, hi, Builtin.lenOf, Builtin.firstCells, hnc, storeCells]
  unfold Oper.wp execOp
  simp only [ho, resolve, invoke, builtin, Sem.run_bind, Sem.run_pure, Result.andThen_ok, List.map_toArray, List.map_cons, List.map_nil, hs, hx, hr]
  exact hK _ _ h

/-- The same as one step of a region that draws its order. -/
theorem step_app {ops : Array Oper} {o : Oper} {act : Act} {K : Act → World → Prop} {Q : Exit → Act → World → Prop} {E : Prop} (hgd : o.guard = none) (s x : Operand)
    (ho : o.op = .call { callee := .builtin .append, args := #[s, x], argTypes := #[34, 34] })
    {W : World} {B : Nat} {a0 : Option Addr} {c0 : Nat} {zs : List Int} (hs : act.eval s = .slice a0 zs.length c0) (hO : OwnI W B a0 c0 zs)
    (ad : Addr) (m c : Nat) (news : List Int) (hx : act.eval x = .slice (some ad) m c) (hm : news.length = m)
    (hnews : ∀ j u, (news.map (Value.int .i64))[j]? = some u → W.cell? (ad.add j) = some u) (hwf : WfI news) (hlen : zs.length + m ≤ 1099511627776) (hB : B ≤ W.heap.size)
    (h : ∀ a' c' w', OwnI w' B a' c' (zs ++ news) → W.grownBy w' (Value.slice a0 zs.length c0).ownBlock → K (act.put o.dst (.slice a' (zs.length + m) c')) w') :
    if Region.wanted o (yielded ops act.tmps) = true then Oper.wp Try.prog o act W K Q else E := by
  have hw : Region.wanted o (yielded ops act.tmps) = true := by simp [Region.wanted, hgd]
  rw [if_pos hw]
  obtain ⟨i0, hi, hz0, hz1, hz2⟩ := info_parts info_int
  refine wp_append_own W s x 34 ho B 3 i0 (.int .i64 0) 1 8 Try.underlying34 hi hz0 hz1 hz2 rfl (by decide) _ zs.length _ hs hO.2 ad m c (news.map (Value.int .i64)) hx (by simp [hm]) hnews
    (ints_oneCell _ _) (by unfold maxLen; omega) (by omega) hB ?_
  intro v' w' hown hg _
  obtain ⟨a', c', rfl, _⟩ := own_form hown
  have e : (zs ++ news).length = zs.length + m := by simp [hm]
  refine h a' c' w' ⟨fun z hz => ?_, ?_⟩ hg
  · rcases List.mem_append.1 hz with h | h
    · exact hO.1 z h
    · exact hwf z h
  · rw [e, List.map_append]; exact hown

theorem OwnI.drew {w : World} {B : Nat} {a : Option Addr} {c : Nat} {zs : List Int} (h : OwnI w B a c zs) : OwnI w.drew B a c zs := h

theorem OwnI.drewN {w : World} {B : Nat} {a : Option Addr} {c : Nat} {zs : List Int} (h : OwnI w B a c zs) (k : Nat) : OwnI (w.drewN k) B a c zs := h

theorem OwnI.wf {w : World} {B : Nat} {a : Option Addr} {c : Nat} {zs : List Int} (h : OwnI w B a c zs) : WfI zs := h.1

theorem OwnI.cap {w : World} {B : Nat} {a : Option Addr} {c : Nat} {zs : List Int} (h : OwnI w B a c zs) : zs.length ≤ c ∧ c ≤ maxLen := by
  rcases h.2.2 with ⟨h1, h0⟩ | ⟨g, cap, cur, hv, hb, hg, hnc, hcm, _⟩
  · injection h1 with _ _ h3
    omega
  · injection hv with _ _ h3
    omega

theorem OwnI.head {w : World} {B : Nat} {a : Option Addr} {c : Nat} {zs : List Int} (h : OwnI w B a c zs) (h0 : 0 < zs.length) : ∃ g, a = some ⟨g, 0, none⟩ ∧ B ≤ g ∧ g < w.heap.size := by
  rcases h.2.2 with ⟨_, h'⟩ | ⟨g, cap, cur, hv, hb, hg, _⟩
  · omega
  · injection hv with hv
    exact ⟨g, hv, hb, (Array.getElem?_eq_some_iff.1 hg).1⟩

theorem OwnI.set {w : World} {B g : Nat} {c : Nat} {zs : List Int} (h : OwnI w B (some ⟨g, 0, none⟩) c zs) (j : Nat) (y : Int) (h0 : -9223372036854775808 ≤ y) (h1 : y ≤ 9223372036854775807) :
    OwnI (w.setCell ⟨g, j, none⟩ (.int .i64 y)) B (some ⟨g, 0, none⟩) c (zs.set j y) ∧ w.grownBy (w.setCell ⟨g, j, none⟩ (.int .i64 y)) (some g) := by
  have hst := h.2.stored j (.int .i64 y)
  refine ⟨⟨fun z hz => ?_, ?_⟩, hst.2⟩
  · rcases List.mem_or_eq_of_mem_set hz with h' | rfl
    · exact h.1 z h'
    · exact ⟨h0, h1⟩
  · have := hst.1
    rw [← List.map_set] at this
    simpa using this

theorem OwnI.take {w : World} {B : Nat} {a : Option Addr} {c : Nat} {zs : List Int} (h : OwnI w B a c zs) {m : Nat} (hm : m ≤ zs.length) (h0 : 0 < zs.length) : OwnI w B a c (zs.take m) := by
  refine ⟨fun z hz => h.1 z (List.mem_of_mem_take hz), ?_⟩
  obtain ⟨g, rfl, hb, hlt⟩ := h.head h0
  rcases h.2.2 with ⟨h', _⟩ | ⟨g', cap, cur, hv, hb', hg, hnc, hcm, hcs, htake⟩
  · cases h'
  · injection hv with hv1 hv2 hv3
    injection hv1 with hv1
    injection hv1 with hv1
    subst hv1
    subst hv3
    have el : (zs.take m).length = m := by simp; omega
    refine ⟨by simp, .inr ⟨g, c, cur, by rw [el], hb', hg, by rw [el]; omega, hcm, hcs, ?_⟩⟩
    rw [el, List.map_take, ← htake, List.take_take]
    congr 1
    omega

theorem cells_new (w : World) (xs : List Value) (t : TypeId) : ∀ j u, xs[j]? = some u → (w.alloc (.cells xs.toArray t)).cell? ((⟨w.heap.size, 0, none⟩ : Addr).add j) = some u := by
  intro j u hj
  rw [Addr.add_lit, cell_of_row _ w.heap.size _ _ _ (0, 0) (heap_alloc_new w _)]
  simpa using hj

theorem OwnI.grown {w w' : World} {B : Nat} {a : Option Addr} {c g : Nat} {zs : List Int} (h : OwnI w B a c zs) (hg : w.grownBy w' (some g)) (hB : g < B) : OwnI w' B a c zs := by
  refine ⟨h.1, h.2.kept hg ?_⟩
  cases hv : (Value.slice a zs.length c).ownBlock with
  | none => exact .inl rfl
  | some k => exact .inr (fun e => by have := (h.2.lt k hv).1; injection e; omega)

theorem OwnI.alloc {w : World} {B : Nat} {a : Option Addr} {c : Nat} {zs : List Int} (h : OwnI w B a c zs) (o : Obj) : OwnI (w.alloc o) B a c zs := ⟨h.1, h.2.alloc o⟩

theorem OwnI.empty {w : World} {B : Nat} (hB : B ≤ w.heap.size) : OwnI (w.alloc (.cells #[] 3)) B (some ⟨w.heap.size, 0, none⟩) 0 [] := by
  refine ⟨?_, ?_⟩
  · intro z hz; cases hz
  · exact World.ownsRow_made w #[] 0 hB (Nat.zero_le _) (by simp)

theorem World.cell?_alloc_at_two (w : World) (x y : Int) (t : TypeId) : (w.alloc (.cells #[.int .i64 x, .int .i64 y] t)).cell? ⟨w.heap.size, (0 : Int).toNat, none⟩ = some (.int .i64 x) ∧
    (w.alloc (.cells #[.int .i64 x, .int .i64 y] t)).cell? ⟨w.heap.size, (1 : Int).toNat, none⟩ = some (.int .i64 y) :=
  ⟨by rw [cell_of_row _ w.heap.size _ _ _ (0, 0) (heap_alloc_new w _)]; rfl, by rw [cell_of_row _ w.heap.size _ _ _ (0, 0) (heap_alloc_new w _)]; rfl⟩

theorem wf_one {y : Int} (h0 : -9223372036854775808 ≤ y) (h1 : y ≤ 9223372036854775807) : WfI [y] := by
  intro z hz
  simp at hz
  subst hz
  exact ⟨h0, h1⟩

/-- The row that an append may have written lies behind the reader. -/
theorem own_row {w : World} {B g : Nat} {a : Option Addr} {c : Nat} {zs : List Int} (h : OwnI w B a c zs) (hB : g < B) : ∀ r, (Value.slice a zs.length c).ownBlock = some r → g < r ∧ B ≤ r := by
  intro r hr
  have := (h.2.lt r hr).1
  omega

/-- One number, in a new block, is appended; the length is told by a name. -/
theorem wp_appL {ops : Array Oper} {rest : List Oper} {o : Oper} {act : Act} {Q : Exit → Act → World → Prop} (hgd : o.guard = none) (s x : Operand)
    (ho : o.op = .call { callee := .builtin .append, args := #[s, x], argTypes := #[34, 34] })
    {W : World} {B : Nat} {a0 : Option Addr} {c0 L : Nat} {zs : List Int} {y : Int} (hL : zs.length = L) (hs : act.eval s = .slice a0 L c0) (hO : OwnI W B a0 c0 zs)
    (hx : act.eval x = .slice (some ⟨W.heap.size, 0, none⟩) 1 1) (h0 : -9223372036854775808 ≤ y) (h1 : y ≤ 9223372036854775807) (hlen : L + 1 ≤ 1099511627776) (hB : B ≤ W.heap.size)
    (h : ∀ a' c' w', OwnI w' B a' c' (zs ++ [y]) → (W.alloc (.cells #[.int .i64 y] 3)).grownBy w' (Value.slice a0 L c0).ownBlock → wpList Try.prog ops Q rest (act.put o.dst (.slice a' (L + 1) c')) w') :
    wpList Try.prog ops Q (o :: rest) act (W.alloc (.cells #[.int .i64 y] 3)) := by
  subst hL
  refine wp_app hgd s x ho hs (hO.alloc _) ⟨W.heap.size, 0, none⟩ 1 1 [y] hx rfl (fun j u hj => ?_) (wf_one h0 h1) hlen (by simp; omega) ?_
  · rw [Addr.add_lit, cell_of_row _ W.heap.size _ _ _ (0, 0) (heap_alloc_new W _)]
    simpa using hj
  · intro a' c' w' hO' hG'
    have e : (zs ++ [y]).length = zs.length + 1 := by simp
    rw [e]
    exact h a' c' w' hO' hG'

/-- Behind such an append: what lay below stays. -/
theorem appL_below {w0 W w' : World} {a0 : Option Addr} {c0 L : Nat} {zs : List Int} {o : Obj} (hL : zs.length = L) (hb : Below w0.heap.size w0 W) (hO : OwnI W w0.heap.size a0 c0 zs)
    (hG : (W.alloc o).grownBy w' (Value.slice a0 L c0).ownBlock) : Below w0.heap.size w0 w' ∧ ∀ (g : Nat) (ob : Obj), g < w0.heap.size → W.heap[g]? = some ob → w'.heap[g]? = some ob := by
  subst hL
  refine ⟨(hb.alloc hb.size o).grown hG (by have := hb.size; simp; omega) (fun r hr => (hO.2.lt r hr).1), fun g ob hg h => ?_⟩
  have := hb.size
  rw [hG.block g (by simp; omega) (fun e => by have := (hO.2.lt g e.symm).1; omega), Below.heap_alloc W o g (by omega)]
  exact h

end Go.Proofs.Ytdjpaibjelfhnaa
