/- append(out, make([]int, n)...): n zeros behind a slice of ints of the call's own; append(out, xs...) of an owned source. -/
import Derived.Test.YtbegmliglabpfaaApp
import Derived.Lib.AppendZeros
namespace Go.Proofs.Ytbegmliglabpfaa
open Go.RowKit

theorem zeroCells_int (n : Nat) : Builtin.zeroCells #[Value.int .i64 0] n = (List.replicate n (Value.int .i64 0)).toArray := by
  apply Array.ext'
  apply List.ext_getElem?
  intro j
  by_cases hj : j < n
  · simp [Builtin.zeroCells, hj, Nat.mod_one]
  · simp [Builtin.zeroCells, hj]

theorem run_app_zeros {W : World} {B : Nat} {a0 : Option Addr} {c0 : Nat} {zs : List Int} (hO : OwnI W B a0 c0 zs) (n : Nat) (h0 : 0 < n) (hlen : zs.length + n ≤ 1099511627776) (hB : B ≤ W.heap.size) (ty : TypeId) :
    ∃ a' c' w', (Builtin.append_ #[23, 3] ty #[.slice a0 zs.length c0, .int .i64 (n : Int)]).run Try.prog W = .ok (.slice a' (zs.length + n) c') w' ∧
      OwnI w' B a' c' (zs ++ List.replicate n 0) ∧ W.grownBy w' (Value.slice a0 zs.length c0).ownBlock := by
  obtain ⟨i, hi, hz, hz1, hz2⟩ := info_parts info_int
  have ht := Try.underlying23
  have htn := Try.underlying3
  have hw : IntKind.i64.wrap (n : Int) = n := by rw [IntKind.wrap_i64]; omega
  have hneg : ¬ ((n : Int) < 0) := by omega
  have hns : ¬ (n * i.size = 0) := Nat.mul_ne_zero (by omega) (by omega)
  have h48i : ¬ (281474976710656 < (n : Int) * (i.bytes : Int)) := by rw [hz2]; omega
  have hwf : WfI (zs ++ List.replicate n 0) := by
    intro z hz'
    rcases List.mem_append.1 hz' with h | h
    · exact hO.1 z h
    · rw [List.eq_of_mem_replicate h]; omega
  have ez : (zs ++ List.replicate n 0).map (Value.int .i64) = zs.map (Value.int .i64) ++ List.replicate n (Value.int .i64 0) := by simp
  have el : (zs ++ List.replicate n 0).length = zs.length + n := by simp
  have ez2 : (Value.int IntKind.i64 0).cells = #[Value.int IntKind.i64 0] := rfl
  have grown : ∀ (old : Nat) (row : Option Nat),
      OwnI (W.drew.alloc (.cells ((zs.map (Value.int .i64)).toArray ++ (List.replicate n (Value.int .i64 0)).toArray ++ Builtin.zeroCells #[Value.int .i64 0] (grownCap W (zs.length + n) old 3 - (zs.length + n))) 3)) B
        (some ⟨W.heap.size, 0, none⟩) (grownCap W (zs.length + n) old 3) (zs ++ List.replicate n 0) ∧
      W.grownBy (W.drew.alloc (.cells ((zs.map (Value.int .i64)).toArray ++ (List.replicate n (Value.int .i64 0)).toArray ++ Builtin.zeroCells #[Value.int .i64 0] (grownCap W (zs.length + n) old 3 - (zs.length + n))) 3)) row := by
    intro old row
    have hge := grownCap_ge W (zs.length + n) old 3
    have hcm : grownCap W (zs.length + n) old 3 ≤ maxLen := grownCap_le_maxLen W _ _ _ (by unfold maxLen; omega)
    refine ⟨⟨hwf, ?_⟩, ⟨rfl, rfl, rfl, by simp, fun k hk _ => Below.heap_alloc W.drew _ k hk⟩⟩
    rw [el, ez]
    refine ⟨by simp, .inr ⟨W.heap.size, _, _, rfl, hB, heap_alloc_new W.drew _, hge, hcm, ?_, ?_⟩⟩
    · simp only [Array.size_append, List.size_toArray, size_zeroCells, List.length_map, List.length_replicate]
      simp
      omega
    · simp only [Array.toList_append, Nat.mul_one]
      rw [List.take_append_of_le_length (by simp)]
      exact List.take_of_length_le (by simp)
  rcases hO.2.2 with ⟨h1, hn0⟩ | ⟨g, cap, cur, h1, hbg, hg, hnc, hcm, hcs, htake⟩
  · injection h1 with e1 _ e2
    have ezs : zs = [] := List.eq_nil_of_length_eq_zero hn0
    subst e1
    subst e2
    subst ezs
    have hr := Lib.run_append_nil_zeros W 23 3 ty 3 i (.int .i64 0) .i64 .i64 ht htn hi hz n h0 (by omega) (by omega) (by rw [hz2]; omega)
    have hgr := grown 0 (Value.slice none ([] : List Int).length 0).ownBlock
    simp only [List.length_nil, Nat.zero_add, List.map_nil, List.nil_append] at hgr ⊢
    rw [ez2, zeroCells_int n] at hr
    have e0 : (#[] : Array Value) ++ (List.replicate n (Value.int .i64 0)).toArray = (List.replicate n (Value.int .i64 0)).toArray := by simp
    rw [e0] at hgr
    exact ⟨_, _, _, hr, hgr.1, hgr.2⟩
  · injection h1 with e1 _ e2
    subst e1
    subst e2
    by_cases hroom : zs.length + n ≤ c0
    · have hst := run_storeCells_at Try.prog g (zs.length * 1) 3 (List.replicate n (Value.int .i64 0)) 0 cur W hg (by simp; omega) (by intro u hu; rw [List.eq_of_mem_replicate hu]; rfl)
      simp only [Nat.add_zero, Nat.mul_one] at hst
      refine ⟨some ⟨g, 0, none⟩, c0, W.setRow g (cur.toList.take zs.length ++ List.replicate n (Value.int .i64 0) ++ cur.toList.drop (zs.length + (List.replicate n (Value.int IntKind.i64 0)).length)).toArray, ?_, ?_⟩
      · simp [Builtin.append_, run_underlying ht, run_underlying htn, sizeOf, typeInfo, zeroValue, hi, hz, asInt, asIntOf, hw, hneg, h48i, hroom, hz1, Addr.add_lit, ez2, zeroCells_int, hst, show ¬ n = 0 by omega]
      · refine ⟨⟨hwf, ?_⟩, ⟨rfl, rfl, rfl, by simp, fun k _ hk => setRow_other W g k _ (fun e => hk (by simp [Value.ownBlock, e]))⟩⟩
        rw [el, ez]
        refine ⟨by simp, .inr ⟨g, c0, _, rfl, hbg, setRow_heap W g cur _ 3 _ hg, hroom, hcm, ?_, ?_⟩⟩
        · simp; omega
        · rw [Nat.mul_one] at htake
          rw [htake]
          simp only [Nat.mul_one]
          rw [List.take_append_of_le_length (by simp)]
          exact List.take_of_length_le (by simp)
    · have holds : ∀ j u, (zs.map (Value.int .i64))[j]? = some u → W.cell? ((⟨g, 0, none⟩ : Addr).add j) = some u := hO.2.cells (g := g) rfl
      have hfo := run_firstCells_some (P := Try.prog) W.drew 1 zs.length ⟨g, 0, none⟩ zs.length c0 (zs.map (Value.int .i64)) (by simp) (by simpa using holds)
      have hgr := grown c0 (Value.slice (some ⟨g, 0, none⟩) zs.length c0).ownBlock
      have h63' : ¬ (9223372036854775807 < ((zs.length : Int) + (n : Int))) := by omega
      have hfit := growslice_fits (bytes := i.bytes) (show c0 < zs.length + n by omega) (by rw [hz2]; omega)
      have h48' : ¬ (281474976710656 < Builtin.nextslicecap (zs.length + n) c0 * i.bytes) := by omega
      refine ⟨_, _, _, ?_, hgr.1, hgr.2⟩
      simp [Builtin.append_, run_underlying ht, run_underlying htn, sizeOf, typeInfo, zeroValue, hi, hz, asInt, asIntOf, hw, hneg, h48i, hroom, hz1, h63', h48', Question.forced, hfo, newRow, grownCap, ez2, zeroCells_int, show ¬ n = 0 by omega]

theorem wp_app_zeros {ops : Array Oper} {rest : List Oper} {o : Oper} {act : Act} {Q : Exit → Act → World → Prop} (hgd : o.guard = none) (s x : Operand)
    (ho : o.op = .call { callee := .builtin .append, args := #[s, x], argTypes := #[23, 3] })
    {W : World} {B : Nat} {a0 : Option Addr} {c0 : Nat} {zs : List Int} (hs : act.eval s = .slice a0 zs.length c0) (hO : OwnI W B a0 c0 zs)
    (n : Nat) (hx : act.eval x = .int .i64 (n : Int)) (h0 : 0 < n) (hlen : zs.length + n ≤ 1099511627776) (hB : B ≤ W.heap.size)
    (h : ∀ a' c' w', OwnI w' B a' c' (zs ++ List.replicate n 0) → W.grownBy w' (Value.slice a0 zs.length c0).ownBlock → wpList Try.prog ops Q rest (act.put o.dst (.slice a' (zs ++ List.replicate n 0).length c')) w') :
    wpList Try.prog ops Q (o :: rest) act W := by
  obtain ⟨a', c', w', hr, hO', hg⟩ := run_app_zeros hO n h0 hlen hB o.type
  have := h a' c' w' hO' hg
  rw [show (zs ++ List.replicate n (0 : Int)).length = zs.length + n by simp] at this
  exact Lib.wpList_append_run W hgd s x _ _ ho _ _ hs hx _ w' hr this

/-- 'append(out, xs...)', both slices of ints of the call's own. -/
theorem wp_app_own {ops : Array Oper} {rest : List Oper} {o : Oper} {act : Act} {Q : Exit → Act → World → Prop} (hgd : o.guard = none) (s x : Operand)
    (ho : o.op = .call { callee := .builtin .append, args := #[s, x], argTypes := #[23, 23] })
    {W : World} {B B' : Nat} {a0 a1 : Option Addr} {c0 c1 : Nat} {zs news : List Int} (hs : act.eval s = .slice a0 zs.length c0) (hO : OwnI W B a0 c0 zs)
    (hx : act.eval x = .slice a1 news.length c1) (hN : OwnI W B' a1 c1 news) (hlen : zs.length + news.length ≤ 1099511627776) (hB : B ≤ W.heap.size)
    (h : ∀ a' c' w', OwnI w' B a' c' (zs ++ news) → W.grownBy w' (Value.slice a0 zs.length c0).ownBlock → wpList Try.prog ops Q rest (act.put o.dst (.slice a' (zs ++ news).length c')) w') :
    wpList Try.prog ops Q (o :: rest) act W := by
  rcases hN.2.2 with ⟨h1, hn0⟩ | ⟨g, cap, cur, h1, _⟩
  · injection h1 with e1 _ e2
    have en : news = [] := List.eq_nil_of_length_eq_zero hn0
    subst e1
    subst e2
    subst en
    refine wp_app_nil hgd s x ho hs hO hx ?_
    have := h a0 c0 W (by simpa using hO) (World.grownBy.refl _ _)
    simpa using this
  · injection h1 with e1 _ e2
    subst e1
    exact wp_app hgd s x ho hs hO ⟨g, 0, none⟩ news.length c1 news hx rfl (hN.2.cells (g := g) rfl) hN.1 hlen hB h

end Go.Proofs.Ytbegmliglabpfaa
