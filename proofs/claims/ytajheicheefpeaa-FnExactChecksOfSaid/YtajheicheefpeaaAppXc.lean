/- The builtin append onto a slice of sums of the call's own. -/
import Derived.Test.YtajheicheefpeaaBaseXc
import Derived.OwnWalk
namespace Go.Proofs.Ytajheicheefpeaa
open Go.RowKit
set_option linter.unusedVariables false

theorem own_form {w : World} {base : Nat} {e : TypeId} {size : Nat} {v : Value} {n : Nat} {xs : List Value} (h : w.ownsRow base e size v n xs) : ∃ a c, v = .slice a n c ∧ n ≤ c ∧ c ≤ maxLen := by
  rcases h.2 with ⟨rfl, rfl⟩ | ⟨g, cap, cur, rfl, _, _, hc, hm, _⟩
  · exact ⟨_, _, rfl, Nat.le_refl _, Nat.zero_le _⟩
  · exact ⟨_, _, rfl, hc, hm⟩

theorem flatX_one (xs : List (Int × Int)) : ∀ v ∈ flatX xs, v.oneCell' = true := by
  intro v hv
  simp only [flatX, List.mem_flatMap] at hv
  obtain ⟨x, _, hx⟩ := hv
  simp only [List.mem_cons, List.mem_nil_iff, or_false] at hx
  rcases hx with rfl | rfl <;> rfl

/-- 'append(out, xs...)', out a slice of sums of the call's own, the source at an address. -/
theorem wp_appX {ops : Array Oper} {rest : List Oper} {o : Oper} {act : Act} {Q : Exit → Act → World → Prop} (hgd : o.guard = none) (s x : Operand)
    (ho : o.op = .call { callee := .builtin .append, args := #[s, x], argTypes := #[24, 24] })
    {W : World} {B : Nat} {a0 : Option Addr} {c0 L : Nat} {zs : List (Int × Int)} (hL : zs.length = L) (hs : act.eval s = .slice a0 L c0) (hO : OwnX W B a0 c0 zs)
    (ad : Addr) (m c : Nat) (news : List (Int × Int)) (hx : act.eval x = .slice (some ad) m c) (hm : news.length = m)
    (hnews : ∀ j u, (flatX news)[j]? = some u → W.cell? (ad.add j) = some u) (hwf : WfX news) (hlen : L + m ≤ 1099511627776) (hB : B ≤ W.heap.size)
    (h : ∀ a' c' w', OwnX w' B a' c' (zs ++ news) → W.grownBy w' (Value.slice a0 L c0).ownBlock → wpList Try.prog ops Q rest (act.put o.dst (.slice a' (L + m) c')) w') :
    wpList Try.prog ops Q (o :: rest) act W := by
  subst hL
  obtain ⟨i0, hi, hz0, hz1, hz2⟩ := info_parts info_ext
  refine wpList_append_own W hgd s x 24 ho B 53 i0 (.agg #[.int .i64 0, .int .i64 0]) 2 16 Try.underlying24 hi hz0 hz1 hz2 rfl (by decide) _ zs.length _ hs hO.2 ad m c (flatX news) hx (by rw [flatX_length, hm]) hnews
    (flatX_one _) (by unfold maxLen; omega) (by omega) hB ?_
  intro v' w' hown hg _
  obtain ⟨a', c', rfl, _⟩ := own_form hown
  refine h a' c' w' ⟨fun z hz => ?_, ?_⟩ hg
  · rcases List.mem_append.1 hz with h | h
    · exact hO.1 z h
    · exact hwf z h
  · rw [flatX_append, List.length_append, hm]; exact hown

/-- 'append(out, xs...)' at a step of a region that draws. -/
theorem step_appX {ops : Array Oper} {o : Oper} {act : Act} {K : Act → World → Prop} {Q : Exit → Act → World → Prop} {E : Prop} (hgd : o.guard = none) (s x : Operand)
    (ho : o.op = .call { callee := .builtin .append, args := #[s, x], argTypes := #[24, 24] })
    {W : World} {B : Nat} {a0 : Option Addr} {c0 L : Nat} {zs : List (Int × Int)} (hL : zs.length = L) (hs : act.eval s = .slice a0 L c0) (hO : OwnX W B a0 c0 zs)
    (ad : Addr) (m c : Nat) (news : List (Int × Int)) (hx : act.eval x = .slice (some ad) m c) (hm : news.length = m)
    (hnews : ∀ j u, (flatX news)[j]? = some u → W.cell? (ad.add j) = some u) (hwf : WfX news) (hlen : L + m ≤ 1099511627776) (hB : B ≤ W.heap.size)
    (h : ∀ a' c' w', OwnX w' B a' c' (zs ++ news) → W.grownBy w' (Value.slice a0 L c0).ownBlock → K (act.put o.dst (.slice a' (L + m) c')) w') :
    if Region.wanted o (yielded ops act.tmps) = true then Oper.wp Try.prog o act W K Q else E := by
  have hw : Region.wanted o (yielded ops act.tmps) = true := by simp [Region.wanted, hgd]
  rw [if_pos hw]
  subst hL
  obtain ⟨i0, hi, hz0, hz1, hz2⟩ := info_parts info_ext
  refine wp_append_own W s x 24 ho B 53 i0 (.agg #[.int .i64 0, .int .i64 0]) 2 16 Try.underlying24 hi hz0 hz1 hz2 rfl (by decide) _ zs.length _ hs hO.2 ad m c (flatX news) hx (by rw [flatX_length, hm]) hnews
    (flatX_one _) (by unfold maxLen; omega) (by omega) hB ?_
  intro v' w' hown hg _
  obtain ⟨a', c', rfl, _⟩ := own_form hown
  refine h a' c' w' ⟨fun z hz => ?_, ?_⟩ hg
  · rcases List.mem_append.1 hz with h | h
    · exact hO.1 z h
    · exact hwf z h
  · rw [flatX_append, List.length_append, hm]; exact hown

end Go.Proofs.Ytajheicheefpeaa
