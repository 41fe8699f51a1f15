/- Parts of a row, as an append reads them. -/
import Derived.Test.YtdjpaibjelfhnaaRow
namespace Go.Proofs.Ytdjpaibjelfhnaa
open Go.RowKit
set_option linter.unusedVariables false

theorem Elt.flat_at {α : Type} (E : Elt α) (xs : List α) (j : Nat) (u : Value) (h : (E.flat xs)[j]? = some u) : ∃ q r x, j = q * E.m + r ∧ xs[q]? = some x ∧ (E.enc x)[r]? = some u := by
  induction xs generalizing j with
  | nil => simp [Elt.flat] at h
  | cons p ps ih =>
    rw [E.flat_cons] at h
    by_cases hj : j < E.m
    · rw [List.getElem?_append_left (by rw [E.len]; exact hj)] at h
      exact ⟨0, j, p, by simp, rfl, h⟩
    · rw [List.getElem?_append_right (by rw [E.len]; omega), E.len] at h
      obtain ⟨q, r, x, h1, h2, h3⟩ := ih _ h
      exact ⟨q + 1, r, x, by rw [Nat.add_mul]; omega, h2, h3⟩

theorem RdR.news {α : Type} {E : Elt α} {W W' : World} {b off n k m : Nat} {xs : List α} (h : RdR E W (some ⟨b, off, none⟩) n xs) (hkm : k + m ≤ n) (hb : Below W.heap.size W W') :
    ∀ j u, (E.flat ((xs.drop k).take m))[j]? = some u → W'.cell? ((⟨b, off + k * E.m, none⟩ : Addr).add j) = some u := by
  intro j u hj
  obtain ⟨q, r, x, rfl, h2, h3⟩ := E.flat_at _ _ _ hj
  have hq : q < m := by
    have := (List.getElem?_eq_some_iff.1 h2).1
    rw [List.length_take] at this
    omega
  rw [List.getElem?_take, if_pos hq, List.getElem?_drop] at h2
  obtain ⟨b', off', he, hlt, hc⟩ := h.2 (k + q) (by omega)
  injection he with he
  injection he with h1 h4 _
  subst h1 h4
  rw [Addr.add_lit, hb.cell (p := ⟨b, off + k * E.m + (q * E.m + r), none⟩) hlt]
  have := hc (k + q) x h2 r u h3
  rwa [Nat.add_mul, ← Nat.add_assoc, Nat.add_assoc (off + k * E.m)] at this

theorem RdR.news0 {α : Type} {E : Elt α} {W W' : World} {b n m : Nat} {xs : List α} (h : RdR E W (some ⟨b, 0, none⟩) n xs) (hkm : m ≤ n) (hb : Below W.heap.size W W') :
    ∀ j u, (E.flat (xs.take m))[j]? = some u → W'.cell? ((⟨b, 0, none⟩ : Addr).add j) = some u := by
  have := h.news (k := 0) (m := m) (by omega) hb
  simpa using this

theorem belowEmptyR {W w6 : World} {T : TypeId} (hg : ((W.alloc (.cells #[] T)).drew).grownBy w6 (Value.slice (some ⟨W.heap.size, 0, none⟩) 0 0).ownBlock) : Below W.heap.size W w6 :=
  (((Below.refl _ _).alloc (Nat.le_refl _) _).drew).grown hg (by simp) (by intro r hr; simp [Value.ownBlock] at hr; omega)

theorem mem_less {α : Type} {xs : List α} {k : Nat} {x : α} (h : x ∈ xs.take k ++ xs.drop (k + 1)) : x ∈ xs := by
  rcases List.mem_append.1 h with h | h
  · exact List.mem_of_mem_take h
  · exact List.mem_of_mem_drop h

theorem mem_twice {α : Type} {xs : List α} {k : Nat} {x : α} (h : x ∈ xs.take (k + 1) ++ xs.drop k) : x ∈ xs := by
  rcases List.mem_append.1 h with h | h
  · exact List.mem_of_mem_take h
  · exact List.mem_of_mem_drop h

end Go.Proofs.Ytdjpaibjelfhnaa
