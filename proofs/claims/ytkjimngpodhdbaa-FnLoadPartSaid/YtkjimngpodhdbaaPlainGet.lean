/- Plain: a block of a store by its id; the bytes of a file by the ids of its blocks. -/
import Derived.Test.YtkjimngpodhdbaaPlainStore
import Derived.Test.YtkjimngpodhdbaaSum
namespace Go.Proofs.Ytkjimngpodhdbaa
set_option linter.unusedVariables false

/-- The block with an id. -/
def atV (vs : List (Int × List Int × Int)) (i : Int) : Option (Int × List Int × Int) := vs.find? fun v => decide (v.1 = i)

/-- The bytes of a block. -/
def getR (vs : List (Int × List Int × Int)) (i : Int) : List Int × Bool := if storeV vs then (match atV vs i with | some v => (v.2.1, true) | none => ([], false)) else ([], false)

/-- An id of a file: it is there, and its block is full, unless it is the last one. -/
def idOk (vs : List (Int × List Int × Int)) (last : Bool) (i : Int) : Bool := match atV vs i with | some v => last || decide (8 ≤ v.2.1.length) | none => false

def idAt (vs : List (Int × List Int × Int)) (ids : List Int) (j : Nat) : Bool := idOk vs (decide (ids.length ≤ j + 1)) (ids.getD j 0)

/-- Ids of a file. -/
def idsV (vs : List (Int × List Int × Int)) (ids : List Int) : Bool := (List.range ids.length).all (idAt vs ids) && decide (ids.length ≤ 4)

def bytesV (vs : List (Int × List Int × Int)) (i : Int) : List Int := match atV vs i with | some v => v.2.1 | none => []

def loadL (vs : List (Int × List Int × Int)) (ids : List Int) : List Int := ids.flatMap (bytesV vs)

/-- The bytes of a file. -/
def loadR (vs : List (Int × List Int × Int)) (ids : List Int) : List Int × Bool := if storeV vs && idsV vs ids then (loadL vs ids, true) else ([], false)

theorem atV_some {vs : List (Int × List Int × Int)} {k : Nat} {v : Int × List Int × Int} {i : Int} (hk : vs[k]? = some v) (hi : v.1 = i) (hno : ∀ (j : Nat) (u : Int × List Int × Int), j < k → vs[j]? = some u → u.1 ≠ i) : atV vs i = some v := by
  unfold atV
  rw [List.find?_eq_some_iff_getElem]
  obtain ⟨h1, h2⟩ := List.getElem?_eq_some_iff.1 hk
  refine ⟨by simp [hi], k, h1, h2, fun j hj => ?_⟩
  have := hno j vs[j] hj (List.getElem?_eq_getElem _)
  simp [this]

theorem atV_none {vs : List (Int × List Int × Int)} {i : Int} (hno : ∀ (j : Nat) (u : Int × List Int × Int), vs[j]? = some u → u.1 ≠ i) : atV vs i = none := by
  unfold atV
  rw [List.find?_eq_none]
  intro v hv
  obtain ⟨j, hj, rfl⟩ := List.getElem_of_mem hv
  have := hno j vs[j] (List.getElem?_eq_getElem _)
  simp [this]

theorem atV_mem {vs : List (Int × List Int × Int)} {i : Int} {v : Int × List Int × Int} (h : atV vs i = some v) : v ∈ vs ∧ v.1 = i := by
  unfold atV at h
  exact ⟨List.mem_of_find?_eq_some h, by simpa using List.find?_some h⟩

theorem atV_valid {vs : List (Int × List Int × Int)} (hv : storeV vs = true) {i : Int} {v : Int × List Int × Int} (h : atV vs i = some v) : blockV v.2.1 = true := by
  obtain ⟨hm, _⟩ := atV_mem h
  obtain ⟨k, hk, rfl⟩ := List.getElem_of_mem hm
  have h1 := (storeV_iff.1 hv).1
  have hg : goodAt okH befH vs k = true := by
    cases hb : goodAt okH befH vs k with
    | true => rfl
    | false => rw [storeV_bad hk hb] at hv; cases hv
  have hok : okH vs[k] = true := by
    cases k with
    | zero => rwa [goodAt_zero (List.getElem?_eq_getElem hk)] at hg
    | succ k =>
      rw [goodAt_succ (by omega) (List.getElem?_eq_getElem hk) (List.getElem?_eq_getElem (by omega : k + 1 - 1 < vs.length)), Bool.and_eq_true] at hg
      exact hg.1
  unfold okH at hok
  rw [Bool.and_eq_true, Bool.and_eq_true] at hok
  exact hok.1.2

theorem idsV_bad {vs : List (Int × List Int × Int)} {ids : List Int} {j : Nat} (hj : j < ids.length) (h : idAt vs ids j = false) : idsV vs ids = false := by
  unfold idsV
  have : (List.range ids.length).all (idAt vs ids) = false := by
    rw [List.all_eq_false]
    exact ⟨j, by simpa using hj, by simp [h]⟩
  rw [this]; rfl

theorem idsV_long {vs : List (Int × List Int × Int)} {ids : List Int} (h : 4 < ids.length) : idsV vs ids = false := by
  unfold idsV
  rw [show decide (ids.length ≤ 4) = false by simp; omega, Bool.and_false]

theorem idsV_all {vs : List (Int × List Int × Int)} {ids : List Int} (h : ∀ j, j < ids.length → idAt vs ids j = true) : idsV vs ids = decide (ids.length ≤ 4) := by
  unfold idsV
  have : (List.range ids.length).all (idAt vs ids) = true := by
    rw [List.all_eq_true]
    intro j hj
    exact h j (by simpa using hj)
  rw [this]; rfl

theorem idsV_at {vs : List (Int × List Int × Int)} {ids : List Int} (h : idsV vs ids = true) {j : Nat} (hj : j < ids.length) : idAt vs ids j = true := by
  cases hb : idAt vs ids j with
  | true => rfl
  | false => rw [idsV_bad hj hb] at h; cases h

theorem idsV_len {vs : List (Int × List Int × Int)} {ids : List Int} (h : idsV vs ids = true) : ids.length ≤ 4 := by
  unfold idsV at h
  rw [Bool.and_eq_true] at h
  simpa using h.2

theorem idAt_some {vs : List (Int × List Int × Int)} {ids : List Int} {j : Nat} (h : idAt vs ids j = true) : ∃ v, atV vs (ids.getD j 0) = some v ∧ (j + 1 < ids.length → 8 ≤ v.2.1.length) := by
  unfold idAt idOk at h
  split at h
  · rename_i v hv
    refine ⟨v, hv, fun hlt => ?_⟩
    rw [show decide (ids.length ≤ j + 1) = false by simp; omega, Bool.false_or] at h
    simpa using h
  · cases h

theorem idAt_none {vs : List (Int × List Int × Int)} {ids : List Int} {j : Nat} (h : atV vs (ids.getD j 0) = none) : idAt vs ids j = false := by
  unfold idAt idOk; rw [h]

theorem idAt_short {vs : List (Int × List Int × Int)} {ids : List Int} {j : Nat} {v : Int × List Int × Int} (h : atV vs (ids.getD j 0) = some v) (hj : j + 1 < ids.length) (hl : v.2.1.length < 8) : idAt vs ids j = false := by
  unfold idAt idOk; rw [h]
  simp; omega

theorem idAt_yes {vs : List (Int × List Int × Int)} {ids : List Int} {j : Nat} {v : Int × List Int × Int} (h : atV vs (ids.getD j 0) = some v) (hl : ids.length ≤ j + 1 ∨ 8 ≤ v.2.1.length) : idAt vs ids j = true := by
  unfold idAt idOk; rw [h]
  simpa using hl

/-- The first ids of a file. -/
theorem idsV_take {vs : List (Int × List Int × Int)} {ids : List Int} (h : idsV vs ids = true) (k : Nat) : idsV vs (ids.take k) = true := by
  have hl := idsV_len h
  rw [idsV_all]
  · simp; omega
  · intro j hj
    rw [List.length_take] at hj
    obtain ⟨v, hv, hf⟩ := idAt_some (idsV_at h (j := j) (by omega))
    refine idAt_yes (v := v) ?_ ?_
    · have : (ids.take k).getD j 0 = ids.getD j 0 := by
        simp [List.getD, show j < k by omega]
      rw [this]; exact hv
    · rw [List.length_take]
      by_cases hlt : j + 1 < ids.length
      · exact .inr (hf hlt)
      · left; omega

/-- The first blocks are the first bytes. -/
theorem load_part {vs : List (Int × List Int × Int)} {ids L : List Int} (h : loadR vs ids = (L, true)) (k : Nat) : ∃ M, loadR vs (ids.take k) = (M, true) ∧ M.length ≤ L.length ∧ L.take M.length = M := by
  unfold loadR at h
  split at h
  · rename_i hc
    rw [Bool.and_eq_true] at hc
    injection h with h _
    refine ⟨loadL vs (ids.take k), ?_, ?_, ?_⟩
    · unfold loadR
      rw [hc.1, idsV_take hc.2 k]; rfl
    · rw [← h]
      unfold loadL
      conv => rhs; rw [← List.take_append_drop k ids, List.flatMap_append, List.length_append]
      omega
    · rw [← h]
      unfold loadL
      conv => lhs; rw [← List.take_append_drop k ids, List.flatMap_append]
      rw [List.take_append_drop, List.take_left']
      rfl
  · injection h with _ h; cases h

theorem bytesV_le {vs : List (Int × List Int × Int)} (hv : storeV vs = true) (i : Int) : (bytesV vs i).length ≤ 8 := by
  unfold bytesV
  split
  · rename_i v h
    exact (blockV_parts (atV_valid hv h)).2.2
  · simp

theorem getR_len (vs : List (Int × List Int × Int)) (i : Int) : (getR vs i).1.length ≤ 8 := by
  unfold getR
  split
  · rename_i h
    split
    · rename_i v hv
      exact (blockV_parts (atV_valid h hv)).2.2
    · simp
  · simp

theorem loadL_len {vs : List (Int × List Int × Int)} (hv : storeV vs = true) (ids : List Int) : (loadL vs ids).length ≤ 8 * ids.length := by
  induction ids with
  | nil => simp [loadL]
  | cons i ids ih =>
    have := bytesV_le hv i
    unfold loadL at ih ⊢
    rw [List.flatMap_cons, List.length_append, List.length_cons]
    omega

theorem loadR_len (vs : List (Int × List Int × Int)) (ids : List Int) : (loadR vs ids).1.length ≤ 32 := by
  unfold loadR
  split
  · rename_i h
    rw [Bool.and_eq_true] at h
    have := loadL_len h.1 ids
    have := idsV_len h.2
    show (loadL vs ids).length ≤ 32
    omega
  · simp

theorem loadL_succ {vs : List (Int × List Int × Int)} {ids : List Int} {k : Nat} (h : k < ids.length) : loadL vs (ids.take (k + 1)) = loadL vs (ids.take k) ++ bytesV vs (ids.getD k 0) := by
  unfold loadL
  rw [List.take_succ_eq_append_getElem h, List.flatMap_append]
  simp [List.getD, h]

end Go.Proofs.Ytkjimngpodhdbaa
