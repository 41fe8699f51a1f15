/- Contracts of the reference's and the program's HoldsValid. -/
import Derived.Test.YtcojgoibelgleaaEltO
import Derived.Test.YtcojgoibelgleaaPlainChain
import Derived.Test.YtcojgoibelgleaaWord
import Derived.Test.YtcojgoibelgleaaRegion
import Derived.WalkLawsBesides
import Derived.IntWalk
import Derived.BigQuiet
import Derived.Deep.QuietTactic
import Derived.StillTailTactics
import Derived.Outline
namespace Go.Proofs.Ytcojgoibelgleaa
open Go.RowKit
set_option linter.unusedVariables false

/-- A hold is valid. -/
def okO (x : ByteArray × ByteArray) : Bool := partV (bts x.1) && partV (bts x.2)
/-- A hold is ahead of another one. -/
def befO (x y : ByteArray × ByteArray) : Bool := ltB x.1.toList y.1.toList || (x.1.toList == y.1.toList && ltB x.2.toList y.2.toList)
/-- Holds are valid. -/
def holdsV (xs : List (ByteArray × ByteArray)) : Bool := chainV okO befO 8 xs

theorem befO_irrefl (x : ByteArray × ByteArray) : befO x x = false := by simp [befO, ltB_irrefl]

theorem befO_trans (x y z : ByteArray × ByteArray) (h1 : befO x y = true) (h2 : befO y z = true) : befO x z = true := by
  simp only [befO, Bool.or_eq_true, Bool.and_eq_true, beq_iff_eq] at h1 h2 ⊢
  rcases h1 with h1 | ⟨e1, h1⟩
  · rcases h2 with h2 | ⟨e2, h2⟩
    · exact .inl (ltB_trans h1 h2)
    · exact .inl (by rw [← e2]; exact h1)
  · rcases h2 with h2 | ⟨e2, h2⟩
    · exact .inl (by rw [e1]; exact h2)
    · exact .inr ⟨e1.trans e2, ltB_trans h1 h2⟩

set_option maxHeartbeats 400000 in
theorem l31Ok_any (x y : ByteArray) (w : World) (hx : x.size ≤ 4611686018427387904) (hy : y.size ≤ 4611686018427387904) :
    Calls Try.prog 12 #[.agg #[.string x, .string y]] w (RetB w (.bool (okO (x, y)))) := by
  have HE := Lib.hid (show okO (x, y) = (partV (bts x) && partV (bts y)) from rfl)
  go_enter Try.func12, Try.ntmps12
  go_wp2_with fail
  with_reducible refine (l1Word_any x _ hx).mono ?_
  rintro e w1 ⟨rfl, rfl⟩
  by_cases h1 : partV (bts x) = true
  · rw [h1] at HE ⊢
    clear h1
    go_wp2_with fail
    with_reducible refine (l1Word_any y _ hy).mono ?_
    rintro e w2 ⟨rfl, rfl⟩
    go_wp2
    go_ret
    rw [HE.out]
    exact ⟨by simp, (Below.refl _ _).alloc (Nat.le_refl _) _⟩
  · have h1' : partV (bts x) = false := by simpa using h1
    rw [h1'] at HE ⊢
    clear h1 h1'
    go_wp2
    go_ret
    rw [HE.out]
    exact ⟨by simp, (Below.refl _ _).alloc (Nat.le_refl _) _⟩

theorem befO_cases (x1 x2 y1 y2 : ByteArray) :
    (Op.bytesLess x1.toList y1.toList = true ∧ befO (x1, x2) (y1, y2) = true) ∨
    (Op.bytesLess x1.toList y1.toList = false ∧ (x1.toList == y1.toList) = false ∧ befO (x1, x2) (y1, y2) = false) ∨
    (Op.bytesLess x1.toList y1.toList = false ∧ (x1.toList == y1.toList) = true ∧ befO (x1, x2) (y1, y2) = Op.bytesLess x2.toList y2.toList) := by
  unfold befO ltB
  simp only
  cases h1 : Op.bytesLess x1.toList y1.toList <;> cases h2 : (x1.toList == y1.toList) <;> simp

set_option maxHeartbeats 400000 in
theorem l31Before_any (x1 x2 y1 y2 : ByteArray) (w : World) :
    Calls Try.prog 13 #[.agg #[.string x1, .string x2], .agg #[.string y1, .string y2]] w (RetB w (.bool (befO (x1, x2) (y1, y2)))) := by
  rcases befO_cases x1 x2 y1 y2 with ⟨d1, h⟩ | ⟨d1, e1, h⟩ | ⟨d1, e1, h⟩
  · have HE := Lib.hid h
    clear h
    go_enter Try.func13, Try.ntmps13
    go_wp2
    go_ret
    rw [HE.out]
    exact ⟨rfl, ((Below.refl _ _).alloc (Nat.le_refl _) _).alloc (by simp) _⟩
  · have HE := Lib.hid h
    clear h
    go_enter Try.func13, Try.ntmps13
    go_wp2
    go_ret
    rw [HE.out]
    exact ⟨rfl, ((Below.refl _ _).alloc (Nat.le_refl _) _).alloc (by simp) _⟩
  · have HE := Lib.hid h
    clear h
    go_enter Try.func13, Try.ntmps13
    go_wp2
    go_ret
    rw [HE.out]
    exact ⟨rfl, ((Below.refl _ _).alloc (Nat.le_refl _) _).alloc (by simp) _⟩

set_option maxHeartbeats 400000 in
theorem holdValid_any (x y : ByteArray) (w : World) (hx : x.size ≤ 4611686018427387904) (hy : y.size ≤ 4611686018427387904) :
    Calls Try.prog 15 #[.agg #[.string x, .string y]] w (RetB w (.bool (okO (x, y)))) := by
  have HE := Lib.hid (show okO (x, y) = (partV (bts x) && partV (bts y)) from rfl)
  go_enter Try.func15, Try.ntmps15
  go_wp2_with fail
  with_reducible refine (partValid_any x _ hx).mono ?_
  rintro e w1 ⟨rfl, rfl⟩
  by_cases h1 : partV (bts x) = true
  · rw [h1] at HE ⊢
    clear h1
    go_wp2_with fail
    with_reducible refine (partValid_any y _ hy).mono ?_
    rintro e w2 ⟨rfl, rfl⟩
    go_wp2
    go_ret
    rw [HE.out]
    exact ⟨by simp, (Below.refl _ _).alloc (Nat.le_refl _) _⟩
  · have h1' : partV (bts x) = false := by simpa using h1
    rw [h1'] at HE ⊢
    clear h1 h1'
    go_wp2
    go_ret
    rw [HE.out]
    exact ⟨by simp, (Below.refl _ _).alloc (Nat.le_refl _) _⟩

/-- How cmp.Compare answers. -/
def cmpT (x y : ByteArray) : Int := if Op.bytesLess x.toList y.toList = true then -1 else if (x.toList == y.toList) = true then 0 else 1

set_option maxHeartbeats 400000 in
theorem isNaN_any (x : ByteArray) (w : World) :
    Calls Try.prog 28 #[.string x] w fun e w' => e = .returned (.bool false) ∧ w = w' := by
  have t1 : (x.toList != x.toList) = false := by simp
  go_enter Try.func28, Try.ntmps28
  go_wp2
  go_ret
  exact ⟨rfl, rfl⟩

set_option maxHeartbeats 400000 in
theorem compare_any (x y : ByteArray) (w : World) :
    Calls Try.prog 23 #[.string x, .string y] w fun e w' => e = .returned (.int .i64 (cmpT x y)) ∧ w = w' := by
  go_enter Try.func23, Try.ntmps23
  go_wp2_with fail
  with_reducible refine (isNaN_any x _).mono ?_
  rintro e w1 ⟨rfl, rfl⟩
  go_wp2_with fail
  with_reducible refine (isNaN_any y _).mono ?_
  rintro e w2 ⟨rfl, rfl⟩
  by_cases h1 : Op.bytesLess x.toList y.toList = true
  · have HE := Lib.hid (show cmpT x y = -1 by simp [cmpT, h1])
    go_wp2
    go_ret
    rw [HE.out]
    exact ⟨rfl, rfl⟩
  · have h1' : Op.bytesLess x.toList y.toList = false := by simpa using h1
    clear h1
    by_cases h2 : (x.toList == y.toList) = true
    · have HE := Lib.hid (show cmpT x y = 0 by simp only [cmpT, h1', h2]; rfl)
      go_wp2
      go_ret
      rw [HE.out]
      exact ⟨rfl, rfl⟩
    · have h2' : (x.toList == y.toList) = false := by simpa using h2
      have HE := Lib.hid (show cmpT x y = 1 by simp only [cmpT, h1', h2']; rfl)
      clear h2
      go_wp2
      go_ret
      rw [HE.out]
      exact ⟨rfl, rfl⟩

set_option maxHeartbeats 400000 in
theorem or_any (a : Option Addr) (c : Nat) (x y : Int) (w : World) (hr : RdI w a 2 [x, y]) :
    Calls Try.prog 22 #[.slice a 2 c] w (RetB w (.int .i64 (if x = 0 then y else x))) := by
  obtain ⟨b, off, rfl, hlt, hc⟩ := hr.2 0 (by omega)
  have c0 : w.cell? ⟨b, off, none⟩ = some (.int .i64 x) := hc 0 (by omega)
  have c1 : w.cell? ⟨b, off + 1, none⟩ = some (.int .i64 y) := hc 1 (by omega)
  clear hc hr
  by_cases hx : x = 0
  · subst hx
    rw [if_pos rfl]
    have d0 : ((0 : Int) != 0) = false := rfl
    by_cases hy : y = 0
    · subst hy
      go_enter Try.func22, Try.ntmps22
      go_wp2
      refine wp_loop_rounds 3 ?_
      rw [rounds_succ]
      go_wp2
      rw [rounds_succ]
      go_wp2
      rw [rounds_succ]
      go_wp2
      go_ret
      exact ⟨rfl, Below.refl _ _⟩
    · have d1 : (y != 0) = true := by simp [hy]
      go_enter Try.func22, Try.ntmps22
      go_wp2
      refine wp_loop_rounds 2 ?_
      rw [rounds_succ]
      go_wp2
      rw [rounds_succ]
      go_wp2
      go_ret
      exact ⟨rfl, Below.refl _ _⟩
  · rw [if_neg hx]
    have d0 : (x != 0) = true := by simp [hx]
    go_enter Try.func22, Try.ntmps22
    go_wp2
    refine wp_loop_rounds 1 ?_
    rw [rounds_succ]
    go_wp2
    go_ret
    exact ⟨rfl, Below.refl _ _⟩

theorem compare_still (x y : ByteArray) (w : World) :
    Calls Try.prog 23 #[.string x, .string y] w fun e w' => e = .returned (.int .i64 (cmpT x y)) ∧ w' = w :=
  (compare_any x y w).mono fun e w' h => ⟨h.1, h.2.symm⟩

/-- How holds are compared. -/
def ordO (x y : ByteArray × ByteArray) : Int := if cmpT x.1 y.1 = 0 then cmpT x.2 y.2 else cmpT x.1 y.1

theorem ordO_bef (x y : ByteArray × ByteArray) : decide (0 ≤ ordO x y) = !befO x y := by
  unfold ordO cmpT befO ltB
  cases h1 : Op.bytesLess x.1.toList y.1.toList <;> cases h2 : (x.1.toList == y.1.toList) <;> cases h3 : Op.bytesLess x.2.toList y.2.toList <;> cases h4 : (x.2.toList == y.2.toList) <;> simp

theorem cmpT_bd (x y : ByteArray) : -1 ≤ cmpT x y ∧ cmpT x y ≤ 1 := by
  unfold cmpT
  split
  · omega
  · split <;> omega

theorem one_box (w : World) (a b : Value) (t : TypeId) :
    w.heap.size < (w.alloc (.cells #[a, b] t)).heap.size ∧ (w.alloc (.cells #[a, b] t)).cell? ⟨w.heap.size, 0, none⟩ = some a ∧ (w.alloc (.cells #[a, b] t)).cell? ⟨w.heap.size, 1, none⟩ = some b := by
  have h1 : ∀ j, (w.alloc (.cells #[a, b] t)).cell? ⟨w.heap.size, j, none⟩ = #[a, b][j]? := fun j => cell_of_row _ w.heap.size _ _ _ (0, 0) (heap_alloc_new w _)
  exact ⟨by simp, by rw [h1]; rfl, by rw [h1]; rfl⟩

theorem two_box (w : World) (a b c d : Value) (t : TypeId) :
    Below w.heap.size w ((w.alloc (.cells #[a, b] t)).alloc (.cells #[c, d] t)) ∧
    ((w.alloc (.cells #[a, b] t)).alloc (.cells #[c, d] t)).cell? ⟨w.heap.size, 0, none⟩ = some a ∧ ((w.alloc (.cells #[a, b] t)).alloc (.cells #[c, d] t)).cell? ⟨w.heap.size, 1, none⟩ = some b ∧
    ((w.alloc (.cells #[a, b] t)).alloc (.cells #[c, d] t)).cell? ⟨w.heap.size + 1, 0, none⟩ = some c ∧ ((w.alloc (.cells #[a, b] t)).alloc (.cells #[c, d] t)).cell? ⟨w.heap.size + 1, 1, none⟩ = some d := by
  have hs : (w.alloc (.cells #[a, b] t)).heap.size = w.heap.size + 1 := by simp
  have h1 : ∀ j, (w.alloc (.cells #[a, b] t)).cell? ⟨w.heap.size, j, none⟩ = #[a, b][j]? := fun j => cell_of_row _ w.heap.size _ _ _ (0, 0) (heap_alloc_new w _)
  have h2 : ∀ j, ((w.alloc (.cells #[a, b] t)).alloc (.cells #[c, d] t)).cell? ⟨w.heap.size + 1, j, none⟩ = #[c, d][j]? := fun j => by
    rw [← hs]; exact cell_of_row _ _ _ _ _ (0, 0) (heap_alloc_new _ _)
  refine ⟨((Below.refl _ _).alloc (Nat.le_refl _) _).alloc (by simp) _, ?_, ?_, ?_, ?_⟩
  · rw [World.cell?_alloc_lt _ _ ⟨w.heap.size, 0, none⟩ (by rw [hs]; simp), h1]; rfl
  · rw [World.cell?_alloc_lt _ _ ⟨w.heap.size, 1, none⟩ (by rw [hs]; simp), h1]; rfl
  · rw [h2]; rfl
  · rw [h2]; rfl

set_option maxHeartbeats 400000 in
theorem holdOrder_any (x1 x2 y1 y2 : ByteArray) (w : World) :
    Calls Try.prog 16 #[.agg #[.string x1, .string x2], .agg #[.string y1, .string y2]] w (RetB w (.int .i64 (ordO (x1, x2) (y1, y2)))) := by
  have HO := Lib.hid (show ordO (x1, x2) (y1, y2) = if cmpT x1 y1 = 0 then cmpT x2 y2 else cmpT x1 y1 from rfl)
  go_enter Try.func16, Try.ntmps16
  obtain ⟨p, hp⟩ : ∃ p, cmpT x1 y1 = p := ⟨_, rfl⟩
  obtain ⟨q, hq⟩ : ∃ q, cmpT x2 y2 = q := ⟨_, rfl⟩
  have k1 := fun w => compare_still x1 y1 w
  have k2 := fun w => compare_still x2 y2 w
  rw [hp] at HO k1
  rw [hq] at HO k2
  clear hp hq
  go_wp2_with fail
  have hq := two_box w (.string x1) (.string x2) (.string y1) (.string y2) 36
  have hb1 := hq.1
  have q1 := hq.2.1
  have q2 := hq.2.2.1
  have q3 := hq.2.2.2.1
  have q4 := hq.2.2.2.2
  clear hq
  generalize (w.alloc (.cells #[.string x1, .string x2] 36)).alloc (.cells #[.string y1, .string y2] 36) = W0 at hb1 q1 q2 q3 q4 ⊢
  refine wp_region_still_tail 10 (by kernel_rfl) (by kernel_rfl) ?_
  simp only [List.take_succ_cons, List.take_zero, List.drop_succ_cons, List.drop_zero]
  still_step
  still_step
  still_step
  still_step
  still_call (k1 _)
  still_step
  still_step
  still_step
  still_step
  still_call (k2 _)
  refine wpStill_nil ?_
  have hb2 : Below w.heap.size w W0.drew := below_drewN hb1 1
  change wpList _ _ _ _ _ W0.drew
  generalize W0.drew = W at hb2 ⊢
  have hrd : RdI (W.alloc (.cells #[.int .i64 p, .int .i64 q] 3)) (some ⟨W.heap.size, 0, none⟩) 2 [p, q] := by
    refine ⟨rfl, fun i hi => ⟨W.heap.size, 0, rfl, by simp, fun j hj => ?_⟩⟩
    rw [cell_of_row _ W.heap.size _ _ _ (0, 0) (heap_alloc_new W _)]
    obtain rfl | rfl : j = 0 ∨ j = 1 := by omega
    all_goals rfl
  have hb3 := hb2.alloc hb2.size (.cells #[.int .i64 p, .int .i64 q] 3)
  have K := or_any (some ⟨W.heap.size, 0, none⟩) 2 p q _ hrd
  obtain ⟨v, hv⟩ : ∃ v, (if p = 0 then q else p) = v := ⟨_, rfl⟩
  rw [hv] at HO K
  clear hv k1 k2
  go_wp2_with fail
  with_reducible refine K.mono ?_
  rintro e w3 ⟨rfl, hb⟩
  go_wp2
  go_ret
  rw [HO.out]
  exact ⟨rfl, hb3.trans (hb.mono hb3.size)⟩

/-- All texts fit. -/
theorem WfO.at_ {xs : List (ByteArray × ByteArray)} {m : Nat} (h : ∀ x ∈ xs, x.1.size ≤ m ∧ x.2.size ≤ m) {j : Nat} {x : ByteArray × ByteArray} (hx : xs[j]? = some x) : x.1.size ≤ m ∧ x.2.size ≤ m := h x (List.mem_of_getElem? hx)

set_option maxHeartbeats 1000000 in
theorem specHoldsValid_any (a : Option Addr) (n c : Nat) (xs : List (ByteArray × ByteArray)) (w : World) (hr : RdR eltO w a n xs) (hs : ∀ x ∈ xs, x.1.size ≤ 4611686018427387904 ∧ x.2.size ≤ 4611686018427387904) (hn : n ≤ 4611686018427387904) :
    Calls Try.prog 6 #[.slice a n c] w (RetB w (.bool (holdsV xs))) := by
  have hl := Lib.hid hr.1
  have HS := Lib.hid hs
  clear hs
  go_enter Try.func6, Try.ntmps6
  go_wp2
  go_loopw [3] (fun i wr => ∃ k : Nat, k ≤ n ∧ i = .int .i64 k ∧ Hid (∀ j, j < k → goodAt okO befO xs j = true) ∧ Below w.heap.size w wr)
    (fun i _ => n - (intOf i).toNat)
  case atStart => exact ⟨0, Nat.zero_le _, rfl, Lib.hid (fun j h => by omega), Below.refl _ _⟩
  case round =>
    obtain ⟨k, hk, rfl, hgood, hb⟩ := hrel
    by_cases hlt : k < n
    · obtain ⟨b, off, x, rfl, hbl, hx, c0, c1⟩ := atO (hr.below hb) hlt
      have hw := WfO.at_ HS.out hx
      have HX := Lib.hid hx
      have hkl := Lib.hid (show k < xs.length by have := hl.out; omega)
      clear hx
      have hok := fun w => l31Ok_any x.1 x.2 w
      cases hv : okO (x.1, x.2) with
      | false =>
        rw [hv] at hok
        have HF := Lib.hid (show holdsV xs = false from chainV_bad hkl.out (by
          cases k with
          | zero => rw [goodAt_zero HX.out]; exact hv
          | succ k =>
            obtain ⟨y, hy⟩ : ∃ y, xs[k + 1 - 1]? = some y := ⟨_, List.getElem?_eq_getElem (by have := hkl.out; omega)⟩
            rw [goodAt_succ (by omega) HX.out hy, show okO x = false from hv, Bool.false_and]))
        clear hv
        go_wp2
        refine wp_region_noPanic ?_
        refine wp_region_held_drew (S := fun w' => w'.cell? ⟨b, off + k * 2, none⟩ = some (.string x.1) ∧ w'.cell? ⟨b, off + k * 2 + 1, none⟩ = some (.string x.2)) (by kernel_rfl) ?_ (fun hHeld => ?_)
        · exact ⟨c0, c1⟩
        refine held_yes (i := 0) 10 (v := ?_) rfl rfl (by kernel_rfl) (by kernel_rfl) (by kernel_rfl) (fun _ _ _ _ _ h => h) (by rfl) (by assumption) ?_ ?_
        rotate_left 1
        · intro w hSw
          (try dsimp only at hSw)
          first | (go_simp; done) | (go_simp; with_reducible rfl)
        try simp only [Act.put]
        try simp only [List.setIfInBounds_toArray]
        try simp only [List.set_cons_succ]
        try simp only [List.set_cons_zero]
        refine held_yes (i := 1) 11 (v := ?_) rfl rfl (by kernel_rfl) (by kernel_rfl) (by kernel_rfl) (fun _ _ _ _ _ h => h) (by rfl) (by assumption) ?_ ?_
        rotate_left 1
        · intro w hSw
          (try dsimp only at hSw)
          first | (go_simp; done) | (go_simp; with_reducible rfl)
        try simp only [Act.put]
        try simp only [List.setIfInBounds_toArray]
        try simp only [List.set_cons_succ]
        try simp only [List.set_cons_zero]
        refine held_yes (i := 2) 12 (v := ?_) rfl rfl (by kernel_rfl) (by kernel_rfl) (by kernel_rfl) (fun _ _ _ _ _ h => h) (by rfl) (by assumption) ?_ ?_
        rotate_left 1
        · intro w hSw
          (try dsimp only at hSw)
          first | (go_simp; done) | (go_simp; with_reducible rfl)
        try simp only [Act.put]
        try simp only [List.setIfInBounds_toArray]
        try simp only [List.set_cons_succ]
        try simp only [List.set_cons_zero]
        refine held_yes (i := 3) 13 (v := ?_) rfl rfl (by kernel_rfl) (by kernel_rfl) (by kernel_rfl) (fun _ _ _ _ _ h => h) (by rfl) (by assumption) ?_ ?_
        rotate_left 1
        · intro w hSw
          (try dsimp only at hSw)
          first | (go_simp; done) | (go_simp; with_reducible rfl)
        try simp only [Act.put]
        try simp only [List.setIfInBounds_toArray]
        try simp only [List.set_cons_succ]
        try simp only [List.set_cons_zero]
        refine wpAnyH_ready (rs := [4]) (by kernel_rfl) (by simp) ?_
        refine AllReadyH.cons rfl (fun K hK => ?_) AllReadyH.nil
        go_simp
        with_reducible refine (hok _ hw.1 hw.2).mono ?_
        rintro e w4 ⟨rfl, hb5⟩
        go_wp2_with fail
        refine hK.out _ _ ?_ (fun hHeld => ?_)
        · exact ⟨(hb5.cell (p := ⟨b, off + k * 2, none⟩) hbl).trans c0, (hb5.cell (p := ⟨b, off + k * 2 + 1, none⟩) hbl).trans c1⟩
        clear hK K
        try simp only [Act.put]
        try simp only [List.setIfInBounds_toArray]
        try simp only [List.set_cons_succ]
        try simp only [List.set_cons_zero]
        refine held_yes (i := 5) 15 (v := ?_) rfl rfl (by kernel_rfl) (by kernel_rfl) (by kernel_rfl) (fun _ _ _ _ _ h => h) (by rfl) (by assumption) ?_ ?_
        rotate_left 1
        · intro w hSw
          (try dsimp only at hSw)
          first | (go_simp; done) | (go_simp; with_reducible rfl)
        try simp only [Act.put]
        try simp only [List.setIfInBounds_toArray]
        try simp only [List.set_cons_succ]
        try simp only [List.set_cons_zero]
        refine held_yes (i := 6) 16 (v := ?_) rfl rfl (by kernel_rfl) (by kernel_rfl) (by kernel_rfl) (fun _ _ _ _ _ h => h) (by rfl) (by assumption) ?_ ?_
        rotate_left 1
        · intro w hSw
          (try dsimp only at hSw)
          first | (go_simp; done) | (go_simp; with_reducible rfl)
        try simp only [Act.put]
        try simp only [List.setIfInBounds_toArray]
        try simp only [List.set_cons_succ]
        try simp only [List.set_cons_zero]
        refine held_nos (by kernel_rfl) (fun _ _ _ _ _ h => h) (by assumption) [(7, 17), (8, 18), (9, 19), (10, 20), (11, 21), (12, 22), (13, 23), (14, 24), (15, 25), (16, 26), (17, 27), (18, 28), (19, 29), (20, 30), (21, 31)] 1 _ _ (by kernel_rfl) ?_
        simp only [List.foldl_cons, List.foldl_nil]
        try simp only [Act.put]
        try simp only [List.setIfInBounds_toArray]
        try simp only [List.set_cons_succ]
        try simp only [List.set_cons_zero]
        refine held_yes (i := 22) 32 (v := ?_) rfl rfl (by kernel_rfl) (by kernel_rfl) (by kernel_rfl) (fun _ _ _ _ _ h => h) (by rfl) (by assumption) ?_ ?_
        rotate_left 1
        · intro w hSw
          (try dsimp only at hSw)
          first | (go_simp; done) | (go_simp; with_reducible rfl)
        try simp only [Act.put]
        try simp only [List.setIfInBounds_toArray]
        try simp only [List.set_cons_succ]
        try simp only [List.set_cons_zero]
        refine wpAnyH_done (by kernel_rfl) ?_ _
        refine NoPanic.normal ?_
        go_wp2
        go_ret
        rw [HF.out]
        exact ⟨rfl, (show Below w.heap.size w wr.drew from below_drewN hb 1).trans (hb5.mono hb.size)⟩
      | true =>
        rw [hv] at hok
        by_cases hk0 : k = 0
        · subst hk0
          have HG := Lib.hid (good_step hgood.out (show goodAt okO befO xs 0 = true by rw [goodAt_zero HX.out]; exact hv))
          clear hv
          simp only [Nat.zero_mul, Nat.add_zero] at c0 c1
          go_wp2
          refine wp_region_noPanic ?_
          refine wp_region_held_drew (S := fun w' => w'.cell? ⟨b, off, none⟩ = some (.string x.1) ∧ w'.cell? ⟨b, off + 1, none⟩ = some (.string x.2)) (by kernel_rfl) ?_ (fun hHeld => ?_)
          · exact ⟨c0, c1⟩
          refine held_yes (i := 0) 10 (v := ?_) rfl rfl (by kernel_rfl) (by kernel_rfl) (by kernel_rfl) (fun _ _ _ _ _ h => h) (by rfl) (by assumption) ?_ ?_
          rotate_left 1
          · intro w hSw
            (try dsimp only at hSw)
            first | (go_simp; done) | (go_simp; with_reducible rfl)
          try simp only [Act.put]
          try simp only [List.setIfInBounds_toArray]
          try simp only [List.set_cons_succ]
          try simp only [List.set_cons_zero]
          refine held_yes (i := 1) 11 (v := ?_) rfl rfl (by kernel_rfl) (by kernel_rfl) (by kernel_rfl) (fun _ _ _ _ _ h => h) (by rfl) (by assumption) ?_ ?_
          rotate_left 1
          · intro w hSw
            (try dsimp only at hSw)
            first | (go_simp; done) | (go_simp; with_reducible rfl)
          try simp only [Act.put]
          try simp only [List.setIfInBounds_toArray]
          try simp only [List.set_cons_succ]
          try simp only [List.set_cons_zero]
          refine held_yes (i := 2) 12 (v := ?_) rfl rfl (by kernel_rfl) (by kernel_rfl) (by kernel_rfl) (fun _ _ _ _ _ h => h) (by rfl) (by assumption) ?_ ?_
          rotate_left 1
          · intro w hSw
            (try dsimp only at hSw)
            first | (go_simp; done) | (go_simp; with_reducible rfl)
          try simp only [Act.put]
          try simp only [List.setIfInBounds_toArray]
          try simp only [List.set_cons_succ]
          try simp only [List.set_cons_zero]
          refine held_yes (i := 3) 13 (v := ?_) rfl rfl (by kernel_rfl) (by kernel_rfl) (by kernel_rfl) (fun _ _ _ _ _ h => h) (by rfl) (by assumption) ?_ ?_
          rotate_left 1
          · intro w hSw
            (try dsimp only at hSw)
            first | (go_simp; done) | (go_simp; with_reducible rfl)
          try simp only [Act.put]
          try simp only [List.setIfInBounds_toArray]
          try simp only [List.set_cons_succ]
          try simp only [List.set_cons_zero]
          refine wpAnyH_ready (rs := [4]) (by kernel_rfl) (by simp) ?_
          refine AllReadyH.cons rfl (fun K hK => ?_) AllReadyH.nil
          go_simp
          with_reducible refine (hok _ hw.1 hw.2).mono ?_
          rintro e w4 ⟨rfl, hb5⟩
          go_wp2_with fail
          refine hK.out _ _ ?_ (fun hHeld => ?_)
          · exact ⟨(hb5.cell (p := ⟨b, off, none⟩) hbl).trans c0, (hb5.cell (p := ⟨b, off + 1, none⟩) hbl).trans c1⟩
          clear hK K
          try simp only [Act.put]
          try simp only [List.setIfInBounds_toArray]
          try simp only [List.set_cons_succ]
          try simp only [List.set_cons_zero]
          refine held_yes (i := 5) 15 (v := ?_) rfl rfl (by kernel_rfl) (by kernel_rfl) (by kernel_rfl) (fun _ _ _ _ _ h => h) (by rfl) (by assumption) ?_ ?_
          rotate_left 1
          · intro w hSw
            (try dsimp only at hSw)
            first | (go_simp; done) | (go_simp; with_reducible rfl)
          try simp only [Act.put]
          try simp only [List.setIfInBounds_toArray]
          try simp only [List.set_cons_succ]
          try simp only [List.set_cons_zero]
          refine held_yes (i := 6) 16 (v := ?_) rfl rfl (by kernel_rfl) (by kernel_rfl) (by kernel_rfl) (fun _ _ _ _ _ h => h) (by rfl) (by assumption) ?_ ?_
          rotate_left 1
          · intro w hSw
            (try dsimp only at hSw)
            first | (go_simp; done) | (go_simp; with_reducible rfl)
          try simp only [Act.put]
          try simp only [List.setIfInBounds_toArray]
          try simp only [List.set_cons_succ]
          try simp only [List.set_cons_zero]
          refine held_yes (i := 7) 17 (v := ?_) rfl rfl (by kernel_rfl) (by kernel_rfl) (by kernel_rfl) (fun _ _ _ _ _ h => h) (by rfl) (by assumption) ?_ ?_
          rotate_left 1
          · intro w hSw
            (try dsimp only at hSw)
            first | (go_simp; done) | (go_simp; with_reducible rfl)
          try simp only [Act.put]
          try simp only [List.setIfInBounds_toArray]
          try simp only [List.set_cons_succ]
          try simp only [List.set_cons_zero]
          refine held_yes (i := 8) 18 (v := ?_) rfl rfl (by kernel_rfl) (by kernel_rfl) (by kernel_rfl) (fun _ _ _ _ _ h => h) (by rfl) (by assumption) ?_ ?_
          rotate_left 1
          · intro w hSw
            (try dsimp only at hSw)
            first | (go_simp; done) | (go_simp; with_reducible rfl)
          try simp only [Act.put]
          try simp only [List.setIfInBounds_toArray]
          try simp only [List.set_cons_succ]
          try simp only [List.set_cons_zero]
          refine held_yes (i := 9) 19 (v := ?_) rfl rfl (by kernel_rfl) (by kernel_rfl) (by kernel_rfl) (fun _ _ _ _ _ h => h) (by rfl) (by assumption) ?_ ?_
          rotate_left 1
          · intro w hSw
            (try dsimp only at hSw)
            first | (go_simp; done) | (go_simp; with_reducible rfl)
          try simp only [Act.put]
          try simp only [List.setIfInBounds_toArray]
          try simp only [List.set_cons_succ]
          try simp only [List.set_cons_zero]
          refine held_nos (by kernel_rfl) (fun _ _ _ _ _ h => h) (by assumption) [(10, 20), (11, 21), (12, 22), (13, 23), (14, 24), (15, 25), (16, 26), (17, 27), (18, 28), (19, 29), (20, 30)] 2 _ _ (by kernel_rfl) ?_
          simp only [List.foldl_cons, List.foldl_nil]
          try simp only [Act.put]
          try simp only [List.setIfInBounds_toArray]
          try simp only [List.set_cons_succ]
          try simp only [List.set_cons_zero]
          refine held_yes (i := 21) 31 (v := ?_) rfl rfl (by kernel_rfl) (by kernel_rfl) (by kernel_rfl) (fun _ _ _ _ _ h => h) (by rfl) (by assumption) ?_ ?_
          rotate_left 1
          · intro w hSw
            (try dsimp only at hSw)
            first | (go_simp; done) | (go_simp; with_reducible rfl)
          try simp only [Act.put]
          try simp only [List.setIfInBounds_toArray]
          try simp only [List.set_cons_succ]
          try simp only [List.set_cons_zero]
          refine held_yes (i := 22) 32 (v := ?_) rfl rfl (by kernel_rfl) (by kernel_rfl) (by kernel_rfl) (fun _ _ _ _ _ h => h) (by rfl) (by assumption) ?_ ?_
          rotate_left 1
          · intro w hSw
            (try dsimp only at hSw)
            first | (go_simp; done) | (go_simp; with_reducible rfl)
          try simp only [Act.put]
          try simp only [List.setIfInBounds_toArray]
          try simp only [List.set_cons_succ]
          try simp only [List.set_cons_zero]
          refine wpAnyH_done (by kernel_rfl) ?_ _
          refine NoPanic.normal ?_
          have hb7 := (show Below w.heap.size w wr.drew from below_drewN hb 1).trans (hb5.mono hb.size)
          go_wp2
          go_roundw
          case rel => exact ⟨1, by omega, by go_num, HG, hb7⟩
          case measure => simp [intOf]; omega
        · obtain ⟨b2, off2, y, hbo, _, hy, e0, e1⟩ := atO (hr.below hb) (show k - 1 < n by omega)
          injection hbo with hbo
          injection hbo with hbo1 hbo2
          subst hbo1 hbo2
          have hbf := fun w => l31Before_any y.1 y.2 x.1 x.2 w
          have HY := Lib.hid hy
          have i1 : (0 : Int) < (k : Int) := by omega
          have i6 : 0 < k := by omega
          have i9 : (1 : Int) ≤ (k : Int) := by omega
          have i10 : 1 ≤ k := by omega
          have i7 : decide ((0 : Int) < (k : Int)) = true := by simp; omega
          have i8 : decide (0 < k) = true := by simp; omega
          have i2 : (0 : Int) ≤ (k : Int) - 1 := by omega
          have i3 : ((k : Int) - 1).toNat = k - 1 := by omega
          have i4 : IntKind.i64.wrap ((k : Int) - 1) = (k : Int) - 1 := IntWalk.i64_in _ (by omega)
          have i5 : (k : Int) - 1 < (n : Int) := by omega
          clear hy
          cases hbv : befO (y.1, y.2) (x.1, x.2) with
          | false =>
            rw [hbv] at hbf
            have HF := Lib.hid (show holdsV xs = false from chainV_bad hkl.out (by rw [goodAt_succ (by omega) HX.out HY.out, show befO y x = false from hbv, Bool.and_false]))
            clear hv hbv
            go_wp2
            refine wp_region_noPanic ?_
            refine wp_region_held_drew (S := fun w' => w'.cell? ⟨b, off + k * 2, none⟩ = some (.string x.1) ∧ w'.cell? ⟨b, off + k * 2 + 1, none⟩ = some (.string x.2) ∧ w'.cell? ⟨b, off + (k - 1) * 2, none⟩ = some (.string y.1) ∧ w'.cell? ⟨b, off + (k - 1) * 2 + 1, none⟩ = some (.string y.2)) (by kernel_rfl) ?_ (fun hHeld => ?_)
            · exact ⟨c0, c1, e0, e1⟩
            refine held_yes (i := 0) 10 (v := ?_) rfl rfl (by kernel_rfl) (by kernel_rfl) (by kernel_rfl) (fun _ _ _ _ _ h => h) (by rfl) (by assumption) ?_ ?_
            rotate_left 1
            · intro w hSw
              (try dsimp only at hSw)
              first | (go_simp; done) | (go_simp; with_reducible rfl)
            try simp only [Act.put]
            try simp only [List.setIfInBounds_toArray]
            try simp only [List.set_cons_succ]
            try simp only [List.set_cons_zero]
            refine held_yes (i := 1) 11 (v := ?_) rfl rfl (by kernel_rfl) (by kernel_rfl) (by kernel_rfl) (fun _ _ _ _ _ h => h) (by rfl) (by assumption) ?_ ?_
            rotate_left 1
            · intro w hSw
              (try dsimp only at hSw)
              first | (go_simp; done) | (go_simp; with_reducible rfl)
            try simp only [Act.put]
            try simp only [List.setIfInBounds_toArray]
            try simp only [List.set_cons_succ]
            try simp only [List.set_cons_zero]
            refine held_yes (i := 2) 12 (v := ?_) rfl rfl (by kernel_rfl) (by kernel_rfl) (by kernel_rfl) (fun _ _ _ _ _ h => h) (by rfl) (by assumption) ?_ ?_
            rotate_left 1
            · intro w hSw
              (try dsimp only at hSw)
              first | (go_simp; done) | (go_simp; with_reducible rfl)
            try simp only [Act.put]
            try simp only [List.setIfInBounds_toArray]
            try simp only [List.set_cons_succ]
            try simp only [List.set_cons_zero]
            refine held_yes (i := 3) 13 (v := ?_) rfl rfl (by kernel_rfl) (by kernel_rfl) (by kernel_rfl) (fun _ _ _ _ _ h => h) (by rfl) (by assumption) ?_ ?_
            rotate_left 1
            · intro w hSw
              (try dsimp only at hSw)
              first | (go_simp; done) | (go_simp; with_reducible rfl)
            try simp only [Act.put]
            try simp only [List.setIfInBounds_toArray]
            try simp only [List.set_cons_succ]
            try simp only [List.set_cons_zero]
            refine wpAnyH_ready (rs := [4]) (by kernel_rfl) (by simp) ?_
            refine AllReadyH.cons rfl (fun K hK => ?_) AllReadyH.nil
            go_simp
            with_reducible refine (hok _ hw.1 hw.2).mono ?_
            rintro e w4 ⟨rfl, hb5⟩
            go_wp2_with fail
            refine hK.out _ _ ?_ (fun hHeld => ?_)
            · exact ⟨(hb5.cell (p := ⟨b, off + k * 2, none⟩) hbl).trans c0, (hb5.cell (p := ⟨b, off + k * 2 + 1, none⟩) hbl).trans c1, (hb5.cell (p := ⟨b, off + (k - 1) * 2, none⟩) hbl).trans e0, (hb5.cell (p := ⟨b, off + (k - 1) * 2 + 1, none⟩) hbl).trans e1⟩
            clear hK K
            try simp only [Act.put]
            try simp only [List.setIfInBounds_toArray]
            try simp only [List.set_cons_succ]
            try simp only [List.set_cons_zero]
            refine held_yes (i := 5) 15 (v := ?_) rfl rfl (by kernel_rfl) (by kernel_rfl) (by kernel_rfl) (fun _ _ _ _ _ h => h) (by rfl) (by assumption) ?_ ?_
            rotate_left 1
            · intro w hSw
              (try dsimp only at hSw)
              first | (go_simp; done) | (go_simp; with_reducible rfl)
            try simp only [Act.put]
            try simp only [List.setIfInBounds_toArray]
            try simp only [List.set_cons_succ]
            try simp only [List.set_cons_zero]
            refine held_yes (i := 6) 16 (v := ?_) rfl rfl (by kernel_rfl) (by kernel_rfl) (by kernel_rfl) (fun _ _ _ _ _ h => h) (by rfl) (by assumption) ?_ ?_
            rotate_left 1
            · intro w hSw
              (try dsimp only at hSw)
              first | (go_simp; done) | (go_simp; with_reducible rfl)
            try simp only [Act.put]
            try simp only [List.setIfInBounds_toArray]
            try simp only [List.set_cons_succ]
            try simp only [List.set_cons_zero]
            refine held_yes (i := 7) 17 (v := ?_) rfl rfl (by kernel_rfl) (by kernel_rfl) (by kernel_rfl) (fun _ _ _ _ _ h => h) (by rfl) (by assumption) ?_ ?_
            rotate_left 1
            · intro w hSw
              (try dsimp only at hSw)
              first | (go_simp; done) | (go_simp; with_reducible rfl)
            try simp only [Act.put]
            try simp only [List.setIfInBounds_toArray]
            try simp only [List.set_cons_succ]
            try simp only [List.set_cons_zero]
            refine held_yes (i := 8) 18 (v := ?_) rfl rfl (by kernel_rfl) (by kernel_rfl) (by kernel_rfl) (fun _ _ _ _ _ h => h) (by rfl) (by assumption) ?_ ?_
            rotate_left 1
            · intro w hSw
              (try dsimp only at hSw)
              first | (go_simp; done) | (go_simp; with_reducible rfl)
            try simp only [Act.put]
            try simp only [List.setIfInBounds_toArray]
            try simp only [List.set_cons_succ]
            try simp only [List.set_cons_zero]
            refine held_yes (i := 9) 19 (v := ?_) rfl rfl (by kernel_rfl) (by kernel_rfl) (by kernel_rfl) (fun _ _ _ _ _ h => h) (by rfl) (by assumption) ?_ ?_
            rotate_left 1
            · intro w hSw
              (try dsimp only at hSw)
              first | (go_simp; done) | (go_simp; with_reducible rfl)
            try simp only [Act.put]
            try simp only [List.setIfInBounds_toArray]
            try simp only [List.set_cons_succ]
            try simp only [List.set_cons_zero]
            refine held_yes (i := 10) 20 (v := ?_) rfl rfl (by kernel_rfl) (by kernel_rfl) (by kernel_rfl) (fun _ _ _ _ _ h => h) (by rfl) (by assumption) ?_ ?_
            rotate_left 1
            · intro w hSw
              (try dsimp only at hSw)
              first | (go_simp; done) | (go_simp; with_reducible rfl)
            try simp only [Act.put]
            try simp only [List.setIfInBounds_toArray]
            try simp only [List.set_cons_succ]
            try simp only [List.set_cons_zero]
            refine held_yes (i := 11) 21 (v := ?_) rfl rfl (by kernel_rfl) (by kernel_rfl) (by kernel_rfl) (fun _ _ _ _ _ h => h) (by rfl) (by assumption) ?_ ?_
            rotate_left 1
            · intro w hSw
              (try dsimp only at hSw)
              first | (go_simp; done) | (go_simp; with_reducible rfl)
            try simp only [Act.put]
            try simp only [List.setIfInBounds_toArray]
            try simp only [List.set_cons_succ]
            try simp only [List.set_cons_zero]
            refine held_yes (i := 12) 22 (v := ?_) rfl rfl (by kernel_rfl) (by kernel_rfl) (by kernel_rfl) (fun _ _ _ _ _ h => h) (by rfl) (by assumption) ?_ ?_
            rotate_left 1
            · intro w hSw
              (try dsimp only at hSw)
              first | (go_simp; done) | (go_simp; with_reducible rfl)
            try simp only [Act.put]
            try simp only [List.setIfInBounds_toArray]
            try simp only [List.set_cons_succ]
            try simp only [List.set_cons_zero]
            refine held_yes (i := 13) 23 (v := ?_) rfl rfl (by kernel_rfl) (by kernel_rfl) (by kernel_rfl) (fun _ _ _ _ _ h => h) (by rfl) (by assumption) ?_ ?_
            rotate_left 1
            · intro w hSw
              (try dsimp only at hSw)
              first | (go_simp; done) | (go_simp; with_reducible rfl)
            try simp only [Act.put]
            try simp only [List.setIfInBounds_toArray]
            try simp only [List.set_cons_succ]
            try simp only [List.set_cons_zero]
            refine held_yes (i := 14) 24 (v := ?_) rfl rfl (by kernel_rfl) (by kernel_rfl) (by kernel_rfl) (fun _ _ _ _ _ h => h) (by rfl) (by assumption) ?_ ?_
            rotate_left 1
            · intro w hSw
              (try dsimp only at hSw)
              first | (go_simp; done) | (go_simp; with_reducible rfl)
            try simp only [Act.put]
            try simp only [List.setIfInBounds_toArray]
            try simp only [List.set_cons_succ]
            try simp only [List.set_cons_zero]
            refine held_yes (i := 15) 25 (v := ?_) rfl rfl (by kernel_rfl) (by kernel_rfl) (by kernel_rfl) (fun _ _ _ _ _ h => h) (by rfl) (by assumption) ?_ ?_
            rotate_left 1
            · intro w hSw
              (try dsimp only at hSw)
              first | (go_simp; done) | (go_simp; with_reducible rfl)
            try simp only [Act.put]
            try simp only [List.setIfInBounds_toArray]
            try simp only [List.set_cons_succ]
            try simp only [List.set_cons_zero]
            refine held_yes (i := 16) 26 (v := ?_) rfl rfl (by kernel_rfl) (by kernel_rfl) (by kernel_rfl) (fun _ _ _ _ _ h => h) (by rfl) (by assumption) ?_ ?_
            rotate_left 1
            · intro w hSw
              (try dsimp only at hSw)
              first | (go_simp; done) | (go_simp; with_reducible rfl)
            try simp only [Act.put]
            try simp only [List.setIfInBounds_toArray]
            try simp only [List.set_cons_succ]
            try simp only [List.set_cons_zero]
            refine held_yes (i := 17) 27 (v := ?_) rfl rfl (by kernel_rfl) (by kernel_rfl) (by kernel_rfl) (fun _ _ _ _ _ h => h) (by rfl) (by assumption) ?_ ?_
            rotate_left 1
            · intro w hSw
              (try dsimp only at hSw)
              first | (go_simp; done) | (go_simp; with_reducible rfl)
            try simp only [Act.put]
            try simp only [List.setIfInBounds_toArray]
            try simp only [List.set_cons_succ]
            try simp only [List.set_cons_zero]
            refine held_yes (i := 18) 28 (v := ?_) rfl rfl (by kernel_rfl) (by kernel_rfl) (by kernel_rfl) (fun _ _ _ _ _ h => h) (by rfl) (by assumption) ?_ ?_
            rotate_left 1
            · intro w hSw
              (try dsimp only at hSw)
              first | (go_simp; done) | (go_simp; with_reducible rfl)
            try simp only [Act.put]
            try simp only [List.setIfInBounds_toArray]
            try simp only [List.set_cons_succ]
            try simp only [List.set_cons_zero]
            refine wpAnyH_ready (rs := [19]) (by kernel_rfl) (by simp) ?_
            refine AllReadyH.cons rfl (fun K hK => ?_) AllReadyH.nil
            go_simp
            with_reducible refine (hbf _).mono ?_
            rintro e w5 ⟨rfl, hb6⟩
            go_wp2_with fail
            refine hK.out _ _ ?_ (fun hHeld => ?_)
            · exact ⟨(hb6.cell (p := ⟨b, off + k * 2, none⟩) (Nat.lt_of_lt_of_le hbl hb5.size)).trans ((hb5.cell (p := ⟨b, off + k * 2, none⟩) hbl).trans c0), (hb6.cell (p := ⟨b, off + k * 2 + 1, none⟩) (Nat.lt_of_lt_of_le hbl hb5.size)).trans ((hb5.cell (p := ⟨b, off + k * 2 + 1, none⟩) hbl).trans c1), (hb6.cell (p := ⟨b, off + (k - 1) * 2, none⟩) (Nat.lt_of_lt_of_le hbl hb5.size)).trans ((hb5.cell (p := ⟨b, off + (k - 1) * 2, none⟩) hbl).trans e0), (hb6.cell (p := ⟨b, off + (k - 1) * 2 + 1, none⟩) (Nat.lt_of_lt_of_le hbl hb5.size)).trans ((hb5.cell (p := ⟨b, off + (k - 1) * 2 + 1, none⟩) hbl).trans e1)⟩
            clear hK K
            try simp only [Act.put]
            try simp only [List.setIfInBounds_toArray]
            try simp only [List.set_cons_succ]
            try simp only [List.set_cons_zero]
            refine held_yes (i := 20) 30 (v := ?_) rfl rfl (by kernel_rfl) (by kernel_rfl) (by kernel_rfl) (fun _ _ _ _ _ h => h) (by rfl) (by assumption) ?_ ?_
            rotate_left 1
            · intro w hSw
              (try dsimp only at hSw)
              first | (go_simp; done) | (go_simp; with_reducible rfl)
            try simp only [Act.put]
            try simp only [List.setIfInBounds_toArray]
            try simp only [List.set_cons_succ]
            try simp only [List.set_cons_zero]
            refine held_yes (i := 21) 31 (v := ?_) rfl rfl (by kernel_rfl) (by kernel_rfl) (by kernel_rfl) (fun _ _ _ _ _ h => h) (by rfl) (by assumption) ?_ ?_
            rotate_left 1
            · intro w hSw
              (try dsimp only at hSw)
              first | (go_simp; done) | (go_simp; with_reducible rfl)
            try simp only [Act.put]
            try simp only [List.setIfInBounds_toArray]
            try simp only [List.set_cons_succ]
            try simp only [List.set_cons_zero]
            refine held_yes (i := 22) 32 (v := ?_) rfl rfl (by kernel_rfl) (by kernel_rfl) (by kernel_rfl) (fun _ _ _ _ _ h => h) (by rfl) (by assumption) ?_ ?_
            rotate_left 1
            · intro w hSw
              (try dsimp only at hSw)
              first | (go_simp; done) | (go_simp; with_reducible rfl)
            try simp only [Act.put]
            try simp only [List.setIfInBounds_toArray]
            try simp only [List.set_cons_succ]
            try simp only [List.set_cons_zero]
            refine wpAnyH_done (by kernel_rfl) ?_ _
            refine NoPanic.normal ?_
            have hb7 := ((show Below w.heap.size w wr.drew from below_drewN hb 1).trans (hb5.mono hb.size)).trans (hb6.mono (Nat.le_trans hb.size hb5.size))
            go_wp2
            go_ret
            rw [HF.out]
            exact ⟨rfl, hb7⟩
          | true =>
            rw [hbv] at hbf
            have HG := Lib.hid (good_step hgood.out (show goodAt okO befO xs k = true by rw [goodAt_succ (by omega) HX.out HY.out, show befO y x = true from hbv, show okO x = true from hv]; rfl))
            clear hv hbv
            go_wp2
            refine wp_region_noPanic ?_
            refine wp_region_held_drew (S := fun w' => w'.cell? ⟨b, off + k * 2, none⟩ = some (.string x.1) ∧ w'.cell? ⟨b, off + k * 2 + 1, none⟩ = some (.string x.2) ∧ w'.cell? ⟨b, off + (k - 1) * 2, none⟩ = some (.string y.1) ∧ w'.cell? ⟨b, off + (k - 1) * 2 + 1, none⟩ = some (.string y.2)) (by kernel_rfl) ?_ (fun hHeld => ?_)
            · exact ⟨c0, c1, e0, e1⟩
            refine held_yes (i := 0) 10 (v := ?_) rfl rfl (by kernel_rfl) (by kernel_rfl) (by kernel_rfl) (fun _ _ _ _ _ h => h) (by rfl) (by assumption) ?_ ?_
            rotate_left 1
            · intro w hSw
              (try dsimp only at hSw)
              first | (go_simp; done) | (go_simp; with_reducible rfl)
            try simp only [Act.put]
            try simp only [List.setIfInBounds_toArray]
            try simp only [List.set_cons_succ]
            try simp only [List.set_cons_zero]
            refine held_yes (i := 1) 11 (v := ?_) rfl rfl (by kernel_rfl) (by kernel_rfl) (by kernel_rfl) (fun _ _ _ _ _ h => h) (by rfl) (by assumption) ?_ ?_
            rotate_left 1
            · intro w hSw
              (try dsimp only at hSw)
              first | (go_simp; done) | (go_simp; with_reducible rfl)
            try simp only [Act.put]
            try simp only [List.setIfInBounds_toArray]
            try simp only [List.set_cons_succ]
            try simp only [List.set_cons_zero]
            refine held_yes (i := 2) 12 (v := ?_) rfl rfl (by kernel_rfl) (by kernel_rfl) (by kernel_rfl) (fun _ _ _ _ _ h => h) (by rfl) (by assumption) ?_ ?_
            rotate_left 1
            · intro w hSw
              (try dsimp only at hSw)
              first | (go_simp; done) | (go_simp; with_reducible rfl)
            try simp only [Act.put]
            try simp only [List.setIfInBounds_toArray]
            try simp only [List.set_cons_succ]
            try simp only [List.set_cons_zero]
            refine held_yes (i := 3) 13 (v := ?_) rfl rfl (by kernel_rfl) (by kernel_rfl) (by kernel_rfl) (fun _ _ _ _ _ h => h) (by rfl) (by assumption) ?_ ?_
            rotate_left 1
            · intro w hSw
              (try dsimp only at hSw)
              first | (go_simp; done) | (go_simp; with_reducible rfl)
            try simp only [Act.put]
            try simp only [List.setIfInBounds_toArray]
            try simp only [List.set_cons_succ]
            try simp only [List.set_cons_zero]
            refine wpAnyH_ready (rs := [4]) (by kernel_rfl) (by simp) ?_
            refine AllReadyH.cons rfl (fun K hK => ?_) AllReadyH.nil
            go_simp
            with_reducible refine (hok _ hw.1 hw.2).mono ?_
            rintro e w4 ⟨rfl, hb5⟩
            go_wp2_with fail
            refine hK.out _ _ ?_ (fun hHeld => ?_)
            · exact ⟨(hb5.cell (p := ⟨b, off + k * 2, none⟩) hbl).trans c0, (hb5.cell (p := ⟨b, off + k * 2 + 1, none⟩) hbl).trans c1, (hb5.cell (p := ⟨b, off + (k - 1) * 2, none⟩) hbl).trans e0, (hb5.cell (p := ⟨b, off + (k - 1) * 2 + 1, none⟩) hbl).trans e1⟩
            clear hK K
            try simp only [Act.put]
            try simp only [List.setIfInBounds_toArray]
            try simp only [List.set_cons_succ]
            try simp only [List.set_cons_zero]
            refine held_yes (i := 5) 15 (v := ?_) rfl rfl (by kernel_rfl) (by kernel_rfl) (by kernel_rfl) (fun _ _ _ _ _ h => h) (by rfl) (by assumption) ?_ ?_
            rotate_left 1
            · intro w hSw
              (try dsimp only at hSw)
              first | (go_simp; done) | (go_simp; with_reducible rfl)
            try simp only [Act.put]
            try simp only [List.setIfInBounds_toArray]
            try simp only [List.set_cons_succ]
            try simp only [List.set_cons_zero]
            refine held_yes (i := 6) 16 (v := ?_) rfl rfl (by kernel_rfl) (by kernel_rfl) (by kernel_rfl) (fun _ _ _ _ _ h => h) (by rfl) (by assumption) ?_ ?_
            rotate_left 1
            · intro w hSw
              (try dsimp only at hSw)
              first | (go_simp; done) | (go_simp; with_reducible rfl)
            try simp only [Act.put]
            try simp only [List.setIfInBounds_toArray]
            try simp only [List.set_cons_succ]
            try simp only [List.set_cons_zero]
            refine held_yes (i := 7) 17 (v := ?_) rfl rfl (by kernel_rfl) (by kernel_rfl) (by kernel_rfl) (fun _ _ _ _ _ h => h) (by rfl) (by assumption) ?_ ?_
            rotate_left 1
            · intro w hSw
              (try dsimp only at hSw)
              first | (go_simp; done) | (go_simp; with_reducible rfl)
            try simp only [Act.put]
            try simp only [List.setIfInBounds_toArray]
            try simp only [List.set_cons_succ]
            try simp only [List.set_cons_zero]
            refine held_yes (i := 8) 18 (v := ?_) rfl rfl (by kernel_rfl) (by kernel_rfl) (by kernel_rfl) (fun _ _ _ _ _ h => h) (by rfl) (by assumption) ?_ ?_
            rotate_left 1
            · intro w hSw
              (try dsimp only at hSw)
              first | (go_simp; done) | (go_simp; with_reducible rfl)
            try simp only [Act.put]
            try simp only [List.setIfInBounds_toArray]
            try simp only [List.set_cons_succ]
            try simp only [List.set_cons_zero]
            refine held_yes (i := 9) 19 (v := ?_) rfl rfl (by kernel_rfl) (by kernel_rfl) (by kernel_rfl) (fun _ _ _ _ _ h => h) (by rfl) (by assumption) ?_ ?_
            rotate_left 1
            · intro w hSw
              (try dsimp only at hSw)
              first | (go_simp; done) | (go_simp; with_reducible rfl)
            try simp only [Act.put]
            try simp only [List.setIfInBounds_toArray]
            try simp only [List.set_cons_succ]
            try simp only [List.set_cons_zero]
            refine held_yes (i := 10) 20 (v := ?_) rfl rfl (by kernel_rfl) (by kernel_rfl) (by kernel_rfl) (fun _ _ _ _ _ h => h) (by rfl) (by assumption) ?_ ?_
            rotate_left 1
            · intro w hSw
              (try dsimp only at hSw)
              first | (go_simp; done) | (go_simp; with_reducible rfl)
            try simp only [Act.put]
            try simp only [List.setIfInBounds_toArray]
            try simp only [List.set_cons_succ]
            try simp only [List.set_cons_zero]
            refine held_yes (i := 11) 21 (v := ?_) rfl rfl (by kernel_rfl) (by kernel_rfl) (by kernel_rfl) (fun _ _ _ _ _ h => h) (by rfl) (by assumption) ?_ ?_
            rotate_left 1
            · intro w hSw
              (try dsimp only at hSw)
              first | (go_simp; done) | (go_simp; with_reducible rfl)
            try simp only [Act.put]
            try simp only [List.setIfInBounds_toArray]
            try simp only [List.set_cons_succ]
            try simp only [List.set_cons_zero]
            refine held_yes (i := 12) 22 (v := ?_) rfl rfl (by kernel_rfl) (by kernel_rfl) (by kernel_rfl) (fun _ _ _ _ _ h => h) (by rfl) (by assumption) ?_ ?_
            rotate_left 1
            · intro w hSw
              (try dsimp only at hSw)
              first | (go_simp; done) | (go_simp; with_reducible rfl)
            try simp only [Act.put]
            try simp only [List.setIfInBounds_toArray]
            try simp only [List.set_cons_succ]
            try simp only [List.set_cons_zero]
            refine held_yes (i := 13) 23 (v := ?_) rfl rfl (by kernel_rfl) (by kernel_rfl) (by kernel_rfl) (fun _ _ _ _ _ h => h) (by rfl) (by assumption) ?_ ?_
            rotate_left 1
            · intro w hSw
              (try dsimp only at hSw)
              first | (go_simp; done) | (go_simp; with_reducible rfl)
            try simp only [Act.put]
            try simp only [List.setIfInBounds_toArray]
            try simp only [List.set_cons_succ]
            try simp only [List.set_cons_zero]
            refine held_yes (i := 14) 24 (v := ?_) rfl rfl (by kernel_rfl) (by kernel_rfl) (by kernel_rfl) (fun _ _ _ _ _ h => h) (by rfl) (by assumption) ?_ ?_
            rotate_left 1
            · intro w hSw
              (try dsimp only at hSw)
              first | (go_simp; done) | (go_simp; with_reducible rfl)
            try simp only [Act.put]
            try simp only [List.setIfInBounds_toArray]
            try simp only [List.set_cons_succ]
            try simp only [List.set_cons_zero]
            refine held_yes (i := 15) 25 (v := ?_) rfl rfl (by kernel_rfl) (by kernel_rfl) (by kernel_rfl) (fun _ _ _ _ _ h => h) (by rfl) (by assumption) ?_ ?_
            rotate_left 1
            · intro w hSw
              (try dsimp only at hSw)
              first | (go_simp; done) | (go_simp; with_reducible rfl)
            try simp only [Act.put]
            try simp only [List.setIfInBounds_toArray]
            try simp only [List.set_cons_succ]
            try simp only [List.set_cons_zero]
            refine held_yes (i := 16) 26 (v := ?_) rfl rfl (by kernel_rfl) (by kernel_rfl) (by kernel_rfl) (fun _ _ _ _ _ h => h) (by rfl) (by assumption) ?_ ?_
            rotate_left 1
            · intro w hSw
              (try dsimp only at hSw)
              first | (go_simp; done) | (go_simp; with_reducible rfl)
            try simp only [Act.put]
            try simp only [List.setIfInBounds_toArray]
            try simp only [List.set_cons_succ]
            try simp only [List.set_cons_zero]
            refine held_yes (i := 17) 27 (v := ?_) rfl rfl (by kernel_rfl) (by kernel_rfl) (by kernel_rfl) (fun _ _ _ _ _ h => h) (by rfl) (by assumption) ?_ ?_
            rotate_left 1
            · intro w hSw
              (try dsimp only at hSw)
              first | (go_simp; done) | (go_simp; with_reducible rfl)
            try simp only [Act.put]
            try simp only [List.setIfInBounds_toArray]
            try simp only [List.set_cons_succ]
            try simp only [List.set_cons_zero]
            refine held_yes (i := 18) 28 (v := ?_) rfl rfl (by kernel_rfl) (by kernel_rfl) (by kernel_rfl) (fun _ _ _ _ _ h => h) (by rfl) (by assumption) ?_ ?_
            rotate_left 1
            · intro w hSw
              (try dsimp only at hSw)
              first | (go_simp; done) | (go_simp; with_reducible rfl)
            try simp only [Act.put]
            try simp only [List.setIfInBounds_toArray]
            try simp only [List.set_cons_succ]
            try simp only [List.set_cons_zero]
            refine wpAnyH_ready (rs := [19]) (by kernel_rfl) (by simp) ?_
            refine AllReadyH.cons rfl (fun K hK => ?_) AllReadyH.nil
            go_simp
            with_reducible refine (hbf _).mono ?_
            rintro e w5 ⟨rfl, hb6⟩
            go_wp2_with fail
            refine hK.out _ _ ?_ (fun hHeld => ?_)
            · exact ⟨(hb6.cell (p := ⟨b, off + k * 2, none⟩) (Nat.lt_of_lt_of_le hbl hb5.size)).trans ((hb5.cell (p := ⟨b, off + k * 2, none⟩) hbl).trans c0), (hb6.cell (p := ⟨b, off + k * 2 + 1, none⟩) (Nat.lt_of_lt_of_le hbl hb5.size)).trans ((hb5.cell (p := ⟨b, off + k * 2 + 1, none⟩) hbl).trans c1), (hb6.cell (p := ⟨b, off + (k - 1) * 2, none⟩) (Nat.lt_of_lt_of_le hbl hb5.size)).trans ((hb5.cell (p := ⟨b, off + (k - 1) * 2, none⟩) hbl).trans e0), (hb6.cell (p := ⟨b, off + (k - 1) * 2 + 1, none⟩) (Nat.lt_of_lt_of_le hbl hb5.size)).trans ((hb5.cell (p := ⟨b, off + (k - 1) * 2 + 1, none⟩) hbl).trans e1)⟩
            clear hK K
            try simp only [Act.put]
            try simp only [List.setIfInBounds_toArray]
            try simp only [List.set_cons_succ]
            try simp only [List.set_cons_zero]
            refine held_yes (i := 20) 30 (v := ?_) rfl rfl (by kernel_rfl) (by kernel_rfl) (by kernel_rfl) (fun _ _ _ _ _ h => h) (by rfl) (by assumption) ?_ ?_
            rotate_left 1
            · intro w hSw
              (try dsimp only at hSw)
              first | (go_simp; done) | (go_simp; with_reducible rfl)
            try simp only [Act.put]
            try simp only [List.setIfInBounds_toArray]
            try simp only [List.set_cons_succ]
            try simp only [List.set_cons_zero]
            refine held_yes (i := 21) 31 (v := ?_) rfl rfl (by kernel_rfl) (by kernel_rfl) (by kernel_rfl) (fun _ _ _ _ _ h => h) (by rfl) (by assumption) ?_ ?_
            rotate_left 1
            · intro w hSw
              (try dsimp only at hSw)
              first | (go_simp; done) | (go_simp; with_reducible rfl)
            try simp only [Act.put]
            try simp only [List.setIfInBounds_toArray]
            try simp only [List.set_cons_succ]
            try simp only [List.set_cons_zero]
            refine held_yes (i := 22) 32 (v := ?_) rfl rfl (by kernel_rfl) (by kernel_rfl) (by kernel_rfl) (fun _ _ _ _ _ h => h) (by rfl) (by assumption) ?_ ?_
            rotate_left 1
            · intro w hSw
              (try dsimp only at hSw)
              first | (go_simp; done) | (go_simp; with_reducible rfl)
            try simp only [Act.put]
            try simp only [List.setIfInBounds_toArray]
            try simp only [List.set_cons_succ]
            try simp only [List.set_cons_zero]
            refine wpAnyH_done (by kernel_rfl) ?_ _
            refine NoPanic.normal ?_
            have hb7 := ((show Below w.heap.size w wr.drew from below_drewN hb 1).trans (hb5.mono hb.size)).trans (hb6.mono (Nat.le_trans hb.size hb5.size))
            go_wp2
            go_roundw
            case rel => exact ⟨k + 1, by omega, by go_num, HG, hb7⟩
            case measure => simp [intOf]; omega
    · obtain rfl : k = n := by omega
      have HG := Lib.hid (show holdsV xs = decide (xs.length ≤ 8) from chainV_all (by rw [hl.out]; exact hgood.out))
      have h8 : Hid (decide ((k : Int) ≤ 8) = decide (xs.length ≤ 8)) := Lib.hid (by rw [hl.out]; by_cases h : k ≤ 8 <;> simp [h] <;> omega)
      go_wp2
      go_ret
      rw [HG.out, ← h8.out]
      exact ⟨rfl, hb⟩
    
set_option maxHeartbeats 1000000 in
theorem implHoldsValid_any (a : Option Addr) (n c : Nat) (xs : List (ByteArray × ByteArray)) (w : World) (hr : RdR eltO w a n xs) (hs : ∀ x ∈ xs, x.1.size ≤ 4611686018427387904 ∧ x.2.size ≤ 4611686018427387904) (hn : n ≤ 4611686018427387904) :
    Calls Try.prog 8 #[.slice a n c] w (RetB w (.bool (holdsV xs))) := by
  have hl := Lib.hid hr.1
  have HS := Lib.hid hs
  clear hs
  by_cases hbig : 8 < n
  · have HF := Lib.hid (show holdsV xs = false from chainV_long (by have := hl.out; omega))
    have d8 : decide ((8 : Int) < (n : Int)) = true := by simp; omega
    go_enter Try.func8, Try.ntmps8
    go_wp2
    go_ret
    rw [HF.out]
    exact ⟨rfl, Below.refl _ _⟩
  have d8 : decide ((8 : Int) < (n : Int)) = false := by simp; omega
  go_enter Try.func8, Try.ntmps8
  go_wp2
  go_loopw [10] (fun i wr => ∃ k : Nat, k ≤ n ∧ i = .int .i64 k ∧ Hid (∀ j, j < k → goodAt okO befO xs j = true) ∧ Below w.heap.size w wr)
    (fun i _ => n - (intOf i).toNat)
  case atStart => exact ⟨0, Nat.zero_le _, rfl, Lib.hid (fun j h => by omega), Below.refl _ _⟩
  case round =>
    obtain ⟨k, hk, rfl, hgood, hb⟩ := hrel
    by_cases hlt : k < n
    · obtain ⟨b, off, x, rfl, hbl, hx, c0, c1⟩ := atO (hr.below hb) hlt
      have hw := WfO.at_ HS.out hx
      have HX := Lib.hid hx
      have hkl := Lib.hid (show k < xs.length by have := hl.out; omega)
      clear hx
      have hok := fun w => holdValid_any x.1 x.2 w
      cases hv : okO (x.1, x.2) with
      | false =>
        rw [hv] at hok
        have HF := Lib.hid (show holdsV xs = false from chainV_bad hkl.out (by
          cases k with
          | zero => rw [goodAt_zero HX.out]; exact hv
          | succ k =>
            obtain ⟨y, hy⟩ : ∃ y, xs[k + 1 - 1]? = some y := ⟨_, List.getElem?_eq_getElem (by have := hkl.out; omega)⟩
            rw [goodAt_succ (by omega) HX.out hy, show okO x = false from hv, Bool.false_and]))
        clear hv
        have hbx := one_box wr (.string x.1) (.string x.2) 36
        have hHl := hbx.1
        have q0 := hbx.2.1
        have q1 := hbx.2.2
        have hbw := hb.alloc hb.size (.cells #[.string x.1, .string x.2] 36)
        clear hbx
        go_wp2
        generalize wr.alloc (.cells #[.string x.1, .string x.2] 36) = W1 at hHl q0 q1 hbw ⊢
        refine wp_region_noPanic ?_
        refine wp_region_held_drew (S := fun w' => w'.cell? ⟨wr.heap.size, 0, none⟩ = some (.string x.1) ∧ w'.cell? ⟨wr.heap.size, 1, none⟩ = some (.string x.2)) (by kernel_rfl) ?_ (fun hHeld => ?_)
        · exact ⟨q0, q1⟩
        refine held_yes (i := 0) 15 (v := ?_) rfl rfl (by kernel_rfl) (by kernel_rfl) (by kernel_rfl) (fun _ _ _ _ _ h => h) (by rfl) (by assumption) ?_ ?_
        rotate_left 1
        · intro w hSw
          (try dsimp only at hSw)
          first | (go_simp; done) | (go_simp; with_reducible rfl)
        try simp only [Act.put]
        try simp only [List.setIfInBounds_toArray]
        try simp only [List.set_cons_succ]
        try simp only [List.set_cons_zero]
        refine wpAnyH_ready (rs := [1]) (by kernel_rfl) (by simp) ?_
        refine AllReadyH.cons rfl (fun K hK => ?_) AllReadyH.nil
        go_simp
        with_reducible refine (hok _ hw.1 hw.2).mono ?_
        rintro e w4 ⟨rfl, hb5⟩
        go_wp2_with fail
        refine hK.out _ _ ?_ (fun hHeld => ?_)
        · exact ⟨(hb5.cell (p := ⟨wr.heap.size, 0, none⟩) hHl).trans q0, (hb5.cell (p := ⟨wr.heap.size, 1, none⟩) hHl).trans q1⟩
        clear hK K
        try simp only [Act.put]
        try simp only [List.setIfInBounds_toArray]
        try simp only [List.set_cons_succ]
        try simp only [List.set_cons_zero]
        refine held_yes (i := 2) 17 (v := ?_) rfl rfl (by kernel_rfl) (by kernel_rfl) (by kernel_rfl) (fun _ _ _ _ _ h => h) (by rfl) (by assumption) ?_ ?_
        rotate_left 1
        · intro w hSw
          (try dsimp only at hSw)
          first | (go_simp; done) | (go_simp; with_reducible rfl)
        try simp only [Act.put]
        try simp only [List.setIfInBounds_toArray]
        try simp only [List.set_cons_succ]
        try simp only [List.set_cons_zero]
        refine held_yes (i := 3) 18 (v := ?_) rfl rfl (by kernel_rfl) (by kernel_rfl) (by kernel_rfl) (fun _ _ _ _ _ h => h) (by rfl) (by assumption) ?_ ?_
        rotate_left 1
        · intro w hSw
          (try dsimp only at hSw)
          first | (go_simp; done) | (go_simp; with_reducible rfl)
        try simp only [Act.put]
        try simp only [List.setIfInBounds_toArray]
        try simp only [List.set_cons_succ]
        try simp only [List.set_cons_zero]
        refine held_nos (by kernel_rfl) (fun _ _ _ _ _ h => h) (by assumption) [(4, 19), (5, 20), (6, 21), (7, 22), (8, 23), (9, 24), (10, 25), (11, 26), (12, 27), (13, 28), (14, 29), (15, 30)] 1 _ _ (by kernel_rfl) ?_
        simp only [List.foldl_cons, List.foldl_nil]
        try simp only [Act.put]
        try simp only [List.setIfInBounds_toArray]
        try simp only [List.set_cons_succ]
        try simp only [List.set_cons_zero]
        refine held_yes (i := 16) 31 (v := ?_) rfl rfl (by kernel_rfl) (by kernel_rfl) (by kernel_rfl) (fun _ _ _ _ _ h => h) (by rfl) (by assumption) ?_ ?_
        rotate_left 1
        · intro w hSw
          (try dsimp only at hSw)
          first | (go_simp; done) | (go_simp; with_reducible rfl)
        try simp only [Act.put]
        try simp only [List.setIfInBounds_toArray]
        try simp only [List.set_cons_succ]
        try simp only [List.set_cons_zero]
        refine wpAnyH_done (by kernel_rfl) ?_ _
        refine NoPanic.normal ?_
        have hb7 := (show Below w.heap.size w W1.drew from below_drewN hbw 1).trans (hb5.mono hbw.size)
        go_wp2
        go_ret
        rw [HF.out]
        exact ⟨rfl, hb7⟩
      | true =>
        rw [hv] at hok
        by_cases hk0 : k = 0
        · subst hk0
          have HG := Lib.hid (good_step hgood.out (show goodAt okO befO xs 0 = true by rw [goodAt_zero HX.out]; exact hv))
          clear hv
          simp only [Nat.zero_mul, Nat.add_zero] at c0 c1
          have hbx := one_box wr (.string x.1) (.string x.2) 36
          have hHl := hbx.1
          have q0 := hbx.2.1
          have q1 := hbx.2.2
          have hbw := hb.alloc hb.size (.cells #[.string x.1, .string x.2] 36)
          clear hbx
          go_wp2
          generalize wr.alloc (.cells #[.string x.1, .string x.2] 36) = W1 at hHl q0 q1 hbw ⊢
          refine wp_region_noPanic ?_
          refine wp_region_held_drew (S := fun w' => w'.cell? ⟨wr.heap.size, 0, none⟩ = some (.string x.1) ∧ w'.cell? ⟨wr.heap.size, 1, none⟩ = some (.string x.2)) (by kernel_rfl) ?_ (fun hHeld => ?_)
          · exact ⟨q0, q1⟩
          refine held_yes (i := 0) 15 (v := ?_) rfl rfl (by kernel_rfl) (by kernel_rfl) (by kernel_rfl) (fun _ _ _ _ _ h => h) (by rfl) (by assumption) ?_ ?_
          rotate_left 1
          · intro w hSw
            (try dsimp only at hSw)
            first | (go_simp; done) | (go_simp; with_reducible rfl)
          try simp only [Act.put]
          try simp only [List.setIfInBounds_toArray]
          try simp only [List.set_cons_succ]
          try simp only [List.set_cons_zero]
          refine wpAnyH_ready (rs := [1]) (by kernel_rfl) (by simp) ?_
          refine AllReadyH.cons rfl (fun K hK => ?_) AllReadyH.nil
          go_simp
          with_reducible refine (hok _ hw.1 hw.2).mono ?_
          rintro e w4 ⟨rfl, hb5⟩
          go_wp2_with fail
          refine hK.out _ _ ?_ (fun hHeld => ?_)
          · exact ⟨(hb5.cell (p := ⟨wr.heap.size, 0, none⟩) hHl).trans q0, (hb5.cell (p := ⟨wr.heap.size, 1, none⟩) hHl).trans q1⟩
          clear hK K
          try simp only [Act.put]
          try simp only [List.setIfInBounds_toArray]
          try simp only [List.set_cons_succ]
          try simp only [List.set_cons_zero]
          refine held_yes (i := 2) 17 (v := ?_) rfl rfl (by kernel_rfl) (by kernel_rfl) (by kernel_rfl) (fun _ _ _ _ _ h => h) (by rfl) (by assumption) ?_ ?_
          rotate_left 1
          · intro w hSw
            (try dsimp only at hSw)
            first | (go_simp; done) | (go_simp; with_reducible rfl)
          try simp only [Act.put]
          try simp only [List.setIfInBounds_toArray]
          try simp only [List.set_cons_succ]
          try simp only [List.set_cons_zero]
          refine held_yes (i := 3) 18 (v := ?_) rfl rfl (by kernel_rfl) (by kernel_rfl) (by kernel_rfl) (fun _ _ _ _ _ h => h) (by rfl) (by assumption) ?_ ?_
          rotate_left 1
          · intro w hSw
            (try dsimp only at hSw)
            first | (go_simp; done) | (go_simp; with_reducible rfl)
          try simp only [Act.put]
          try simp only [List.setIfInBounds_toArray]
          try simp only [List.set_cons_succ]
          try simp only [List.set_cons_zero]
          refine held_yes (i := 4) 19 (v := ?_) rfl rfl (by kernel_rfl) (by kernel_rfl) (by kernel_rfl) (fun _ _ _ _ _ h => h) (by rfl) (by assumption) ?_ ?_
          rotate_left 1
          · intro w hSw
            (try dsimp only at hSw)
            first | (go_simp; done) | (go_simp; with_reducible rfl)
          try simp only [Act.put]
          try simp only [List.setIfInBounds_toArray]
          try simp only [List.set_cons_succ]
          try simp only [List.set_cons_zero]
          refine held_yes (i := 5) 20 (v := ?_) rfl rfl (by kernel_rfl) (by kernel_rfl) (by kernel_rfl) (fun _ _ _ _ _ h => h) (by rfl) (by assumption) ?_ ?_
          rotate_left 1
          · intro w hSw
            (try dsimp only at hSw)
            first | (go_simp; done) | (go_simp; with_reducible rfl)
          try simp only [Act.put]
          try simp only [List.setIfInBounds_toArray]
          try simp only [List.set_cons_succ]
          try simp only [List.set_cons_zero]
          refine held_yes (i := 6) 21 (v := ?_) rfl rfl (by kernel_rfl) (by kernel_rfl) (by kernel_rfl) (fun _ _ _ _ _ h => h) (by rfl) (by assumption) ?_ ?_
          rotate_left 1
          · intro w hSw
            (try dsimp only at hSw)
            first | (go_simp; done) | (go_simp; with_reducible rfl)
          try simp only [Act.put]
          try simp only [List.setIfInBounds_toArray]
          try simp only [List.set_cons_succ]
          try simp only [List.set_cons_zero]
          refine held_nos (by kernel_rfl) (fun _ _ _ _ _ h => h) (by assumption) [(7, 22), (8, 23), (9, 24), (10, 25), (11, 26), (12, 27), (13, 28), (14, 29)] 2 _ _ (by kernel_rfl) ?_
          simp only [List.foldl_cons, List.foldl_nil]
          try simp only [Act.put]
          try simp only [List.setIfInBounds_toArray]
          try simp only [List.set_cons_succ]
          try simp only [List.set_cons_zero]
          refine held_yes (i := 15) 30 (v := ?_) rfl rfl (by kernel_rfl) (by kernel_rfl) (by kernel_rfl) (fun _ _ _ _ _ h => h) (by rfl) (by assumption) ?_ ?_
          rotate_left 1
          · intro w hSw
            (try dsimp only at hSw)
            first | (go_simp; done) | (go_simp; with_reducible rfl)
          try simp only [Act.put]
          try simp only [List.setIfInBounds_toArray]
          try simp only [List.set_cons_succ]
          try simp only [List.set_cons_zero]
          refine held_yes (i := 16) 31 (v := ?_) rfl rfl (by kernel_rfl) (by kernel_rfl) (by kernel_rfl) (fun _ _ _ _ _ h => h) (by rfl) (by assumption) ?_ ?_
          rotate_left 1
          · intro w hSw
            (try dsimp only at hSw)
            first | (go_simp; done) | (go_simp; with_reducible rfl)
          try simp only [Act.put]
          try simp only [List.setIfInBounds_toArray]
          try simp only [List.set_cons_succ]
          try simp only [List.set_cons_zero]
          refine wpAnyH_done (by kernel_rfl) ?_ _
          refine NoPanic.normal ?_
          have hb7 := (show Below w.heap.size w W1.drew from below_drewN hbw 1).trans (hb5.mono hbw.size)
          go_wp2
          go_roundw
          case rel => exact ⟨1, by omega, by go_num, HG, hb7⟩
          case measure => simp [intOf]; omega
        · obtain ⟨b2, off2, y, hbo, _, hy, e0, e1⟩ := atO (hr.below hb) (show k - 1 < n by omega)
          injection hbo with hbo
          injection hbo with hbo1 hbo2
          subst hbo1 hbo2
          have hbf := fun w => holdOrder_any y.1 y.2 x.1 x.2 w
          have hob := ordO_bef (y.1, y.2) (x.1, x.2)
          have HY := Lib.hid hy
          have i1 : (0 : Int) < (k : Int) := by omega
          have i6 : 0 < k := by omega
          have i9 : (1 : Int) ≤ (k : Int) := by omega
          have i10 : 1 ≤ k := by omega
          have i7 : decide ((0 : Int) < (k : Int)) = true := by simp; omega
          have i8 : decide (0 < k) = true := by simp; omega
          have i2 : (0 : Int) ≤ (k : Int) - 1 := by omega
          have i3 : ((k : Int) - 1).toNat = k - 1 := by omega
          have i4 : IntKind.i64.wrap ((k : Int) - 1) = (k : Int) - 1 := IntWalk.i64_in _ (by omega)
          have i5 : (k : Int) - 1 < (n : Int) := by omega
          have hbl1 : b < (wr.alloc (.cells #[.string x.1, .string x.2] 36)).heap.size := Nat.lt_of_lt_of_le hbl (by simp)
          have e0 := (World.cell?_alloc_lt wr (.cells #[.string x.1, .string x.2] 36) ⟨b, off + (k - 1) * 2, none⟩ hbl).trans e0
          have e1 := (World.cell?_alloc_lt wr (.cells #[.string x.1, .string x.2] 36) ⟨b, off + (k - 1) * 2 + 1, none⟩ hbl).trans e1
          obtain ⟨r, hr1⟩ : ∃ r, ordO (y.1, y.2) (x.1, x.2) = r := ⟨_, rfl⟩
          rw [hr1] at hob hbf
          clear hy hr1
          cases hbv : befO (y.1, y.2) (x.1, x.2) with
          | false =>
            rw [hbv] at hob
            simp only [Bool.not_false] at hob
            have HF := Lib.hid (show holdsV xs = false from chainV_bad hkl.out (by rw [goodAt_succ (by omega) HX.out HY.out, show befO y x = false from hbv, Bool.and_false]))
            clear hv hbv
            have hbx := one_box wr (.string x.1) (.string x.2) 36
            have hHl := hbx.1
            have q0 := hbx.2.1
            have q1 := hbx.2.2
            have hbw := hb.alloc hb.size (.cells #[.string x.1, .string x.2] 36)
            clear hbx
            go_wp2
            generalize wr.alloc (.cells #[.string x.1, .string x.2] 36) = W1 at hHl q0 q1 hbw e0 e1 hbl1 ⊢
            refine wp_region_noPanic ?_
            refine wp_region_held_drew (S := fun w' => w'.cell? ⟨wr.heap.size, 0, none⟩ = some (.string x.1) ∧ w'.cell? ⟨wr.heap.size, 1, none⟩ = some (.string x.2) ∧ w'.cell? ⟨b, off + (k - 1) * 2, none⟩ = some (.string y.1) ∧ w'.cell? ⟨b, off + (k - 1) * 2 + 1, none⟩ = some (.string y.2)) (by kernel_rfl) ?_ (fun hHeld => ?_)
            · exact ⟨q0, q1, e0, e1⟩
            refine held_yes (i := 0) 15 (v := ?_) rfl rfl (by kernel_rfl) (by kernel_rfl) (by kernel_rfl) (fun _ _ _ _ _ h => h) (by rfl) (by assumption) ?_ ?_
            rotate_left 1
            · intro w hSw
              (try dsimp only at hSw)
              first | (go_simp; done) | (go_simp; with_reducible rfl)
            try simp only [Act.put]
            try simp only [List.setIfInBounds_toArray]
            try simp only [List.set_cons_succ]
            try simp only [List.set_cons_zero]
            refine wpAnyH_ready (rs := [1]) (by kernel_rfl) (by simp) ?_
            refine AllReadyH.cons rfl (fun K hK => ?_) AllReadyH.nil
            go_simp
            with_reducible refine (hok _ hw.1 hw.2).mono ?_
            rintro e w4 ⟨rfl, hb5⟩
            go_wp2_with fail
            refine hK.out _ _ ?_ (fun hHeld => ?_)
            · exact ⟨(hb5.cell (p := ⟨wr.heap.size, 0, none⟩) hHl).trans q0, (hb5.cell (p := ⟨wr.heap.size, 1, none⟩) hHl).trans q1, (hb5.cell (p := ⟨b, off + (k - 1) * 2, none⟩) hbl1).trans e0, (hb5.cell (p := ⟨b, off + (k - 1) * 2 + 1, none⟩) hbl1).trans e1⟩
            clear hK K
            try simp only [Act.put]
            try simp only [List.setIfInBounds_toArray]
            try simp only [List.set_cons_succ]
            try simp only [List.set_cons_zero]
            refine held_yes (i := 2) 17 (v := ?_) rfl rfl (by kernel_rfl) (by kernel_rfl) (by kernel_rfl) (fun _ _ _ _ _ h => h) (by rfl) (by assumption) ?_ ?_
            rotate_left 1
            · intro w hSw
              (try dsimp only at hSw)
              first | (go_simp; done) | (go_simp; with_reducible rfl)
            try simp only [Act.put]
            try simp only [List.setIfInBounds_toArray]
            try simp only [List.set_cons_succ]
            try simp only [List.set_cons_zero]
            refine held_yes (i := 3) 18 (v := ?_) rfl rfl (by kernel_rfl) (by kernel_rfl) (by kernel_rfl) (fun _ _ _ _ _ h => h) (by rfl) (by assumption) ?_ ?_
            rotate_left 1
            · intro w hSw
              (try dsimp only at hSw)
              first | (go_simp; done) | (go_simp; with_reducible rfl)
            try simp only [Act.put]
            try simp only [List.setIfInBounds_toArray]
            try simp only [List.set_cons_succ]
            try simp only [List.set_cons_zero]
            refine held_yes (i := 4) 19 (v := ?_) rfl rfl (by kernel_rfl) (by kernel_rfl) (by kernel_rfl) (fun _ _ _ _ _ h => h) (by rfl) (by assumption) ?_ ?_
            rotate_left 1
            · intro w hSw
              (try dsimp only at hSw)
              first | (go_simp; done) | (go_simp; with_reducible rfl)
            try simp only [Act.put]
            try simp only [List.setIfInBounds_toArray]
            try simp only [List.set_cons_succ]
            try simp only [List.set_cons_zero]
            refine held_yes (i := 5) 20 (v := ?_) rfl rfl (by kernel_rfl) (by kernel_rfl) (by kernel_rfl) (fun _ _ _ _ _ h => h) (by rfl) (by assumption) ?_ ?_
            rotate_left 1
            · intro w hSw
              (try dsimp only at hSw)
              first | (go_simp; done) | (go_simp; with_reducible rfl)
            try simp only [Act.put]
            try simp only [List.setIfInBounds_toArray]
            try simp only [List.set_cons_succ]
            try simp only [List.set_cons_zero]
            refine held_yes (i := 6) 21 (v := ?_) rfl rfl (by kernel_rfl) (by kernel_rfl) (by kernel_rfl) (fun _ _ _ _ _ h => h) (by rfl) (by assumption) ?_ ?_
            rotate_left 1
            · intro w hSw
              (try dsimp only at hSw)
              first | (go_simp; done) | (go_simp; with_reducible rfl)
            try simp only [Act.put]
            try simp only [List.setIfInBounds_toArray]
            try simp only [List.set_cons_succ]
            try simp only [List.set_cons_zero]
            refine held_yes (i := 7) 22 (v := ?_) rfl rfl (by kernel_rfl) (by kernel_rfl) (by kernel_rfl) (fun _ _ _ _ _ h => h) (by rfl) (by assumption) ?_ ?_
            rotate_left 1
            · intro w hSw
              (try dsimp only at hSw)
              first | (go_simp; done) | (go_simp; with_reducible rfl)
            try simp only [Act.put]
            try simp only [List.setIfInBounds_toArray]
            try simp only [List.set_cons_succ]
            try simp only [List.set_cons_zero]
            refine held_yes (i := 8) 23 (v := ?_) rfl rfl (by kernel_rfl) (by kernel_rfl) (by kernel_rfl) (fun _ _ _ _ _ h => h) (by rfl) (by assumption) ?_ ?_
            rotate_left 1
            · intro w hSw
              (try dsimp only at hSw)
              first | (go_simp; done) | (go_simp; with_reducible rfl)
            try simp only [Act.put]
            try simp only [List.setIfInBounds_toArray]
            try simp only [List.set_cons_succ]
            try simp only [List.set_cons_zero]
            refine held_yes (i := 9) 24 (v := ?_) rfl rfl (by kernel_rfl) (by kernel_rfl) (by kernel_rfl) (fun _ _ _ _ _ h => h) (by rfl) (by assumption) ?_ ?_
            rotate_left 1
            · intro w hSw
              (try dsimp only at hSw)
              first | (go_simp; done) | (go_simp; with_reducible rfl)
            try simp only [Act.put]
            try simp only [List.setIfInBounds_toArray]
            try simp only [List.set_cons_succ]
            try simp only [List.set_cons_zero]
            refine held_yes (i := 10) 25 (v := ?_) rfl rfl (by kernel_rfl) (by kernel_rfl) (by kernel_rfl) (fun _ _ _ _ _ h => h) (by rfl) (by assumption) ?_ ?_
            rotate_left 1
            · intro w hSw
              (try dsimp only at hSw)
              first | (go_simp; done) | (go_simp; with_reducible rfl)
            try simp only [Act.put]
            try simp only [List.setIfInBounds_toArray]
            try simp only [List.set_cons_succ]
            try simp only [List.set_cons_zero]
            refine held_yes (i := 11) 26 (v := ?_) rfl rfl (by kernel_rfl) (by kernel_rfl) (by kernel_rfl) (fun _ _ _ _ _ h => h) (by rfl) (by assumption) ?_ ?_
            rotate_left 1
            · intro w hSw
              (try dsimp only at hSw)
              first | (go_simp; done) | (go_simp; with_reducible rfl)
            try simp only [Act.put]
            try simp only [List.setIfInBounds_toArray]
            try simp only [List.set_cons_succ]
            try simp only [List.set_cons_zero]
            refine held_yes (i := 12) 27 (v := ?_) rfl rfl (by kernel_rfl) (by kernel_rfl) (by kernel_rfl) (fun _ _ _ _ _ h => h) (by rfl) (by assumption) ?_ ?_
            rotate_left 1
            · intro w hSw
              (try dsimp only at hSw)
              first | (go_simp; done) | (go_simp; with_reducible rfl)
            try simp only [Act.put]
            try simp only [List.setIfInBounds_toArray]
            try simp only [List.set_cons_succ]
            try simp only [List.set_cons_zero]
            refine wpAnyH_ready (rs := [13]) (by kernel_rfl) (by simp) ?_
            refine AllReadyH.cons rfl (fun K hK => ?_) AllReadyH.nil
            go_simp
            with_reducible refine (hbf _).mono ?_
            rintro e w5 ⟨rfl, hb6⟩
            go_wp2_with fail
            refine hK.out _ _ ?_ (fun hHeld => ?_)
            · exact ⟨(hb6.cell (p := ⟨wr.heap.size, 0, none⟩) (Nat.lt_of_lt_of_le hHl hb5.size)).trans ((hb5.cell (p := ⟨wr.heap.size, 0, none⟩) hHl).trans q0), (hb6.cell (p := ⟨wr.heap.size, 1, none⟩) (Nat.lt_of_lt_of_le hHl hb5.size)).trans ((hb5.cell (p := ⟨wr.heap.size, 1, none⟩) hHl).trans q1), (hb6.cell (p := ⟨b, off + (k - 1) * 2, none⟩) (Nat.lt_of_lt_of_le hbl1 hb5.size)).trans ((hb5.cell (p := ⟨b, off + (k - 1) * 2, none⟩) hbl1).trans e0), (hb6.cell (p := ⟨b, off + (k - 1) * 2 + 1, none⟩) (Nat.lt_of_lt_of_le hbl1 hb5.size)).trans ((hb5.cell (p := ⟨b, off + (k - 1) * 2 + 1, none⟩) hbl1).trans e1)⟩
            clear hK K
            try simp only [Act.put]
            try simp only [List.setIfInBounds_toArray]
            try simp only [List.set_cons_succ]
            try simp only [List.set_cons_zero]
            refine held_yes (i := 14) 29 (v := ?_) rfl rfl (by kernel_rfl) (by kernel_rfl) (by kernel_rfl) (fun _ _ _ _ _ h => h) (by rfl) (by assumption) ?_ ?_
            rotate_left 1
            · intro w hSw
              (try dsimp only at hSw)
              first | (go_simp; done) | (go_simp; with_reducible rfl)
            try simp only [Act.put]
            try simp only [List.setIfInBounds_toArray]
            try simp only [List.set_cons_succ]
            try simp only [List.set_cons_zero]
            refine held_yes (i := 15) 30 (v := ?_) rfl rfl (by kernel_rfl) (by kernel_rfl) (by kernel_rfl) (fun _ _ _ _ _ h => h) (by rfl) (by assumption) ?_ ?_
            rotate_left 1
            · intro w hSw
              (try dsimp only at hSw)
              first | (go_simp; done) | (go_simp; with_reducible rfl)
            try simp only [Act.put]
            try simp only [List.setIfInBounds_toArray]
            try simp only [List.set_cons_succ]
            try simp only [List.set_cons_zero]
            refine held_yes (i := 16) 31 (v := ?_) rfl rfl (by kernel_rfl) (by kernel_rfl) (by kernel_rfl) (fun _ _ _ _ _ h => h) (by rfl) (by assumption) ?_ ?_
            rotate_left 1
            · intro w hSw
              (try dsimp only at hSw)
              first | (go_simp; done) | (go_simp; with_reducible rfl)
            try simp only [Act.put]
            try simp only [List.setIfInBounds_toArray]
            try simp only [List.set_cons_succ]
            try simp only [List.set_cons_zero]
            refine wpAnyH_done (by kernel_rfl) ?_ _
            refine NoPanic.normal ?_
            have hb7 := ((show Below w.heap.size w W1.drew from below_drewN hbw 1).trans (hb5.mono hbw.size)).trans (hb6.mono (Nat.le_trans hbw.size hb5.size))
            go_wp2
            go_ret
            rw [HF.out]
            exact ⟨rfl, hb7⟩
          | true =>
            rw [hbv] at hob
            simp only [Bool.not_true] at hob
            have HG := Lib.hid (good_step hgood.out (show goodAt okO befO xs k = true by rw [goodAt_succ (by omega) HX.out HY.out, show befO y x = true from hbv, show okO x = true from hv]; rfl))
            clear hv hbv
            have hbx := one_box wr (.string x.1) (.string x.2) 36
            have hHl := hbx.1
            have q0 := hbx.2.1
            have q1 := hbx.2.2
            have hbw := hb.alloc hb.size (.cells #[.string x.1, .string x.2] 36)
            clear hbx
            go_wp2
            generalize wr.alloc (.cells #[.string x.1, .string x.2] 36) = W1 at hHl q0 q1 hbw e0 e1 hbl1 ⊢
            refine wp_region_noPanic ?_
            refine wp_region_held_drew (S := fun w' => w'.cell? ⟨wr.heap.size, 0, none⟩ = some (.string x.1) ∧ w'.cell? ⟨wr.heap.size, 1, none⟩ = some (.string x.2) ∧ w'.cell? ⟨b, off + (k - 1) * 2, none⟩ = some (.string y.1) ∧ w'.cell? ⟨b, off + (k - 1) * 2 + 1, none⟩ = some (.string y.2)) (by kernel_rfl) ?_ (fun hHeld => ?_)
            · exact ⟨q0, q1, e0, e1⟩
            refine held_yes (i := 0) 15 (v := ?_) rfl rfl (by kernel_rfl) (by kernel_rfl) (by kernel_rfl) (fun _ _ _ _ _ h => h) (by rfl) (by assumption) ?_ ?_
            rotate_left 1
            · intro w hSw
              (try dsimp only at hSw)
              first | (go_simp; done) | (go_simp; with_reducible rfl)
            try simp only [Act.put]
            try simp only [List.setIfInBounds_toArray]
            try simp only [List.set_cons_succ]
            try simp only [List.set_cons_zero]
            refine wpAnyH_ready (rs := [1]) (by kernel_rfl) (by simp) ?_
            refine AllReadyH.cons rfl (fun K hK => ?_) AllReadyH.nil
            go_simp
            with_reducible refine (hok _ hw.1 hw.2).mono ?_
            rintro e w4 ⟨rfl, hb5⟩
            go_wp2_with fail
            refine hK.out _ _ ?_ (fun hHeld => ?_)
            · exact ⟨(hb5.cell (p := ⟨wr.heap.size, 0, none⟩) hHl).trans q0, (hb5.cell (p := ⟨wr.heap.size, 1, none⟩) hHl).trans q1, (hb5.cell (p := ⟨b, off + (k - 1) * 2, none⟩) hbl1).trans e0, (hb5.cell (p := ⟨b, off + (k - 1) * 2 + 1, none⟩) hbl1).trans e1⟩
            clear hK K
            try simp only [Act.put]
            try simp only [List.setIfInBounds_toArray]
            try simp only [List.set_cons_succ]
            try simp only [List.set_cons_zero]
            refine held_yes (i := 2) 17 (v := ?_) rfl rfl (by kernel_rfl) (by kernel_rfl) (by kernel_rfl) (fun _ _ _ _ _ h => h) (by rfl) (by assumption) ?_ ?_
            rotate_left 1
            · intro w hSw
              (try dsimp only at hSw)
              first | (go_simp; done) | (go_simp; with_reducible rfl)
            try simp only [Act.put]
            try simp only [List.setIfInBounds_toArray]
            try simp only [List.set_cons_succ]
            try simp only [List.set_cons_zero]
            refine held_yes (i := 3) 18 (v := ?_) rfl rfl (by kernel_rfl) (by kernel_rfl) (by kernel_rfl) (fun _ _ _ _ _ h => h) (by rfl) (by assumption) ?_ ?_
            rotate_left 1
            · intro w hSw
              (try dsimp only at hSw)
              first | (go_simp; done) | (go_simp; with_reducible rfl)
            try simp only [Act.put]
            try simp only [List.setIfInBounds_toArray]
            try simp only [List.set_cons_succ]
            try simp only [List.set_cons_zero]
            refine held_yes (i := 4) 19 (v := ?_) rfl rfl (by kernel_rfl) (by kernel_rfl) (by kernel_rfl) (fun _ _ _ _ _ h => h) (by rfl) (by assumption) ?_ ?_
            rotate_left 1
            · intro w hSw
              (try dsimp only at hSw)
              first | (go_simp; done) | (go_simp; with_reducible rfl)
            try simp only [Act.put]
            try simp only [List.setIfInBounds_toArray]
            try simp only [List.set_cons_succ]
            try simp only [List.set_cons_zero]
            refine held_yes (i := 5) 20 (v := ?_) rfl rfl (by kernel_rfl) (by kernel_rfl) (by kernel_rfl) (fun _ _ _ _ _ h => h) (by rfl) (by assumption) ?_ ?_
            rotate_left 1
            · intro w hSw
              (try dsimp only at hSw)
              first | (go_simp; done) | (go_simp; with_reducible rfl)
            try simp only [Act.put]
            try simp only [List.setIfInBounds_toArray]
            try simp only [List.set_cons_succ]
            try simp only [List.set_cons_zero]
            refine held_yes (i := 6) 21 (v := ?_) rfl rfl (by kernel_rfl) (by kernel_rfl) (by kernel_rfl) (fun _ _ _ _ _ h => h) (by rfl) (by assumption) ?_ ?_
            rotate_left 1
            · intro w hSw
              (try dsimp only at hSw)
              first | (go_simp; done) | (go_simp; with_reducible rfl)
            try simp only [Act.put]
            try simp only [List.setIfInBounds_toArray]
            try simp only [List.set_cons_succ]
            try simp only [List.set_cons_zero]
            refine held_yes (i := 7) 22 (v := ?_) rfl rfl (by kernel_rfl) (by kernel_rfl) (by kernel_rfl) (fun _ _ _ _ _ h => h) (by rfl) (by assumption) ?_ ?_
            rotate_left 1
            · intro w hSw
              (try dsimp only at hSw)
              first | (go_simp; done) | (go_simp; with_reducible rfl)
            try simp only [Act.put]
            try simp only [List.setIfInBounds_toArray]
            try simp only [List.set_cons_succ]
            try simp only [List.set_cons_zero]
            refine held_yes (i := 8) 23 (v := ?_) rfl rfl (by kernel_rfl) (by kernel_rfl) (by kernel_rfl) (fun _ _ _ _ _ h => h) (by rfl) (by assumption) ?_ ?_
            rotate_left 1
            · intro w hSw
              (try dsimp only at hSw)
              first | (go_simp; done) | (go_simp; with_reducible rfl)
            try simp only [Act.put]
            try simp only [List.setIfInBounds_toArray]
            try simp only [List.set_cons_succ]
            try simp only [List.set_cons_zero]
            refine held_yes (i := 9) 24 (v := ?_) rfl rfl (by kernel_rfl) (by kernel_rfl) (by kernel_rfl) (fun _ _ _ _ _ h => h) (by rfl) (by assumption) ?_ ?_
            rotate_left 1
            · intro w hSw
              (try dsimp only at hSw)
              first | (go_simp; done) | (go_simp; with_reducible rfl)
            try simp only [Act.put]
            try simp only [List.setIfInBounds_toArray]
            try simp only [List.set_cons_succ]
            try simp only [List.set_cons_zero]
            refine held_yes (i := 10) 25 (v := ?_) rfl rfl (by kernel_rfl) (by kernel_rfl) (by kernel_rfl) (fun _ _ _ _ _ h => h) (by rfl) (by assumption) ?_ ?_
            rotate_left 1
            · intro w hSw
              (try dsimp only at hSw)
              first | (go_simp; done) | (go_simp; with_reducible rfl)
            try simp only [Act.put]
            try simp only [List.setIfInBounds_toArray]
            try simp only [List.set_cons_succ]
            try simp only [List.set_cons_zero]
            refine held_yes (i := 11) 26 (v := ?_) rfl rfl (by kernel_rfl) (by kernel_rfl) (by kernel_rfl) (fun _ _ _ _ _ h => h) (by rfl) (by assumption) ?_ ?_
            rotate_left 1
            · intro w hSw
              (try dsimp only at hSw)
              first | (go_simp; done) | (go_simp; with_reducible rfl)
            try simp only [Act.put]
            try simp only [List.setIfInBounds_toArray]
            try simp only [List.set_cons_succ]
            try simp only [List.set_cons_zero]
            refine held_yes (i := 12) 27 (v := ?_) rfl rfl (by kernel_rfl) (by kernel_rfl) (by kernel_rfl) (fun _ _ _ _ _ h => h) (by rfl) (by assumption) ?_ ?_
            rotate_left 1
            · intro w hSw
              (try dsimp only at hSw)
              first | (go_simp; done) | (go_simp; with_reducible rfl)
            try simp only [Act.put]
            try simp only [List.setIfInBounds_toArray]
            try simp only [List.set_cons_succ]
            try simp only [List.set_cons_zero]
            refine wpAnyH_ready (rs := [13]) (by kernel_rfl) (by simp) ?_
            refine AllReadyH.cons rfl (fun K hK => ?_) AllReadyH.nil
            go_simp
            with_reducible refine (hbf _).mono ?_
            rintro e w5 ⟨rfl, hb6⟩
            go_wp2_with fail
            refine hK.out _ _ ?_ (fun hHeld => ?_)
            · exact ⟨(hb6.cell (p := ⟨wr.heap.size, 0, none⟩) (Nat.lt_of_lt_of_le hHl hb5.size)).trans ((hb5.cell (p := ⟨wr.heap.size, 0, none⟩) hHl).trans q0), (hb6.cell (p := ⟨wr.heap.size, 1, none⟩) (Nat.lt_of_lt_of_le hHl hb5.size)).trans ((hb5.cell (p := ⟨wr.heap.size, 1, none⟩) hHl).trans q1), (hb6.cell (p := ⟨b, off + (k - 1) * 2, none⟩) (Nat.lt_of_lt_of_le hbl1 hb5.size)).trans ((hb5.cell (p := ⟨b, off + (k - 1) * 2, none⟩) hbl1).trans e0), (hb6.cell (p := ⟨b, off + (k - 1) * 2 + 1, none⟩) (Nat.lt_of_lt_of_le hbl1 hb5.size)).trans ((hb5.cell (p := ⟨b, off + (k - 1) * 2 + 1, none⟩) hbl1).trans e1)⟩
            clear hK K
            try simp only [Act.put]
            try simp only [List.setIfInBounds_toArray]
            try simp only [List.set_cons_succ]
            try simp only [List.set_cons_zero]
            refine held_yes (i := 14) 29 (v := ?_) rfl rfl (by kernel_rfl) (by kernel_rfl) (by kernel_rfl) (fun _ _ _ _ _ h => h) (by rfl) (by assumption) ?_ ?_
            rotate_left 1
            · intro w hSw
              (try dsimp only at hSw)
              first | (go_simp; done) | (go_simp; with_reducible rfl)
            try simp only [Act.put]
            try simp only [List.setIfInBounds_toArray]
            try simp only [List.set_cons_succ]
            try simp only [List.set_cons_zero]
            refine held_yes (i := 15) 30 (v := ?_) rfl rfl (by kernel_rfl) (by kernel_rfl) (by kernel_rfl) (fun _ _ _ _ _ h => h) (by rfl) (by assumption) ?_ ?_
            rotate_left 1
            · intro w hSw
              (try dsimp only at hSw)
              first | (go_simp; done) | (go_simp; with_reducible rfl)
            try simp only [Act.put]
            try simp only [List.setIfInBounds_toArray]
            try simp only [List.set_cons_succ]
            try simp only [List.set_cons_zero]
            refine held_yes (i := 16) 31 (v := ?_) rfl rfl (by kernel_rfl) (by kernel_rfl) (by kernel_rfl) (fun _ _ _ _ _ h => h) (by rfl) (by assumption) ?_ ?_
            rotate_left 1
            · intro w hSw
              (try dsimp only at hSw)
              first | (go_simp; done) | (go_simp; with_reducible rfl)
            try simp only [Act.put]
            try simp only [List.setIfInBounds_toArray]
            try simp only [List.set_cons_succ]
            try simp only [List.set_cons_zero]
            refine wpAnyH_done (by kernel_rfl) ?_ _
            refine NoPanic.normal ?_
            have hb7 := ((show Below w.heap.size w W1.drew from below_drewN hbw 1).trans (hb5.mono hbw.size)).trans (hb6.mono (Nat.le_trans hbw.size hb5.size))
            go_wp2
            go_roundw
            case rel => exact ⟨k + 1, by omega, by go_num, HG, hb7⟩
            case measure => simp [intOf]; omega
    · obtain rfl : k = n := by omega
      have HG := Lib.hid (show holdsV xs = true by rw [show holdsV xs = decide (xs.length ≤ 8) from chainV_all (by rw [hl.out]; exact hgood.out)]; have := hl.out; simp; omega)
      go_wp2
      go_ret
      rw [HG.out]
      exact ⟨rfl, hb⟩
    
    end Go.Proofs.Ytcojgoibelgleaa
