/- Walks of FnMost, FnFreeMost, FnSpacePart. -/
import Derived.Test.YtblejobcjcejpaaPlainPartX
import Derived.Test.YtblejobcjcejpaaDrawXs
import Derived.Test.YtblejobcjcejpaaFreeMost
import Derived.Test.YtblejobcjcejpaaAppX
import Derived.Test.YtblejobcjcejpaaTr
import Derived.Deep.RegionHeld3
import Derived.IntWalk
namespace Go.Proofs.Ytblejobcjcejpaa
open Go.RowKit
set_option linter.unusedVariables false

set_option maxHeartbeats 2000000 in
theorem FnMost_walk (a : Option Addr) (n c : Nat) (w : World) (h : RdC w a n) (hc : n ≤ c) (hm : c ≤ maxLen) :
    Calls Try.prog 7 #[.slice a n c] w (Tr w) := by
  unfold maxLen at hm
  by_cases hn : n ≤ 1048576
  · go_enter Try.func7, Try.ntmps7
    go_wp2_with fail
    with_reducible refine (DrawSpaceMost_any a n c _ h hc hn).mono ?_
    rintro e w1 ⟨zs, a1, c1, rfl, hz, hO1, hb1⟩
    go_wp2_with fail
    with_reducible refine (implSpaceMost_any a1 zs.length c1 zs _ hO1.rd hO1.wf (by omega)).mono ?_
    rintro e w2 ⟨rfl, hb⟩
    have hO2 := hO1.below hb
    have hb2 := hb1.trans (hb.mono hb1.size)
    clear hb hO1 hb1 h
    go_wp2_with fail
    with_reducible refine (specSpaceMost_any a1 zs.length c1 zs _ hO2.rd hO2.wf (by omega)).mono ?_
    rintro e w3 ⟨rfl, hb⟩
    have hO3 := hO2.below hb
    have hb3 := hb2.trans (hb.mono hb2.size)
    clear hb hO2 hb2
    have hmv := Lib.hid (show mostV zs = if spaceV zs = true then mostX zs else -1 from rfl)
    obtain ⟨mm, hmm⟩ : ∃ mm, mostV zs = mm := ⟨_, rfl⟩
    rw [hmm] at hmv ⊢
    have q1 : (mm != mm) = false := by simp
    have q3 : (mm == mm) = true := by simp
    clear hmm
    by_cases h1 : mm < 1
    · go_wp2
      go_ret
      exact ⟨rfl, hb3⟩
    · have hv : spaceV zs = true := by
        cases hc : spaceV zs with
        | true => rfl
        | false => have := hmv.out; rw [hc] at this; simp at this; omega
      have he : mostX zs = mm := by have := hmv.out; rw [if_pos hv] at this; exact this.symm
      have hge := mostX_ge hv
      have hne : zs ≠ [] := by rintro rfl; rw [mostX_nil] at he; omega
      obtain ⟨xm, hxm, hxe⟩ := mostX_mem hv hne
      rw [he] at hge hxe
      have HGE := Lib.hid hge
      have HM : Hid (∃ j, j < zs.length ∧ (zs.getD j (0, 0)).2 = mm) := Lib.hid (by
        obtain ⟨j, hj, hje⟩ := List.getElem_of_mem hxm
        refine ⟨j, hj, ?_⟩
        simp [List.getD_eq_getElem?_getD, hj, hje, hxe])
      clear hge he hmv hxm hxe hne hv
      go_wp2_with fail
      go_loopw [6, 7] (fun s i wr => ∃ k : Nat, k ≤ zs.length ∧ i = .int .i64 k ∧ (∃ bb : Bool, s = .bool bb ∧ Hid (bb = false → ∀ j, j < k → (zs.getD j (0, 0)).2 ≠ mm)) ∧ ∃ m, wr = w3.drewN m) (fun _ i _ => zs.length - (intOf i).toNat)
      case atStart => exact ⟨0, by omega, rfl, ⟨false, rfl, Lib.hid (fun _ j hj => by omega)⟩, 0, rfl⟩
      case round =>
        obtain ⟨k, hk, rfl, ⟨bb, rfl, hbb⟩, m, rfl⟩ := hrel
        by_cases hlt : k < zs.length
        · obtain ⟨b, off, rfl, hblt, f, q, hfm, cf, cm, _, _, _⟩ := hO3.rd.at_ hO3.wf hlt
          have hle := HGE.out _ (getD_mem_pair hlt)
          rw [hfm] at hle
          simp only at hle
          have hk0 : (0 : Int) ≤ (k : Int) := by omega
          have hk1 : (k : Int) < (zs.length : Int) := by omega
          have d1 : decide (mm < q) = false := by simp; omega
          have hcase : bb = true ∨ (bb = false ∧ (q == mm) = true) ∨ (bb = false ∧ (q == mm) = false) := by
            cases bb
            · right; cases (q == mm) <;> simp
            · left; rfl
          have HFM := Lib.hid hfm
          clear hfm hle
          rcases hcase with rfl | ⟨rfl, d2⟩ | ⟨rfl, d2⟩
          · go_wp2
            go_roundw
            case rel => exact ⟨k + 1, by omega, by go_num, ⟨true, rfl, Lib.hid (fun h => by cases h)⟩, m, rfl⟩
            case measure => simp [intOf]; omega
          · go_wp2
            go_roundw
            case rel => exact ⟨k + 1, by omega, by go_num, ⟨true, rfl, Lib.hid (fun h => by cases h)⟩, m, rfl⟩
            case measure => simp [intOf]; omega
          · have hnx : Hid (∀ j, j < k + 1 → (zs.getD j (0, 0)).2 ≠ mm) := Lib.hid (fun j hj => by
              rcases Nat.lt_or_ge j k with h | h
              · exact hbb.out rfl j h
              · obtain rfl : j = k := by omega
                rw [HFM.out]; simpa using d2)
            go_wp2
            go_roundw
            case rel => exact ⟨k + 1, by omega, by go_num, ⟨false, rfl, Lib.hid (fun _ => hnx.out)⟩, m, rfl⟩
            case measure => simp [intOf]; omega
        · have hbt : bb = true := by
            cases bb with
            | true => rfl
            | false =>
              obtain ⟨j, hj, he⟩ := HM.out
              exact absurd he (hbb.out rfl j (by omega))
          subst hbt
          go_wp2
          go_ret
          exact ⟨rfl, below_drewN hb3 _⟩
  · go_enter Try.func7, Try.ntmps7
    go_wp2
    go_ret
    exact ⟨rfl, Below.refl _ _⟩

set_option maxHeartbeats 2000000 in
theorem FnFreeMost_walk (a : Option Addr) (n c : Nat) (w : World) (h : RdC w a n) (hc : n ≤ c) (hm : c ≤ maxLen) :
    Calls Try.prog 8 #[.slice a n c] w (Tr w) := by
  unfold maxLen at hm
  by_cases hn : n ≤ 1048576
  · go_enter Try.func8, Try.ntmps8
    go_wp2_with fail
    with_reducible refine (DrawSpaceFree_any a n c _ h hc hn).mono ?_
    rintro e w1 ⟨zs, a1, c1, rfl, hz, hO1, hb1⟩
    go_wp2_with fail
    with_reducible refine (implSpaceFree_any a1 zs.length c1 zs _ hO1.rd hO1.wf (by omega)).mono ?_
    rintro e w2 ⟨rfl, hb⟩
    have hO2 := hO1.below hb
    have hb2 := hb1.trans (hb.mono hb1.size)
    clear hb hO1 hb1 h
    go_wp2_with fail
    with_reducible refine (specSpaceFree_any a1 zs.length c1 zs _ hO2.rd hO2.wf (by omega)).mono ?_
    rintro e w3 ⟨rfl, hb⟩
    have hO3 := hO2.below hb
    have hb3 := hb2.trans (hb.mono hb2.size)
    clear hb hO2 hb2
    have hmv := Lib.hid (show freeV zs = if spaceV zs = true then sumX zs else -1 from rfl)
    have hmw := Lib.hid (show mostV zs = if spaceV zs = true then mostX zs else -1 from rfl)
    obtain ⟨mm, hmm⟩ : ∃ mm, freeV zs = mm := ⟨_, rfl⟩
    rw [hmm] at hmv ⊢
    have q1 : (mm != mm) = false := by simp
    have q3 : (mm == mm) = true := by simp
    clear hmm
    by_cases h1 : mm < 0
    · go_wp2
      go_ret
      exact ⟨rfl, hb3⟩
    · have hv : spaceV zs = true := by
        cases hc : spaceV zs with
        | true => rfl
        | false => have := hmv.out; rw [hc] at this; simp at this; omega
      have he : sumX zs = mm := by have := hmv.out; rw [if_pos hv] at this; exact this.symm
      have he2 : mostV zs = mostX zs := by have := hmw.out; rw [if_pos hv] at this; exact this
      obtain ⟨e1, e2, e3⟩ := most_free hv
      have hb0 := mostX_bound hv
      obtain ⟨ml, hml⟩ : ∃ ml, mostX zs = ml := ⟨_, rfl⟩
      rw [he, hml] at e1 e2
      rw [he] at e3
      rw [hml] at he2 hb0
      obtain ⟨b0, b1⟩ := hb0
      have HE := Lib.hid he2
      have hmul : 0 ≤ ml * (zs.length : Int) ∧ ml * (zs.length : Int) ≤ 800 := by
        constructor
        · exact Int.mul_nonneg b0 (by omega)
        · have h8 : ml * (zs.length : Int) ≤ ml * 8 := Int.mul_le_mul_of_nonneg_left (by omega) b0
          omega
      obtain ⟨m0, m1⟩ := hmul
      have d1 : decide (ml ≤ mm) = true := by simpa using e1
      have d2 : decide (mm ≤ ml * (zs.length : Int)) = true := by simpa using e2
      have d3 : decide (mm ≤ 100) = true := by simpa using e3
      clear hmv hmw hv he he2 hml
      go_wp2_with fail
      with_reducible refine (implSpaceMost_any a1 _ c1 zs _ hO3.rd hO3.wf (by omega)).mono ?_
      rintro e w4 ⟨rfl, hb⟩
      have hb4 := hb3.trans (hb.mono hb3.size)
      rw [HE.out]
      clear hb
      go_wp2
      go_ret
      exact ⟨rfl, hb4⟩
  · go_enter Try.func8, Try.ntmps8
    go_wp2
    go_ret
    exact ⟨rfl, Below.refl _ _⟩

end Go.Proofs.Ytblejobcjcejpaa
