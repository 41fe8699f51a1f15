/- Walks of the laws that a block has bytes, and that a file has a greatest size. -/
import Derived.Test.YtbegmliglabpfaaDrawI
import Derived.Test.YtbegmliglabpfaaAppZero
import Derived.Test.YtbegmliglabpfaaSum
import Derived.Test.YtbegmliglabpfaaConst
namespace Go.Proofs.Ytbegmliglabpfaa
open Go.RowKit
set_option linter.unusedVariables false

theorem RdI.take {w : World} {a : Option Addr} {n m : Nat} {zs : List Int} (h : RdI w a n zs) (hm : m ≤ n) : RdI w a m (zs.take m) := by
  refine ⟨by have := h.1; simp; omega, fun i hi => ?_⟩
  obtain ⟨b, off, rfl, hlt, hc⟩ := h.2 i (by omega)
  refine ⟨b, off, rfl, hlt, fun j hj => ?_⟩
  rw [hc j (by omega)]
  simp [hj]

theorem big (zs : List Int) (k : Nat) (hk : 8 ≤ zs.length + k - 1) : blockV (zs ++ List.replicate k 0) = false := by
  simp only [blockV, inB, List.length_append, List.length_replicate, Bool.and_eq_false_iff, decide_eq_false_iff_not]
  exact .inr (.inr (by omega))

theorem blockVd (zs : List Int) (h : blockV zs = true) (h1 : 2 ≤ zs.length) : blockV (zs.take (zs.length - 1)) = true := by
  obtain ⟨h2, h3, h4⟩ := blockV_parts h
  have h5 : allB (zs.take (zs.length - 1)) = true := by
    cases hx : allB (zs.take (zs.length - 1)) with
    | true => rfl
    | false => rw [allB_take hx] at h2; cases h2
  simp only [blockV, inB, h5, List.length_take, Bool.true_and, Bool.and_eq_true, decide_eq_true_eq]
  omega

set_option maxHeartbeats 1000000 in
theorem FnBlockPart_walk (a : Option Addr) (n c : Nat) (w : World) (h : RdC w a n) (hc : n ≤ c) (hm : c ≤ maxLen) :
    Calls Try.prog 7 #[.slice a n c] w (Tr w) := by
  unfold maxLen at hm
  by_cases hn : n ≤ 1048576
  · go_enter Try.func7, Try.ntmps7
    go_wp2_with fail
    refine (DrawBlockValid_any a n c _ h hc hn).mono ?_
    rintro e w1 ⟨zs, a1, c1, rfl, hz, hO, hb⟩
    have hr := hO.rd
    go_wp2_with fail
    refine (implBlockValid_any a1 zs.length c1 zs _ hr (by omega)).mono ?_
    rintro e w' ⟨rfl, rfl⟩
    go_wp2_with fail
    refine (specBlockValid_any a1 zs.length c1 zs _ hr (by omega)).mono ?_
    rintro e w' ⟨rfl, rfl⟩
    by_cases hv : blockV zs = true
    · have hbig : blockV (zs ++ List.replicate 8 0) = false := big zs 8 (by have := (blockV_parts hv).2.1; omega)
      have HB := Lib.hid hbig
      have HV := Lib.hid hv
      have hbz := hb.size
      clear hbig h
      go_wp2_with (first
        | (at_builtin; refine wp_app_own (zs := []) (news := zs) rfl (.tmp 26) (.tmp 27) rfl rfl (OwnI.empty (Nat.le_refl _)) rfl (hO.alloc _) (by simp; omega) (by simp) ?_; intro a2 c2 w2 hO2 hG2; simp only [List.nil_append] at hO2; have hb2 : Below w1.heap.size w1 w2 := ((Below.refl _ _).alloc (Nat.le_refl _) _).grown hG2 (by simp) (by intro k hk; simp [Value.ownBlock] at hk; omega))
        | (at_builtin; refine wp_app_zeros (zs := zs) rfl (.tmp 28) (.const _) rfl rfl hO2 8 rfl (by omega) (by omega) hb2.size ?_; intro a3 c3 w3 hO3 hG3))
      have hb3 : Below w1.heap.size w1 w3 := hb2.grown hG3 hb2.size (fun k hk => (hO2.2.lt k hk).1)
      have hr3 : RdI w3 a3 (zs.length + 8) (zs ++ List.replicate 8 0) := by have := hO3.rd; rwa [List.length_append, List.length_replicate] at this
      have hrz := hr.below hb3
      have hb4 := hb.trans (hb3.mono hb.size)
      clear hG3 hG2 hb2 hO2 hO3 hb3 hbz
      go_wp2_with fail
      with_reducible refine (implBlockValid_any _ _ _ _ _ hr3 (by omega)).mono ?_
      rintro e w' ⟨rfl, rfl⟩
      rw [HB.out]
      by_cases h1 : zs.length = 1
      · have ht : ((zs.length : Int) == 1) = true := by simp [h1]
        go_wp2
        go_ret
        exact ⟨rfl, hb4⟩
      · have ht : ((zs.length : Int) == 1) = false := by rw [beq_eq_false_iff_ne]; omega
        have hp : 1 ≤ zs.length := (blockV_parts hv).2.1
        have hcap := hO.cap.1
        obtain ⟨g1, rfl, _, _⟩ := hO.head hp
        have hr4 : RdI w3 (some ⟨g1, 0, none⟩) (zs.length - 1) (zs.take (zs.length - 1)) := by
          have := (hrz.take (m := zs.length - 1) (by omega))
          exact this
        have hvt : Hid (blockV (zs.take (zs.length - 1)) = true) := Lib.hid (blockVd zs hv (by omega))
        clear hO hr h1
        go_wp2_with fail
        with_reducible refine (implBlockValid_any _ _ _ _ _ hr4 (by omega)).mono ?_
        rintro e w' ⟨rfl, rfl⟩
        rw [hvt.out]
        go_wp2
        go_ret
        exact ⟨rfl, hb4⟩

    · have hv' : blockV zs = false := by simpa using hv
      clear hv
      go_wp2
      go_ret
      exact ⟨rfl, hb⟩
  · go_enter Try.func7, Try.ntmps7
    go_wp2
    go_ret
    exact ⟨rfl, Below.refl _ _⟩

theorem bigF (zs : List Int) (k : Nat) (hk : 33 ≤ zs.length + k) : fileV (zs ++ List.replicate k 0) = false := by
  simp only [fileV, inB, List.length_append, List.length_replicate, Bool.and_eq_false_iff, decide_eq_false_iff_not]
  exact .inr (.inr (by omega))

theorem fileVd (zs : List Int) (h : fileV zs = true) (h1 : 1 ≤ zs.length) : fileV (zs.take (zs.length - 1)) = true := by
  simp only [fileV, inB, Bool.and_eq_true, decide_eq_true_eq] at h
  obtain ⟨h2, _, h4⟩ := h
  have h5 : allB (zs.take (zs.length - 1)) = true := by
    cases hx : allB (zs.take (zs.length - 1)) with
    | true => rfl
    | false => rw [allB_take hx] at h2; cases h2
  simp only [fileV, inB, h5, List.length_take, Bool.true_and, Bool.and_eq_true, decide_eq_true_eq]
  omega

set_option maxHeartbeats 1000000 in
theorem FnFilePart_walk (a : Option Addr) (n c : Nat) (w : World) (h : RdC w a n) (hc : n ≤ c) (hm : c ≤ maxLen) :
    Calls Try.prog 8 #[.slice a n c] w (Tr w) := by
  unfold maxLen at hm
  by_cases hn : n ≤ 1048576
  · go_enter Try.func8, Try.ntmps8
    go_wp2_with fail
    refine (DrawFileValid_any a n c _ h hc hn).mono ?_
    rintro e w1 ⟨zs, a1, c1, rfl, hz, hO, hb⟩
    have hr := hO.rd
    go_wp2_with fail
    refine (implFileValid_any a1 zs.length c1 zs _ hr (by omega)).mono ?_
    rintro e w' ⟨rfl, rfl⟩
    go_wp2_with fail
    refine (specFileValid_any a1 zs.length c1 zs _ hr (by omega)).mono ?_
    rintro e w' ⟨rfl, rfl⟩
    by_cases hv : fileV zs = true
    · have hbig : fileV (zs ++ List.replicate 33 0) = false := bigF zs 33 (by omega)
      have HB := Lib.hid hbig
      have HV := Lib.hid hv
      have hbz := hb.size
      clear hbig h
      go_wp2_with (first
        | (at_builtin; refine wp_app_own (zs := []) (news := zs) rfl (.tmp 26) (.tmp 27) rfl rfl (OwnI.empty (Nat.le_refl _)) rfl (hO.alloc _) (by simp; omega) (by simp) ?_; intro a2 c2 w2 hO2 hG2; simp only [List.nil_append] at hO2; have hb2 : Below w1.heap.size w1 w2 := ((Below.refl _ _).alloc (Nat.le_refl _) _).grown hG2 (by simp) (by intro k hk; simp [Value.ownBlock] at hk; omega))
        | (at_builtin; refine wp_app_zeros (zs := zs) rfl (.tmp 28) (.const _) rfl rfl hO2 33 rfl (by omega) (by omega) hb2.size ?_; intro a3 c3 w3 hO3 hG3))
      have hb3 : Below w1.heap.size w1 w3 := hb2.grown hG3 hb2.size (fun k hk => (hO2.2.lt k hk).1)
      have hr3 : RdI w3 a3 (zs.length + 33) (zs ++ List.replicate 33 0) := by have := hO3.rd; rwa [List.length_append, List.length_replicate] at this
      have hrz := hr.below hb3
      have hb4 := hb.trans (hb3.mono hb.size)
      clear hG3 hG2 hb2 hO2 hO3 hb3 hbz
      go_wp2_with fail
      with_reducible refine (implFileValid_any _ _ _ _ _ hr3 (by omega)).mono ?_
      rintro e w' ⟨rfl, rfl⟩
      rw [HB.out]
      by_cases h1 : zs.length = 0
      · have ht : ((zs.length : Int) == 0) = true := by simp [h1]
        go_wp2
        go_ret
        exact ⟨rfl, hb4⟩
      · have ht : ((zs.length : Int) == 0) = false := by rw [beq_eq_false_iff_ne]; omega
        have hp : 1 ≤ zs.length := by omega
        have hcap := hO.cap.1
        obtain ⟨g1, rfl, _, _⟩ := hO.head hp
        have hr4 : RdI w3 (some ⟨g1, 0, none⟩) (zs.length - 1) (zs.take (zs.length - 1)) := by
          have := (hrz.take (m := zs.length - 1) (by omega))
          exact this
        have hvt : Hid (fileV (zs.take (zs.length - 1)) = true) := Lib.hid (fileVd zs hv (by omega))
        clear hO hr h1
        go_wp2_with fail
        with_reducible refine (implFileValid_any _ _ _ _ _ hr4 (by omega)).mono ?_
        rintro e w' ⟨rfl, rfl⟩
        rw [hvt.out]
        go_wp2
        go_ret
        exact ⟨rfl, hb4⟩

    · have hv' : fileV zs = false := by simpa using hv
      clear hv
      go_wp2
      go_ret
      exact ⟨rfl, hb⟩
  · go_enter Try.func8, Try.ntmps8
    go_wp2
    go_ret
    exact ⟨rfl, Below.refl _ _⟩

end Go.Proofs.Ytbegmliglabpfaa
