/- Walk of FnStreamSize. -/
import Derived.Test.YtdjpaibjelfhnaaDrawPa
import Derived.Test.YtdjpaibjelfhnaaStream
import Derived.Test.YtdjpaibjelfhnaaTr
import Derived.IntWalk
import Derived.Deep.RegionHeld3
import Derived.Deep.RegionWith
namespace Go.Proofs.Ytdjpaibjelfhnaa
open Go.RowKit
set_option linter.unusedVariables false

theorem own_cases {w : World} {B : Nat} {a : Option Addr} {c L : Nat} {xs : List PV} (h : OwnR eltP w B a c xs) (hL : xs.length = L) : (a = none ∧ c = 0 ∧ L = 0) ∨ ∃ g, a = some ⟨g, 0, none⟩ := by
  rcases h.2 with ⟨h1, h0⟩ | ⟨g, cap, cur, hv, _⟩
  · injection h1 with e1 e2 e3
    exact .inl ⟨e1, e3, by omega⟩
  · injection hv with hv
    exact .inr ⟨g, hv⟩

set_option maxHeartbeats 1000000 in
theorem FnStreamSize_walk (a : Option Addr) (n c : Nat) (a' : Option Addr) (n' c' : Nat) (w : World) (h : RdC w a n) (hc : n ≤ c) (hm : c ≤ maxLen) (h' : RdC w a' n') (hc' : n' ≤ c') (hm' : c' ≤ maxLen) :
    Calls Try.prog 3 #[.slice a n c, .slice a' n' c'] w (Tr w) := by
  unfold maxLen at hm hm'
  by_cases hnn : n ≤ 1048576 ∧ n' ≤ 1048576
  · obtain ⟨hn, hn'⟩ := hnn
    have t1 : decide ((1048576 : Int) < (n : Int)) = false := by simp; omega
    have t2 : decide ((1048576 : Int) < (n' : Int)) = false := by simp; omega
    go_enter Try.func3, Try.ntmps3
    go_wp2_with fail
    with_reducible refine (DrawStreamSize_any a n c _ h hc hn).mono ?_
    rintro e w1 ⟨zs, a1, c1, rfl, hz, hsm, hO1, hb1⟩
    have hle : lenP zs ≤ 1000 := lenP_small hz hsm
    obtain ⟨L, hL⟩ : ∃ L, zs.length = L := ⟨_, rfl⟩
    have hR1 := hO1.rd
    have hcap := hO1.cap
    rw [hL] at hR1 hcap hz ⊢
    unfold maxLen at hcap
    clear hsm h
    go_wp2_with fail
    with_reducible refine (implStreamSize_any a1 L c1 zs _ hR1 (by omega) (by omega)).mono ?_
    rintro e w2 ⟨rfl, hb⟩
    have hR2 := hR1.below hb
    have hb2 := hb1.trans (hb.mono hb1.size)
    clear hb hR1 hb1
    go_wp2_with fail
    with_reducible refine (specStreamSize_any a1 L c1 zs _ hR2 (by omega) (by omega)).mono ?_
    rintro e w3 ⟨rfl, hb⟩
    have hR3 := hR2.below hb
    have hb3 := hb2.trans (hb.mono hb2.size)
    have hnn := lenP_nonneg zs
    obtain ⟨S, hS⟩ : ∃ S, lenP zs = S := ⟨_, rfl⟩
    rw [hS] at hle hnn ⊢
    have q1 : (S != S) = false := by simp
    obtain ⟨k, hk⟩ : ∃ k, n' % (L + 1) = k := ⟨_, rfl⟩
    have hkl : k ≤ L := by have := Nat.mod_lt n' (show 0 < L + 1 by omega); omega
    have ek : (n' : Int) % ((L : Int) + 1) = (k : Int) := by rw [← hk]; simp
    have hne : ¬ (L : Int) + 1 = 0 := by omega
    have HSS := Lib.hid hS
    clear hb hR2 hb2 hk hS
    obtain ⟨A, hA⟩ : ∃ A, lenP (zs.take k) = A := ⟨_, rfl⟩
    obtain ⟨B, hB⟩ : ∃ B, lenP (zs.drop k) = B := ⟨_, rfl⟩
    have hAB : A + B = S := by rw [← hA, ← hB, ← HSS.out]; exact lenP_split zs k
    have hA0 := lenP_nonneg (zs.take k)
    have hB0 := lenP_nonneg (zs.drop k)
    rw [hA] at hA0
    rw [hB] at hB0
    have sw : IntKind.i64.wrap (A + B) = A + B := IntWalk.i64_in _ (by omega)
    have q2 : (A + B == S) = true := by rw [hAB]; simp
    have hAle : A ≤ 1000 := by omega
    have hBle : B ≤ 1000 := by omega
    have HAB := Lib.hid hAB
    have HA := Lib.hid hA
    have HB := Lib.hid hB
    have hk0 : (0 : Int) ≤ (k : Int) := by omega
    have hk1 : (k : Int) ≤ (c1 : Int) := by omega
    have hk2 : (k : Int) ≤ (L : Int) := by omega
    have hk3 : (L : Int) ≤ (c1 : Int) := by omega
    have hk4 : k ≤ c1 := by omega
    have hS0 : decide ((0 : Int) ≤ S) = true := by simpa using hnn
    have hf := own_cases hO1 hL
    clear hAB hA hB
    rcases hf with ⟨rfl, rfl, rfl⟩ | ⟨gg, rfl⟩
    · obtain rfl : k = 0 := by omega
      have hz0 : zs = [] := List.length_eq_zero_iff.1 hL
      have K1 : ∀ W, Below w3.heap.size w3 W → Calls Try.prog 8 #[.slice none 0 0] W (RetB W (.int .i64 A)) := fun W hb => by
        have := implStreamSize_any none 0 0 [] W ⟨rfl, fun i hi => absurd hi (by omega)⟩ (by omega) (by decide)
        rwa [show lenP ([] : List PV) = A by rw [← HA.out, hz0]; rfl] at this
      have K2 : ∀ W, Below w3.heap.size w3 W → Calls Try.prog 8 #[.slice none 0 0] W (RetB W (.int .i64 B)) := fun W hb => by
        have := implStreamSize_any none 0 0 [] W ⟨rfl, fun i hi => absurd hi (by omega)⟩ (by omega) (by decide)
        rwa [show lenP ([] : List PV) = B by rw [← HB.out, hz0]; rfl] at this
      have hA1 : A = 0 := by rw [← HA.out, hz0]; rfl
      have hB1 : B = 0 := by rw [← HB.out, hz0]; rfl
      have hS1 : S = 0 := by rw [← HAB.out, hA1, hB1]; rfl
      subst hA1 hB1 hS1
      have s0 : IntKind.i64.wrap 0 = 0 := rfl
      go_wp2_with fail
      try rw [ek]
      go_region_held3 (fun w' => True) (trivial)
        (first
          | (go_at_call 8; refine (K2 _ ((show Below w3.heap.size w3 w3.drew from below_drewNP (Below.refl _ _) 1).trans hb4)).mono ?_; rintro e w5 ⟨rfl, hb5⟩)
          | (go_at_call 8; refine (K1 _ (below_drewNP (Below.refl _ _) 1)).mono ?_; rintro e w4 ⟨rfl, hb4⟩))
      have hb6 := ((show Below w3.heap.size w3 w3.drew from below_drewNP (Below.refl _ _) 1).trans hb4).trans (hb5.mono hb4.size)
      go_wp2
      go_ret
      exact ⟨rfl, hb3.trans (hb6.mono hb3.size)⟩
    · have K1 : ∀ W, Below w3.heap.size w3 W → Calls Try.prog 8 #[.slice (some ⟨gg, 0, none⟩) k c1] W (RetB W (.int .i64 A)) := fun W hb => by
        have := implStreamSize_any (some ⟨gg, 0, none⟩) k c1 _ W ((hR3.pre hkl).below hb) (by omega) (by rw [HA.out]; omega)
        rwa [HA.out] at this
      by_cases hkc : c1 = k
      · have K2 : ∀ W, Below w3.heap.size w3 W → Calls Try.prog 8 #[.slice (some ⟨gg, 0, none⟩) 0 0] W (RetB W (.int .i64 B)) := fun W hb => by
          have := implStreamSize_any (some ⟨gg, 0, none⟩) 0 0 [] W ⟨rfl, fun i hi => absurd hi (by omega)⟩ (by omega) (by decide)
          rwa [show lenP ([] : List PV) = B by rw [← HB.out, List.drop_of_length_le (by omega)]] at this
        obtain rfl : L = k := by omega
        obtain rfl : c1 = L := hkc
        go_wp2_with fail
        rw [ek]
        go_region_held3 (fun w' => True) (trivial)
          (first
            | (go_at_call_of 8 (Value.slice (some ⟨gg, 0, none⟩) 0 0); refine (K2 _ ((show Below w3.heap.size w3 w3.drew from below_drewNP (Below.refl _ _) 1).trans hb4)).mono ?_; rintro e w5 ⟨rfl, hb5⟩)
            | (go_at_call 8; refine (K1 _ (below_drewNP (Below.refl _ _) 1)).mono ?_; rintro e w4 ⟨rfl, hb4⟩))
        have hb6 := ((show Below w3.heap.size w3 w3.drew from below_drewNP (Below.refl _ _) 1).trans hb4).trans (hb5.mono hb4.size)
        go_wp2
        go_ret
        exact ⟨rfl, hb3.trans (hb6.mono hb3.size)⟩
      · have K2 : ∀ W, Below w3.heap.size w3 W → Calls Try.prog 8 #[.slice (some ⟨gg, k * 4, none⟩) (L - k) (c1 - k)] W (RetB W (.int .i64 B)) := fun W hb => by
          have h1 := hR3.suf hkl
          rw [Nat.zero_add] at h1
          have := implStreamSize_any (some ⟨gg, k * 4, none⟩) (L - k) (c1 - k) _ W (RdR.below h1 hb) (by omega) (by rw [HB.out]; omega)
          rwa [HB.out] at this
        have hkc2 : k < c1 := by omega
        have hkc3 : ¬ c1 = k := hkc
        go_wp2_with fail
        rw [ek]
        go_region_held3 (fun w' => True) (trivial)
          (first
            | (go_at_call_of 8 (Value.slice (some ⟨gg, 0, none⟩) k c1); refine (K1 _ (below_drewNP (Below.refl _ _) 1)).mono ?_; rintro e w4 ⟨rfl, hb4⟩)
            | (go_at_call_of 8 (Value.slice (some ⟨gg, k * 4, none⟩) (L - k) (c1 - k)); refine (K2 _ ((show Below w3.heap.size w3 w3.drew from below_drewNP (Below.refl _ _) 1).trans hb4)).mono ?_; rintro e w5 ⟨rfl, hb5⟩))
        have hb6 := ((show Below w3.heap.size w3 w3.drew from below_drewNP (Below.refl _ _) 1).trans hb4).trans (hb5.mono hb4.size)
        go_wp2
        go_ret
        exact ⟨rfl, hb3.trans (hb6.mono hb3.size)⟩
  · by_cases h1 : n ≤ 1048576
    · have t1 : decide ((1048576 : Int) < (n : Int)) = false := by simp; omega
      have t2 : decide ((1048576 : Int) < (n' : Int)) = true := by simp; omega
      go_enter Try.func3, Try.ntmps3
      go_wp2
      go_ret
      exact ⟨rfl, Below.refl _ _⟩
    · have t1 : decide ((1048576 : Int) < (n : Int)) = true := by simp; omega
      go_enter Try.func3, Try.ntmps3
      go_wp2
      go_ret
      exact ⟨rfl, Below.refl _ _⟩

end Go.Proofs.Ytdjpaibjelfhnaa
