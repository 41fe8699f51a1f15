/- Walk of FnStorePart. -/
import Derived.Test.YtkjimngpodhdbaaDrawH2
import Derived.Test.YtkjimngpodhdbaaPlainChain
import Derived.Test.YtkjimngpodhdbaaNews
import Derived.Test.YtkjimngpodhdbaaTr
import Derived.Deep.RegionHeld3
import Derived.IntWalk
namespace Go.Proofs.Ytkjimngpodhdbaa
open Go.RowKit
set_option linter.unusedVariables false

set_option maxHeartbeats 4000000 in
theorem FnStorePart_walk (a : Option Addr) (n c : Nat) (a' : Option Addr) (n' c' : Nat) (w : World) (h : RdC w a n) (hc : n ≤ c) (hm : c ≤ maxLen) (h' : RdC w a' n') (hc' : n' ≤ c') (hm' : c' ≤ maxLen) :
    Calls Try.prog 4 #[.slice a n c, .slice a' n' c'] w (Tr w) := by
  unfold maxLen at hm hm'
  by_cases hnn : n ≤ 1048576 ∧ n' ≤ 1048576
  · obtain ⟨hn, hn'⟩ := hnn
    have t1 : decide ((1048576 : Int) < (n : Int)) = false := by simp; omega
    have t2 : decide ((1048576 : Int) < (n' : Int)) = false := by simp; omega
    go_enter Try.func4, Try.ntmps4
    go_wp2_with fail
    with_reducible refine (DrawStoreValid_any a n c _ h hc hn).mono ?_
    rintro e w1 ⟨zs, a1, c1, rfl, hz, hsm, hO1, hI1, hb1⟩
    have HSM : Hid (∀ x ∈ zs, x.zs.length ≤ 8) := Lib.hid hsm
    clear hsm
    go_wp2_with fail
    with_reducible refine (implSH_any a1 zs.length c1 zs _ hO1.rd hI1 (fun x hx => by have := HSM.out x hx; omega) hO1.cap).mono ?_
    rintro e w2 ⟨rfl, hb⟩
    have hO2 := hO1.below hb
    have hb2 := hb1.trans (hb.mono hb1.size)
    have hI2 := hI1.below hb
    clear hb hO1 hb1 hI1 h
    go_wp2_with fail
    with_reducible refine (specSH_any a1 zs.length c1 zs _ hO2.rd hI2 (fun x hx => by have := HSM.out x hx; omega) (by omega)).mono ?_
    rintro e w3 ⟨rfl, hb⟩
    have hO3 := hO2.below hb
    have hb3 := hb2.trans (hb.mono hb2.size)
    have HI3 := Lib.hid (hI2.below hb)
    clear hb hO2 hb2 hI2
    have q1 : (storeHV zs != storeHV zs) = false := by simp
    have q3 : (storeHV zs == storeHV zs) = true := by simp
    by_cases hv : storeHV zs = true
    · rw [hv]
      have HVa := Lib.hid hv
      clear q1 q3 hv
      by_cases hz0 : zs.length = 0
      · have e0 : ((zs.length : Int) == 0) = true := by rw [beq_iff_eq]; omega
        clear hz0
        go_wp2
        go_ret
        exact ⟨rfl, hb3⟩
      · have e0 : ((zs.length : Int) == 0) = false := by rw [beq_eq_false_iff_ne]; omega
        obtain ⟨k, hk⟩ : ∃ k, n' % zs.length = k := ⟨_, rfl⟩
        have hkl : k < zs.length := by rw [← hk]; exact Nat.mod_lt _ (by omega)
        have ek : (n' : Int) % (zs.length : Int) = (k : Int) := by rw [← hk]; simp
        have hne : ¬ (zs.length : Int) = 0 := by omega
        obtain ⟨g1, rfl, hBg, hgs⟩ := hO3.head (by omega)
        have hrd := hO3.rd
        have hcap := hO3.cap.1
        clear hk
        go_wp2_with fail
        rw [ek]
        have hk0 : (0 : Int) ≤ (k : Int) := by omega
        have hk1 : (k : Int) < (zs.length : Int) := by omega
        have hk2 : (0 : Int) ≤ (k : Int) + 1 := by omega
        have hk3 : (k : Int) + 1 ≤ (zs.length : Int) := by omega
        have hk4 : (zs.length : Int) ≤ (c1 : Int) := by omega
        have hk5 : (k : Int) ≤ (c1 : Int) := by omega
        have s1 : IntKind.i64.wrap ((k : Int) + 1) = (k : Int) + 1 := IntWalk.i64_in _ (by omega)
        have s2 : ((k : Int) + 1).toNat = k + 1 := by omega
        have HA := Lib.hid (fun (W' : World) (hb : Below w3.heap.size w3 W') => hrd.news0 (m := k) (by omega) hb)
        have HB := Lib.hid (fun (W' : World) (hb : Below w3.heap.size w3 W') => (by have := hrd.news (k := k + 1) (m := zs.length - (k + 1)) (by omega) hb; rw [Nat.zero_add] at this; exact this : ∀ j u, (eltH.flat ((zs.drop (k + 1)).take (zs.length - (k + 1))))[j]? = some u → W'.cell? ((⟨g1, (k + 1) * 3, none⟩ : Addr).add j) = some u))
        have hLA : ([] ++ zs.take k : List (HV)).length = 0 + k := by rw [List.nil_append, List.length_take]; omega
        have HLA := Lib.hid hLA
        clear hLA
        by_cases hcp : c1 = k + 1
        · have hzl : zs.length = k + 1 := by omega
          have HD : Hid (zs.drop (k + 1) = []) := Lib.hid (by rw [List.drop_of_length_le (by omega)])
          have HZL := Lib.hid hzl
          subst hcp
          clear hzl
          have hz4 : (zs.length : Int) ≤ (k : Int) + 1 := by omega
          have hz5 : (k : Int) ≤ (k : Int) + 1 := by omega
          have hck : ¬ k + 1 = k := by omega
          go_region_held3 (fun w' => True) (trivial)
            (first
              | (refine step_appR eltH (by rfl) _ _ (by rfl) (zs := []) (L := 0) rfl (by rfl) (OwnR.empty eltH (Nat.le_refl _)) ⟨g1, 0, none⟩ k (k + 1) (zs.take k) (by rfl) (by rw [List.length_take]; omega) (by exact HA.out _ (((Below.refl _ _).alloc (Nat.le_refl _) _).drew)) (by omega) (by simp) ?_; intro a6 c6 w6 hO6 hG6)
              | (refine step_appR eltH (by rfl) _ _ (by rfl) (zs := [] ++ zs.take k) (L := 0 + k) (by rw [List.nil_append, List.length_take]; omega) (by rfl) hO6 ⟨g1, 0, none⟩ 0 0 [] (by rfl) rfl (by intro j u h; cases h) (by omega) (belowEmptyR hG6).size ?_; intro a7 c7 w7 hO7 hG7))
          have hb6 := belowEmptyR hG6
          have hb7 := hb6.grown hG7 hb6.size (by rw [← HLA.out]; exact fun r hr => (hO6.lt r hr).1)
          rw [List.nil_append, ← HD.out] at hO7
          have hb37 := hb3.trans (hb7.mono hb3.size)
          have HI7 := Lib.hid (HI3.out.below hb7)
          have hX := Lib.hid hO7
          clear hO6 hG6 hG7 hb6 hO7
          have HA2 := Lib.hid (fun (W' : World) (hb : Below w7.heap.size w7 W') => (hrd.below hb7).news0 (m := k + 1) (by omega) hb)
          have HB2 := Lib.hid (fun (W' : World) (hb : Below w7.heap.size w7 W') => (by have := (hrd.below hb7).news (k := k) (m := zs.length - k) (by omega) hb; rw [Nat.zero_add] at this; exact this : ∀ j u, (eltH.flat ((zs.drop k).take (zs.length - k)))[j]? = some u → W'.cell? ((⟨g1, k * 3, none⟩ : Addr).add j) = some u))
          have hLA2 : ([] ++ zs.take (k + 1) : List (HV)).length = 0 + (k + 1) := by rw [List.nil_append, List.length_take]; omega
          have HLA2 := Lib.hid hLA2
          have hk6 : (k : Int) ≤ (zs.length : Int) := by omega
          have hk7 : (k : Int) + 1 ≤ ((k + 1 : Nat) : Int) := by omega
          clear hLA2
          go_wp2_with fail
          go_region_held3 (fun w' => True) (trivial)
            (first
              | (refine step_appR eltH (by rfl) _ _ (by rfl) (zs := []) (L := 0) rfl (by rfl) (OwnR.empty eltH (Nat.le_refl _)) ⟨g1, 0, none⟩ (k + 1) (k + 1) (zs.take (k + 1)) (by rfl) (by rw [List.length_take]; omega) (by exact HA2.out _ (((Below.refl _ _).alloc (Nat.le_refl _) _).drew)) (by omega) (by simp) ?_; intro a8 c8 w8 hO8 hG8)
              | (refine step_appR eltH (by rfl) _ _ (by rfl) (zs := [] ++ zs.take (k + 1)) (L := 0 + (k + 1)) (by rw [List.nil_append, List.length_take]; omega) (by rfl) hO8 ⟨g1, k * 3, none⟩ (zs.length - k) 1 ((zs.drop k).take (zs.length - k)) (by rfl) (by rw [List.length_take, List.length_drop]; omega) (by exact HB2.out _ (belowEmptyR hG8)) (by omega) (belowEmptyR hG8).size ?_; intro a9 c9 w9 hO9 hG9))
          have hb8 := belowEmptyR hG8
          have hb9 := hb8.grown hG9 hb8.size (by rw [← HLA2.out]; exact fun r hr => (hO8.lt r hr).1)
          rw [List.nil_append, List.take_of_length_le (l := zs.drop k) (by rw [List.length_drop]; omega)] at hO9
          have hb39 := hb37.trans (hb9.mono hb37.size)
          have HI9 := Lib.hid (HI7.out.below hb9)
          have hX9 := hX.out.below hb9
          clear hO8 hG8 hG9 hb8 hX
          have hzl := HZL.out
          have hR7 : RdR eltH w9 a7 (k) (zs.take k ++ zs.drop (k + 1)) := by
            have := hX9.rd
            rwa [show (zs.take k ++ zs.drop (k + 1)).length = k by rw [List.length_append, List.length_take, List.length_drop]; omega] at this
          have hR9 : RdR eltH w9 a9 (k + 1 + (zs.length - k)) (zs.take (k + 1) ++ zs.drop k) := by
            have := hO9.rd
            rwa [show (zs.take (k + 1) ++ zs.drop k).length = k + 1 + (zs.length - k) by rw [List.length_append, List.length_take, List.length_drop]; omega] at this
          have HX1 := Lib.hid (show storeHV (zs.take k ++ zs.drop (k + 1)) = true from storeH_less HVa.out k)
          have HX2 := Lib.hid (show storeHV (zs.take (k + 1) ++ zs.drop k) = false from storeH_twice hkl)
          have hcp7 : k ≤ c7 ∧ c7 ≤ maxLen := by
            have := hX9.cap
            rwa [show (zs.take k ++ zs.drop (k + 1)).length = k by rw [List.length_append, List.length_take, List.length_drop]; omega] at this
          have hcp9 : k + 1 + (zs.length - k) ≤ c9 ∧ c9 ≤ maxLen := by
            have := hO9.cap
            rwa [show (zs.take (k + 1) ++ zs.drop k).length = k + 1 + (zs.length - k) by rw [List.length_append, List.length_take, List.length_drop]; omega] at this
          clear hzl
          clear hX9 hO9 hb9
          go_wp2_with fail
          with_reducible refine (implSH_any a7 _ c7 _ _ hR7 (HI9.out.sub fun x hx => mem_less hx) (fun x hx => by have := HSM.out x (mem_less hx); omega) hcp7).mono ?_
          rintro e wX ⟨rfl, hb⟩
          have hR9' := hR9.below hb
          have hbX := hb39.trans (hb.mono hb39.size)
          rw [HX1.out]
          have HIX := Lib.hid (HI9.out.below hb)
          clear hb hR9
          go_wp2_with fail
          with_reducible refine (implSH_any a9 _ c9 _ _ hR9' (HIX.out.sub fun x hx => mem_twice hx) (fun x hx => by have := HSM.out x (mem_twice hx); omega) hcp9).mono ?_
          rintro e wY ⟨rfl, hb⟩
          have hbY := hbX.trans (hb.mono hbX.size)
          rw [HX2.out]
          clear hb
          go_wp2
          go_ret
          exact ⟨rfl, hbY⟩
        · have hcp' : k + 1 < c1 := by omega
          have hck : ¬ c1 = k := by omega
          go_region_held3 (fun w' => True) (trivial)
            (first
              | (refine step_appR eltH (by rfl) _ _ (by rfl) (zs := []) (L := 0) rfl (by rfl) (OwnR.empty eltH (Nat.le_refl _)) ⟨g1, 0, none⟩ k c1 (zs.take k) (by rfl) (by rw [List.length_take]; omega) (by exact HA.out _ (((Below.refl _ _).alloc (Nat.le_refl _) _).drew)) (by omega) (by simp) ?_; intro a6 c6 w6 hO6 hG6)
              | (refine step_appR eltH (by rfl) _ _ (by rfl) (zs := [] ++ zs.take k) (L := 0 + k) (by rw [List.nil_append, List.length_take]; omega) (by rfl) hO6 ⟨g1, (k + 1) * 3, none⟩ (zs.length - (k + 1)) (c1 - (k + 1)) ((zs.drop (k + 1)).take (zs.length - (k + 1))) (by rfl) (by rw [List.length_take, List.length_drop]; omega) (by exact HB.out _ (belowEmptyR hG6)) (by omega) (belowEmptyR hG6).size ?_; intro a7 c7 w7 hO7 hG7))
          have hb6 := belowEmptyR hG6
          have hb7 := hb6.grown hG7 hb6.size (by rw [← HLA.out]; exact fun r hr => (hO6.lt r hr).1)
          rw [List.nil_append, List.take_of_length_le (l := zs.drop (k + 1)) (by rw [List.length_drop]; omega)] at hO7
          have hb37 := hb3.trans (hb7.mono hb3.size)
          have HI7 := Lib.hid (HI3.out.below hb7)
          have hX := Lib.hid hO7
          clear hO6 hG6 hG7 hb6 hO7
          have HA2 := Lib.hid (fun (W' : World) (hb : Below w7.heap.size w7 W') => (hrd.below hb7).news0 (m := k + 1) (by omega) hb)
          have HB2 := Lib.hid (fun (W' : World) (hb : Below w7.heap.size w7 W') => (by have := (hrd.below hb7).news (k := k) (m := zs.length - k) (by omega) hb; rw [Nat.zero_add] at this; exact this : ∀ j u, (eltH.flat ((zs.drop k).take (zs.length - k)))[j]? = some u → W'.cell? ((⟨g1, k * 3, none⟩ : Addr).add j) = some u))
          have hLA2 : ([] ++ zs.take (k + 1) : List (HV)).length = 0 + (k + 1) := by rw [List.nil_append, List.length_take]; omega
          have HLA2 := Lib.hid hLA2
          have hk6 : (k : Int) ≤ (zs.length : Int) := by omega
          have hk7 : (k : Int) + 1 ≤ (c1 : Int) := by omega
          clear hLA2
          go_wp2_with fail
          go_region_held3 (fun w' => True) (trivial)
            (first
              | (refine step_appR eltH (by rfl) _ _ (by rfl) (zs := []) (L := 0) rfl (by rfl) (OwnR.empty eltH (Nat.le_refl _)) ⟨g1, 0, none⟩ (k + 1) c1 (zs.take (k + 1)) (by rfl) (by rw [List.length_take]; omega) (by exact HA2.out _ (((Below.refl _ _).alloc (Nat.le_refl _) _).drew)) (by omega) (by simp) ?_; intro a8 c8 w8 hO8 hG8)
              | (refine step_appR eltH (by rfl) _ _ (by rfl) (zs := [] ++ zs.take (k + 1)) (L := 0 + (k + 1)) (by rw [List.nil_append, List.length_take]; omega) (by rfl) hO8 ⟨g1, k * 3, none⟩ (zs.length - k) (c1 - k) ((zs.drop k).take (zs.length - k)) (by rfl) (by rw [List.length_take, List.length_drop]; omega) (by exact HB2.out _ (belowEmptyR hG8)) (by omega) (belowEmptyR hG8).size ?_; intro a9 c9 w9 hO9 hG9))
          have hb8 := belowEmptyR hG8
          have hb9 := hb8.grown hG9 hb8.size (by rw [← HLA2.out]; exact fun r hr => (hO8.lt r hr).1)
          rw [List.nil_append, List.take_of_length_le (l := zs.drop k) (by rw [List.length_drop]; omega)] at hO9
          have hb39 := hb37.trans (hb9.mono hb37.size)
          have HI9 := Lib.hid (HI7.out.below hb9)
          have hX9 := hX.out.below hb9
          clear hO8 hG8 hG9 hb8 hX
          have hR7 : RdR eltH w9 a7 (k + (zs.length - (k + 1))) (zs.take k ++ zs.drop (k + 1)) := by
            have := hX9.rd
            rwa [show (zs.take k ++ zs.drop (k + 1)).length = k + (zs.length - (k + 1)) by rw [List.length_append, List.length_take, List.length_drop]; omega] at this
          have hR9 : RdR eltH w9 a9 (k + 1 + (zs.length - k)) (zs.take (k + 1) ++ zs.drop k) := by
            have := hO9.rd
            rwa [show (zs.take (k + 1) ++ zs.drop k).length = k + 1 + (zs.length - k) by rw [List.length_append, List.length_take, List.length_drop]; omega] at this
          have HX1 := Lib.hid (show storeHV (zs.take k ++ zs.drop (k + 1)) = true from storeH_less HVa.out k)
          have HX2 := Lib.hid (show storeHV (zs.take (k + 1) ++ zs.drop k) = false from storeH_twice hkl)
          have hcp7 : k + (zs.length - (k + 1)) ≤ c7 ∧ c7 ≤ maxLen := by
            have := hX9.cap
            rwa [show (zs.take k ++ zs.drop (k + 1)).length = k + (zs.length - (k + 1)) by rw [List.length_append, List.length_take, List.length_drop]; omega] at this
          have hcp9 : k + 1 + (zs.length - k) ≤ c9 ∧ c9 ≤ maxLen := by
            have := hO9.cap
            rwa [show (zs.take (k + 1) ++ zs.drop k).length = k + 1 + (zs.length - k) by rw [List.length_append, List.length_take, List.length_drop]; omega] at this
          clear hX9 hO9 hb9
          go_wp2_with fail
          with_reducible refine (implSH_any a7 _ c7 _ _ hR7 (HI9.out.sub fun x hx => mem_less hx) (fun x hx => by have := HSM.out x (mem_less hx); omega) hcp7).mono ?_
          rintro e wX ⟨rfl, hb⟩
          have hR9' := hR9.below hb
          have hbX := hb39.trans (hb.mono hb39.size)
          rw [HX1.out]
          have HIX := Lib.hid (HI9.out.below hb)
          clear hb hR9
          go_wp2_with fail
          with_reducible refine (implSH_any a9 _ c9 _ _ hR9' (HIX.out.sub fun x hx => mem_twice hx) (fun x hx => by have := HSM.out x (mem_twice hx); omega) hcp9).mono ?_
          rintro e wY ⟨rfl, hb⟩
          have hbY := hbX.trans (hb.mono hbX.size)
          rw [HX2.out]
          clear hb
          go_wp2
          go_ret
          exact ⟨rfl, hbY⟩
    · have hv' : storeHV zs = false := by simpa using hv
      rw [hv']
      clear hv hv' q1 q3
      go_wp2
      go_ret
      exact ⟨rfl, hb3⟩
  · by_cases h1 : n ≤ 1048576
    · have t1 : decide ((1048576 : Int) < (n : Int)) = false := by simp; omega
      have t2 : decide ((1048576 : Int) < (n' : Int)) = true := by simp; omega
      go_enter Try.func4, Try.ntmps4
      go_wp2
      go_ret
      exact ⟨rfl, Below.refl _ _⟩
    · have t1 : decide ((1048576 : Int) < (n : Int)) = true := by simp; omega
      go_enter Try.func4, Try.ntmps4
      go_wp2
      go_ret
      exact ⟨rfl, Below.refl _ _⟩

end Go.Proofs.Ytkjimngpodhdbaa
