/- Plain law: a changed byte, or an exchange of neighbours, changes the sum; and the walks of FnSum and FnSumSwap. -/
import Derived.Test.YtbegmliglabpfaaPart
import Derived.BigQuiet
import Derived.Deep.QuietTactic
namespace Go.Proofs.Ytbegmliglabpfaa
open Go.RowKit
set_option linter.unusedVariables false

def stp (s b : Int) : Int := (263 * s + b) % 9973

theorem stp_bd (s b : Int) : 0 ≤ stp s b ∧ stp s b < 9973 := by unfold stp; omega

theorem fold_ne (l : List Int) : ∀ s s' : Int, 0 ≤ s → s < 9973 → 0 ≤ s' → s' < 9973 → s ≠ s' → l.foldl stp s ≠ l.foldl stp s' := by
  induction l with
  | nil => intro s s' _ _ _ _ h; exact h
  | cons b l ih =>
    intro s s' h0 h1 h2 h3 h
    simp only [List.foldl_cons]
    exact ih _ _ (stp_bd s b).1 (stp_bd s b).2 (stp_bd s' b).1 (stp_bd s' b).2 (by unfold stp; omega)

theorem sumL_eq (zs : List Int) : sumL zs = zs.foldl stp 7 := rfl

theorem split1 (zs : List Int) (k : Nat) (hk : k < zs.length) : zs = zs.take k ++ zs.getD k 0 :: zs.drop (k + 1) := by
  have e : zs.getD k 0 = zs[k] := by simp [List.getD, hk]
  rw [e, List.getElem_cons_drop, List.take_append_drop]

theorem set1 (zs : List Int) (k : Nat) (hk : k < zs.length) (v : Int) : zs.set k v = zs.take k ++ v :: zs.drop (k + 1) := by
  rw [List.set_eq_take_append_cons_drop, if_pos hk]

theorem sum_set (zs : List Int) (k : Nat) (hk : k < zs.length) (v : Int) (h0 : -9000 ≤ v - zs.getD k 0) (h1 : v - zs.getD k 0 ≤ 9000) (h2 : v ≠ zs.getD k 0) : sumL (zs.set k v) ≠ sumL zs := by
  rw [set1 zs k hk v]
  conv => rhs; rw [split1 zs k hk]
  rw [sumL_eq, sumL_eq, List.foldl_append, List.foldl_append, List.foldl_cons, List.foldl_cons]
  exact fold_ne _ _ _ (stp_bd _ _).1 (stp_bd _ _).2 (stp_bd _ _).1 (stp_bd _ _).2 (by unfold stp; omega)

theorem sum_swap (zs : List Int) (k : Nat) (hk : k + 1 < zs.length) (h0 : -9000 ≤ zs.getD (k + 1) 0 - zs.getD k 0) (h1 : zs.getD (k + 1) 0 - zs.getD k 0 ≤ 9000) (h2 : zs.getD k 0 ≠ zs.getD (k + 1) 0) :
    sumL ((zs.set k (zs.getD (k + 1) 0)).set (k + 1) (zs.getD k 0)) ≠ sumL zs := by
  have e1 : zs = zs.take k ++ zs.getD k 0 :: zs.getD (k + 1) 0 :: zs.drop (k + 2) := by
    have e : zs.getD (k + 1) 0 = zs[k + 1] := by simp [List.getD, hk]
    rw [e, List.getElem_cons_drop]
    exact split1 zs k (by omega)
  have e2 : (zs.set k (zs.getD (k + 1) 0)).set (k + 1) (zs.getD k 0) = zs.take k ++ zs.getD (k + 1) 0 :: zs.getD k 0 :: zs.drop (k + 2) := by
    generalize zs.getD k 0 = x at *
    generalize zs.getD (k + 1) 0 = y at *
    have hl : (zs.take k).length = k := by simp; omega
    generalize zs.take k = A at *
    generalize zs.drop (k + 2) = C at *
    subst e1
    subst hl
    simp
  rw [e2]
  conv => rhs; rw [e1]
  rw [sumL_eq, sumL_eq, List.foldl_append, List.foldl_append, List.foldl_cons, List.foldl_cons, List.foldl_cons, List.foldl_cons]
  exact fold_ne _ _ _ (stp_bd _ _).1 (stp_bd _ _).2 (stp_bd _ _).1 (stp_bd _ _).2 (by unfold stp; omega)

theorem allB_set {zs : List Int} (h : allB zs = true) (k : Nat) (v : Int) (h0 : 0 ≤ v) (h1 : v ≤ 255) : allB (zs.set k v) = true := by
  simp only [allB, List.all_eq_true] at *
  intro z hz
  rcases List.mem_or_eq_of_mem_set hz with h' | rfl
  · exact h z h'
  · exact inB_byte.2 ⟨h0, h1⟩

theorem blockV_of {zs zs' : List Int} (h : blockV zs = true) (h' : allB zs' = true) (hl : zs'.length = zs.length) : blockV zs' = true := by
  obtain ⟨_, h3, h4⟩ := blockV_parts h
  simp only [blockV, inB, h', hl, Bool.true_and, Bool.and_eq_true, decide_eq_true_eq]
  omega

theorem blockSum_ok {zs : List Int} (h : blockV zs = true) : blockSum zs = sumL zs := by simp [blockSum, h]

set_option maxHeartbeats 1000000 in
theorem FnSum_walk (a : Option Addr) (n c : Nat) (a' : Option Addr) (n' c' : Nat) (w : World) (h : RdC w a n) (hc : n ≤ c) (hm : c ≤ maxLen) (h' : RdC w a' n') (hc' : n' ≤ c') (hm' : c' ≤ maxLen) :
    Calls Try.prog 9 #[.slice a n c, .slice a' n' c'] w (Tr w) := by
  unfold maxLen at hm hm'
  by_cases hn : n ≤ 1048576
  · by_cases hn' : n' ≤ 1048576
    · go_enter Try.func9, Try.ntmps9
      go_wp2_with fail
      with_reducible refine (DrawBlockSum_any a n c _ h hc hn).mono ?_
      rintro e w1 ⟨zs, a1, c1, rfl, hz, hO, hb⟩
      have hr := hO.rd
      go_wp2_with fail
      with_reducible refine (implBlockSum_any a1 zs.length c1 zs _ hr (by omega)).mono ?_
      rintro e w' ⟨rfl, rfl⟩
      go_wp2_with fail
      with_reducible refine (specBlockSum_any a1 zs.length c1 zs _ hr (by omega)).mono ?_
      rintro e w' ⟨rfl, rfl⟩
      by_cases hv : blockV zs = true
      · have hs := blockSum_ok hv
        have hsb := sumL_bd zs
        rw [hs]
        have hp := (blockV_parts hv).2.1
        have hall := Lib.hid (blockV_parts hv).1
        have HV := Lib.hid hv
        obtain ⟨S, hS⟩ : ∃ S, S = sumL zs := ⟨_, rfl⟩
        rw [← hS] at hsb ⊢
        obtain ⟨hs0, hs1⟩ := hsb
        have HS := Lib.hid hS
        have ht1 : (S != S) = false := by simp
        clear hS hs hv h h'
        have hp1 : (1 : Int) ≤ (zs.length : Int) := by omega
        have hkl : n' % zs.length < zs.length := Nat.mod_lt _ (by omega)
        go_wp2_with (at_builtin; refine wp_app_own (zs := []) (news := zs) rfl (.tmp 39) (.tmp 40) rfl rfl (OwnI.empty (Nat.le_refl _)) rfl (hO.alloc _) (by simp; omega) (by simp) ?_; intro a2 c2 w2 hO2 hG2; simp only [List.nil_append] at hO2; obtain ⟨g2, rfl, hg2, _⟩ := hO2.head hp; have hold := (hO2.2.cellAt (n' % zs.length) (by omega)).trans (getElem?_ints zs (n' % zs.length) (by omega)); have hfr := hO2.2.frozenAt (n' % zs.length); obtain ⟨x, hx⟩ : ∃ x, x = zs.getD (n' % zs.length) 0 := ⟨_, rfl⟩; rw [← hx] at hold; have hxb := allB_at hall.out hkl; rw [← hx] at hxb; obtain ⟨hx0, hx1⟩ := hxb; have HX := Lib.hid hx; clear hx)
        all_goals have hb2 : Below w.heap.size w w2 := hb.trans ((((Below.refl _ _).alloc (Nat.le_refl _) _).grown hG2 (by simp) (by intro k hk; simp [Value.ownBlock] at hk; omega)).mono hb.size)
        · have hx255 : (x == 255) = true := by assumption
          have hx255 : x = 255 := by simpa using hx255
          have hst := hO2.set (n' % zs.length) 254 (by omega) (by omega)
          have hr3 := hst.1.rd
          rw [List.length_set] at hr3
          have hal : allB (zs.set (n' % zs.length) 254) = true := allB_set hall.out _ _ (by omega) (by omega)
          have hne : Hid ((sumL (zs.set (n' % zs.length) 254) != S) = true) := Lib.hid (by
            rw [HS.out, bne_iff_ne]
            exact sum_set zs _ hkl 254 (by rw [← HX.out]; omega) (by rw [← HX.out]; omega) (by rw [← HX.out]; omega))
          have hbs : Hid (blockSum (zs.set (n' % zs.length) 254) = sumL (zs.set (n' % zs.length) 254)) := Lib.hid (blockSum_ok (blockV_of HV.out hal (by simp)))
          have hb3 : Below w.heap.size w (w2.setCell ⟨g2, n' % zs.length, none⟩ (.int .i64 254)) := hb2.setCell (Nat.le_trans hb.size hg2) _
          clear hst hal hO hO2 hold hfr hr hG2 hx255
          with_reducible refine (implBlockSum_any _ _ _ _ _ hr3 (by omega)).mono ?_
          rintro e w' ⟨rfl, rfl⟩
          rw [hbs.out]
          have hne := hne.out
          go_wp2
          go_ret
          exact ⟨rfl, hb3⟩
        · have hx255 : (x == 255) = false := by assumption
          have hx255 : x ≠ 255 := by simpa using hx255
          have hst := hO2.set (n' % zs.length) (x + 1) (by omega) (by omega)
          have hr3 := hst.1.rd
          rw [List.length_set] at hr3
          have hal : allB (zs.set (n' % zs.length) (x + 1)) = true := allB_set hall.out _ _ (by omega) (by omega)
          have hne : Hid ((sumL (zs.set (n' % zs.length) (x + 1)) != S) = true) := Lib.hid (by
            rw [HS.out, bne_iff_ne]
            exact sum_set zs _ hkl (x + 1) (by rw [← HX.out]; omega) (by rw [← HX.out]; omega) (by rw [← HX.out]; omega))
          have hbs : Hid (blockSum (zs.set (n' % zs.length) (x + 1)) = sumL (zs.set (n' % zs.length) (x + 1))) := Lib.hid (blockSum_ok (blockV_of HV.out hal (by simp)))
          have hb3 : Below w.heap.size w (w2.setCell ⟨g2, n' % zs.length, none⟩ (.int .i64 (x + 1))) := hb2.setCell (Nat.le_trans hb.size hg2) _
          clear hst hal hO hO2 hold hfr hr hG2 hx255
          with_reducible refine (implBlockSum_any _ _ _ _ _ hr3 (by omega)).mono ?_
          rintro e w' ⟨rfl, rfl⟩
          rw [hbs.out]
          have hne := hne.out
          go_wp2
          go_ret
          exact ⟨rfl, hb3⟩
      · have hs : blockSum zs = -1 := by simp [blockSum, hv]
        rw [hs]
        clear hs hv
        go_wp2
        go_ret
        exact ⟨rfl, hb⟩
    · go_enter Try.func9, Try.ntmps9
      go_wp2
      go_ret
      exact ⟨rfl, Below.refl _ _⟩
  · go_enter Try.func9, Try.ntmps9
    go_wp2
    go_ret
    exact ⟨rfl, Below.refl _ _⟩

theorem RdI.drewN {w : World} {a : Option Addr} {n : Nat} {zs : List Int} (h : RdI w a n zs) (k : Nat) : RdI (w.drewN k) a n zs := h

theorem app_facts {wq w2 : World} {a2 : Option Addr} {c2 b off kk : Nat} {zs : List Int} {x y : Int} (hO2 : OwnI w2 wq.heap.size a2 c2 zs)
    (hG2 : (wq.alloc (.cells #[] 3)).grownBy w2 (Value.slice (some ⟨wq.heap.size, 0, none⟩) ([] : List Int).length 0).ownBlock)
    (hkl : kk + 1 < zs.length) (hltq : b < wq.heap.size) (hcxq : wq.cell? ⟨b, off + kk, none⟩ = some (.int .i64 x)) (hcyq : wq.cell? ⟨b, off + (kk + 1), none⟩ = some (.int .i64 y)) :
    ∃ g2, a2 = some ⟨g2, 0, none⟩ ∧ ¬ b = g2 ∧ wq.heap.size ≤ g2 ∧ w2.cell? ⟨g2, kk, none⟩ = some (.int .i64 (zs.getD kk 0)) ∧ w2.frozen? ⟨g2, kk, none⟩ = false ∧
      w2.cell? ⟨g2, kk + 1, none⟩ = some (.int .i64 (zs.getD (kk + 1) 0)) ∧ w2.frozen? ⟨g2, kk + 1, none⟩ = false ∧ Below wq.heap.size wq w2 ∧
      w2.cell? ⟨b, off + kk, none⟩ = some (.int .i64 x) ∧ w2.cell? ⟨b, off + (kk + 1), none⟩ = some (.int .i64 y) := by
  have hbw : Below wq.heap.size wq w2 := (((Below.refl _ _).alloc (Nat.le_refl _) _).grown hG2 (by simp) (by intro k hk; simp [Value.ownBlock] at hk; omega))
  obtain ⟨g2, rfl, hg2, _⟩ := hO2.head (by omega)
  exact ⟨g2, rfl, by omega, hg2, (hO2.2.cellAt kk (by omega)).trans (getElem?_ints zs kk (by omega)), hO2.2.frozenAt kk, (hO2.2.cellAt (kk + 1) (by omega)).trans (getElem?_ints zs (kk + 1) (by omega)), hO2.2.frozenAt (kk + 1), hbw,
    (hbw.cell (p := ⟨b, off + kk, none⟩) hltq).trans hcxq, (hbw.cell (p := ⟨b, off + (kk + 1), none⟩) hltq).trans hcyq⟩

set_option maxHeartbeats 1600000 in
theorem FnSumSwap_walk (a : Option Addr) (n c : Nat) (a' : Option Addr) (n' c' : Nat) (w : World) (h : RdC w a n) (hc : n ≤ c) (hm : c ≤ maxLen) (h' : RdC w a' n') (hc' : n' ≤ c') (hm' : c' ≤ maxLen) :
    Calls Try.prog 10 #[.slice a n c, .slice a' n' c'] w (Tr w) := by
  unfold maxLen at hm hm'
  by_cases hn : n ≤ 1048576
  · by_cases hn' : n' ≤ 1048576
    · go_enter Try.func10, Try.ntmps10
      go_wp2_with fail
      with_reducible refine (DrawBlockSum_any a n c _ h hc hn).mono ?_
      rintro e w1 ⟨zs, a1, c1, rfl, hz, hO, hb⟩
      have hr := hO.rd
      go_wp2_with fail
      with_reducible refine (implBlockSum_any a1 zs.length c1 zs _ hr (by omega)).mono ?_
      rintro e w' ⟨rfl, rfl⟩
      go_wp2_with fail
      with_reducible refine (specBlockSum_any a1 zs.length c1 zs _ hr (by omega)).mono ?_
      rintro e w' ⟨rfl, rfl⟩
      by_cases hv : blockV zs = true
      · have hs := blockSum_ok hv
        have hsb := sumL_bd zs
        rw [hs]
        have hp := (blockV_parts hv).2.1
        have hall := Lib.hid (blockV_parts hv).1
        have HV := Lib.hid hv
        obtain ⟨S, hS⟩ : ∃ S, S = sumL zs := ⟨_, rfl⟩
        rw [← hS] at hsb ⊢
        obtain ⟨hs0, hs1⟩ := hsb
        have HS := Lib.hid hS
        have ht1 : (S != S) = false := by simp
        clear hS hs hv h h'
        by_cases h2 : 2 ≤ zs.length
        · have hp1 : (1 : Int) ≤ (zs.length : Int) - 1 := by omega
          obtain ⟨kk, hkk⟩ : ∃ kk : Nat, (n' : Int) % ((zs.length : Int) - 1) = (kk : Int) := ⟨((n' : Int) % ((zs.length : Int) - 1)).toNat, by rw [Int.toNat_of_nonneg (Int.emod_nonneg _ (by omega))]⟩
          have hkl : kk + 1 < zs.length := by have := Int.emod_lt_of_pos (n' : Int) (show (0 : Int) < (zs.length : Int) - 1 by omega); omega
          go_wp2_with fail
          rw [hkk]
          clear hkk
          obtain ⟨b, off, rfl, hlt, hcc⟩ := hr.2 kk (by omega)
          obtain ⟨x, hx⟩ : ∃ x, x = zs.getD kk 0 := ⟨_, rfl⟩
          obtain ⟨y, hy⟩ : ∃ y, y = zs.getD (kk + 1) 0 := ⟨_, rfl⟩
          have hcx := hcc kk (by omega)
          have hcy := hcc (kk + 1) (by omega)
          rw [← hx] at hcx
          rw [← hy] at hcy
          have hxb := allB_at hall.out (show kk < zs.length by omega)
          have hyb := allB_at hall.out hkl
          rw [← hx] at hxb
          rw [← hy] at hyb
          obtain ⟨hx0, hx1⟩ := hxb
          obtain ⟨hy0, hy1⟩ := hyb
          have HX := Lib.hid hx
          have HY := Lib.hid hy
          clear hx hy hcc
          have hk0 : (0 : Int) ≤ (kk : Int) := by omega
          have hk1 : (kk : Int) < (zs.length : Int) := by omega
          have hk2 : (0 : Int) ≤ (kk : Int) + 1 := by omega
          have hk3 : (kk : Int) + 1 < (zs.length : Int) := by omega
          by_cases hxy : x = y
          · have ht : (x == y) = true := by simp [hxy]
            clear hxy
            go_quiet (fail)
            go_wp2
            go_ret
            exact ⟨rfl, below_drewN hb _⟩
          · have ht : (x == y) = false := by simp [hxy]
            go_quiet (fail)
            have hOq := hO.drewN nq
            have hrq := hr.drewN nq
            have hcxq : (w1.drewN nq).cell? ⟨b, off + kk, none⟩ = some (.int .i64 x) := hcx
            have hcyq : (w1.drewN nq).cell? ⟨b, off + (kk + 1), none⟩ = some (.int .i64 y) := hcy
            have hltq : b < (w1.drewN nq).heap.size := hlt
            have hbq := below_drewN hb nq
            clear hO hr hcx hcy hlt hb
            generalize w1.drewN nq = wq at *
            have HXY := Lib.hid hxy
            clear hxy
            go_wp2_with (at_builtin; refine wp_app_own (zs := []) (news := zs) rfl (.tmp 55) (.tmp 56) rfl rfl (OwnI.empty (Nat.le_refl _)) rfl (hOq.alloc _) (by simp; omega) (by simp) ?_; intro a2 c2 w2 hO2 hG2; simp only [List.nil_append] at hO2; obtain ⟨g2, rfl, hne, hg2, hold, hfr, hold', hfr', hbw, hcx2, hcy2⟩ := app_facts hO2 hG2 hkl hltq hcxq hcyq; clear hcxq hcyq hG2)
            have hst1 := hO2.set kk y (by omega) (by omega)
            have hst2 := hst1.1.set (kk + 1) x (by omega) (by omega)
            have hr3 := hst2.1.rd
            rw [List.length_set, List.length_set] at hr3
            have hal : allB ((zs.set kk y).set (kk + 1) x) = true := allB_set (allB_set hall.out _ _ (by omega) (by omega)) _ _ (by omega) (by omega)
            have hnes : Hid ((sumL ((zs.set kk y).set (kk + 1) x) != S) = true) := Lib.hid (by
              rw [HS.out, bne_iff_ne, HX.out, HY.out]
              exact sum_swap zs kk hkl (by rw [← HX.out, ← HY.out]; omega) (by rw [← HX.out, ← HY.out]; omega) (by rw [← HX.out, ← HY.out]; exact HXY.out))
            have hbs : Hid (blockSum ((zs.set kk y).set (kk + 1) x) = sumL ((zs.set kk y).set (kk + 1) x)) := Lib.hid (blockSum_ok (blockV_of HV.out hal (by simp)))
            have hbz := hbq.size
            have hb3 : Below w.heap.size w ((w2.setCell ⟨g2, kk, none⟩ (.int .i64 y)).setCell ⟨g2, kk + 1, none⟩ (.int .i64 x)) :=
              ((hbq.trans (hbw.mono hbq.size)).setCell (by show w.heap.size ≤ g2; omega) _).setCell (by show w.heap.size ≤ g2; omega) _
            clear hst1 hst2 hal hO2 hold hfr hold' hfr' hbw hcx2 hcy2 hOq hrq
            with_reducible refine (implBlockSum_any _ _ _ _ _ hr3 (by omega)).mono ?_
            rintro e w' ⟨rfl, rfl⟩
            rw [hbs.out]
            have hnes := hnes.out
            go_wp2
            go_ret
            exact ⟨rfl, hb3⟩
        · have hlt2 : (zs.length : Int) < 2 := by omega
          go_wp2
          go_ret
          exact ⟨rfl, hb⟩
      · have hs : blockSum zs = -1 := by simp [blockSum, hv]
        rw [hs]
        clear hs hv
        go_wp2
        go_ret
        exact ⟨rfl, hb⟩
    · go_enter Try.func10, Try.ntmps10
      go_wp2
      go_ret
      exact ⟨rfl, Below.refl _ _⟩
  · go_enter Try.func10, Try.ntmps10
    go_wp2
    go_ret
    exact ⟨rfl, Below.refl _ _⟩

end Go.Proofs.Ytbegmliglabpfaa
