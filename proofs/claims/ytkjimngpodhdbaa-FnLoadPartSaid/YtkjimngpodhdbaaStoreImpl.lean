/- Contract of the program's StoreValid. -/
import Derived.Test.YtkjimngpodhdbaaStoreValid
import Derived.Test.YtkjimngpodhdbaaSlEq
namespace Go.Proofs.Ytkjimngpodhdbaa
open Go.RowKit
set_option linter.unusedVariables false

theorem goodAt_ok {α : Type} {ok : α → Bool} {bef : α → α → Bool} {xs : List α} {j : Nat} {x : α} (h : goodAt ok bef xs j = true) (hx : xs[j]? = some x) : ok x = true := by
  unfold goodAt at h
  rw [hx] at h
  simp only [Bool.and_eq_true] at h
  exact h.1

/-- The id that came last. -/
def lastH (xs : List HV) (k : Nat) (l : Int) : Prop := (k = 0 ∧ l = 0) ∨ (0 < k ∧ ∃ y, xs[k - 1]? = some y ∧ l = y.id)

theorem last_bad {xs : List HV} {k : Nat} {l : Int} {x : HV} (h : lastH xs k l) (hx : xs[k]? = some x) (hle : x.id ≤ l) : storeV (valsH xs) = false := by
  rcases h with ⟨rfl, rfl⟩ | ⟨h0, y, hy, rfl⟩
  · refine good_bad0 hx ?_
    have : inB x.id 1 99 = false := by simp [inB]; omega
    show (inB x.id 1 99 && blockV x.zs && inB x.us 1 999) = false
    rw [this]; rfl
  · exact good_bad1 h0 hx hy (by omega)

theorem last_pos {xs : List HV} {k : Nat} {l : Int} (h : lastH xs k l) (hg : ∀ j, j < k → goodAt okH befH (valsH xs) j = true) : 0 ≤ l := by
  rcases h with ⟨rfl, rfl⟩ | ⟨h0, y, hy, rfl⟩
  · omega
  · have h1 := goodAt_ok (hg (k - 1) (by omega)) (valsH_get hy)
    have h2 : (inB y.id 1 99 && blockV y.zs && inB y.us 1 999) = true := h1
    simp only [Bool.and_eq_true, inB, decide_eq_true_eq] at h2
    omega

theorem last_good {xs : List HV} {k : Nat} {l : Int} {x : HV} (h : lastH xs k l) (hx : xs[k]? = some x) (hlt : l < x.id) (hok : okH x.val = true) : goodAt okH befH (valsH xs) k = true := by
  rcases h with ⟨rfl, rfl⟩ | ⟨h0, y, hy, rfl⟩
  · exact good_yes0 hx hok
  · exact good_yes1 h0 hx hy hok hlt

theorem last_next {xs : List HV} {k : Nat} {x : HV} (hx : xs[k]? = some x) : lastH xs (k + 1) x.id := .inr ⟨by omega, x, by rw [Nat.add_sub_cancel]; exact hx, rfl⟩

set_option maxHeartbeats 1000000 in
theorem implStoreValid_any (a : Option Addr) (n c : Nat) (xs : List HV) (w : World) (hr : RdR eltH w a n xs) (hi : InH w xs) (hs : ∀ x ∈ xs, x.zs.length ≤ 4611686018427387904) (hn : n ≤ c) (hc : c ≤ 9223372036854775807) :
    Calls Try.prog 11 #[.slice a n c] w (RetB w (.bool (storeV (valsH xs)))) := by
  have hl := Lib.hid hr.1
  have HI := Lib.hid hi
  have HS := Lib.hid hs
  clear hi hs
  by_cases hbig : 16 < n
  · have HF := Lib.hid (show storeV (valsH xs) = false from storeV_long (by rw [valsH_len, hl.out]; exact hbig))
    have d8 : decide ((16 : Int) < (n : Int)) = true := by simp; omega
    go_enter Try.func11, Try.ntmps11
    go_wp2
    go_ret
    rw [HF.out]
    exact ⟨rfl, Below.refl _ _⟩
  have d8 : decide ((16 : Int) < (n : Int)) = false := by simp; omega
  go_enter Try.func11, Try.ntmps11
  go_wp2
  go_loopw [3, 13] (fun v i wr => ∃ k : Nat, k ≤ n ∧ i = .int .i64 k ∧ (∃ l : Int, v = .int .i64 l ∧ Hid (lastH xs k l)) ∧ Hid (∀ j, j < k → goodAt okH befH (valsH xs) j = true) ∧ Hid (noTwin (valsH xs) k) ∧ Below w.heap.size w wr)
    (fun _ i _ => n - (intOf i).toNat)
  case atStart => exact ⟨0, Nat.zero_le _, rfl, ⟨0, rfl, Lib.hid (.inl ⟨rfl, rfl⟩)⟩, Lib.hid (fun j h => by omega), Lib.hid (noTwin_zero _), Below.refl _ _⟩
  case round =>
    obtain ⟨k, hk, rfl, ⟨l, rfl, hlast⟩, hgood, htw, hb⟩ := hrel
    by_cases hlt : k < n
    · obtain ⟨b, off, x, rfl, hbl, hx, c0, c1, c2⟩ := atH (hr.below hb) hlt
      have hsx := HS.out x (List.mem_of_getElem? hx)
      have hrx := (HI.out x (List.mem_of_getElem? hx)).below hb
      have HX := Lib.hid hx
      clear hx
      have hbx := one_boxH wr (.int .i64 x.id) (.slice x.ad x.zs.length x.cp) (.int .i64 x.us) 47
      have hHl := hbx.1
      have q0 := hbx.2.1
      have q1 := hbx.2.2.1
      have q2 := hbx.2.2.2
      have hbw := hb.alloc hb.size (.cells #[.int .i64 x.id, .slice x.ad x.zs.length x.cp, .int .i64 x.us] 47)
      have hwb : Below wr.heap.size wr (wr.alloc (.cells #[.int .i64 x.id, .slice x.ad x.zs.length x.cp, .int .i64 x.us] 47)) := (Below.refl _ _).alloc (Nat.le_refl _) _
      have hrx1 := hrx.below hwb
      clear hbx
      have hokd : okH x.val = (inB x.id 1 99 && blockV x.zs && inB x.us 1 999) := rfl
      by_cases h1 : x.id ≤ l
      · have d1 : decide (x.id ≤ l) = true := by simpa using h1
        have HF := Lib.hid (last_bad hlast.out HX.out h1)
        clear h1 hokd
        go_wp2
        go_ret
        rw [HF.out]
        exact ⟨rfl, hbw⟩
      have d_h1 : decide (x.id ≤ l) = false := by simpa using h1
      by_cases h2 : 99 < x.id
      · have d_h2 : decide (99 < x.id) = true := by simpa using h2
        have HF := Lib.hid (good_bad0 HX.out (by rw [hokd, show inB x.id 1 99 = false by simp [inB]; omega]; simp))
        clear h2 hokd
        go_wp2
        go_ret
        rw [HF.out]
        exact ⟨rfl, hbw⟩
      have d_h2 : decide (99 < x.id) = false := by simpa using h2
      by_cases h3 : x.us < 1
      · have d_h3 : decide (x.us < 1) = true := by simpa using h3
        have HF := Lib.hid (good_bad0 HX.out (by rw [hokd, show inB x.us 1 999 = false by simp [inB]; omega]; simp))
        clear h3 hokd
        go_wp2
        go_ret
        rw [HF.out]
        exact ⟨rfl, hbw⟩
      have d_h3 : decide (x.us < 1) = false := by simpa using h3
      by_cases h4 : 999 < x.us
      · have d_h4 : decide (999 < x.us) = true := by simpa using h4
        have HF := Lib.hid (good_bad0 HX.out (by rw [hokd, show inB x.us 1 999 = false by simp [inB]; omega]; simp))
        clear h4 hokd
        go_wp2
        go_ret
        rw [HF.out]
        exact ⟨rfl, hbw⟩
      have d_h4 : decide (999 < x.us) = false := by simpa using h4
      have K2 := still_of (implBlockValid_any x.ad x.zs.length x.cp x.zs _ hrx1 hsx)
      go_wp2_with fail
      with_reducible refine K2.mono ?_
      rintro e w2 ⟨rfl, hw2⟩
      subst hw2
      cases h5 : blockV x.zs with
      | false =>
        have HF := Lib.hid (good_bad0 HX.out (by rw [hokd, h5]; simp))
        clear h5 hokd h1 h2 h3 h4 K2
        go_wp2
        go_ret
        rw [HF.out]
        exact ⟨rfl, hbw⟩
      | true =>
        have hl0 := last_pos hlast.out hgood.out
        have hok : okH x.val = true := by
          rw [hokd, h5, show inB x.id 1 99 = true by simp [inB]; omega, show inB x.us 1 999 = true by simp [inB]; omega]; rfl
        have HG := Lib.hid (good_step hgood.out (last_good hlast.out HX.out (by omega) hok))
        clear h5 hokd h1 h2 h3 h4 K2 hok
        generalize wr.alloc (.cells #[.int .i64 x.id, .slice x.ad x.zs.length x.cp, .int .i64 x.us] 47) = W1 at hHl q0 q1 q2 hbw hrx1 hwb ⊢
        have hrW := (hr.below hb).below hwb
        have HIW : Hid (∀ y ∈ xs, RdI W1 y.ad y.zs.length y.zs) := Lib.hid (fun y hy => ((HI.out y hy).below hb).below hwb)
        obtain ⟨G, hG⟩ : ∃ G, wr.heap.size = G := ⟨_, rfl⟩
        rw [hG] at hHl q0 q1 q2 ⊢
        clear hG hwb hrx hbl hb c0 c1 c2 hr
        have hk0 : (0 : Int) ≤ (k : Int) := by omega
        have hkc : (k : Int) ≤ (c : Int) := by omega
        have hkn : k ≤ c := by omega
        go_wp2
        go_loopw [47] (fun i wi => ∃ m : Nat, m ≤ k ∧ i = .int .i64 m ∧ Hid (∀ j y, j < m → xs[j]? = some y → y.zs ≠ x.zs) ∧ Below W1.heap.size W1 wi)
          (fun i _ => k - (intOf i).toNat)
        case atStart => exact ⟨0, Nat.zero_le _, rfl, Lib.hid (fun j y h => by omega), Below.refl _ _⟩
        case round =>
          obtain ⟨m, hm, rfl, hne, hbi⟩ := hrel
          have hbW := hbw.trans (hbi.mono hbw.size)
          have q0' := (hbi.cell (p := ⟨G, 0, none⟩) hHl).trans q0
          have q1' := (hbi.cell (p := ⟨G, 1, none⟩) hHl).trans q1
          by_cases hml : m < k
          · obtain ⟨b2, off2, y, hbo, hbl2, hy, d0, d1, d2⟩ := atH (hrW.below hbi) (show m < n by omega)
            injection hbo with hbo
            injection hbo with hbo1 hbo2
            subst hbo1 hbo2
            have hsy := HS.out y (List.mem_of_getElem? hy)
            have hbx2 : Below wr.heap.size wr (wr.alloc (.cells #[.int .i64 y.id, .slice y.ad y.zs.length y.cp, .int .i64 y.us] 47)) := (Below.refl _ _).alloc (Nat.le_refl _) _
            have hry := ((HIW.out y (List.mem_of_getElem? hy)).below hbi).below hbx2
            have hrx2 := (hrx1.below hbi).below hbx2
            have hbi2 := hbi.alloc hbi.size (.cells #[.int .i64 y.id, .slice y.ad y.zs.length y.cp, .int .i64 y.us] 47)
            have hbo2 := one_boxH wr (.int .i64 y.id) (.slice y.ad y.zs.length y.cp) (.int .i64 y.us) 47
            have p1 := hbo2.2.2.1
            have r1 := (World.cell?_alloc_lt wr (.cells #[.int .i64 y.id, .slice y.ad y.zs.length y.cp, .int .i64 y.us] 47) ⟨G, 1, none⟩ (Nat.lt_of_lt_of_le hHl hbi.size)).trans q1'
            have HY := Lib.hid hy
            clear hy hbo2
            have hm0 : (0 : Int) ≤ (m : Int) := by omega
            have K4 := slEqual_any y.ad x.ad y.zs.length x.zs.length y.cp x.cp y.zs x.zs _ hry hrx2 hsy hsx
            by_cases hyx : y.zs = x.zs
            · have HF := Lib.hid (show storeV (valsH xs) = false from storeV_twin (valsH_get HY.out) (valsH_get HX.out) (by omega) hyx)
              rw [show eqI y.zs x.zs = true by simp [eqI, hyx]] at K4
              clear hyx
              go_wp2_with fail
              with_reducible refine K4.mono ?_
              rintro e w3 ⟨rfl, q, rfl⟩
              go_wp2
              go_ret
              rw [HF.out]
              exact ⟨rfl, below_drewNH (hbw.trans (hbi2.mono hbw.size)) _⟩
            · rw [show eqI y.zs x.zs = false by simp [eqI, hyx]] at K4
              have HN : Hid (∀ j z, j < m + 1 → xs[j]? = some z → z.zs ≠ x.zs) := Lib.hid (fun j z hj hz => by
                rcases Nat.lt_or_ge j m with h | h
                · exact hne.out j z h hz
                · obtain rfl : j = m := by omega
                  rw [HY.out] at hz
                  injection hz with hz
                  rw [← hz]; exact hyx)
              clear hyx
              go_wp2_with fail
              with_reducible refine K4.mono ?_
              rintro e w3 ⟨rfl, q, rfl⟩
              go_wp2
              go_roundw
              case rel => exact ⟨m + 1, by omega, by go_num, HN, below_drewNH hbi2 _⟩
              case measure => simp [intOf]; omega
          · obtain rfl : m = k := by omega
            have HT := Lib.hid (noTwin_succ htw.out (valsH_get HX.out) (fun j v hj hv => by
              unfold valsH at hv
              rw [List.getElem?_map] at hv
              cases hz : xs[j]? with
              | none => rw [hz] at hv; cases hv
              | some z =>
                rw [hz] at hv
                injection hv with hv
                rw [← hv]
                exact hne.out j z hj hz))
            have HL := Lib.hid (last_next HX.out)
            go_wp2
            go_roundw
            case rel => exact ⟨m + 1, by omega, by go_num, ⟨x.id, rfl, HL⟩, HG, HT, hbW⟩
            case measure => simp [intOf]; omega
    · obtain rfl : k = n := by omega
      have HG := Lib.hid (show storeV (valsH xs) = true by rw [show storeV (valsH xs) = decide ((valsH xs).length ≤ 16) from storeV_all (by rw [valsH_len, hl.out]; exact hgood.out) (by rw [valsH_len, hl.out]; exact htw.out), valsH_len]; have := hl.out; simp; omega)
      go_wp2
      go_ret
      rw [HG.out]
      exact ⟨rfl, hb⟩
    
    end Go.Proofs.Ytkjimngpodhdbaa
