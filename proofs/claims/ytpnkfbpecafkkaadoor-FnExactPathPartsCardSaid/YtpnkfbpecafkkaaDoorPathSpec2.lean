/- Contracts of the reference's l1Dir, l1Within, PathParent, PathWithin, PathMove. -/
import Derived.Test.YtpnkfbpecafkkaaDoorPathSpec
namespace Go.Proofs.YtpnkfbpecafkkaaDoor
open Go.RowKit
set_option linter.unusedVariables false

theorem toL (s : ByteArray) : s.toList = bts s := ByteArray.toList_eq s

/-- How the walk asks whether two texts are equal, whether one is empty. -/
theorem eqT {s t : ByteArray} (h : bts s = bts t) : (s.toList == t.toList) = true := by rw [toL, toL, h]; simp
theorem neT {s t : ByteArray} (h : bts s ≠ bts t) : (s.toList == t.toList) = false := by rw [toL, toL]; simpa using h
theorem emT {s : ByteArray} (h : bts s = []) : s.toList = [] ∧ s.toList.isEmpty = true := by rw [toL, h]; simp
theorem nemT {s : ByteArray} (h : bts s ≠ []) : ¬ s.toList = [] ∧ s.toList.isEmpty = false := by rw [toL]; simpa using h

theorem withinL_no {l d : List UInt8} (h0 : d ≠ []) (h1 : l ≠ d) (h : ¬ (d.length < l.length ∧ l.take d.length = d ∧ l[d.length]? = some 47)) : withinL l d = false := by
  unfold withinL
  simp only [h0, h1, decide_false, Bool.false_or]
  cases hc : (decide (d.length < l.length) && decide (l.take d.length = d) && decide (l[d.length]? = some 47)) with
  | false => rfl
  | true =>
    simp only [Bool.and_eq_true, decide_eq_true_eq] at hc
    exact absurd ⟨hc.1.1, hc.1.2, hc.2⟩ h

theorem withinL_yes {l d : List UInt8} (h : d = [] ∨ l = d ∨ (d.length < l.length ∧ l.take d.length = d ∧ l[d.length]? = some 47)) : withinL l d = true := by
  unfold withinL
  rcases h with h | h | ⟨h1, h2, h3⟩
  · simp [h]
  · simp [h]
  · rw [decide_eq_true h1, decide_eq_true h2, decide_eq_true h3]; simp

set_option maxHeartbeats 400000 in
theorem l1Within_any (s d : ByteArray) (w : World) (hs : s.size ≤ 1073741824) (hd : d.size ≤ 1073741824) :
    Calls Tryd.prog 25 #[.string s, .string d] w fun e w' => e = .returned (.bool (withinL (bts s) (bts d))) ∧ w = w' := by
  by_cases h0 : bts d = []
  · have hw := Lib.hid (withinL_yes (l := bts s) (d := bts d) (.inl h0))
    obtain ⟨t0, t1⟩ := emT h0
    clear h0
    go_enter Tryd.func25, Tryd.ntmps25
    go_wp2
    go_ret
    rw [hw.out]
    exact ⟨rfl, rfl⟩
  · obtain ⟨t0, t1⟩ := nemT h0
    by_cases h1 : bts s = bts d
    · have hw := Lib.hid (withinL_yes (l := bts s) (d := bts d) (.inr (.inl h1)))
      have t2 := eqT h1
      clear h0 h1
      go_enter Tryd.func25, Tryd.ntmps25
      go_wp2
      go_ret
      rw [hw.out]
      exact ⟨rfl, rfl⟩
    · have t2 := neT h1
      by_cases h2 : d.size < s.size
      · have d2 : decide ((d.size : Int) < (s.size : Int)) = true := by simp; omega
        by_cases h3 : (bts s).take d.size = bts d
        · have t3 : ((s.extract 0 d.size).toList == d.toList) = true := eqT (by rw [bts_extract, List.drop_zero, Nat.sub_zero]; exact h3)
          have hg := bts_get? s d.size h2
          by_cases h4 : s[d.size].toNat = 47
          · have d4 : (((s[d.size].toNat : Nat) : Int) == 47) = true := by rw [beq_iff_eq]; omega
            have hw := Lib.hid (withinL_yes (l := bts s) (d := bts d) (.inr (.inr ⟨by rw [bts_length, bts_length]; exact h2, by rw [bts_length]; exact h3, by rw [bts_length, hg]; exact congrArg some (UInt8.toNat_inj.1 (by simpa using h4))⟩)))
            clear h0 h1 h3 hg h4
            go_enter Tryd.func25, Tryd.ntmps25
            go_wp2
            go_ret
            rw [hw.out]
            exact ⟨rfl, rfl⟩
          · have d4 : (((s[d.size].toNat : Nat) : Int) == 47) = false := by rw [beq_eq_false_iff_ne]; omega
            have hw := Lib.hid (withinL_no (l := bts s) (d := bts d) h0 h1 (by rintro ⟨_, _, hc⟩; rw [bts_length, hg] at hc; injection hc with hc; exact h4 (by rw [hc]; rfl)))
            clear h0 h1 h3 hg h4
            go_enter Tryd.func25, Tryd.ntmps25
            go_wp2
            go_ret
            rw [hw.out]
            exact ⟨rfl, rfl⟩
        · have t3 : ((s.extract 0 d.size).toList == d.toList) = false := neT (by rw [bts_extract, List.drop_zero, Nat.sub_zero]; exact h3)
          have hw := Lib.hid (withinL_no (l := bts s) (d := bts d) h0 h1 (by rintro ⟨_, hc, _⟩; rw [bts_length] at hc; exact h3 hc))
          clear h0 h1 h3
          go_enter Tryd.func25, Tryd.ntmps25
          go_wp2
          go_ret
          rw [hw.out]
          exact ⟨rfl, rfl⟩
      · have d2 : decide ((d.size : Int) < (s.size : Int)) = false := by simp; omega
        have hw := Lib.hid (withinL_no (l := bts s) (d := bts d) h0 h1 (by rintro ⟨hc, _, _⟩; rw [bts_length, bts_length] at hc; exact h2 hc))
        clear h0 h1
        go_enter Tryd.func25, Tryd.ntmps25
        go_wp2
        go_ret
        rw [hw.out]
        exact ⟨rfl, rfl⟩

set_option maxHeartbeats 400000 in
theorem l1Dir_any (d : ByteArray) (w : World) (hd : d.size ≤ 1073741824) :
    Calls Tryd.prog 24 #[.string d] w (RetB w (.bool (dirV (bts d)))) := by
  by_cases h0 : bts d = []
  · have hw : Hid (dirV (bts d) = true) := Lib.hid (by simp [dirV, h0])
    obtain ⟨t0, t1⟩ := emT h0
    clear h0
    go_enter Tryd.func24, Tryd.ntmps24
    go_wp2
    go_ret
    rw [hw.out]
    exact ⟨rfl, Below.refl _ _⟩
  · have hw : Hid (dirV (bts d) = pathV (bts d)) := Lib.hid (by simp [dirV, h0])
    obtain ⟨t0, t1⟩ := nemT h0
    clear h0
    go_enter Tryd.func24, Tryd.ntmps24
    go_wp2_with fail
    with_reducible refine (specPathValid_any d _ hd).mono ?_
    rintro e w1 ⟨rfl, hb1⟩
    go_wp2
    go_ret
    rw [hw.out]
    exact ⟨rfl, hb1⟩

/-- A string and a bool are handed back. -/
def RetP (w : World) (l : List UInt8 × Bool) (e : Ending) (w' : World) : Prop := e = .returned (.tuple #[.string (mkS l.1), .bool l.2]) ∧ Below w.heap.size w w'

theorem parentR_yes {l : List UInt8} (h : pathV l = true) : parentR l = (l.take (lastL l).toNat, true) := by simp [parentR, h]
theorem parentR_no {l : List UInt8} (h : pathV l = false) : parentR l = ([], false) := by simp [parentR, h]

set_option maxHeartbeats 400000 in
theorem specPathParent_any (s : ByteArray) (w : World) (hs : s.size ≤ 1073741824) :
    Calls Tryd.prog 12 #[.string s] w (RetP w (parentR (bts s))) := by
  go_enter Tryd.func12, Tryd.ntmps12
  go_wp2_with fail
  with_reducible refine (specPathValid_any s _ hs).mono ?_
  rintro e w1 ⟨rfl, hb1⟩
  by_cases hv : pathV (bts s) = true
  · have HE := Lib.hid (parentR_yes hv)
    rw [hv]
    clear hv
    go_wp2_with fail
    with_reducible refine (l1Last_any s _ hs).mono ?_
    rintro e w2 ⟨rfl, rfl⟩
    have hge := lastL_ge (bts s)
    have hcs := lastL_cases (bts s)
    obtain ⟨t, ht⟩ : ∃ t, lastL (bts s) = t := ⟨_, rfl⟩
    have hlt : t ≤ (s.size : Int) := by
      rw [ht] at hcs
      rcases hcs with ⟨h, _⟩ | ⟨a, p, h1, h2, _⟩
      · omega
      · have := congrArg List.length h1
        rw [bts_length] at this
        simp at this
        omega
    rw [ht] at hge ⊢
    have HT := Lib.hid ht
    have hmk : Hid (mkS ((bts s).take t.toNat) = s.extract 0 t.toNat) := Lib.hid (by
      apply bts_inj
      rw [bts_mk, bts_extract, List.drop_zero, Nat.sub_zero])
    clear hcs ht
    by_cases h0 : t < 0
    · have hem : Hid (mkS ((bts s).take t.toNat) = ByteArray.empty) := Lib.hid (by
        rw [show t.toNat = 0 by omega]; rfl)
      go_wp2
      go_ret2
      rw [HE.out]
      refine ⟨?_, hb1⟩
      rw [HT.out]
      simp only
      rw [hem.out]
      rfl
    · go_wp2
      go_ret2
      rw [HE.out]
      refine ⟨?_, hb1⟩
      rw [HT.out]
      simp only
      rw [hmk.out]
      rfl
  · have hv' : pathV (bts s) = false := by simpa using hv
    have HE := Lib.hid (parentR_no hv')
    rw [hv']
    clear hv hv'
    go_wp2
    go_ret2
    rw [HE.out]
    exact ⟨rfl, hb1⟩

set_option maxHeartbeats 400000 in
theorem specPathWithin_any (s d : ByteArray) (w : World) (hs : s.size ≤ 1073741824) (hd : d.size ≤ 1073741824) :
    Calls Tryd.prog 10 #[.string s, .string d] w (RetB w (.bool (withinR (bts s) (bts d)))) := by
  have HE := Lib.hid (show withinR (bts s) (bts d) = (pathV (bts s) && dirV (bts d) && withinL (bts s) (bts d)) from rfl)
  go_enter Tryd.func10, Tryd.ntmps10
  go_wp2_with fail
  with_reducible refine (specPathValid_any s _ hs).mono ?_
  rintro e w1 ⟨rfl, hb1⟩
  by_cases hv : pathV (bts s) = true
  · rw [hv] at HE ⊢
    clear hv
    go_wp2_with fail
    with_reducible refine (l1Dir_any d _ hd).mono ?_
    rintro e w2 ⟨rfl, hb⟩
    have hb2 := hb1.trans (hb.mono hb1.size)
    clear hb
    by_cases hv : dirV (bts d) = true
    · rw [hv] at HE ⊢
      clear hv
      go_wp2_with fail
      with_reducible refine (l1Within_any s d _ hs hd).mono ?_
      rintro e w3 ⟨rfl, rfl⟩
      go_wp2
      go_ret
      rw [HE.out]
      exact ⟨rfl, hb2⟩
    · have hv' : dirV (bts d) = false := by simpa using hv
      rw [hv'] at HE ⊢
      clear hv hv'
      go_wp2
      go_ret
      rw [HE.out]
      exact ⟨rfl, hb2⟩
  · have hv' : pathV (bts s) = false := by simpa using hv
    rw [hv'] at HE ⊢
    clear hv hv'
    go_wp2
    go_ret
    rw [HE.out]
    exact ⟨rfl, hb1⟩

theorem moveR_no {l f t : List UInt8} (h : ¬ (pathV l = true ∧ pathV f = true ∧ pathV t = true ∧ withinL l f = true ∧ pathV (t ++ l.drop f.length) = true)) : moveR l f t = ([], false) := by
  unfold moveR; rw [if_neg h]
theorem moveR_yes {l f t : List UInt8} (h : pathV l = true ∧ pathV f = true ∧ pathV t = true ∧ withinL l f = true ∧ pathV (t ++ l.drop f.length) = true) : moveR l f t = (t ++ l.drop f.length, true) := by
  unfold moveR; rw [if_pos h]

theorem withinL_len {l d : List UInt8} (h : withinL l d = true) : d.length ≤ l.length := by
  rcases withinL_iff.1 h with h | h | ⟨r, h⟩
  · subst h; simp
  · subst h; exact Nat.le_refl _
  · subst h; simp

theorem moved_bts (s f t : ByteArray) : bts (t ++ s.extract f.size s.size) = bts t ++ (bts s).drop (bts f).length := by
  rw [bts_append, bts_extract, bts_length, List.take_of_length_le (by rw [List.length_drop, bts_length]; omega)]

set_option maxHeartbeats 1000000 in
theorem specPathMove_any (s f t : ByteArray) (w : World) (hs : s.size ≤ 1048576) (hf : f.size ≤ 1048576) (ht : t.size ≤ 1048576) :
    Calls Tryd.prog 19 #[.string s, .string f, .string t] w (RetP w (moveR (bts s) (bts f) (bts t))) := by
  have HNO := Lib.hid (@moveR_no (bts s) (bts f) (bts t))
  have HYES := Lib.hid (@moveR_yes (bts s) (bts f) (bts t))
  go_enter Tryd.func19, Tryd.ntmps19
  go_wp2_with fail
  with_reducible refine (specPathValid_any s _ (by omega)).mono ?_
  rintro e w1 ⟨rfl, hb1⟩
  by_cases hv : pathV (bts s) = true
  · rw [hv]
    go_wp2_with fail
    with_reducible refine (specPathValid_any f _ (by omega)).mono ?_
    rintro e w2 ⟨rfl, hb⟩
    have hb2 := hb1.trans (hb.mono hb1.size)
    clear hb hb1
    by_cases hvf : pathV (bts f) = true
    · rw [hvf]
      go_wp2_with fail
      with_reducible refine (specPathValid_any t _ (by omega)).mono ?_
      rintro e w3 ⟨rfl, hb⟩
      have hb3 := hb2.trans (hb.mono hb2.size)
      clear hb hb2
      by_cases hvt : pathV (bts t) = true
      · rw [hvt]
        go_wp2_with fail
        with_reducible refine (l1Within_any s f _ (by omega) (by omega)).mono ?_
        rintro e w4 ⟨rfl, rfl⟩
        by_cases hw : withinL (bts s) (bts f) = true
        · have hlen := withinL_len hw
          rw [bts_length, bts_length] at hlen
          have hmb := moved_bts s f t
          have HV := Lib.hid hv
          have HVF := Lib.hid hvf
          have HVT := Lib.hid hvt
          have HW := Lib.hid hw
          have HMB := Lib.hid hmb
          rw [hw]
          clear hv hvf hvt hw hmb
          have hsz : (t ++ s.extract f.size s.size).size ≤ 1073741824 := by
            rw [← bts_length, HMB.out, List.length_append, List.length_drop, bts_length, bts_length]; omega
          go_wp2_with fail
          with_reducible refine (specPathValid_any (t ++ s.extract f.size s.size) _ hsz).mono ?_
          rintro e w5 ⟨rfl, hb⟩
          have hb5 := hb3.trans (hb.mono hb3.size)
          clear hb
          by_cases hvo : pathV (bts (t ++ s.extract f.size s.size)) = true
          · have HE := Lib.hid (HYES.out ⟨HV.out, HVF.out, HVT.out, HW.out, by rw [← HMB.out]; exact hvo⟩)
            have hmk : Hid (mkS (bts t ++ (bts s).drop (bts f).length) = t ++ s.extract f.size s.size) := Lib.hid (by rw [← HMB.out, mk_bts])
            rw [hvo]
            clear hvo
            go_wp2
            go_ret2
            rw [HE.out]
            refine ⟨?_, hb5⟩
            simp only
            rw [hmk.out]
            rfl
          · have hvo' : pathV (bts (t ++ s.extract f.size s.size)) = false := by simpa using hvo
            have HE := Lib.hid (HNO.out (fun h => hvo (by rw [HMB.out]; exact h.2.2.2.2)))
            rw [hvo']
            clear hvo hvo'
            go_wp2
            go_ret2
            rw [HE.out]
            exact ⟨rfl, hb5⟩
        · have HE := Lib.hid (HNO.out (fun h => hw h.2.2.2.1))
          have hw' : withinL (bts s) (bts f) = false := by simpa using hw
          rw [hw']
          clear hw hw' hv hvf hvt
          go_wp2
          go_ret2
          rw [HE.out]
          exact ⟨rfl, hb3⟩
      · have HE := Lib.hid (HNO.out (fun h => hvt h.2.2.1))
        have hvt' : pathV (bts t) = false := by simpa using hvt
        rw [hvt']
        clear hvt hvt' hv hvf
        go_wp2
        go_ret2
        rw [HE.out]
        exact ⟨rfl, hb3⟩
    · have HE := Lib.hid (HNO.out (fun h => hvf h.2.1))
      have hvf' : pathV (bts f) = false := by simpa using hvf
      rw [hvf']
      clear hvf hvf' hv
      go_wp2
      go_ret2
      rw [HE.out]
      exact ⟨rfl, hb2⟩
  · have HE := Lib.hid (HNO.out (fun h => hv h.1))
    have hv' : pathV (bts s) = false := by simpa using hv
    rw [hv']
    clear hv hv'
    go_wp2
    go_ret2
    rw [HE.out]
    exact ⟨rfl, hb1⟩

end Go.Proofs.YtpnkfbpecafkkaaDoor
