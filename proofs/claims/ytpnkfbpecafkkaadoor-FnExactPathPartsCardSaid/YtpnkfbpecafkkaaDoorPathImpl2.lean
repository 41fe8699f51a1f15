/- Contracts of the program's PathValid, PathParts, PathParent, PathWithin, PathMove. -/
import Derived.Test.YtpnkfbpecafkkaaDoorPathImpl
import Derived.Lib.LastIndexByte
import Derived.Lib.Strings
namespace Go.Proofs.YtpnkfbpecafkkaaDoor
open Go.RowKit
set_option linter.unusedVariables false

set_option maxHeartbeats 400000 in
theorem implPathValid_any (s : ByteArray) (w : World) (hm : MLen w) (hs : s.size ≤ 1073741824) :
    Calls Tryd.prog 9 #[.string s] w (RetB w (.bool (pathV (bts s)))) := by
  go_enter Tryd.func9, Tryd.ntmps9
  go_wp2_with fail
  with_reducible refine (implValid_any s _ hm hs).mono ?_
  rintro e w1 ⟨rfl, hb1⟩
  go_wp2
  go_ret
  exact ⟨rfl, hb1⟩

set_option maxHeartbeats 400000 in
theorem implPathParts_any (s : ByteArray) (w : World) (hm : MLen w) (hs : s.size ≤ 1073741824) :
    Calls Tryd.prog 15 #[.string s] w (RetS w (partsS s)) := by
  go_enter Tryd.func15, Tryd.ntmps15
  go_wp2_with fail
  with_reducible refine (implParts_any s _ hm hs).mono ?_
  rintro e w1 ⟨a, c, rfl, hO, hb1⟩
  go_wp2
  go_ret
  exact ⟨a, c, rfl, hO, hb1⟩

/-- The library's last place of a slash is ours. -/
theorem last_eq (s : ByteArray) : Lib.lastIndexByte s 47 = lastL (bts s) := by
  have hget : ∀ j, j < s.size → ((s.data[j]!).toNat : Int) = ((bts s)[j]?.getD 0).toNat := by
    intro j hj
    have hj' : j < s.data.size := hj
    rw [getElem!_pos s.data j hj', bts_get? s j hj]
    rfl
  have h47 : (47 : UInt8).toNat = 47 := rfl
  have hs := Lib.lastIdx_spec s 47 s.size
  unfold Lib.lastIndexByte
  rcases lastL_cases (bts s) with ⟨e, hno⟩ | ⟨a, p, e1, e2, e3⟩
  · rw [e]
    rcases hs with ⟨h, _⟩ | ⟨i, hi, h1, h2, _⟩
    · exact h
    · exfalso
      rw [hget i hi] at h2
      have hil : i < (bts s).length := by rw [bts_length]; exact hi
      rw [List.getElem?_eq_getElem hil] at h2
      simp only [Option.getD_some] at h2
      exact hno _ (List.getElem_mem hil) (UInt8.toNat_inj.1 (by rw [h47]; omega))
  · rw [e2]
    have hlen : s.size = a.length + 1 + p.length := by
      have := congrArg List.length e1
      rw [bts_length] at this
      simp at this; omega
    have hat : (bts s)[a.length]? = some 47 := by rw [e1]; simp
    rcases hs with ⟨_, hn⟩ | ⟨i, hi, h1, h2, h3⟩
    · exfalso
      have := hn a.length (by omega)
      rw [hget _ (by omega), hat] at this
      exact this rfl
    · rw [h1]
      rcases Nat.lt_trichotomy i a.length with h | h | h
      · exfalso
        have := h3 a.length h (by omega)
        rw [hget _ (by omega), hat] at this
        exact this rfl
      · rw [h]
      · exfalso
        rw [hget i hi] at h2
        obtain ⟨m, rfl⟩ : ∃ m, i = a.length + (m + 1) := ⟨i - a.length - 1, by omega⟩
        have : (bts s)[a.length + (m + 1)]? = p[m]? := by
          rw [e1, List.getElem?_append_right (by omega), Nat.add_sub_cancel_left, List.getElem?_cons_succ]
        have hip : m < p.length := by omega
        rw [this, List.getElem?_eq_getElem hip] at h2
        simp only [Option.getD_some] at h2
        exact e3 _ (List.getElem_mem hip) (UInt8.toNat_inj.1 (by rw [h47]; omega))

set_option maxHeartbeats 400000 in
theorem implParent_any (s : ByteArray) (w : World) (hm : MLen w) (hs : s.size ≤ 1073741824) :
    Calls Tryd.prog 28 #[.string s] w (RetP w (parentR (bts s))) := by
  go_enter Tryd.func28, Tryd.ntmps28
  go_wp2_with fail
  with_reducible refine (implValid_any s _ hm hs).mono ?_
  rintro e w1 ⟨rfl, hb1⟩
  by_cases hv : pathV (bts s) = true
  · have HE := Lib.hid (parentR_yes hv)
    rw [hv]
    clear hv
    go_wp2_with fail
    with_reducible refine (strings_LastIndexByte s 47 (by omega) _).mono ?_
    rintro e w2 ⟨rfl, hw2⟩
    rw [last_eq]
    have hge := lastL_ge (bts s)
    have hcs := lastL_cases (bts s)
    obtain ⟨t, ht⟩ : ∃ t, lastL (bts s) = t := ⟨_, rfl⟩
    have hlt : t ≤ (s.size : Int) := by
      rw [ht] at hcs
      rcases hcs with ⟨h, _⟩ | ⟨a, p, h1, h2, _⟩
      · omega
      · have := congrArg List.length h1
        rw [bts_length] at this
        simp at this
        omega
    rw [ht] at hge ⊢
    have HT := Lib.hid ht
    subst hw2
    have hmk : Hid (mkS ((bts s).take t.toNat) = s.extract 0 t.toNat) := Lib.hid (by
      apply bts_inj
      rw [bts_mk, bts_extract, List.drop_zero, Nat.sub_zero])
    clear hcs ht
    by_cases h0 : t < 0
    · have hem : Hid (mkS ((bts s).take t.toNat) = ByteArray.empty) := Lib.hid (by
        rw [show t.toNat = 0 by omega]; rfl)
      go_wp2
      go_ret2
      rw [HE.out]
      refine ⟨?_, hb1⟩
      rw [HT.out]
      simp only
      rw [hem.out]
      rfl
    · go_wp2
      go_ret2
      rw [HE.out]
      refine ⟨?_, hb1⟩
      rw [HT.out]
      simp only
      rw [hmk.out]
      rfl
  · have hv' : pathV (bts s) = false := by simpa using hv
    have HE := Lib.hid (parentR_no hv')
    rw [hv']
    clear hv hv'
    go_wp2
    go_ret2
    rw [HE.out]
    exact ⟨rfl, hb1⟩

set_option maxHeartbeats 400000 in
theorem implPathParent_any (s : ByteArray) (w : World) (hm : MLen w) (hs : s.size ≤ 1073741824) :
    Calls Tryd.prog 13 #[.string s] w (RetP w (parentR (bts s))) := by
  obtain ⟨r, hr⟩ : ∃ r, parentR (bts s) = r := ⟨_, rfl⟩
  have HC := Lib.hid (fun (w : World) (hm : MLen w) => (hr ▸ implParent_any s w hm hs : Calls Tryd.prog 28 #[.string s] w (RetP w r)))
  rw [hr]
  clear hr
  obtain ⟨r1, r2⟩ := r
  go_enter Tryd.func13, Tryd.ntmps13
  go_wp2_with fail
  with_reducible refine (HC.out _ hm).mono ?_
  rintro e w1 ⟨rfl, hb1⟩
  go_wp2
  go_ret2
  exact ⟨rfl, hb1⟩

theorem withinR_bad {l d : List UInt8} (h : pathV l = false) : withinR l d = false := by simp [withinR, h]
theorem withinR_same {l d : List UInt8} (h : pathV l = true) (h1 : d = [] ∨ l = d) : withinR l d = true := by
  rcases h1 with rfl | rfl
  · simp [withinR, h, dirV, withinL_nil]
  · simp [withinR, h, dirV, withinL_self]
theorem withinR_other {l d : List UInt8} (h : pathV l = true) (h0 : d ≠ []) (h1 : l ≠ d) : withinR l d = (pathV d && (d ++ [47]).isPrefixOf l) := by
  rw [withinR, h, Bool.true_and, withinL_prefix h0 h1]
  simp [dirV, h0]

theorem slash_bts (d : ByteArray) : bts (d ++ ⟨#[47]⟩) = bts d ++ [47] := by rw [bts_append]; rfl

set_option maxHeartbeats 400000 in
theorem implWithin_any (s d : ByteArray) (w : World) (hm : MLen w) (hs : s.size ≤ 1073741824) (hd : d.size ≤ 1073741824) :
    Calls Tryd.prog 26 #[.string s, .string d] w (RetB w (.bool (withinR (bts s) (bts d)))) := by
  by_cases hv : pathV (bts s) = true
  · by_cases h0 : bts d = []
    · have HE := Lib.hid (withinR_same hv (d := bts d) (.inl h0))
      obtain ⟨t0, t1⟩ := emT h0
      clear h0
      go_enter Tryd.func26, Tryd.ntmps26
      go_wp2_with fail
      with_reducible refine (implValid_any s _ hm hs).mono ?_
      rintro e w1 ⟨rfl, hb1⟩
      rw [hv]
      clear hv
      go_wp2
      go_ret
      rw [HE.out]
      exact ⟨rfl, hb1⟩
    · obtain ⟨t0, t1⟩ := nemT h0
      by_cases h1 : bts s = bts d
      · have HE := Lib.hid (withinR_same hv (.inr h1))
        have t2 := eqT h1
        clear h0 h1
        go_enter Tryd.func26, Tryd.ntmps26
        go_wp2_with fail
        with_reducible refine (implValid_any s _ hm hs).mono ?_
        rintro e w1 ⟨rfl, hb1⟩
        rw [hv]
        clear hv
        go_wp2
        go_ret
        rw [HE.out]
        exact ⟨rfl, hb1⟩
      · have HE := Lib.hid (withinR_other hv h0 h1)
        have t2 := neT h1
        clear h0 h1
        go_enter Tryd.func26, Tryd.ntmps26
        go_wp2_with fail
        with_reducible refine (implValid_any s _ hm hs).mono ?_
        rintro e w1 ⟨rfl, hb1⟩
        rw [hv]
        clear hv
        go_wp2_with fail
        with_reducible refine (implValid_any d _ (hm.below hb1) hd).mono ?_
        rintro e w2 ⟨rfl, hb⟩
        have hb2 := hb1.trans (hb.mono hb1.size)
        clear hb
        by_cases hvd : pathV (bts d) = true
        · rw [hvd] at HE ⊢
          clear hvd
          go_wp2_with fail
          with_reducible refine (strings_HasPrefix s _ _).mono ?_
          rintro e w3 ⟨rfl, hw3⟩
          subst hw3
          have hh : Hid (Lib.hasPrefix s.data.toList (d ++ ⟨#[47]⟩ : ByteArray).data.toList = (bts d ++ [47]).isPrefixOf (bts s)) := Lib.hid (by
            show ((bts (d ++ ⟨#[47]⟩)).isPrefixOf (bts s)) = _
            rw [slash_bts])
          rw [hh.out]
          go_wp2
          go_ret
          rw [HE.out]
          exact ⟨rfl, hb2⟩
        · have hvd' : pathV (bts d) = false := by simpa using hvd
          rw [hvd'] at HE ⊢
          clear hvd hvd'
          go_wp2
          go_ret
          rw [HE.out]
          exact ⟨rfl, hb2⟩
  · have hv' : pathV (bts s) = false := by simpa using hv
    have HE := Lib.hid (withinR_bad (d := bts d) hv')
    go_enter Tryd.func26, Tryd.ntmps26
    go_wp2_with fail
    with_reducible refine (implValid_any s _ hm hs).mono ?_
    rintro e w1 ⟨rfl, hb1⟩
    rw [hv']
    clear hv hv'
    go_wp2
    go_ret
    rw [HE.out]
    exact ⟨rfl, hb1⟩

set_option maxHeartbeats 400000 in
theorem implPathWithin_any (s d : ByteArray) (w : World) (hm : MLen w) (hs : s.size ≤ 1073741824) (hd : d.size ≤ 1073741824) :
    Calls Tryd.prog 11 #[.string s, .string d] w (RetB w (.bool (withinR (bts s) (bts d)))) := by
  go_enter Tryd.func11, Tryd.ntmps11
  go_wp2_with fail
  with_reducible refine (implWithin_any s d _ hm hs hd).mono ?_
  rintro e w1 ⟨rfl, hb1⟩
  go_wp2
  go_ret
  exact ⟨rfl, hb1⟩

theorem withinR_L {l f : List UInt8} (h : pathV l = true) (hf : pathV f = true) : withinR l f = withinL l f := by
  simp [withinR, h, dirV, hf]

set_option maxHeartbeats 1000000 in
theorem implMove_any (s f t : ByteArray) (w : World) (hm : MLen w) (hs : s.size ≤ 1048576) (hf : f.size ≤ 1048576) (ht : t.size ≤ 1048576) :
    Calls Tryd.prog 31 #[.string s, .string f, .string t] w (RetP w (moveR (bts s) (bts f) (bts t))) := by
  have HNO := Lib.hid (@moveR_no (bts s) (bts f) (bts t))
  have HYES := Lib.hid (@moveR_yes (bts s) (bts f) (bts t))
  go_enter Tryd.func31, Tryd.ntmps31
  go_wp2_with fail
  with_reducible refine (implValid_any f _ hm (by omega)).mono ?_
  rintro e w1 ⟨rfl, hb1⟩
  by_cases hvf : pathV (bts f) = true
  · rw [hvf]
    go_wp2_with fail
    with_reducible refine (implValid_any t _ (hm.below hb1) (by omega)).mono ?_
    rintro e w2 ⟨rfl, hb⟩
    have hb2 := hb1.trans (hb.mono hb1.size)
    clear hb hb1
    by_cases hvt : pathV (bts t) = true
    · rw [hvt]
      go_wp2_with fail
      with_reducible refine (implWithin_any s f _ (hm.below hb2) (by omega) (by omega)).mono ?_
      rintro e w3 ⟨rfl, hb⟩
      have hb3 := hb2.trans (hb.mono hb2.size)
      clear hb hb2
      by_cases hw : withinR (bts s) (bts f) = true
      · have hv : pathV (bts s) = true := by
          cases hc : pathV (bts s) with
          | true => rfl
          | false => rw [withinR_bad hc] at hw; cases hw
        have hwl : withinL (bts s) (bts f) = true := by rw [← withinR_L hv hvf]; exact hw
        have hlen := withinL_len hwl
        rw [bts_length, bts_length] at hlen
        have hmb := moved_bts s f t
        have HV := Lib.hid hv
        have HVF := Lib.hid hvf
        have HVT := Lib.hid hvt
        have HW := Lib.hid hwl
        have HMB := Lib.hid hmb
        rw [hw]
        clear hv hvf hvt hw hmb hwl
        have hsz : (t ++ s.extract f.size s.size).size ≤ 1073741824 := by
          rw [← bts_length, HMB.out, List.length_append, List.length_drop, bts_length, bts_length]; omega
        go_wp2_with fail
        with_reducible refine (implValid_any (t ++ s.extract f.size s.size) _ (hm.below hb3) hsz).mono ?_
        rintro e w5 ⟨rfl, hb⟩
        have hb5 := hb3.trans (hb.mono hb3.size)
        clear hb
        by_cases hvo : pathV (bts (t ++ s.extract f.size s.size)) = true
        · have HE := Lib.hid (HYES.out ⟨HV.out, HVF.out, HVT.out, HW.out, by rw [← HMB.out]; exact hvo⟩)
          have hmk : Hid (mkS (bts t ++ (bts s).drop (bts f).length) = t ++ s.extract f.size s.size) := Lib.hid (by rw [← HMB.out, mk_bts])
          rw [hvo]
          clear hvo
          go_wp2
          go_ret2
          rw [HE.out]
          refine ⟨?_, hb5⟩
          simp only
          rw [hmk.out]
          rfl
        · have hvo' : pathV (bts (t ++ s.extract f.size s.size)) = false := by simpa using hvo
          have HE := Lib.hid (HNO.out (fun h => hvo (by rw [HMB.out]; exact h.2.2.2.2)))
          rw [hvo']
          clear hvo hvo'
          go_wp2
          go_ret2
          rw [HE.out]
          exact ⟨rfl, hb5⟩
      · have HE := Lib.hid (HNO.out (fun h => hw (by rw [withinR_L h.1 h.2.1]; exact h.2.2.2.1)))
        have hw' : withinR (bts s) (bts f) = false := by simpa using hw
        rw [hw']
        clear hw hw' hvf hvt
        go_wp2
        go_ret2
        rw [HE.out]
        exact ⟨rfl, hb3⟩
    · have HE := Lib.hid (HNO.out (fun h => hvt h.2.2.1))
      have hvt' : pathV (bts t) = false := by simpa using hvt
      rw [hvt']
      clear hvt hvt' hvf
      go_wp2
      go_ret2
      rw [HE.out]
      exact ⟨rfl, hb2⟩
  · have HE := Lib.hid (HNO.out (fun h => hvf h.2.1))
    have hvf' : pathV (bts f) = false := by simpa using hvf
    rw [hvf']
    clear hvf hvf'
    go_wp2
    go_ret2
    rw [HE.out]
    exact ⟨rfl, hb1⟩

set_option maxHeartbeats 400000 in
theorem implPathMove_any (s f t : ByteArray) (w : World) (hm : MLen w) (hs : s.size ≤ 1048576) (hf : f.size ≤ 1048576) (ht : t.size ≤ 1048576) :
    Calls Tryd.prog 20 #[.string s, .string f, .string t] w (RetP w (moveR (bts s) (bts f) (bts t))) := by
  obtain ⟨r, hr⟩ : ∃ r, moveR (bts s) (bts f) (bts t) = r := ⟨_, rfl⟩
  have HC := Lib.hid (fun (w : World) (hm : MLen w) => (hr ▸ implMove_any s f t w hm hs hf ht : Calls Tryd.prog 31 #[.string s, .string f, .string t] w (RetP w r)))
  rw [hr]
  clear hr
  obtain ⟨r1, r2⟩ := r
  go_enter Tryd.func20, Tryd.ntmps20
  go_wp2_with fail
  with_reducible refine (HC.out _ hm).mono ?_
  rintro e w1 ⟨rfl, hb1⟩
  go_wp2
  go_ret2
  exact ⟨rfl, hb1⟩

end Go.Proofs.YtpnkfbpecafkkaaDoor
