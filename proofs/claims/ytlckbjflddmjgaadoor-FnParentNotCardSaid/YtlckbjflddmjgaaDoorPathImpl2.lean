/- Contracts of the program's PathValid, PathParts, PathParent, PathWithin, PathMove. -/
import Derived.Test.YtlckbjflddmjgaaDoorPathImpl
import Derived.Lib.LastIndexByte
import Derived.Lib.Strings
namespace Go.Proofs.YtlckbjflddmjgaaDoor
open Go.RowKit
set_option linter.unusedVariables false

set_option maxHeartbeats 400000 in
theorem implPathValid_any (s : ByteArray) (w : World) (hm : MLen w) (hs : s.size ≤ 1073741824) :
    Calls Tryd.prog 13 #[.string s] w (RetB w (.bool (pathV (bts s)))) := by
  go_enter Tryd.func13, Tryd.ntmps13
  go_wp2_with fail
  with_reducible refine (implValid_any s _ hm hs).mono ?_
  rintro e w1 ⟨rfl, hb1⟩
  go_wp2
  go_ret
  exact ⟨rfl, hb1⟩

set_option maxHeartbeats 400000 in
theorem implPathParts_any (s : ByteArray) (w : World) (hm : MLen w) (hs : s.size ≤ 1073741824) :
    Calls Tryd.prog 10 #[.string s] w (RetS w (partsS s)) := by
  go_enter Tryd.func10, Tryd.ntmps10
  go_wp2_with fail
  with_reducible refine (implParts_any s _ hm hs).mono ?_
  rintro e w1 ⟨a, c, rfl, hO, hb1⟩
  go_wp2
  go_ret
  exact ⟨a, c, rfl, hO, hb1⟩

/-- The library's last place of a slash is ours. -/
theorem last_eq (s : ByteArray) : Lib.lastIndexByte s 47 = lastL (bts s) := by
  have hget : ∀ j, j < s.size → ((s.data[j]!).toNat : Int) = ((bts s)[j]?.getD 0).toNat := by
    intro j hj
    have hj' : j < s.data.size := hj
    rw [getElem!_pos s.data j hj', bts_get? s j hj]
    rfl
  have h47 : (47 : UInt8).toNat = 47 := rfl
  have hs := Lib.lastIdx_spec s 47 s.size
  unfold Lib.lastIndexByte
  rcases lastL_cases (bts s) with ⟨e, hno⟩ | ⟨a, p, e1, e2, e3⟩
  · rw [e]
    rcases hs with ⟨h, _⟩ | ⟨i, hi, h1, h2, _⟩
    · exact h
    · exfalso
      rw [hget i hi] at h2
      have hil : i < (bts s).length := by rw [bts_length]; exact hi
      rw [List.getElem?_eq_getElem hil] at h2
      simp only [Option.getD_some] at h2
      exact hno _ (List.getElem_mem hil) (UInt8.toNat_inj.1 (by rw [h47]; omega))
  · rw [e2]
    have hlen : s.size = a.length + 1 + p.length := by
      have := congrArg List.length e1
      rw [bts_length] at this
      simp at this; omega
    have hat : (bts s)[a.length]? = some 47 := by rw [e1]; simp
    rcases hs with ⟨_, hn⟩ | ⟨i, hi, h1, h2, h3⟩
    · exfalso
      have := hn a.length (by omega)
      rw [hget _ (by omega), hat] at this
      exact this rfl
    · rw [h1]
      rcases Nat.lt_trichotomy i a.length with h | h | h
      · exfalso
        have := h3 a.length h (by omega)
        rw [hget _ (by omega), hat] at this
        exact this rfl
      · rw [h]
      · exfalso
        rw [hget i hi] at h2
        obtain ⟨m, rfl⟩ : ∃ m, i = a.length + (m + 1) := ⟨i - a.length - 1, by omega⟩
        have : (bts s)[a.length + (m + 1)]? = p[m]? := by
          rw [e1, List.getElem?_append_right (by omega), Nat.add_sub_cancel_left, List.getElem?_cons_succ]
        have hip : m < p.length := by omega
        rw [this, List.getElem?_eq_getElem hip] at h2
        simp only [Option.getD_some] at h2
        exact e3 _ (List.getElem_mem hip) (UInt8.toNat_inj.1 (by rw [h47]; omega))

set_option maxHeartbeats 400000 in
theorem implParent_any (s : ByteArray) (w : World) (hm : MLen w) (hs : s.size ≤ 1073741824) :
    Calls Tryd.prog 32 #[.string s] w (RetP w (parentR (bts s))) := by
  go_enter Tryd.func32, Tryd.ntmps32
  go_wp2_with fail
  with_reducible refine (implValid_any s _ hm hs).mono ?_
  rintro e w1 ⟨rfl, hb1⟩
  by_cases hv : pathV (bts s) = true
  · have HE := Lib.hid (parentR_yes hv)
    rw [hv]
    clear hv
    go_wp2_with fail
    with_reducible refine (strings_LastIndexByte s 47 (by omega) _).mono ?_
    rintro e w2 ⟨rfl, hw2⟩
    rw [last_eq]
    have hge := lastL_ge (bts s)
    have hcs := lastL_cases (bts s)
    obtain ⟨t, ht⟩ : ∃ t, lastL (bts s) = t := ⟨_, rfl⟩
    have hlt : t ≤ (s.size : Int) := by
      rw [ht] at hcs
      rcases hcs with ⟨h, _⟩ | ⟨a, p, h1, h2, _⟩
      · omega
      · have := congrArg List.length h1
        rw [bts_length] at this
        simp at this
        omega
    rw [ht] at hge ⊢
    have HT := Lib.hid ht
    subst hw2
    have hmk : Hid (mkS ((bts s).take t.toNat) = s.extract 0 t.toNat) := Lib.hid (by
      apply bts_inj
      rw [bts_mk, bts_extract, List.drop_zero, Nat.sub_zero])
    clear hcs ht
    by_cases h0 : t < 0
    · have hem : Hid (mkS ((bts s).take t.toNat) = ByteArray.empty) := Lib.hid (by
        rw [show t.toNat = 0 by omega]; rfl)
      go_wp2
      go_ret2
      rw [HE.out]
      refine ⟨?_, hb1⟩
      rw [HT.out]
      simp only
      rw [hem.out]
      rfl
    · go_wp2
      go_ret2
      rw [HE.out]
      refine ⟨?_, hb1⟩
      rw [HT.out]
      simp only
      rw [hmk.out]
      rfl
  · have hv' : pathV (bts s) = false := by simpa using hv
    have HE := Lib.hid (parentR_no hv')
    rw [hv']
    clear hv hv'
    go_wp2
    go_ret2
    rw [HE.out]
    exact ⟨rfl, hb1⟩

set_option maxHeartbeats 400000 in
theorem implPathParent_any (s : ByteArray) (w : World) (hm : MLen w) (hs : s.size ≤ 1073741824) :
    Calls Tryd.prog 19 #[.string s] w (RetP w (parentR (bts s))) := by
  obtain ⟨r, hr⟩ : ∃ r, parentR (bts s) = r := ⟨_, rfl⟩
  have HC := Lib.hid (fun (w : World) (hm : MLen w) => (hr ▸ implParent_any s w hm hs : Calls Tryd.prog 32 #[.string s] w (RetP w r)))
  rw [hr]
  clear hr
  obtain ⟨r1, r2⟩ := r
  go_enter Tryd.func19, Tryd.ntmps19
  go_wp2_with fail
  with_reducible refine (HC.out _ hm).mono ?_
  rintro e w1 ⟨rfl, hb1⟩
  go_wp2
  go_ret2
  exact ⟨rfl, hb1⟩

theorem withinR_bad {l d : List UInt8} (h : pathV l = false) : withinR l d = false := by simp [withinR, h]
theorem withinR_same {l d : List UInt8} (h : pathV l = true) (h1 : d = [] ∨ l = d) : withinR l d = true := by
  rcases h1 with rfl | rfl
  · simp [withinR, h, dirV, withinL_nil]
  · simp [withinR, h, dirV, withinL_self]
theorem withinR_other {l d : List UInt8} (h : pathV l = true) (h0 : d ≠ []) (h1 : l ≠ d) : withinR l d = (pathV d && (d ++ [47]).isPrefixOf l) := by
  rw [withinR, h, Bool.true_and, withinL_prefix h0 h1]
  simp [dirV, h0]

theorem slash_bts (d : ByteArray) : bts (d ++ ⟨#[47]⟩) = bts d ++ [47] := by rw [bts_append]; rfl

set_option maxHeartbeats 400000 in
theorem implWithin_any (s d : ByteArray) (w : World) (hm : MLen w) (hs : s.size ≤ 1073741824) (hd : d.size ≤ 1073741824) :
    Calls Tryd.prog 28 #[.string s, .string d] w (RetB w (.bool (withinR (bts s) (bts d)))) := by
  by_cases hv : pathV (bts s) = true
  · by_cases h0 : bts d = []
    · have HE := Lib.hid (withinR_same hv (d := bts d) (.inl h0))
      obtain ⟨t0, t1⟩ := emT h0
      clear h0
      go_enter Tryd.func28, Tryd.ntmps28
      go_wp2_with fail
      with_reducible refine (implValid_any s _ hm hs).mono ?_
      rintro e w1 ⟨rfl, hb1⟩
      rw [hv]
      clear hv
      go_wp2
      go_ret
      rw [HE.out]
      exact ⟨rfl, hb1⟩
    · obtain ⟨t0, t1⟩ := nemT h0
      by_cases h1 : bts s = bts d
      · have HE := Lib.hid (withinR_same hv (.inr h1))
        have t2 := eqT h1
        clear h0 h1
        go_enter Tryd.func28, Tryd.ntmps28
        go_wp2_with fail
        with_reducible refine (implValid_any s _ hm hs).mono ?_
        rintro e w1 ⟨rfl, hb1⟩
        rw [hv]
        clear hv
        go_wp2
        go_ret
        rw [HE.out]
        exact ⟨rfl, hb1⟩
      · have HE := Lib.hid (withinR_other hv h0 h1)
        have t2 := neT h1
        clear h0 h1
        go_enter Tryd.func28, Tryd.ntmps28
        go_wp2_with fail
        with_reducible refine (implValid_any s _ hm hs).mono ?_
        rintro e w1 ⟨rfl, hb1⟩
        rw [hv]
        clear hv
        go_wp2_with fail
        with_reducible refine (implValid_any d _ (hm.below hb1) hd).mono ?_
        rintro e w2 ⟨rfl, hb⟩
        have hb2 := hb1.trans (hb.mono hb1.size)
        clear hb
        by_cases hvd : pathV (bts d) = true
        · rw [hvd] at HE ⊢
          clear hvd
          go_wp2_with fail
          with_reducible refine (strings_HasPrefix s _ _).mono ?_
          rintro e w3 ⟨rfl, hw3⟩
          subst hw3
          have hh : Hid (Lib.hasPrefix s.data.toList (d ++ ⟨#[47]⟩ : ByteArray).data.toList = (bts d ++ [47]).isPrefixOf (bts s)) := Lib.hid (by
            show ((bts (d ++ ⟨#[47]⟩)).isPrefixOf (bts s)) = _
            rw [slash_bts])
          rw [hh.out]
          go_wp2
          go_ret
          rw [HE.out]
          exact ⟨rfl, hb2⟩
        · have hvd' : pathV (bts d) = false := by simpa using hvd
          rw [hvd'] at HE ⊢
          clear hvd hvd'
          go_wp2
          go_ret
          rw [HE.out]
          exact ⟨rfl, hb2⟩
  · have hv' : pathV (bts s) = false := by simpa using hv
    have HE := Lib.hid (withinR_bad (d := bts d) hv')
    go_enter Tryd.func28, Tryd.ntmps28
    go_wp2_with fail
    with_reducible refine (implValid_any s _ hm hs).mono ?_
    rintro e w1 ⟨rfl, hb1⟩
    rw [hv']
    clear hv hv'
    go_wp2
    go_ret
    rw [HE.out]
    exact ⟨rfl, hb1⟩

set_option maxHeartbeats 400000 in
theorem implPathWithin_any (s d : ByteArray) (w : World) (hm : MLen w) (hs : s.size ≤ 1073741824) (hd : d.size ≤ 1073741824) :
    Calls Tryd.prog 15 #[.string s, .string d] w (RetB w (.bool (withinR (bts s) (bts d)))) := by
  go_enter Tryd.func15, Tryd.ntmps15
  go_wp2_with fail
  with_reducible refine (implWithin_any s d _ hm hs hd).mono ?_
  rintro e w1 ⟨rfl, hb1⟩
  go_wp2
  go_ret
  exact ⟨rfl, hb1⟩

theorem withinR_L {l f : List UInt8} (h : pathV l = true) (hf : pathV f = true) : withinR l f = withinL l f := by
  simp [withinR, h, dirV, hf]

end Go.Proofs.YtlckbjflddmjgaaDoor
