/- Walks of the laws on paths. -/
import Derived.Test.YtfniekcgfeejbaaDoorDrawPath
import Derived.Test.YtfniekcgfeejbaaDoorSameT
import Derived.Test.YtfniekcgfeejbaaDoorPlainPath3
import Derived.Test.YtfniekcgfeejbaaDoorPathImpl2
import Derived.Test.YtfniekcgfeejbaaDoorTr
import Derived.OwnWalk
namespace Go.Proofs.YtfniekcgfeejbaaDoor
open Go.RowKit
set_option linter.unusedVariables false

theorem OwnS.rdL {w : World} {B : Nat} {a : Option Addr} {c L : Nat} {ss : List ByteArray} (h : OwnS w B a c ss) (hL : ss.length = L) : RdS w a L ss := hL ▸ h.rd

theorem RdS.pre {w : World} {a : Option Addr} {n m : Nat} {ss : List ByteArray} (h : RdS w a n ss) (hm : m ≤ n) : RdS w a m (ss.take m) := by
  refine ⟨by rw [List.length_take, h.1]; omega, fun i hi => ?_⟩
  obtain ⟨b, off, rfl, hlt, hc⟩ := h.2 i (by omega)
  refine ⟨b, off, rfl, hlt, fun j hj => ?_⟩
  rw [hc j (by omega)]
  simp [List.getD_eq_getElem?_getD, hj]

theorem partsS_le (s : ByteArray) : (partsS s).length ≤ s.size + 1 := by
  have h2 := cutL_length (bts s)
  rw [bts_length] at h2
  rw [partsS_lenR]
  unfold partsR
  split
  · omega
  · simp

theorem moveR_size (s f t : ByteArray) : (mkS (moveR (bts s) (bts f) (bts t)).1).size ≤ s.size + t.size := by
  rw [mkS_size, ← bts_length, ← bts_length]
  unfold moveR
  split
  · simp; omega
  · simp

set_option maxHeartbeats 1000000 in
theorem FnMove_walk (a : Option Addr) (n c : Nat) (w : World) (h : RdC w a n) (hc : n ≤ c) (hmx : c ≤ maxLen) (hm : MLen w) :
    Calls Tryd.prog 4 #[.slice a n c] w (Tr w) := by
  unfold maxLen at hmx
  by_cases hn : n ≤ 1048576
  · skip
    go_enter Tryd.func4, Tryd.ntmps4
    go_wp2_with fail
    with_reducible refine (DrawPathMove_any a n c _ h hc hn).mono ?_
    rintro e w1 ⟨s, f, t, rfl, hs, hf, ht, hb⟩
    have hb1 := hb
    have hm1 := hm.below hb
    clear hb 
    clear h hm
    go_wp2_with fail
    with_reducible refine (implPathMove_any s f t _ hm1 (by omega) (by omega) (by omega)).mono ?_
    rintro e w2 ⟨rfl, hb⟩
    have hb2 := hb1.trans (hb.mono hb1.size)
    have hm2 := hm1.below hb
    clear hb hb1 hm1
    go_wp2_with fail
    with_reducible refine (specPathMove_any s f t _ (by omega) (by omega) (by omega)).mono ?_
    rintro e w3 ⟨rfl, hb⟩
    have hb3 := hb2.trans (hb.mono hb2.size)
    have hm3 := hm2.below hb
    clear hb hb2 hm2

    have hml := Lib.hid (@move_law (bts s) (bts f) (bts t))
    have hms := moveR_size s f t
    obtain ⟨d, hd⟩ : ∃ d, mkS (moveR (bts s) (bts f) (bts t)).1 = d := ⟨_, rfl⟩
    have hbd : bts d = (moveR (bts s) (bts f) (bts t)).1 := by rw [← hd, bts_mk]
    obtain ⟨ok, hok⟩ : ∃ ok, (moveR (bts s) (bts f) (bts t)).2 = ok := ⟨_, rfl⟩
    rw [← hbd, hok] at hml
    rw [hd] at hms
    rw [hd, hok]
    have e1 : (d.toList == d.toList) = true := eqT rfl
    have e2 : (d.toList != d.toList) = false := by simp
    clear hd hok hbd
    cases ok with
    | false =>
      clear hml
      go_wp2
      go_ret
      exact ⟨rfl, hb3⟩
    | true =>
      obtain ⟨m1, m2, m3, m4, m5, m6, m7, m8⟩ := hml.out rfl
      clear hml
      have L1 := partsS_lenV m1
      have L2 := partsS_lenV m2
      have L3 := partsS_lenV m3
      have L4 := partsS_lenV m4
      rw [← L1, ← L2, ← L3, ← L4] at m6
      have W1 := Lib.hid m5
      have M6 := Lib.hid m6
      have q1 := partsS_le s
      have q2 := partsS_le f
      have q3 := partsS_le d
      have q4 := partsS_le t
      clear L1 L2 L3 L4 m1 m2 m3 m4 m5 m6 m7 m8
      go_wp2_with fail
      with_reducible refine (implPathParts_any s _ hm3 (by omega)).mono ?_
      rintro e w4 ⟨aPs, cPs, rfl, hPs, hb⟩
      have hb4 := hb3.trans (hb.mono hb3.size)
      have hm4 := hm3.below hb
      have hcs := hPs.cap
      clear hb hPs
      go_wp2_with fail
      with_reducible refine (implPathParts_any f _ hm4 (by omega)).mono ?_
      rintro e w5 ⟨aPf, cPf, rfl, hPf, hb⟩
      have hb5 := hb4.trans (hb.mono hb4.size)
      have hm5 := hm4.below hb
      have hcf := hPf.cap
      clear hb hPf
      go_wp2_with fail
      with_reducible refine (implPathParts_any d _ hm5 (by omega)).mono ?_
      rintro e w6 ⟨aPd, cPd, rfl, hPd, hb⟩
      have hb6 := hb5.trans (hb.mono hb5.size)
      have hm6 := hm5.below hb
      have hcd := hPd.cap
      clear hb hPd
      go_wp2_with fail
      with_reducible refine (implPathParts_any t _ hm6 (by omega)).mono ?_
      rintro e w7 ⟨aPt, cPt, rfl, hPt, hb⟩
      have hb7 := hb6.trans (hb.mono hb6.size)
      have hm7 := hm6.below hb
      have hct := hPt.cap
      clear hb hPt
      have Q1 := Lib.hid (show (((partsS s).length : Int) - ((partsS f).length : Int) == ((partsS d).length : Int) - ((partsS t).length : Int)) = true by rw [M6.out]; simp)
      go_wp2_with fail
      with_reducible refine (implPathWithin_any d t _ hm7 (by omega) (by omega)).mono ?_
      rintro e w8 ⟨rfl, hb⟩
      have hb8 := hb7.trans (hb.mono hb7.size)
      rw [W1.out]
      go_wp2
      go_ret
      refine ⟨?_, hb8⟩
      show Ending.returned (.bool (((partsS s).length : Int) - ((partsS f).length : Int) == ((partsS d).length : Int) - ((partsS t).length : Int))) = _
      rw [Q1.out]
  · have hbig : 1048576 < n := by omega
    go_enter Tryd.func4, Tryd.ntmps4
    go_wp2
    go_ret
    exact ⟨rfl, Below.refl _ _⟩

set_option maxHeartbeats 1000000 in
theorem FnMoveBack_walk (a : Option Addr) (n c : Nat) (w : World) (h : RdC w a n) (hc : n ≤ c) (hmx : c ≤ maxLen) (hm : MLen w) :
    Calls Tryd.prog 3 #[.slice a n c] w (Tr w) := by
  unfold maxLen at hmx
  by_cases hn : n ≤ 1048576
  · skip
    go_enter Tryd.func3, Tryd.ntmps3
    go_wp2_with fail
    with_reducible refine (DrawPathMove_any a n c _ h hc hn).mono ?_
    rintro e w1 ⟨s, f, t, rfl, hs, hf, ht, hb⟩
    have hb1 := hb
    have hm1 := hm.below hb
    clear hb 
    clear h hm
    go_wp2_with fail
    with_reducible refine (implPathMove_any s f t _ hm1 (by omega) (by omega) (by omega)).mono ?_
    rintro e w2 ⟨rfl, hb⟩
    have hb2 := hb1.trans (hb.mono hb1.size)
    have hm2 := hm1.below hb
    clear hb hb1 hm1
    go_wp2_with fail
    with_reducible refine (specPathMove_any s f t _ (by omega) (by omega) (by omega)).mono ?_
    rintro e w3 ⟨rfl, hb⟩
    have hb3 := hb2.trans (hb.mono hb2.size)
    have hm3 := hm2.below hb
    clear hb hb2 hm2

    have hml := Lib.hid (@move_law (bts s) (bts f) (bts t))
    have hms := moveR_size s f t
    obtain ⟨d, hd⟩ : ∃ d, mkS (moveR (bts s) (bts f) (bts t)).1 = d := ⟨_, rfl⟩
    have hbd : bts d = (moveR (bts s) (bts f) (bts t)).1 := by rw [← hd, bts_mk]
    obtain ⟨ok, hok⟩ : ∃ ok, (moveR (bts s) (bts f) (bts t)).2 = ok := ⟨_, rfl⟩
    rw [← hbd, hok] at hml
    rw [hd] at hms
    rw [hd, hok]
    have e1 : (d.toList == d.toList) = true := eqT rfl
    have e2 : (d.toList != d.toList) = false := by simp
    clear hd hok hbd
    cases ok with
    | false =>
      clear hml
      go_wp2
      go_ret
      exact ⟨rfl, hb3⟩
    | true =>
      obtain ⟨m1, m2, m3, m4, m5, m6, m7, m8⟩ := hml.out rfl
      clear hml
      have W1 := Lib.hid m7
      have W2 := Lib.hid m8
      have es : (s.toList == s.toList) = true := eqT rfl
      clear m1 m2 m3 m4 m5 m6 m7 m8
      go_wp2_with fail
      with_reducible refine (implPathMove_any d t f _ hm3 (by omega) (by omega) (by omega)).mono ?_
      rintro e w4 ⟨rfl, hb⟩
      have hb4 := hb3.trans (hb.mono hb3.size)
      have hm4 := hm3.below hb
      rw [W1.out]
      simp only [mk_bts]
      clear hb
      go_wp2_with fail
      with_reducible refine (implPathMove_any s f f _ hm4 (by omega) (by omega) (by omega)).mono ?_
      rintro e w5 ⟨rfl, hb⟩
      have hb5 := hb4.trans (hb.mono hb4.size)
      rw [W2.out]
      simp only [mk_bts]
      go_wp2
      go_ret
      exact ⟨rfl, hb5⟩
  · have hbig : 1048576 < n := by omega
    go_enter Tryd.func3, Tryd.ntmps3
    go_wp2
    go_ret
    exact ⟨rfl, Below.refl _ _⟩

end Go.Proofs.YtfniekcgfeejbaaDoor
