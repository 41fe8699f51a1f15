/- The exact laws on paths that hold no memory: walks. -/
import Derived.Test.YtpnkfbpecafkkaaDoorPathImpl2
namespace Go.Proofs.YtpnkfbpecafkkaaDoor
open Go.RowKit
set_option linter.unusedVariables false

set_option maxHeartbeats 600000 in
theorem FnExactPathValid_walk (s : ByteArray) (W : World) (ms : s.size ≤ maxLen) (hm : MLen W) :
    Calls Tryd.prog 3 #[.string s] W (fun e W' => e = .returned (.bool true) ∧ Below W.heap.size W W') := by
  by_cases hs : 1048576 < s.size
  · have ds : decide ((1048576 : Int) < (s.size : Int)) = true := by simp; omega
    go_enter Tryd.func3, Tryd.ntmps3
    go_wp2
    go_ret
    exact ⟨rfl, Below.refl _ _⟩
  have ds : decide ((1048576 : Int) < (s.size : Int)) = false := by simp; omega
  go_enter Tryd.func3, Tryd.ntmps3
  go_wp2_with fail
  obtain ⟨rr, hrr⟩ : ∃ rr, pathV (bts s) = rr := ⟨_, rfl⟩
  have HR := Lib.hid hrr
  with_reducible refine (specPathValid_any s _ (by omega)).mono ?_
  rintro e w1 ⟨rfl, hb1⟩
  rw [hrr]
  have hm1 := hm.below hb1
  have e2 : (rr == rr) = true := by simp
  have e3 : (rr != rr) = false := by simp
  go_wp2_with fail
  with_reducible refine (implPathValid_any s _ hm1 (by omega)).mono ?_
  rintro e w2 ⟨rfl, hb2⟩
  rw [HR.out]
  go_wp2
  go_ret
  exact ⟨rfl, hb1.trans (hb2.mono hb1.size)⟩

set_option maxHeartbeats 600000 in
theorem FnExactPathWithin_walk (s : ByteArray) (d : ByteArray) (W : World) (ms : s.size ≤ maxLen) (md : d.size ≤ maxLen) (hm : MLen W) :
    Calls Tryd.prog 4 #[.string s, .string d] W (fun e W' => e = .returned (.bool true) ∧ Below W.heap.size W W') := by
  by_cases hs : 1048576 < s.size
  · have ds : decide ((1048576 : Int) < (s.size : Int)) = true := by simp; omega
    go_enter Tryd.func4, Tryd.ntmps4
    go_wp2
    go_ret
    exact ⟨rfl, Below.refl _ _⟩
  have ds : decide ((1048576 : Int) < (s.size : Int)) = false := by simp; omega
  by_cases hd : 1048576 < d.size
  · have dd : decide ((1048576 : Int) < (d.size : Int)) = true := by simp; omega
    go_enter Tryd.func4, Tryd.ntmps4
    go_wp2
    go_ret
    exact ⟨rfl, Below.refl _ _⟩
  have dd : decide ((1048576 : Int) < (d.size : Int)) = false := by simp; omega
  go_enter Tryd.func4, Tryd.ntmps4
  go_wp2_with fail
  obtain ⟨rr, hrr⟩ : ∃ rr, withinR (bts s) (bts d) = rr := ⟨_, rfl⟩
  have HR := Lib.hid hrr
  with_reducible refine (specPathWithin_any s d _ (by omega) (by omega)).mono ?_
  rintro e w1 ⟨rfl, hb1⟩
  rw [hrr]
  have hm1 := hm.below hb1
  have e2 : (rr == rr) = true := by simp
  have e3 : (rr != rr) = false := by simp
  go_wp2_with fail
  with_reducible refine (implPathWithin_any s d _ hm1 (by omega) (by omega)).mono ?_
  rintro e w2 ⟨rfl, hb2⟩
  rw [HR.out]
  go_wp2
  go_ret
  exact ⟨rfl, hb1.trans (hb2.mono hb1.size)⟩

set_option maxHeartbeats 600000 in
theorem FnExactPathParent_walk (s : ByteArray) (W : World) (ms : s.size ≤ maxLen) (hm : MLen W) :
    Calls Tryd.prog 5 #[.string s] W (fun e W' => e = .returned (.bool true) ∧ Below W.heap.size W W') := by
  by_cases hs : 1048576 < s.size
  · have ds : decide ((1048576 : Int) < (s.size : Int)) = true := by simp; omega
    go_enter Tryd.func5, Tryd.ntmps5
    go_wp2
    go_ret
    exact ⟨rfl, Below.refl _ _⟩
  have ds : decide ((1048576 : Int) < (s.size : Int)) = false := by simp; omega
  go_enter Tryd.func5, Tryd.ntmps5
  go_wp2_with fail
  obtain ⟨rr, hrr⟩ : ∃ rr, parentR (bts s) = rr := ⟨_, rfl⟩
  have HR := Lib.hid hrr
  with_reducible refine (specPathParent_any s _ (by omega)).mono ?_
  rintro e w1 ⟨rfl, hb1⟩
  rw [hrr]
  have hm1 := hm.below hb1
  obtain ⟨l, b⟩ := rr
  have e1 : ((mkS l).toList == (mkS l).toList) = true := eqT rfl
  have e2 : (b == b) = true := by simp
  have e3 : (b != b) = false := by simp
  go_wp2_with fail
  with_reducible refine (implPathParent_any s _ hm1 (by omega)).mono ?_
  rintro e w2 ⟨rfl, hb2⟩
  rw [HR.out]
  go_wp2
  go_ret
  exact ⟨rfl, hb1.trans (hb2.mono hb1.size)⟩

set_option maxHeartbeats 600000 in
theorem FnExactPathMove_walk (s : ByteArray) (f : ByteArray) (t : ByteArray) (W : World) (ms : s.size ≤ maxLen) (mf : f.size ≤ maxLen) (mt : t.size ≤ maxLen) (hm : MLen W) :
    Calls Tryd.prog 7 #[.string s, .string f, .string t] W (fun e W' => e = .returned (.bool true) ∧ Below W.heap.size W W') := by
  by_cases hs : 1048576 < s.size
  · have ds : decide ((1048576 : Int) < (s.size : Int)) = true := by simp; omega
    go_enter Tryd.func7, Tryd.ntmps7
    go_wp2
    go_ret
    exact ⟨rfl, Below.refl _ _⟩
  have ds : decide ((1048576 : Int) < (s.size : Int)) = false := by simp; omega
  by_cases hf : 1048576 < f.size
  · have df : decide ((1048576 : Int) < (f.size : Int)) = true := by simp; omega
    go_enter Tryd.func7, Tryd.ntmps7
    go_wp2
    go_ret
    exact ⟨rfl, Below.refl _ _⟩
  have df : decide ((1048576 : Int) < (f.size : Int)) = false := by simp; omega
  by_cases ht : 1048576 < t.size
  · have dt : decide ((1048576 : Int) < (t.size : Int)) = true := by simp; omega
    go_enter Tryd.func7, Tryd.ntmps7
    go_wp2
    go_ret
    exact ⟨rfl, Below.refl _ _⟩
  have dt : decide ((1048576 : Int) < (t.size : Int)) = false := by simp; omega
  go_enter Tryd.func7, Tryd.ntmps7
  go_wp2_with fail
  obtain ⟨rr, hrr⟩ : ∃ rr, moveR (bts s) (bts f) (bts t) = rr := ⟨_, rfl⟩
  have HR := Lib.hid hrr
  with_reducible refine (specPathMove_any s f t _ (by omega) (by omega) (by omega)).mono ?_
  rintro e w1 ⟨rfl, hb1⟩
  rw [hrr]
  have hm1 := hm.below hb1
  obtain ⟨l, b⟩ := rr
  have e1 : ((mkS l).toList == (mkS l).toList) = true := eqT rfl
  have e2 : (b == b) = true := by simp
  have e3 : (b != b) = false := by simp
  go_wp2_with fail
  with_reducible refine (implPathMove_any s f t _ hm1 (by omega) (by omega) (by omega)).mono ?_
  rintro e w2 ⟨rfl, hb2⟩
  rw [HR.out]
  go_wp2
  go_ret
  exact ⟨rfl, hb1.trans (hb2.mono hb1.size)⟩

end Go.Proofs.YtpnkfbpecafkkaaDoor
