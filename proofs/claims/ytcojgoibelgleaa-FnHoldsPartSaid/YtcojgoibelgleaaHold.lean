/- Contracts: szHoldS, toHoldS, eqHoldS. -/
import Derived.Test.YtcojgoibelgleaaEltO
import Derived.Test.YtcojgoibelgleaaBaseS
import Derived.Test.YtcojgoibelgleaaIn
import Derived.BigQuiet
import Derived.Deep.QuietTactic
import Derived.StillTailTactics
import Derived.Outline
namespace Go.Proofs.Ytcojgoibelgleaa
open Go.RowKit
set_option linter.unusedVariables false

/-- How many bytes the texts have. -/
def szO (xs : List (ByteArray × ByteArray)) : Int := (xs.map fun x => (x.1.size : Int) + x.2.size).sum

theorem szO_cons (x : ByteArray × ByteArray) (xs : List (ByteArray × ByteArray)) : szO (x :: xs) = x.1.size + x.2.size + szO xs := by simp [szO]
theorem szO_nonneg (xs : List (ByteArray × ByteArray)) : 0 ≤ szO xs := by
  induction xs with
  | nil => simp [szO]
  | cons x xs ih => rw [szO_cons]; omega
theorem szO_mem {xs : List (ByteArray × ByteArray)} {x : ByteArray × ByteArray} (h : x ∈ xs) : (x.1.size : Int) + x.2.size ≤ szO xs := by
  induction xs with
  | nil => cases h
  | cons y ys ih =>
    rw [szO_cons]
    rcases List.mem_cons.1 h with rfl | h
    · have := szO_nonneg ys; omega
    · have := ih h; omega
theorem szO_drop {xs : List (ByteArray × ByteArray)} {k : Nat} {x : ByteArray × ByteArray} (h : xs[k]? = some x) : szO (xs.drop k) = x.1.size + x.2.size + szO (xs.drop (k + 1)) := by
  obtain ⟨hk, rfl⟩ := List.getElem?_eq_some_iff.1 h
  rw [List.drop_eq_getElem_cons hk, szO_cons]

/-- What a size that is asked leaves. -/
def leftO (l s : Int) : Int := if l - s < 0 then -1 else l - s

set_option maxHeartbeats 400000 in
theorem szHold_any (x y : ByteArray) (l : Int) (w : World) (h0 : 0 ≤ l) (h1 : l ≤ 4611686018427387904) (hx : x.size ≤ maxLen) (hy : y.size ≤ maxLen) :
    Calls Try.prog 11 #[.agg #[.string x, .string y], .int .i64 l] w (RetB w (.int .i64 (leftO l (x.size + y.size)))) := by
  unfold maxLen at hx hy
  by_cases a1 : l - x.size < 0
  · have hr : leftO l (x.size + y.size) = -1 := by unfold leftO; rw [if_pos (by omega)]
    rw [hr]
    clear hr
    have d1 : decide (l - (x.size : Int) < 0) = true := by simpa using a1
    go_enter Try.func11, Try.ntmps11
    go_wp2
    go_ret
    exact ⟨rfl, (Below.refl _ _).alloc (Nat.le_refl _) _⟩
  · have d1 : decide (l - (x.size : Int) < 0) = false := by simpa using a1
    by_cases a2 : l - x.size - y.size < 0
    · have hr : leftO l (x.size + y.size) = -1 := by unfold leftO; rw [if_pos (by omega)]
      rw [hr]
      clear hr
      have d2 : decide (l - (x.size : Int) - (y.size : Int) < 0) = true := by simpa using a2
      go_enter Try.func11, Try.ntmps11
      go_wp2
      go_ret
      exact ⟨rfl, (Below.refl _ _).alloc (Nat.le_refl _) _⟩
    · have d2 : decide (l - (x.size : Int) - (y.size : Int) < 0) = false := by simpa using a2
      have hr : leftO l (x.size + y.size) = l - x.size - y.size := by unfold leftO; rw [if_neg (by omega)]; omega
      rw [hr]
      clear hr
      go_enter Try.func11, Try.ntmps11
      go_wp2
      go_ret
      exact ⟨rfl, (Below.refl _ _).alloc (Nat.le_refl _) _⟩

/-- All texts fit the memory. -/
def WfO (xs : List (ByteArray × ByteArray)) : Prop := ∀ x ∈ xs, x.1.size ≤ maxLen ∧ x.2.size ≤ maxLen

set_option maxHeartbeats 400000 in
theorem szHoldS_any (a : Option Addr) (n c : Nat) (xs : List (ByteArray × ByteArray)) (l : Int) (w : World) (hr : RdR eltOL w a n xs) (hwf : WfO xs) (hn : n ≤ 4611686018427387904) (h0 : 0 ≤ l) (h1 : l ≤ 1099511627776) :
    Calls Try.prog 5 #[.slice a n c, .int .i64 l] w (RetB w (.int .i64 (leftO l (n + szO xs)))) := by
  have hsn := szO_nonneg xs
  by_cases a1 : l - n < 0
  · have hrr : leftO l (n + szO xs) = -1 := by unfold leftO; rw [if_pos (by omega)]
    rw [hrr]
    clear hrr
    have d1 : decide (l - (n : Int) < 0) = true := by simpa using a1
    go_enter Try.func5, Try.ntmps5
    go_wp2
    go_ret
    exact ⟨rfl, Below.refl _ _⟩
  have d1 : decide (l - (n : Int) < 0) = false := by simpa using a1
  have hl := Lib.hid hr.1
  have HW := Lib.hid hwf
  clear hwf
  go_enter Try.func5, Try.ntmps5
  go_wp2
  go_loopw [1, 5] (fun v i wr => ∃ k : Nat, k ≤ n ∧ i = .int .i64 k ∧ ∃ q : Int, v = .int .i64 q ∧ 0 ≤ q ∧ q ≤ 1099511627776 ∧ Hid (leftO l (n + szO xs) = leftO q (szO (xs.drop k))) ∧ Below w.heap.size w wr)
    (fun _ i _ => n - (intOf i).toNat)
  case atStart => exact ⟨0, Nat.zero_le _, rfl, l - n, rfl, by omega, by omega, Lib.hid (by rw [List.drop_zero]; unfold leftO; rw [show l - (n + szO xs) = l - n - szO xs by omega]), Below.refl _ _⟩
  case round =>
    obtain ⟨k, hk, rfl, q, rfl, q0, q1, he, hb⟩ := hrel
    by_cases hlt : k < n
    · obtain ⟨b, off, x, rfl, hbl, hx, c0, c1⟩ := atOL (hr.below hb) hlt
      have hd := szO_drop hx
      have hw := HW.out x (List.mem_of_getElem? hx)
      have hnn := szO_nonneg (xs.drop (k + 1))
      have HD := Lib.hid hd
      have HS := Lib.hid hnn
      clear hd hx hnn
      go_wp2_with fail
      with_reducible refine (szHold_any x.1 x.2 q _ q0 (by omega) hw.1 hw.2).mono ?_
      rintro e w2 ⟨rfl, hb2⟩
      have hb3 := hb.trans (hb2.mono hb.size)
      clear hb2 hb
      by_cases a2 : q - (x.1.size + x.2.size) < 0
      · have hq : leftO q (x.1.size + x.2.size) = -1 := by unfold leftO; rw [if_pos a2]
        have HR : Hid (leftO l (n + szO xs) = -1) := Lib.hid (by
          rw [he.out, HD.out]; have := HS.out; unfold leftO; rw [if_pos (by omega)])
        rw [hq]
        clear hq
        go_wp2
        go_ret
        rw [HR.out]
        exact ⟨rfl, hb3⟩
      · have hq : leftO q (x.1.size + x.2.size) = q - (x.1.size + x.2.size) := by unfold leftO; rw [if_neg a2]
        obtain ⟨q', hq'⟩ : ∃ q', q - (x.1.size + x.2.size : Int) = q' := ⟨_, rfl⟩
        have HR : Hid (leftO l (n + szO xs) = leftO q' (szO (xs.drop (k + 1)))) := Lib.hid (by
          rw [he.out, HD.out, ← hq']; unfold leftO
          rw [show q - (x.1.size + x.2.size + szO (xs.drop (k + 1))) = q - (x.1.size + x.2.size) - szO (xs.drop (k + 1)) by omega])
        rw [hq, hq']
        have d2 : decide (q' < 0) = false := by simp; omega
        have e1 : q' ≤ 1099511627776 := by omega
        have e0 : 0 ≤ q' := by omega
        clear hq hq' he
        go_wp2
        go_roundw
        case rel => exact ⟨k + 1, by omega, by go_num, q', rfl, e0, e1, HR, hb3⟩
        case measure => simp [intOf]; omega
    · obtain rfl : k = n := by omega
      have HR : Hid (leftO l (k + szO xs) = q) := Lib.hid (by
        rw [he.out, List.drop_of_length_le (by have := hl.out; omega)]; unfold leftO; rw [if_neg (by simp [szO]; omega)]; simp [szO])
      go_wp2
      go_ret
      rw [HR.out]
      exact ⟨rfl, hb⟩

theorem szHoldS_big (a : Option Addr) (n c : Nat) (l : Int) (w : World) (hl : 0 ≤ l ∧ l ≤ 1099511627776) (hn : 4611686018427387904 < n ∧ n ≤ 9223372036854775807) :
    Calls Try.prog 5 #[.slice a n c, .int .i64 l] w (RetB w (.int .i64 (-1))) := by
  have d1 : decide (l - (n : Int) < 0) = true := by simp; omega
  go_enter Try.func5, Try.ntmps5
  go_wp2
  go_ret
  exact ⟨rfl, Below.refl _ _⟩

set_option maxHeartbeats 400000 in
theorem toHold_any (x y : ByteArray) (w : World) :
    Calls Try.prog 14 #[.agg #[.string x, .string y]] w fun e w' => e = .returned (.agg #[.string x, .string y]) ∧ Below w.heap.size w w' := by
  go_enter Try.func14, Try.ntmps14
  go_wp2
  refine bodyPost_ret (v := .agg #[.string x, .string y]) ?_ rfl ⟨rfl, ?_⟩
  · simp [results, Try.results14, go_sem]
  · exact ((Below.refl _ _).alloc (Nat.le_refl _) _).alloc (by simp) _ |>.alloc (by simp; omega) _

set_option maxHeartbeats 1000000 in
theorem toHoldS_any (a : Option Addr) (n c : Nat) (xs : List (ByteArray × ByteArray)) (w : World) (hr : RdR eltOL w a n xs) (hn : n ≤ 1048576) :
    Calls Try.prog 7 #[.slice a n c] w (RetR eltO w xs) := by
  go_enter Try.func7, Try.ntmps7
  go_wp2_with (at_make; refine wp_makeR eltO (ByteArray.empty, ByteArray.empty) rfl rfl _ _ rfl n rfl rfl (by omega) ?_; intro w1 hown hg1)
  have hb1 : Below w.heap.size w w1 := (Below.refl _ _).grown hg1 (Nat.le_refl _) (fun k hk => by cases hk)
  have HZ := Lib.hid hr.1
  clear hg1
  go_loopw [4] (fun i wr => ∃ k m : Nat, k + m = n ∧ i = .int .i64 k ∧ Below w.heap.size w wr ∧ OwnR eltO wr w.heap.size (some { block := w.heap.size, off := 0 }) n (xs.take k ++ List.replicate m (ByteArray.empty, ByteArray.empty)))
    (fun i _ => n - (intOf i).toNat)
  case atStart => exact ⟨0, n, by omega, rfl, hb1, hown⟩
  case round =>
    clear hown hb1
    obtain ⟨k, m, hk, rfl, hbr, hor⟩ := hrel
    by_cases hlt : k < n
    · obtain ⟨m, rfl⟩ : ∃ m', m = m' + 1 := ⟨m - 1, by omega⟩
      obtain ⟨b, off, x, rfl, hbl, hx, c0, c1⟩ := atOL (hr.below hbr) hlt
      have HX := Lib.hid hx
      clear hx
      go_wp2_with fail
      with_reducible refine (toHold_any x.1 x.2 _).mono ?_
      rintro e w2 ⟨rfl, hb2⟩
      have ho2 := hor.below hb2
      have hb3 := hbr.trans (hb2.mono hbr.size)
      have htk : (xs.take k).length = k := by rw [List.length_take, HZ.out]; omega
      have hkl : k < (xs.take k ++ List.replicate (m + 1) (ByteArray.empty, ByteArray.empty)).length := by rw [List.length_append, htk, List.length_replicate]; omega
      have hxo : (xs.take k ++ List.replicate (m + 1) (ByteArray.empty, ByteArray.empty))[k]? = some (ByteArray.empty, ByteArray.empty) := by
        rw [List.getElem?_append_right (by omega), htk, Nat.sub_self]; rfl
      obtain ⟨⟨q1, q2⟩, q3, q4⟩ := cellsO ho2 hxo
      clear hb2 hor hbr
      have hs := (putO ho2 k hkl x).1
      rw [set_next _ _ _ _ _ htk, show xs.take k ++ [x] = xs.take (k + 1) by
        obtain ⟨h1, h2⟩ := List.getElem?_eq_some_iff.1 HX.out
        rw [List.take_succ_eq_append_getElem h1, h2]] at hs
      have HS := Lib.hid hs
      clear hs ho2 hkl hxo htk
      go_wp2
      go_roundw
      case rel => exact ⟨k + 1, m, by omega, by go_num, (hb3.setCell (Nat.le_refl _) _).setCell (Nat.le_refl _) _, HS.out⟩
      case measure => simp [intOf]; omega
    · obtain rfl : m = 0 := by omega
      obtain rfl : k = n := by omega
      go_wp2
      go_ret
      have h := hor
      rw [List.take_of_length_le (by have := HZ.out; omega), List.replicate_zero, List.append_nil] at h
      have hz := HZ.out
      rw [← hz]
      rw [← hz] at h
      exact ⟨_, _, rfl, h, hbr⟩

set_option maxHeartbeats 400000 in
theorem eqHold_self (x y : ByteArray) (w : World) :
    Calls Try.prog 17 #[.agg #[.string x, .string y], .agg #[.string x, .string y]] w (RetB w (.bool true)) := by
  have t1 : (x.toList != x.toList) = false := by simp
  have t2 : (y.toList != y.toList) = false := by simp
  have t3 : (x.toList == x.toList) = true := by simp
  have t4 : (y.toList == y.toList) = true := by simp
  go_enter Try.func17, Try.ntmps17
  go_wp2
  go_ret
  exact ⟨rfl, ((Below.refl _ _).alloc (Nat.le_refl _) _).alloc (by simp) _⟩

set_option maxHeartbeats 1000000 in
theorem eqHoldS_self (a a' : Option Addr) (n c c' : Nat) (xs : List (ByteArray × ByteArray)) (w : World) (hr : RdR eltO w a n xs) (hr' : RdR eltO w a' n xs) (hn : n ≤ 4611686018427387904) :
    Calls Try.prog 9 #[.slice a n c, .slice a' n c'] w (RetB w (.bool true)) := by
  go_enter Try.func9, Try.ntmps9
  go_wp2
  go_loopw [5] (fun i wr => ∃ k : Nat, k ≤ n ∧ i = .int .i64 k ∧ Below w.heap.size w wr)
    (fun i _ => n - (intOf i).toNat)
  case atStart => exact ⟨0, Nat.zero_le _, rfl, Below.refl _ _⟩
  case round =>
    obtain ⟨k, hk, rfl, hbr⟩ := hrel
    by_cases hlt : k < n
    · obtain ⟨b, off, x, rfl, hbl, hx, c0, c1⟩ := atO (hr.below hbr) hlt
      obtain ⟨b', off', y, rfl, hbl', hy, c0', c1'⟩ := atO (hr'.below hbr) hlt
      obtain rfl : y = x := Option.some.inj (hy.symm.trans hx)
      clear hx hy
      have hk0 : (0 : Int) ≤ (k : Int) := by omega
      have hk1 : (k : Int) < (n : Int) := by omega
      have hbd' : Below w.heap.size w wr.drew := below_drewN hbr 1
      go_wp2
      go_still_tail 8, (by kernel_rfl)
      change wpList _ _ _ _ _ wr.drew
      generalize wr.drew = W at hbd' ⊢
      go_wp2_with fail
      with_reducible refine (eqHold_self y.1 y.2 _).mono ?_
      rintro e w2 ⟨rfl, hb2⟩
      have hb3 := hbd'.trans (hb2.mono hbd'.size)
      clear hb2
      go_wp2
      go_roundw
      case rel => exact ⟨k + 1, by omega, by go_num, hb3⟩
      case measure => simp [intOf]; omega
    · obtain rfl : k = n := by omega
      go_wp2
      go_ret
      exact ⟨rfl, hbr⟩

end Go.Proofs.Ytcojgoibelgleaa
