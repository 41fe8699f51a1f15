/- Contracts: szQuotaS, toQuotaS, eqQuotaS. -/
import Derived.Test.YtcojgoibelgleaaDoorEltQ
import Derived.Test.YtcojgoibelgleaaDoorBaseS
import Derived.Test.YtcojgoibelgleaaDoorIn
import Derived.BigQuiet
import Derived.Deep.QuietTactic
import Derived.StillTailTactics
import Derived.Outline
namespace Go.Proofs.YtcojgoibelgleaaDoor
open Go.RowKit
set_option linter.unusedVariables false

/-- How many bytes the texts have. -/
def szQ (xs : List (ByteArray × Int)) : Int := (xs.map fun x => (x.1.size : Int)).sum

theorem szQ_cons (x : ByteArray × Int) (xs : List (ByteArray × Int)) : szQ (x :: xs) = x.1.size + szQ xs := by simp [szQ]
theorem szQ_nonneg (xs : List (ByteArray × Int)) : 0 ≤ szQ xs := by
  induction xs with
  | nil => simp [szQ]
  | cons x xs ih => rw [szQ_cons]; omega
theorem szQ_mem {xs : List (ByteArray × Int)} {x : ByteArray × Int} (h : x ∈ xs) : (x.1.size : Int) ≤ szQ xs := by
  induction xs with
  | nil => cases h
  | cons y ys ih =>
    rw [szQ_cons]
    rcases List.mem_cons.1 h with rfl | h
    · have := szQ_nonneg ys; omega
    · have := ih h; omega
theorem szQ_drop {xs : List (ByteArray × Int)} {k : Nat} {x : ByteArray × Int} (h : xs[k]? = some x) : szQ (xs.drop k) = x.1.size + szQ (xs.drop (k + 1)) := by
  obtain ⟨hk, rfl⟩ := List.getElem?_eq_some_iff.1 h
  rw [List.drop_eq_getElem_cons hk, szQ_cons]

/-- What a size that is asked leaves. -/
def leftQ (l s : Int) : Int := if l - s < 0 then -1 else l - s

set_option maxHeartbeats 400000 in
theorem szQuota_any (x : ByteArray) (y : Int) (l : Int) (w : World) (h0 : 0 ≤ l) (h1 : l ≤ 4611686018427387904) (hx : x.size ≤ maxLen) :
    Calls Tryd.prog 18 #[.agg #[.string x, .int .i64 y], .int .i64 l] w (RetB w (.int .i64 (leftQ l x.size))) := by
  unfold maxLen at hx
  by_cases a1 : l - x.size < 0
  · have hr : leftQ l x.size = -1 := by unfold leftQ; rw [if_pos (by omega)]
    rw [hr]
    clear hr
    have d1 : decide (l - (x.size : Int) < 0) = true := by simpa using a1
    go_enter Tryd.func18, Tryd.ntmps18
    go_wp2
    go_ret
    exact ⟨rfl, (Below.refl _ _).alloc (Nat.le_refl _) _⟩
  · have d1 : decide (l - (x.size : Int) < 0) = false := by simpa using a1
    have hr : leftQ l x.size = l - x.size := by unfold leftQ; rw [if_neg (by omega)]
    rw [hr]
    clear hr
    go_enter Tryd.func18, Tryd.ntmps18
    go_wp2
    go_ret
    exact ⟨rfl, (Below.refl _ _).alloc (Nat.le_refl _) _⟩

/-- All texts fit the memory. -/
def WfQ (xs : List (ByteArray × Int)) : Prop := ∀ x ∈ xs, x.1.size ≤ maxLen ∧ (-9223372036854775808 ≤ x.2 ∧ x.2 ≤ 9223372036854775807)

set_option maxHeartbeats 400000 in
theorem szQuotaS_any (a : Option Addr) (n c : Nat) (xs : List (ByteArray × Int)) (l : Int) (w : World) (hr : RdR eltQL w a n xs) (hwf : WfQ xs) (hn : n ≤ 4611686018427387904) (h0 : 0 ≤ l) (h1 : l ≤ 1099511627776) :
    Calls Tryd.prog 8 #[.slice a n c, .int .i64 l] w (RetB w (.int .i64 (leftQ l (n + szQ xs)))) := by
  have hsn := szQ_nonneg xs
  by_cases a1 : l - n < 0
  · have hrr : leftQ l (n + szQ xs) = -1 := by unfold leftQ; rw [if_pos (by omega)]
    rw [hrr]
    clear hrr
    have d1 : decide (l - (n : Int) < 0) = true := by simpa using a1
    go_enter Tryd.func8, Tryd.ntmps8
    go_wp2
    go_ret
    exact ⟨rfl, Below.refl _ _⟩
  have d1 : decide (l - (n : Int) < 0) = false := by simpa using a1
  have hl := Lib.hid hr.1
  have HW := Lib.hid hwf
  clear hwf
  go_enter Tryd.func8, Tryd.ntmps8
  go_wp2
  go_loopw [1, 5] (fun v i wr => ∃ k : Nat, k ≤ n ∧ i = .int .i64 k ∧ ∃ q : Int, v = .int .i64 q ∧ 0 ≤ q ∧ q ≤ 1099511627776 ∧ Hid (leftQ l (n + szQ xs) = leftQ q (szQ (xs.drop k))) ∧ Below w.heap.size w wr)
    (fun _ i _ => n - (intOf i).toNat)
  case atStart => exact ⟨0, Nat.zero_le _, rfl, l - n, rfl, by omega, by omega, Lib.hid (by rw [List.drop_zero]; unfold leftQ; rw [show l - (n + szQ xs) = l - n - szQ xs by omega]), Below.refl _ _⟩
  case round =>
    obtain ⟨k, hk, rfl, q, rfl, q0, q1, he, hb⟩ := hrel
    by_cases hlt : k < n
    · obtain ⟨b, off, x, rfl, hbl, hx, c0, c1⟩ := atQL (hr.below hb) hlt
      have hd := szQ_drop hx
      have hw := HW.out x (List.mem_of_getElem? hx)
      have hnn := szQ_nonneg (xs.drop (k + 1))
      have HD := Lib.hid hd
      have HS := Lib.hid hnn
      clear hd hx hnn
      go_wp2_with fail
      with_reducible refine (szQuota_any x.1 x.2 q _ q0 (by omega) hw.1).mono ?_
      rintro e w2 ⟨rfl, hb2⟩
      have hb3 := hb.trans (hb2.mono hb.size)
      clear hb2 hb
      by_cases a2 : q - x.1.size < 0
      · have hq : leftQ q x.1.size = -1 := by unfold leftQ; rw [if_pos a2]
        have HR : Hid (leftQ l (n + szQ xs) = -1) := Lib.hid (by
          rw [he.out, HD.out]; have := HS.out; unfold leftQ; rw [if_pos (by omega)])
        rw [hq]
        clear hq
        go_wp2
        go_ret
        rw [HR.out]
        exact ⟨rfl, hb3⟩
      · have hq : leftQ q x.1.size = q - x.1.size := by unfold leftQ; rw [if_neg a2]
        obtain ⟨q', hq'⟩ : ∃ q', q - (x.1.size : Int) = q' := ⟨_, rfl⟩
        have HR : Hid (leftQ l (n + szQ xs) = leftQ q' (szQ (xs.drop (k + 1)))) := Lib.hid (by
          rw [he.out, HD.out, ← hq']; unfold leftQ
          rw [show q - (x.1.size + szQ (xs.drop (k + 1))) = q - x.1.size - szQ (xs.drop (k + 1)) by omega])
        rw [hq, hq']
        have d2 : decide (q' < 0) = false := by simp; omega
        have e1 : q' ≤ 1099511627776 := by omega
        have e0 : 0 ≤ q' := by omega
        clear hq hq' he
        go_wp2
        go_roundw
        case rel => exact ⟨k + 1, by omega, by go_num, q', rfl, e0, e1, HR, hb3⟩
        case measure => simp [intOf]; omega
    · obtain rfl : k = n := by omega
      have HR : Hid (leftQ l (k + szQ xs) = q) := Lib.hid (by
        rw [he.out, List.drop_of_length_le (by have := hl.out; omega)]; unfold leftQ; rw [if_neg (by simp [szQ]; omega)]; simp [szQ])
      go_wp2
      go_ret
      rw [HR.out]
      exact ⟨rfl, hb⟩

theorem szQuotaS_big (a : Option Addr) (n c : Nat) (l : Int) (w : World) (hl : 0 ≤ l ∧ l ≤ 1099511627776) (hn : 4611686018427387904 < n ∧ n ≤ 9223372036854775807) :
    Calls Tryd.prog 8 #[.slice a n c, .int .i64 l] w (RetB w (.int .i64 (-1))) := by
  have d1 : decide (l - (n : Int) < 0) = true := by simp; omega
  go_enter Tryd.func8, Tryd.ntmps8
  go_wp2
  go_ret
  exact ⟨rfl, Below.refl _ _⟩

set_option maxHeartbeats 400000 in
theorem toQuota_any (x : ByteArray) (y : Int) (w : World) :
    Calls Tryd.prog 19 #[.agg #[.string x, .int .i64 y]] w fun e w' => e = .returned (.agg #[.string x, .int .i64 y]) ∧ Below w.heap.size w w' := by
  go_enter Tryd.func19, Tryd.ntmps19
  go_wp2
  refine bodyPost_ret (v := .agg #[.string x, .int .i64 y]) ?_ rfl ⟨rfl, ?_⟩
  · simp [results, Tryd.results19, go_sem]
  · exact ((Below.refl _ _).alloc (Nat.le_refl _) _).alloc (by simp) _ |>.alloc (by simp; omega) _

set_option maxHeartbeats 1000000 in
theorem toQuotaS_any (a : Option Addr) (n c : Nat) (xs : List (ByteArray × Int)) (w : World) (hr : RdR eltQL w a n xs) (hn : n ≤ 1048576) :
    Calls Tryd.prog 9 #[.slice a n c] w (RetR eltQ w xs) := by
  go_enter Tryd.func9, Tryd.ntmps9
  go_wp2_with (at_make; refine wp_makeR eltQ (ByteArray.empty, 0) rfl rfl _ _ rfl n rfl rfl (by omega) ?_; intro w1 hown hg1)
  have hb1 : Below w.heap.size w w1 := (Below.refl _ _).grown hg1 (Nat.le_refl _) (fun k hk => by cases hk)
  have HZ := Lib.hid hr.1
  clear hg1
  go_loopw [4] (fun i wr => ∃ k m : Nat, k + m = n ∧ i = .int .i64 k ∧ Below w.heap.size w wr ∧ OwnR eltQ wr w.heap.size (some { block := w.heap.size, off := 0 }) n (xs.take k ++ List.replicate m (ByteArray.empty, 0)))
    (fun i _ => n - (intOf i).toNat)
  case atStart => exact ⟨0, n, by omega, rfl, hb1, hown⟩
  case round =>
    clear hown hb1
    obtain ⟨k, m, hk, rfl, hbr, hor⟩ := hrel
    by_cases hlt : k < n
    · obtain ⟨m, rfl⟩ : ∃ m', m = m' + 1 := ⟨m - 1, by omega⟩
      obtain ⟨b, off, x, rfl, hbl, hx, c0, c1⟩ := atQL (hr.below hbr) hlt
      have HX := Lib.hid hx
      clear hx
      go_wp2_with fail
      with_reducible refine (toQuota_any x.1 x.2 _).mono ?_
      rintro e w2 ⟨rfl, hb2⟩
      have ho2 := hor.below hb2
      have hb3 := hbr.trans (hb2.mono hbr.size)
      have htk : (xs.take k).length = k := by rw [List.length_take, HZ.out]; omega
      have hkl : k < (xs.take k ++ List.replicate (m + 1) (ByteArray.empty, 0)).length := by rw [List.length_append, htk, List.length_replicate]; omega
      have hxo : (xs.take k ++ List.replicate (m + 1) (ByteArray.empty, 0))[k]? = some (ByteArray.empty, 0) := by
        rw [List.getElem?_append_right (by omega), htk, Nat.sub_self]; rfl
      obtain ⟨⟨q1, q2⟩, q3, q4⟩ := cellsQ ho2 hxo
      clear hb2 hor hbr
      have hs := (putQ ho2 k hkl x).1
      rw [set_next _ _ _ _ _ htk, show xs.take k ++ [x] = xs.take (k + 1) by
        obtain ⟨h1, h2⟩ := List.getElem?_eq_some_iff.1 HX.out
        rw [List.take_succ_eq_append_getElem h1, h2]] at hs
      have HS := Lib.hid hs
      clear hs ho2 hkl hxo htk
      go_wp2
      go_roundw
      case rel => exact ⟨k + 1, m, by omega, by go_num, (hb3.setCell (Nat.le_refl _) _).setCell (Nat.le_refl _) _, HS.out⟩
      case measure => simp [intOf]; omega
    · obtain rfl : m = 0 := by omega
      obtain rfl : k = n := by omega
      go_wp2
      go_ret
      have h := hor
      rw [List.take_of_length_le (by have := HZ.out; omega), List.replicate_zero, List.append_nil] at h
      have hz := HZ.out
      rw [← hz]
      rw [← hz] at h
      exact ⟨_, _, rfl, h, hbr⟩

set_option maxHeartbeats 400000 in
theorem eqQuota_self (x : ByteArray) (y : Int) (w : World) :
    Calls Tryd.prog 20 #[.agg #[.string x, .int .i64 y], .agg #[.string x, .int .i64 y]] w (RetB w (.bool true)) := by
  have t1 : (x.toList != x.toList) = false := by simp
  have t2 : (y != y) = false := by simp
  have t3 : (x.toList == x.toList) = true := by simp
  have t4 : (y == y) = true := by simp
  go_enter Tryd.func20, Tryd.ntmps20
  go_wp2
  go_ret
  exact ⟨rfl, ((Below.refl _ _).alloc (Nat.le_refl _) _).alloc (by simp) _⟩

set_option maxHeartbeats 1000000 in
theorem eqQuotaS_self (a a' : Option Addr) (n c c' : Nat) (xs : List (ByteArray × Int)) (w : World) (hr : RdR eltQ w a n xs) (hr' : RdR eltQ w a' n xs) (hn : n ≤ 4611686018427387904) :
    Calls Tryd.prog 10 #[.slice a n c, .slice a' n c'] w (RetB w (.bool true)) := by
  go_enter Tryd.func10, Tryd.ntmps10
  go_wp2
  go_loopw [5] (fun i wr => ∃ k : Nat, k ≤ n ∧ i = .int .i64 k ∧ Below w.heap.size w wr)
    (fun i _ => n - (intOf i).toNat)
  case atStart => exact ⟨0, Nat.zero_le _, rfl, Below.refl _ _⟩
  case round =>
    obtain ⟨k, hk, rfl, hbr⟩ := hrel
    by_cases hlt : k < n
    · obtain ⟨b, off, x, rfl, hbl, hx, c0, c1⟩ := atQ (hr.below hbr) hlt
      obtain ⟨b', off', y, rfl, hbl', hy, c0', c1'⟩ := atQ (hr'.below hbr) hlt
      obtain rfl : y = x := Option.some.inj (hy.symm.trans hx)
      clear hx hy
      have hk0 : (0 : Int) ≤ (k : Int) := by omega
      have hk1 : (k : Int) < (n : Int) := by omega
      have hbd' : Below w.heap.size w wr.drew := below_drewN hbr 1
      go_wp2
      go_still_tail 8, (by kernel_rfl)
      change wpList _ _ _ _ _ wr.drew
      generalize wr.drew = W at hbd' ⊢
      go_wp2_with fail
      with_reducible refine (eqQuota_self y.1 y.2 _).mono ?_
      rintro e w2 ⟨rfl, hb2⟩
      have hb3 := hbd'.trans (hb2.mono hbd'.size)
      clear hb2
      go_wp2
      go_roundw
      case rel => exact ⟨k + 1, by omega, by go_num, hb3⟩
      case measure => simp [intOf]; omega
    · obtain rfl : k = n := by omega
      go_wp2
      go_ret
      exact ⟨rfl, hbr⟩

end Go.Proofs.YtcojgoibelgleaaDoor
