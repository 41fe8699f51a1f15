/- Contracts: markCheckS writes k, k+1, .. into a slice of the call's own; heldCheckS finds them there. -/
import Derived.Test.YtajheicheefpeaaBaseXc
import Derived.BigQuiet
import Derived.Outline
namespace Go.Proofs.Ytajheicheefpeaa
open Go.RowKit
set_option linter.unusedVariables false

/-- k, k+1, .., in n pairs. -/
def seqX (k : Int) (n : Nat) : List (Int × Int) := (List.range n).map fun (i : Nat) => (k + 2 * (i : Int), k + 2 * (i : Int) + 1)

theorem seqX_length (k : Int) (n : Nat) : (seqX k n).length = n := by simp [seqX]
theorem seqX_getD (k : Int) (n i : Nat) (h : i < n) : (seqX k n).getD i (0, 0) = (k + 2 * (i : Int), k + 2 * (i : Int) + 1) := by simp [seqX, h]

theorem WfX_seq (k : Int) (n : Nat) (h0 : -1000 ≤ k) (h1 : k + 2 * n ≤ 9223372036854775807) : WfX (seqX k n) := by
  intro z hz
  simp only [seqX, List.mem_map, List.mem_range] at hz
  obtain ⟨i, hi, rfl⟩ := hz
  simp only
  omega

theorem markX_step (k : Int) (xs : List (Int × Int)) (i : Nat) (h : i < xs.length) :
    (seqX k i ++ xs.drop i).set i (k + 2 * (i : Int), k + 2 * (i : Int) + 1) = seqX k (i + 1) ++ xs.drop (i + 1) := by
  apply List.ext_getElem?
  intro j
  simp only [List.getElem?_set, List.getElem?_append, seqX_length, List.getElem?_drop, List.length_append, List.length_drop]
  by_cases hj : i = j
  · subst hj
    simp [seqX, show i < i + (xs.length - i) by omega]
  · by_cases hlt : j < i
    · simp [hj, hlt, show j < i + 1 by omega, seqX]
    · simp [hj, hlt, show ¬ j < i + 1 by omega, show i + (j - i) = j by omega, show i + 1 + (j - (i + 1)) = j by omega]

/-- A slice of sums was written over; nothing else has changed. -/
def RetMarkX (w : World) (B : Nat) (a : Option Addr) (c n : Nat) (k : Int) (e : Ending) (w' : World) : Prop :=
  e = .returned (.int .i64 (k + 2 * n)) ∧ OwnX w' B a c (seqX k n) ∧ w.grownBy w' (Value.slice a n c).ownBlock

set_option maxHeartbeats 1000000 in
theorem markCheckS_any (B : Nat) (a : Option Addr) (c : Nat) (xs : List (Int × Int)) (k0 : Int) (w : World) (ho : OwnX w B a c xs) (h0 : 0 ≤ k0) (h1 : k0 ≤ 4611686018427387904) (hn : xs.length ≤ 1099511627776) :
    Calls Try.prog 15 #[.slice a xs.length c, .int .i64 k0] w (RetMarkX w B a c xs.length k0) := by
  obtain ⟨n, hnz⟩ : ∃ n, n = xs.length := ⟨_, rfl⟩
  rw [← hnz] at hn ⊢
  have HN := Lib.hid hnz
  clear hnz
  go_enter Try.func15, Try.ntmps15
  go_wp2
  go_loopw [1, 5] (fun v i wr => ∃ k : Nat, k ≤ n ∧ i = .int .i64 k ∧ v = .int .i64 (k0 + 2 * k) ∧ w.grownBy wr (Value.slice a n c).ownBlock ∧ OwnX wr B a c (seqX k0 k ++ xs.drop k))
    (fun _ i _ => n - (intOf i).toNat)
  case atStart => exact ⟨0, Nat.zero_le _, rfl, by simp, World.grownBy.refl _ _, by simpa [seqX] using ho⟩
  case round =>
    obtain ⟨k, hk, rfl, rfl, hg, hor⟩ := hrel
    by_cases hlt : k < n
    · have hlen : (seqX k0 k ++ xs.drop k).length = n := by rw [List.length_append, seqX_length, List.length_drop, ← HN.out]; omega
      obtain ⟨g, rfl, hBg, hgs⟩ := hor.head (by omega)
      obtain ⟨⟨q1, q2⟩, q3, q4⟩ := hor.cells k (by omega)
      have hst := hor.setBoth k (by omega) (k0 + 2 * (k : Int)) (k0 + 2 * (k : Int) + 1) (by omega) (by omega) (by omega) (by omega)
      rw [markX_step k0 xs k (by have := HN.out; omega)] at hst
      have HS := Lib.hid hst.1
      have HG : Hid (w.grownBy ((wr.setCell ⟨g, k * 2, none⟩ (.int .i64 (k0 + 2 * (k : Int)))).setCell ⟨g, k * 2 + 1, none⟩ (.int .i64 (k0 + 2 * (k : Int) + 1))) (Value.slice (some ⟨g, 0, none⟩) n c).ownBlock) := by
        refine Lib.hid ⟨?_, ?_, ?_, ?_, ?_⟩
        · exact hst.2.os.trans hg.os
        · exact hst.2.tape.trans hg.tape
        · exact hst.2.output.trans hg.output
        · exact Nat.le_trans hg.size hst.2.size
        · intro j hj hne
          rw [hst.2.block j (Nat.lt_of_lt_of_le hj hg.size) (by simpa [Value.ownBlock] using hne)]
          exact hg.block j hj hne
      clear hst hor hg ho hlen
      go_wp2
      go_roundw
      case rel => exact ⟨k + 1, by omega, by go_num, by go_num, HG.out, HS.out⟩
      case measure => simp [intOf]; omega
    · obtain rfl : k = n := by omega
      go_wp2
      go_ret
      rw [List.drop_of_length_le (by have := HN.out; omega), List.append_nil] at hor
      exact ⟨rfl, hor, hg⟩

set_option maxHeartbeats 400000 in
theorem heldCheckS_any (a : Option Addr) (n c : Nat) (k0 : Int) (w : World) (hr : RdX w a n (seqX k0 n)) (h0 : 0 ≤ k0) (h1 : k0 ≤ 4611686018427387904) (hn : n ≤ 1099511627776) :
    Calls Try.prog 16 #[.slice a n c, .int .i64 k0] w fun e w' => e = .returned (.int .i64 (k0 + 2 * n)) ∧ w = w' := by
  go_enter Try.func16, Try.ntmps16
  go_wp2
  go_loop [1, 5] (fun v i => ∃ k : Nat, k ≤ n ∧ i = .int .i64 k ∧ v = .int .i64 (k0 + 2 * k)) (fun _ i => n - (intOf i).toNat)
  case atStart => exact ⟨0, Nat.zero_le _, rfl, by simp⟩
  case round =>
    obtain ⟨k, hk, rfl, rfl⟩ := hrel
    by_cases hlt : k < n
    · obtain ⟨b, off, rfl, hblt, f, m, hfm, cf, cm, ⟨wf0, wf1⟩, wm0, wm1⟩ := hr.at_ (WfX_seq _ _ (by omega) (by omega)) hlt
      rw [seqX_getD _ _ _ hlt] at hfm
      injection hfm with e1 e2
      subst e1 e2
      have t1 : (k0 + 2 * (k : Int) != k0 + 2 * (k : Int)) = false := by simp
      have t2 : (k0 + 2 * (k : Int) + 1 != k0 + 2 * (k : Int) + 1) = false := by simp
      go_wp2
      go_round
      case rel => exact ⟨k + 1, by omega, by go_num, by go_num⟩
      case measure => simp [intOf]; omega
    · obtain rfl : k = n := by omega
      go_wp2
      go_ret
      exact ⟨rfl, rfl⟩

end Go.Proofs.Ytajheicheefpeaa
