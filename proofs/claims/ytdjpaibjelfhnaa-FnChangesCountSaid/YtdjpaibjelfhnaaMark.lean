/- Contracts: markIntS writes k, k+1, .. into a slice of the call's own; heldIntS finds them there. -/
import Derived.Test.YtdjpaibjelfhnaaBase
namespace Go.Proofs.Ytdjpaibjelfhnaa
open Go.RowKit

/-- k, k+1, .., n numbers. -/
def seqI (k : Int) (n : Nat) : List Int := (List.range n).map fun (i : Nat) => k + (i : Int)

theorem seqI_length (k : Int) (n : Nat) : (seqI k n).length = n := by simp [seqI]
theorem seqI_getD (k : Int) (n i : Nat) (h : i < n) : (seqI k n).getD i 0 = k + i := by simp [seqI, h]

/-- A slice of ints was written over; nothing else has changed. -/
def RetMark (w : World) (B : Nat) (a : Option Addr) (c n : Nat) (k : Int) (e : Ending) (w' : World) : Prop :=
  e = .returned (.int .i64 (k + n)) ∧ OwnI w' B a c (seqI k n) ∧ w.grownBy w' (Value.slice a n c).ownBlock

theorem mark_step (k : Int) (zs : List Int) (i : Nat) (h : i < zs.length) :
    ((seqI k i ++ zs.drop i).map (Value.int .i64)).set i (.int .i64 (k + i)) = (seqI k (i + 1) ++ zs.drop (i + 1)).map (Value.int .i64) := by
  apply List.ext_getElem?
  intro j
  simp only [List.getElem?_set, List.getElem?_map, List.getElem?_append, seqI_length, List.getElem?_drop, List.length_map, List.length_append, List.length_drop]
  by_cases hj : i = j
  · subst hj
    simp [seqI, show i < i + (zs.length - i) by omega]
  · by_cases hlt : j < i
    · simp [hj, hlt, show j < i + 1 by omega, seqI]
    · simp [hj, hlt, show ¬ j < i + 1 by omega, show i + (j - i) = j by omega, show i + 1 + (j - (i + 1)) = j by omega]

theorem WfI_seq (k : Int) (n : Nat) (h0 : -1000 ≤ k) (h1 : k + n ≤ 9223372036854775807) : WfI (seqI k n) := by
  intro z hz
  simp only [seqI, List.mem_map, List.mem_range] at hz
  obtain ⟨i, hi, rfl⟩ := hz
  omega

set_option maxHeartbeats 400000 in
theorem markIntS_any (B : Nat) (a : Option Addr) (c : Nat) (zs : List Int) (k0 : Int) (w : World) (ho : OwnI w B a c zs) (h0 : 0 ≤ k0) (h1 : k0 ≤ 4611686018427387904) (hn : zs.length ≤ 1099511627776) :
    Calls Try.prog 20 #[.slice a zs.length c, .int .i64 k0] w (RetMark w B a c zs.length k0) := by
  obtain ⟨n, hnz⟩ : ∃ n, n = zs.length := ⟨_, rfl⟩
  have hown := ho.2
  rw [← hnz] at hn hown ⊢
  have HN := Lib.hid hnz
  clear hnz
  go_enter Try.func20, Try.ntmps20
  go_wp2
  go_loopw [1, 5] (fun v i wr => ∃ k : Nat, k ≤ n ∧ i = .int .i64 k ∧ v = .int .i64 (k0 + k) ∧ w.grownBy wr (Value.slice a n c).ownBlock ∧
      wr.ownsRow B 3 1 (.slice a n c) n ((seqI k0 k ++ zs.drop k).map (Value.int .i64)))
    (fun _ i _ => n - (intOf i).toNat)
  case atStart => exact ⟨0, Nat.zero_le _, rfl, by simp, World.grownBy.refl _ _, by simpa [seqI] using hown⟩
  case round =>
    obtain ⟨k, hk, rfl, rfl, hg, hor⟩ := hrel
    by_cases hlt : k < n
    · have hcase := hor.2
      rcases hcase with ⟨_, h⟩ | ⟨g, cap, cur, hv, hbg, hh, hrest⟩
      · omega
      · injection hv with hv1 hv2 hv3
        subst hv1
        clear hrest hh hv2 hv3
        have hst := hor.stored k (.int .i64 (k0 + k))
        have hfr := hor.frozenAt k
        have hold : wr.cell? ⟨g, k, none⟩ = some (.int .i64 (zs.getD k 0)) := by
          have hz : k < zs.length := by have := HN.out; omega
          rw [hor.cellAt k (by omega), List.getElem?_map, List.getElem?_append_right (by rw [seqI_length]; exact Nat.le_refl _), seqI_length, List.getElem?_drop]
          simp [hz]
        have hs1 := hst.1
        rw [mark_step k0 zs k (by have := HN.out; omega)] at hs1
        have HS := Lib.hid hs1
        have HG : Hid (w.grownBy (wr.setCell ⟨g, k, none⟩ (.int .i64 (k0 + k))) (Value.slice (some ⟨g, 0, none⟩) n c).ownBlock) := by
          refine Lib.hid ⟨?_, ?_, ?_, ?_, ?_⟩
          · exact hst.2.os.trans hg.os
          · exact hst.2.tape.trans hg.tape
          · exact hst.2.output.trans hg.output
          · exact Nat.le_trans hg.size hst.2.size
          · intro j hj hne
            rw [hst.2.block j (Nat.lt_of_lt_of_le hj hg.size) (by simpa [Value.ownBlock] using hne)]
            exact hg.block j hj hne
        clear hst hs1 hor hg ho hown
        go_wp2
        go_roundw
        case rel => exact ⟨k + 1, by omega, by go_num, by go_num, HG.out, HS.out⟩
        case measure => simp [intOf]; omega
    · obtain rfl : k = n := by omega
      go_wp2
      go_ret
      refine ⟨rfl, ⟨WfI_seq _ _ (by omega) (by omega), ?_⟩, hg⟩
      rw [seqI_length]
      have h := hor
      rw [List.drop_of_length_le (by have := HN.out; omega), List.append_nil] at h
      exact h

set_option maxHeartbeats 400000 in
theorem heldIntS_any (a : Option Addr) (n c : Nat) (k0 : Int) (w : World) (hr : RdI w a n (seqI k0 n)) (h0 : 0 ≤ k0) (h1 : k0 ≤ 4611686018427387904) (hn : n ≤ 1099511627776) :
    Calls Try.prog 21 #[.slice a n c, .int .i64 k0] w fun e w' => e = .returned (.int .i64 (k0 + n)) ∧ w = w' := by
  go_enter Try.func21, Try.ntmps21
  go_wp2
  go_loop [1, 5] (fun v i => ∃ k : Nat, k ≤ n ∧ i = .int .i64 k ∧ v = .int .i64 (k0 + k)) (fun _ i => n - (intOf i).toNat)
  case atStart => exact ⟨0, Nat.zero_le _, rfl, by simp⟩
  case round =>
    obtain ⟨k, hk, rfl, rfl⟩ := hrel
    by_cases hlt : k < n
    · obtain ⟨b, off, rfl, x, hx, hcell⟩ := hr.at_ hlt
      rw [seqI_getD _ _ _ hlt] at hx
      subst hx
      have ht : (k0 + (k : Int) != k0 + (k : Int)) = false := by simp
      go_wp2
      go_round
      case rel => exact ⟨k + 1, by omega, by go_num, by go_num⟩
      case measure => simp [intOf]; omega
    · obtain rfl : k = n := by omega
      go_wp2
      go_ret
      exact ⟨rfl, rfl⟩

end Go.Proofs.Ytdjpaibjelfhnaa
