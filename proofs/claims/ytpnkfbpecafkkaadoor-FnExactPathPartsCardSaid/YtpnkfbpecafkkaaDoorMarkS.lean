/- Contracts: markStringS writes marks into a slice of strings of the call's own; heldStringS finds them there. -/
import Derived.Test.YtpnkfbpecafkkaaDoorMarkT
import Derived.Outline
import Derived.Deep.QuietTactic
import Derived.BigQuiet
import Derived.Deep.RegionHeld3
namespace Go.Proofs.YtpnkfbpecafkkaaDoor
open Go.RowKit
set_option linter.unusedVariables false

/-- The marks k, k+1, .., n of them. -/
def seqS (k : Nat) (n : Nat) : List ByteArray := (List.range n).map fun (i : Nat) => markT (k + i)

theorem seqS_length (k : Nat) (n : Nat) : (seqS k n).length = n := by simp [seqS]
theorem seqS_getD (k : Nat) (n i : Nat) (h : i < n) : (seqS k n).getD i ByteArray.empty = markT (k + i) := by simp [seqS, h]

/-- A slice of strings was written over; nothing else has changed. -/
def RetMarkS (w : World) (B : Nat) (a : Option Addr) (c n : Nat) (k : Nat) (e : Ending) (w' : World) : Prop :=
  e = .returned (.int .i64 ((k : Int) + n)) ∧ OwnS w' B a c (seqS k n) ∧ w.grownBy w' (Value.slice a n c).ownBlock

theorem mark_stepS (k : Nat) (zs : List ByteArray) (i : Nat) (h : i < zs.length) :
    ((seqS k i ++ zs.drop i).map Value.string).set i (.string (markT (k + i))) = (seqS k (i + 1) ++ zs.drop (i + 1)).map Value.string := by
  apply List.ext_getElem?
  intro j
  simp only [List.getElem?_set, List.getElem?_map, List.getElem?_append, seqS_length, List.getElem?_drop, List.length_map, List.length_append, List.length_drop]
  by_cases hj : i = j
  · subst hj
    simp [seqS, show i < i + (zs.length - i) by omega]
  · by_cases hlt : j < i
    · simp [hj, hlt, show j < i + 1 by omega, seqS]
    · simp [hj, hlt, show ¬ j < i + 1 by omega, show i + (j - i) = j by omega, show i + 1 + (j - (i + 1)) = j by omega]

theorem grown_below {w wr w1 : World} {r : Option Nat} (hg : w.grownBy wr r) (hb : Below wr.heap.size wr w1) : w.grownBy w1 r :=
  ⟨hb.os.trans hg.os, hb.tape.trans hg.tape, hb.output.trans hg.output, Nat.le_trans hg.size hb.size, fun j hj hne => (hb.block j (Nat.lt_of_lt_of_le hj hg.size)).trans (hg.block j hj hne)⟩

theorem markS_store {w wr w1 : World} {B : Nat} {n c k : Nat} {a : Option Addr} {k0 : Nat} {zs : List ByteArray} (hz : zs.length = n) (hk : k < n)
    (hor : wr.ownsRow B 9 1 (.slice a n c) n ((seqS k0 k ++ zs.drop k).map Value.string)) (hg : w.grownBy wr (Value.slice a n c).ownBlock) (hb : Below wr.heap.size wr w1) (hw : w.heap.size ≤ wr.heap.size) :
    ∃ g, a = some ⟨g, 0, none⟩ ∧ (∃ x, w1.cell? ⟨g, k, none⟩ = some (.string x)) ∧ w1.frozen? ⟨g, k, none⟩ = false ∧
      Hid ((w1.setCell ⟨g, k, none⟩ (.string (markT (k0 + k)))).ownsRow B 9 1 (.slice a n c) n ((seqS k0 (k + 1) ++ zs.drop (k + 1)).map Value.string)) ∧
      Hid (w.grownBy (w1.setCell ⟨g, k, none⟩ (.string (markT (k0 + k)))) (Value.slice a n c).ownBlock) := by
  have hor1 : w1.ownsRow B 9 1 (.slice a n c) n ((seqS k0 k ++ zs.drop k).map Value.string) :=
    hor.kept (row := none) ⟨hb.os, hb.tape, hb.output, hb.size, fun k hk _ => hb.block k hk⟩ (by cases hv : (Value.slice a n c).ownBlock <;> simp)
  have hg1 := grown_below hg hb
  rcases hor1.2 with ⟨_, h⟩ | ⟨g, cap, cur, hv, hbg, hh, hrest⟩
  · omega
  · injection hv with hv1 hv2 hv3
    subst hv1
    clear hrest hh hv2 hv3
    have hst := hor1.stored k (.string (markT (k0 + k)))
    refine ⟨g, rfl, ⟨zs.getD k ByteArray.empty, ?_⟩, hor1.frozenAt k, Lib.hid ?_, Lib.hid ⟨?_, ?_, ?_, ?_, ?_⟩⟩
    · rw [hor1.cellAt k (by omega), List.getElem?_map, List.getElem?_append_right (by rw [seqS_length]; exact Nat.le_refl _), seqS_length, List.getElem?_drop]
      have : k < zs.length := by omega
      simp [this]
    · have := hst.1
      rwa [mark_stepS k0 zs k (by omega)] at this
    · exact hst.2.os.trans hg1.os
    · exact hst.2.tape.trans hg1.tape
    · exact hst.2.output.trans hg1.output
    · exact Nat.le_trans hg1.size hst.2.size
    · intro j hj hne
      rw [hst.2.block j (Nat.lt_of_lt_of_le hj hg1.size) (by simpa [Value.ownBlock] using hne)]
      exact hg1.block j hj hne

set_option maxHeartbeats 400000 in
theorem markStringS_any (B : Nat) (a : Option Addr) (c : Nat) (zs : List ByteArray) (k0 : Nat) (w : World) (ho : OwnS w B a c zs) (h0 : 0 < k0) (h1 : k0 ≤ 4611686018427387904) (hn : zs.length ≤ 1099511627776) :
    Calls Tryd.prog 17 #[.slice a zs.length c, .int .i64 k0] w (RetMarkS w B a c zs.length k0) := by
  obtain ⟨n, hnz⟩ : ∃ n, zs.length = n := ⟨_, rfl⟩
  have hown := ho
  unfold OwnS at hown
  rw [hnz] at hn hown ⊢
  have HN := Lib.hid hnz
  clear hnz ho
  go_enter Tryd.func17, Tryd.ntmps17
  go_wp2
  go_loopw [1, 5] (fun v i wr => ∃ k : Nat, k ≤ n ∧ i = .int .i64 k ∧ v = .int .i64 ((k0 : Int) + k) ∧ w.grownBy wr (Value.slice a n c).ownBlock ∧
      wr.ownsRow B 9 1 (.slice a n c) n ((seqS k0 k ++ zs.drop k).map Value.string))
    (fun _ i _ => n - (intOf i).toNat)
  case atStart => exact ⟨0, Nat.zero_le _, rfl, by simp, World.grownBy.refl _ _, by simpa [seqS] using hown⟩
  case round =>
    obtain ⟨k, hk, rfl, rfl, hg, hor⟩ := hrel
    by_cases hlt : k < n
    · go_wp2_with fail
      with_reducible refine (markText_int _ _ (by omega) (by omega)).mono ?_
      rintro e w1 ⟨rfl, hb⟩
      rw [show ((k0 : Int) + (k : Int)).toNat = k0 + k by omega]
      obtain ⟨g, rfl, ⟨x, hold⟩, hfr, HS, HG⟩ := markS_store HN.out hlt hor hg hb hg.size
      clear hor hg hb hown
      go_wp2
      go_roundw
      case rel => exact ⟨k + 1, by omega, by go_num, by go_num, HG.out, HS.out⟩
      case measure => simp [intOf]; omega
    · obtain rfl : k = n := by omega
      go_wp2
      go_ret
      refine ⟨rfl, ?_, hg⟩
      unfold OwnS
      rw [seqS_length]
      have h := hor
      rw [List.drop_of_length_le (by have := HN.out; omega), List.append_nil] at h
      exact h

set_option maxHeartbeats 400000 in
theorem heldStringS_any (a : Option Addr) (n c : Nat) (k0 : Nat) (w : World) (hr : RdS w a n (seqS k0 n)) (h0 : 0 < k0) (h1 : k0 ≤ 4611686018427387904) (hn : n ≤ 1099511627776) :
    Calls Tryd.prog 18 #[.slice a n c, .int .i64 k0] w fun e w' => e = .returned (.int .i64 ((k0 : Int) + n)) ∧ Below w.heap.size w w' := by
  go_enter Tryd.func18, Tryd.ntmps18
  go_wp2
  go_loopw [1, 5] (fun v i wr => ∃ k : Nat, k ≤ n ∧ i = .int .i64 k ∧ v = .int .i64 ((k0 : Int) + k) ∧ Below w.heap.size w wr) (fun _ i _ => n - (intOf i).toNat)
  case atStart => exact ⟨0, Nat.zero_le _, rfl, by simp, Below.refl _ _⟩
  case round =>
    obtain ⟨k, hk, rfl, rfl, hb⟩ := hrel
    by_cases hlt : k < n
    · obtain ⟨b, off, rfl, hbl, x, hx, hcell⟩ := (hr.below hb).at_ hlt
      rw [seqS_getD _ _ _ hlt, show k0 + k = ((k0 : Int) + (k : Int)).toNat by omega] at hx
      subst hx
      have ht : ((markT ((k0 : Int) + (k : Int)).toNat).toList == (markT ((k0 : Int) + (k : Int)).toNat).toList) = true := by simp
      have ht2 : ((markT ((k0 : Int) + (k : Int)).toNat).toList != (markT ((k0 : Int) + (k : Int)).toNat).toList) = false := by simp
      go_wp2
      go_region_held3 (fun w' => w'.cell? ⟨b, off + k, none⟩ = some (.string (markT ((k0 : Int) + (k : Int)).toNat))) (first | go_keep | exact (hb5.cell (p := ⟨b, off + k, none⟩) hbl).trans hcell) ((go_at_call 30; refine (markText_int _ _ (by omega) (by omega)).mono ?_; rintro e w4 ⟨rfl, hb5⟩))
      go_wp2
      go_roundw
      case rel => exact ⟨k + 1, by omega, by go_num, by go_num, (show Below w.heap.size w wr.drew from below_drewN hb 1).trans (hb5.mono hb.size)⟩
      case measure => simp [intOf]; omega
    · obtain rfl : k = n := by omega
      go_wp2
      go_ret
      exact ⟨rfl, hb⟩

end Go.Proofs.YtpnkfbpecafkkaaDoor
