/- Walk of the exact law of PathParts. -/
import Derived.Test.YtpnkfbpecafkkaaDoorPathImpl2
import Derived.Test.YtpnkfbpecafkkaaDoorEqS
import Derived.Test.YtpnkfbpecafkkaaDoorMarkS
namespace Go.Proofs.YtpnkfbpecafkkaaDoor
open Go.RowKit
set_option linter.unusedVariables false

theorem partsS_le2 (s : ByteArray) : (partsS s).length ≤ s.size + 1 := by
  have h2 := cutL_length (bts s)
  rw [bts_length] at h2
  unfold partsS partsR
  split
  · simp; omega
  · simp

theorem OwnS.rdM {w : World} {B : Nat} {a : Option Addr} {c L : Nat} {ss : List ByteArray} (h : OwnS w B a c ss) (hL : ss.length = L) : RdS w a L ss := hL ▸ h.rd

theorem mark1 (B : Nat) (a : Option Addr) (c : Nat) (zs : List ByteArray) (L : Nat) (hL : zs.length = L) (w : World) (ho : OwnS w B a c zs) (hn : L ≤ 1099511627776) :
    Calls Tryd.prog 17 #[.slice a L c, .int .i64 1] w (fun e w' => e = .returned (.int .i64 (1 + (L : Int))) ∧ OwnS w' B a c (seqS 1 L) ∧ w.grownBy w' (Value.slice a L c).ownBlock) := by
  subst hL
  have h := markStringS_any B a c zs 1 w ho (by omega) (by omega) hn
  unfold RetMarkS at h
  rwa [show ((1 : Nat) : Int) = 1 from rfl] at h

theorem held1 (a : Option Addr) (n c : Nat) (w : World) (hr : RdS w a n (seqS 1 n)) (hn : n ≤ 1099511627776) :
    Calls Tryd.prog 18 #[.slice a n c, .int .i64 1] w fun e w' => e = .returned (.int .i64 (1 + (n : Int))) ∧ Below w.heap.size w w' := by
  have h := heldStringS_any a n c 1 w hr (by omega) (by omega) hn
  rwa [show ((1 : Nat) : Int) = 1 from rfl] at h

set_option maxHeartbeats 1000000 in
theorem FnExactPathParts_walk (s : ByteArray) (W : World) (ms : s.size ≤ maxLen) (hm : MLen W) :
    Calls Tryd.prog 6 #[.string s] W (fun e W' => e = .returned (.bool true) ∧ Below W.heap.size W W') := by
  by_cases hs : 1048576 < s.size
  · have ds : decide ((1048576 : Int) < (s.size : Int)) = true := by simp; omega
    go_enter Tryd.func6, Tryd.ntmps6
    go_wp2
    go_ret
    exact ⟨rfl, Below.refl _ _⟩
  have ds : decide ((1048576 : Int) < (s.size : Int)) = false := by simp; omega
  go_enter Tryd.func6, Tryd.ntmps6
  go_wp2_with fail
  with_reducible refine (specPathParts_any s _ (by omega)).mono ?_
  rintro e w1 ⟨aW, cW, rfl, hW1, hb⟩
  have hb1 := hb
  have hm1 := hm.below hb
  clear hb
  go_wp2_with fail
  with_reducible refine (implPathParts_any s _ hm1 (by omega)).mono ?_
  rintro e w2 ⟨aG, cG, rfl, hG2, hb⟩
  have hb2 := hb1.trans (hb.mono hb1.size)
  have hm2 := hm1.below hb
  have hW2 := hW1.below hb
  have hlW := hW1.lt
  have hB1 := hb1.size
  have hS := Lib.hid hb.size
  clear hb hm1 hW1 hb1
  have hle := partsS_le2 s
  obtain ⟨PS, hPS⟩ : ∃ PS, partsS s = PS := ⟨_, rfl⟩
  rw [hPS] at hG2 hW2 hlW hle ⊢
  have HP := Lib.hid hPS
  clear hPS
  obtain ⟨L, hL⟩ : ∃ L, PS.length = L := ⟨_, rfl⟩
  rw [hL] at hlW hle ⊢
  have HL := Lib.hid hL
  have HW := Lib.hid hlW
  clear hlW
  clear hL
  go_wp2_with fail
  with_reducible refine (eqStringS_self aG aW L cG cW PS _ (hG2.rdM HL.out) (hW2.rdM HL.out) (by omega)).mono ?_
  rintro e w3 ⟨rfl, hb⟩
  have hb3 := hb2.trans (hb.mono hb2.size)
  have hm3 := hm2.below hb
  have hW3 := hW2.below hb
  have hG3 := hG2.below hb
  have hS3 : Hid (w1.heap.size ≤ w3.heap.size) := Lib.hid (Nat.le_trans hS.out hb.size)
  clear hb hm2 hW2 hG2 hb2 hS
  have hMk := mark1 w1.heap.size aG cG PS L HL.out w3 hG3 (by omega)
  have HG3 := Lib.hid hG3.lt
  rw [HL.out] at HG3
  clear hG3
  go_wp2_with fail
  with_reducible refine hMk.mono ?_
  rintro e w4 ⟨rfl, hG4, hgr⟩
  have hW4 := hW3.apart hgr (fun k hk r hr => by rw [HL.out] at hk; have := (HW.out k hk).2; have := (HG3.out r hr).1; omega)
  have hm4 : MLen w4 := by
    obtain ⟨m, hmm⟩ := hm3
    refine ⟨m, hgr.cell hmm ?_⟩
    intro hc
    have h1 := (HG3.out _ hc.symm).1
    have h2 := hm
    obtain ⟨m2, h2⟩ := h2
    have h3 := World.block_lt_of_cell? _ _ h2
    simp only at h1 h3
    omega
  have hb4 := hb3.grown hgr hb3.size (fun r hr => by have := (HG3.out r hr).1; omega)
  clear hgr hMk hW3 hm3 hb3
  have hRd := hG4.rd
  rw [seqS_length] at hRd
  go_wp2_with fail
  with_reducible refine (held1 aG L cG _ hRd (by omega)).mono ?_
  rintro e w5 ⟨rfl, hb⟩
  have hb5 := hb4.trans (hb.mono hb4.size)
  have hm5 := hm4.below hb
  have hW5 := hW4.below hb
  have hR5 := hRd.below hb
  have d1 : decide ((1 : Int) + (L : Int) < 0) = false := by simp; omega
  have d2 : ((1 : Int) + (L : Int) != (1 : Int) + (L : Int)) = false := by simp
  clear hb hb4 hm4 hW4 hRd hG4
  go_wp2_with fail
  with_reducible refine (implPathParts_any s _ hm5 (by omega)).mono ?_
  rintro e w6 ⟨aH, cH, rfl, hH6, hb⟩
  have hb6 := hb5.trans (hb.mono hb5.size)
  have hW6 := hW5.below hb
  have hR6 := hR5.below hb
  clear hb hb5 hm5 hW5 hR5
  rw [HP.out] at hH6 ⊢
  rw [HL.out]
  go_wp2_with fail
  with_reducible refine (eqStringS_self aH aW L cH cW PS _ (hH6.rdM HL.out) (hW6.rdM HL.out) (by omega)).mono ?_
  rintro e w7 ⟨rfl, hb⟩
  have hb7 := hb6.trans (hb.mono hb6.size)
  have hR7 := hR6.below hb
  clear hb hb6 hW6 hR6 hH6
  go_wp2_with fail
  with_reducible refine (held1 aG L cG _ hR7 (by omega)).mono ?_
  rintro e w8 ⟨rfl, hb⟩
  go_wp2
  go_ret
  exact ⟨rfl, hb7.trans (hb.mono hb7.size)⟩

end Go.Proofs.YtpnkfbpecafkkaaDoor
