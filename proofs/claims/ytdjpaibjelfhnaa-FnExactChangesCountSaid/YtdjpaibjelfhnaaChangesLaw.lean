/- Walk of the exact law of ChangesCount. -/
import Derived.Test.YtdjpaibjelfhnaaCount
import Derived.Test.YtdjpaibjelfhnaaMarkG
import Derived.Test.YtdjpaibjelfhnaaMark
import Derived.Test.YtdjpaibjelfhnaaEq
import Derived.Test.YtdjpaibjelfhnaaTr
namespace Go.Proofs.Ytdjpaibjelfhnaa
open Go.RowKit
set_option linter.unusedVariables false

theorem OwnP.rdN {w : World} {B : Nat} {a : Option Addr} {c n : Nat} {xs : List PV} (h : OwnP w B a c xs) (hn : xs.length = n) : RdR eltG w a n xs := hn ▸ h.row.rd

theorem vals_size {xs ys : List PV} (h : valsP ys = valsP xs) {m : Nat} (hs : ∀ x ∈ xs, x.zs.length ≤ m) : ∀ y ∈ ys, y.zs.length ≤ m := by
  intro y hy
  have : y.val ∈ valsP ys := List.mem_map_of_mem hy
  rw [h] at this
  obtain ⟨x, hx, he⟩ := List.mem_map.1 this
  have := hs x hx
  have hz : x.zs = y.zs := by
    have := congrArg (fun p : Int × ByteArray × Bool × List Int => p.2.2.2) he
    exact this
  rw [← hz]; exact this

theorem szP_vals {xs ys : List PV} (h : valsP ys = valsP xs) : szP ys = szP xs := by
  have e : ∀ zs : List PV, szP zs = ((valsP zs).map fun v => (v.2.1.size : Int) + v.2.2.2.length).sum := by
    intro zs
    unfold szP valsP
    rw [List.map_map]
    rfl
  rw [e, e, h]

theorem drew_below {w w1 : World} {m : Nat} (h : w1 = w.drewN m) : Below w.heap.size w w1 := by rw [h]; exact below_drewNP (Below.refl _ _) m

theorem countsR_vals {xs ys : List PV} (h : valsP ys = valsP xs) : countsR ys = countsR xs := by
  have e : ∀ zs : List PV, countsR zs = if ((valsP zs).all fun v => decide (1 ≤ v.1) && decide (v.1 ≤ 3)) = true then [((valsP zs).countP (fun v => v.1 == 1) : Int), ((valsP zs).countP (fun v => v.1 == 2) : Int), ((valsP zs).countP (fun v => v.1 == 3) : Int)] else [] := by
    intro zs
    unfold countsR cnt valsP
    simp only [List.all_map, List.countP_map]
    rfl
  rw [e, e, h]

theorem countsR_len (xs : List PV) : (countsR xs).length ≤ 16 := by
  unfold countsR
  split <;> simp

theorem heldRdI {w : World} {B : Nat} {a : Option Addr} {c n : Nat} {k : Int} (h : OwnI w B a c (seqI k n)) : RdI w a n (seqI k n) := by
  have := h.rd
  rwa [seqI_length] at this

theorem OwnI.within {lo hi : Nat} {w w' : World} (h : Within lo hi w w') {B : Nat} {a : Option Addr} {c : Nat} {xs : List Int} (ho : OwnI w B a c xs) (hk : ∀ k, (Value.slice a xs.length c).ownBlock = some k → k < lo ∨ hi ≤ k) : OwnI w' B a c xs :=
  ⟨ho.1, h.row ho.2 hk⟩

set_option maxHeartbeats 2000000 in
theorem FnExactChangesCount_core (a : Option Addr) (n c : Nat) (zs : List PV) (LL : List Int) (w : World) (hr : RdR eltGL w a n zs) (hin : InP w zs) (hwf : WfP zs) (hz1 : (n : Int) + szP zs ≤ 1048576) (hL : LL.length ≤ 16) (hR : countsR zs = LL) :
    Calls Try.prog 5 #[.slice a n c] w (Tr w) := by
  have hl := Lib.hid hr.1
  have hsn := szP_nonneg zs
  have hs : ∀ x ∈ zs, x.zs.length ≤ 1048576 := by
    intro x hx
    have := szP_mem hx
    omega
  have hn2 : n ≤ 1048576 := by omega
  have hz := szChangeS_any a n c zs 1048576 w hr hwf (by omega) (by omega) (by omega)
  obtain ⟨q, hq⟩ : ∃ q, (1048576 : Int) - (n + szP zs) = q := ⟨_, rfl⟩
  rw [show leftP 1048576 (n + szP zs) = q by unfold leftP; rw [if_neg (by omega), hq]] at hz
  have d0 : decide (q < 0) = false := by simp; omega
  have c1 : ∀ (B : Nat) (a : Option Addr) (c : Nat) (ys : List PV) (w : World), ys.length = n → valsP ys = valsP zs → OwnP w B a c ys → Calls Try.prog 14 #[.slice a n c] w (RetI w LL) := by
    intro B a c ys w hyl hyv ho
    rw [← hR, ← countsR_vals hyv]
    exact specChangesCount_any a n c ys w (ho.rdN hyl) (by omega)
  have c2 : ∀ (B : Nat) (a : Option Addr) (c : Nat) (ys : List PV) (w : World), ys.length = n → valsP ys = valsP zs → OwnP w B a c ys → Calls Try.prog 16 #[.slice a n c] w (RetI w LL) := by
    intro B a c ys w hyl hyv ho
    rw [← hR, ← countsR_vals hyv]
    exact implChangesCount_any a n c ys w (ho.rdN hyl) (by omega)
  have C1 := Lib.hid c1
  have C2 := Lib.hid c2
  have HS := Lib.hid hs
  have HW := Lib.hid hwf
  have HI := Lib.hid hin
  have HSZ : Hid (∀ ys : List PV, valsP ys = valsP zs → szP ys ≤ 1048576) := Lib.hid (fun ys h => by rw [szP_vals h]; omega)
  have hqq : ((1 + (LL.length : Int)) != 1 + (LL.length : Int)) = false := by simp
  clear c1 c2 hs hq hz1 hsn hR hwf
  go_enter Try.func5, Try.ntmps5
  go_wp2_with fail
  with_reducible refine hz.mono ?_
  rintro e w1 ⟨rfl, hb⟩
  have hB1 := hb
  have hr1 := hr.below hb
  have hI1 := HI.out.below hb
  clear hb hz hin
  go_wp2_with fail
  with_reducible refine (toChangeS_any a n c zs _ hr1 hI1 HW.out hn2 HS.out).mono ?_
  rintro e w2 ⟨y2, a2, c2, rfl, hyl2, hyv2, ho2, hb⟩
  have hB2 := hB1.trans (hb.mono hB1.size)
  have hr2 := hr1.below hb
  have hI2 := hI1.below hb
  have K := C1.out _ a2 c2 y2 w2 (hyl2.trans hl.out) hyv2 ho2
  rw [hl.out]
  clear hb hr1 hB1 ho2 hyl2 hyv2 hI1
  go_wp2_with fail
  with_reducible refine K.mono ?_
  rintro e w3 ⟨aW, cW, rfl, hW3, hb⟩
  have hB3 := hB2.trans (hb.mono hB2.size)
  have hr3 := hr2.below hb
  have hI3 := hI2.below hb
  have hsz3 := hB3.size
  have hWlt : ∀ k, (Value.slice aW LL.length cW).ownBlock = some k → k < w3.heap.size := fun k hk => (hW3.2.lt k hk).2
  clear hb hr2 hB2 hI2 K
  go_wp2_with fail
  with_reducible refine (toChangeS_any a n c zs _ hr3 hI3 HW.out hn2 HS.out).mono ?_
  rintro e w4 ⟨y4, a4, c4, rfl, hyl4, hyv4, ho4, hb⟩
  have hY4 := Lib.hid hyv4
  have hN4 : Hid (y4.length = n) := Lib.hid (hyl4.trans hl.out)
  have hB4 := hB3.trans (hb.mono hB3.size)
  have hs34 := hb.size
  have hr4 := hr3.below hb
  have hI4 := hI3.below hb
  have hW4 := hW3.below hb
  have hX4 := ho4
  have hXlt : ∀ k, (Value.slice a4 n c4).ownBlock = some k → k < w4.heap.size := fun k hk => (World.ownsRow.lt ho4.row k (by rw [hN4.out]; exact hk)).2
  have hXin : ∀ x ∈ y4, ∀ k, (Value.slice x.ad x.zs.length x.cp).ownBlock = some k → k < w4.heap.size := fun x hx k hk => (World.ownsRow.lt (ho4.ins x hx).2 k hk).2
  have K := C2.out _ a4 c4 y4 w4 hN4.out hyv4 ho4
  rw [hl.out]
  clear hb hr3 hB3 hyl4 hyv4 ho4 hI3 hW3
  go_wp2_with fail
  with_reducible refine K.mono ?_
  rintro e w5 ⟨aG, cG, rfl, hG5, hb⟩
  have hB5 := hB4.trans (hb.mono hB4.size)
  have hr5 := hr4.below hb
  have hI5 := hI4.below hb
  have hW5 := hW4.below hb
  have hX5 := hX4.below hb
  have hs45 := hb.size
  have hGge : ∀ k, (Value.slice aG LL.length cG).ownBlock = some k → w4.heap.size ≤ k := fun k hk => (hG5.2.lt k hk).1
  clear hb hr4 hB4 hI4 hW4 hX4 K
  go_wp2_with fail
  with_reducible refine (eqIntS_any aG aW _ _ cG cW LL LL _ hG5.rd hW5.rd (by omega) (by omega)).mono ?_
  rintro e w6 ⟨rfl, m, hm⟩
  have hb := drew_below hm
  clear hm
  rw [eqI_self]
  have hB6 := hB5.trans (hb.mono hB5.size)
  have hr6 := hr5.below hb
  have hI6 := hI5.below hb
  have hW6 := hW5.below hb
  have hX6 := hX5.below hb
  have hG6 := hG5.below hb
  have hs56 := hb.size
  clear hb hr5 hB5 hI5 hW5 hX5 hG5
  go_wp2_with fail
  with_reducible refine (toChangeS_any a n c zs _ hr6 hI6 HW.out hn2 HS.out).mono ?_
  rintro e w7 ⟨y7, a7, c7, rfl, hyl7, hyv7, ho7, hb⟩
  have hB7 := hB6.trans (hb.mono hB6.size)
  have hW7 := hW6.below hb
  have hX7 := hX6.below hb
  have hG7 := hG6.below hb
  have hs67 := hb.size
  have K := eqChangeS_self a4 a7 n c4 c7 y4 y7 (by rw [hY4.out, hyv7]) w7 (hX7.rdN hN4.out) (ho7.rdN (hyl7.trans hl.out)) hX7.inn ho7.inn (by omega) (fun x hx => by have := vals_size hY4.out HS.out x hx; omega)
  rw [hl.out]
  clear hb hr6 hB6 hI6 hW6 hX6 hG6 ho7 hyl7 hyv7
  go_wp2_with fail
  with_reducible refine K.mono ?_
  rintro e w8 ⟨rfl, hb⟩
  have hB8 := hB7.trans (hb.mono hB7.size)
  have hW8 := hW7.below hb
  have hX8 := hX7.below hb
  have hG8 := hG7.below hb
  have hs78 := hb.size
  clear hb hB7 hW7 hX7 hG7 K
  have K := markChangeS_any w3.heap.size w4.heap.size a4 c4 n y4 1 w8 hX8 hN4.out hXlt hXin (by omega) (by omega) hn2 (HSZ.out y4 hY4.out)
  clear hXlt hXin
  go_wp2_with fail
  with_reducible refine K.mono ?_
  rintro e w9 ⟨k1, rfl, hk1, hwi⟩
  have dk : decide (k1 < 0) = false := by simp; omega
  have hB9 := hB8.trans (hwi.below (B := w.heap.size) (by omega) (by have := hB8.size; omega))
  have hW9 := OwnI.within hwi hW8 (fun k hk => .inl (hWlt k hk))
  have hG9 := OwnI.within hwi hG8 (fun k hk => .inr (hGge k hk))
  have hs89 := hwi.size
  clear hwi hB8 hW8 hX8 hG8 K hk1
  go_wp2_with fail
  with_reducible refine (eqIntS_any aG aW _ _ cG cW LL LL _ hG9.rd hW9.rd (by omega) (by omega)).mono ?_
  rintro e w10 ⟨rfl, m, hm⟩
  have hb := drew_below hm
  clear hm
  rw [eqI_self]
  have hB10 := hB9.trans (hb.mono hB9.size)
  have hW10 := hW9.below hb
  have hG10 := hG9.below hb
  clear hb hB9 hW9 hG9
  go_wp2_with fail
  with_reducible refine (markIntS_any _ aG cG LL 1 _ hG10 (by omega) (by omega) (by omega)).mono ?_
  rintro e w11 ⟨rfl, hG11, hg⟩
  have hW11 := (hW10).apartI hg (fun k hk r hr => by have := hWlt k hk; have := hGge r hr; omega)
  have hB11 := hB10.grown hg hB10.size (fun r hr => by have := hGge r hr; omega)
  have hr11 := hr.below hB11
  have hI11 := HI.out.below hB11
  clear hg hB10 hW10 hG10
  go_wp2_with fail
  with_reducible refine (heldIntS_any aG _ cG 1 _ (heldRdI hG11) (by omega) (by omega) (by omega)).mono ?_
  rintro e w' ⟨rfl, rfl⟩
  go_wp2_with fail
  with_reducible refine (toChangeS_any a n c zs _ hr11 hI11 HW.out hn2 HS.out).mono ?_
  rintro e w12 ⟨yT, aT, cT, rfl, hylT, hyvT, hoT, hb⟩
  have hB12 := hB11.trans (hb.mono hB11.size)
  have hW12 := hW11.below hb
  have hG12 := hG11.below hb
  have K := C2.out _ aT cT yT w12 (hylT.trans hl.out) hyvT hoT
  rw [hl.out]
  clear hb hr11 hB11 hI11 hW11 hG11 hylT hyvT hoT
  go_wp2_with fail
  with_reducible refine K.mono ?_
  rintro e w13 ⟨aH, cH, rfl, hH13, hb⟩
  have hB13 := hB12.trans (hb.mono hB12.size)
  have hW13 := hW12.below hb
  have hG13 := hG12.below hb
  clear hb hB12 hW12 hG12 K
  go_wp2_with fail
  with_reducible refine (eqIntS_any aH aW _ _ cH cW LL LL _ hH13.rd hW13.rd (by omega) (by omega)).mono ?_
  rintro e w14 ⟨rfl, m, hm⟩
  have hb := drew_below hm
  clear hm
  rw [eqI_self]
  have hB14 := hB13.trans (hb.mono hB13.size)
  have hG14 := hG13.below hb
  clear hb hB13 hW13 hG13 hH13
  go_wp2_with fail
  with_reducible refine (heldIntS_any aG _ cG 1 _ (heldRdI hG14) (by omega) (by omega) (by omega)).mono ?_
  rintro e w' ⟨rfl, rfl⟩
  go_wp2
  go_ret
  exact ⟨rfl, hB14⟩

set_option maxHeartbeats 1000000 in
theorem FnExactChangesCount_walk (a : Option Addr) (n c : Nat) (zs : List PV) (w : World) (hri : RdR eltGL w a n zs ∧ InP w zs) (hwf : WfP zs) (hm : n ≤ maxLen) :
    Calls Try.prog 5 #[.slice a n c] w (Tr w) := by
  obtain ⟨hr, hin⟩ := hri
  by_cases hbig : 4611686018427387904 < n
  · unfold maxLen at hm
    have hz := szChangeS_big a n c 1048576 w (by omega) (by omega)
    go_enter Try.func5, Try.ntmps5
    go_wp2_with fail
    with_reducible refine hz.mono ?_
    rintro e w1 ⟨rfl, hb⟩
    go_wp2
    go_ret
    exact ⟨rfl, hb⟩
  have hsn := szP_nonneg zs
  by_cases hn : (1048576 : Int) - (n + szP zs) < 0
  · have hz := szChangeS_any a n c zs 1048576 w hr hwf (by omega) (by omega) (by omega)
    rw [show leftP 1048576 (n + szP zs) = -1 by unfold leftP; rw [if_pos hn]] at hz
    go_enter Try.func5, Try.ntmps5
    go_wp2_with fail
    with_reducible refine hz.mono ?_
    rintro e w1 ⟨rfl, hb⟩
    go_wp2
    go_ret
    exact ⟨rfl, hb⟩
  · exact FnExactChangesCount_core a n c zs _ w hr hin hwf (by omega) (countsR_len zs) rfl

end Go.Proofs.Ytdjpaibjelfhnaa
