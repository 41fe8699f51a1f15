/- Weak contract of TreeDrop. -/
import Derived.Test.YtdjpaibjelfhnaaTreeValid
import Derived.Test.YtdjpaibjelfhnaaNews
namespace Go.Proofs.Ytdjpaibjelfhnaa
open Go.RowKit
set_option linter.unusedVariables false

theorem OwnR.take {α : Type} {E : Elt α} {w : World} {B g : Nat} {c : Nat} {xs : List α} (h : OwnR E w B (some ⟨g, 0, none⟩) c xs) {m : Nat} (hm : m ≤ xs.length) : OwnR E w B (some ⟨g, 0, none⟩) c (xs.take m) := by
  rcases h.2 with ⟨h', _⟩ | ⟨g', cap, cur, hv, hb', hg, hnc, hcm, hcs, htake⟩
  · cases h'
  · injection hv with hv1 hv2 hv3
    injection hv1 with hv1
    injection hv1 with hv1
    subst hv1
    subst hv3
    have el : (xs.take m).length = m := by simp; omega
    refine ⟨by rw [E.flat_length], .inr ⟨g, c, cur, by rw [el], hb', hg, by rw [el]; omega, hcm, hcs, ?_⟩⟩
    have e1 : E.flat xs = E.flat (xs.take m) ++ E.flat (xs.drop m) := by rw [← E.flat_append, List.take_append_drop]
    have e2 : cur.toList.take ((xs.take m).length * E.m) = (cur.toList.take (xs.length * E.m)).take ((xs.take m).length * E.m) := by
      rw [List.take_take, Nat.min_eq_left]
      exact Nat.mul_le_mul_right _ (by rw [el]; exact hm)
    rw [e2, htake, e1, List.take_left']
    rw [E.flat_length]

/-- An item was dropped, or not. -/
def RetTD (w : World) (n : Nat) (e : Ending) (w' : World) : Prop :=
  ∃ ys a c ok, e = .returned (.tuple #[.slice a ys.length c, .bool ok]) ∧ (ok = true → ys.length + 1 = n) ∧ OwnT w' w.heap.size a c ys ∧ Below w.heap.size w w'

theorem RetTD.no (w w' : World) (n : Nat) (hb : Below w.heap.size w w') : RetTD w n (.returned (.tuple #[.slice (some ⟨w'.heap.size, 0, none⟩) 0 0, .bool false])) (w'.alloc (.cells #[] 62)) :=
  ⟨[], _, _, false, rfl, (fun h => by cases h), OwnT.empty hb.size, hb.alloc hb.size _⟩

set_option maxHeartbeats 2000000 in
theorem TreeDrop_any (a : Option Addr) (n c : Nat) (xs : List TV) (s : ByteArray) (B : Nat) (w : World) (hr : RdR eltT w a n xs) (hin : ∀ x ∈ xs, OwnI w B x.ad x.cp x.zs) (hs : ∀ x ∈ xs, x.pa.size ≤ 1000 ∧ x.zs.length ≤ 1000) (hn : n ≤ 1048576) :
    Calls Try.prog 46 #[.slice a n c, .string s] w (RetTD w n) := by
  have HI := Lib.hid hin
  have HS := Lib.hid hs
  go_enter Try.func46, Try.ntmps46
  go_wp2_with fail
  with_reducible refine (l5At_any a n c xs s w hr (by omega)).mono ?_
  rintro e w1 ⟨r, rfl, hrr, hw⟩
  subst hw
  have K := TreeValid_any a n c xs B w1 hr hin hs (by omega)
  clear hin hs
  go_wp2_with fail
  with_reducible refine K.mono ?_
  rintro e w2 ⟨v, rfl, hb2⟩
  clear K
  cases v with
  | false =>
    go_wp2
    go_ret2
    exact RetTD.no w1 w2 n hb2
  | true =>
    rcases hrr with rfl | ⟨k, rfl, hkn⟩
    · go_wp2
      go_ret2
      exact RetTD.no w1 w2 n hb2
    · have hk0 : (0 : Int) ≤ (k : Int) := by omega
      have hkd : decide ((k : Int) < 0) = false := by simp
      have K := l5All_any a n c xs B w2 (hr.below hb2) (fun x hx => (HI.out x hx).below hb2) HS.out hn
      go_wp2_with fail
      with_reducible refine K.mono ?_
      rintro e w3 ⟨ys, a3, c3, rfl, hyl, hT3, hb23⟩
      have hb3 := hb2.trans (hb23.mono hb2.size)
      have hT3 := hT3.mono hb2.size
      obtain ⟨g, rfl, hBg, hgl⟩ := hT3.row.head (by rw [hyl]; omega)
      have hcap := hT3.row.cap
      unfold maxLen at hcap
      rw [hyl] at hcap
      have HYL := Lib.hid hyl
      have hOt := hT3.row.take (m := k) (by rw [hyl]; omega)
      have hrd := hT3.rd hyl
      have hw13 := hb3.size
      clear K hyl hb23 hb2
      have tail : ∀ (zs : List TV) (a6 : Option Addr) (c6 : Nat) (w6 : World), zs.length + 1 = n → (∀ z ∈ zs, z ∈ ys) → OwnR eltT w6 w1.heap.size a6 c6 zs → w3.drew.grownBy w6 (Value.slice (some ⟨g, 0, none⟩) k c3).ownBlock → OwnT w6 w1.heap.size a6 c6 zs ∧ Below w1.heap.size w1 w6 := by
        intro zs a6 c6 w6 hzl hzm hR hG
        refine ⟨⟨hR, fun z hz => ?_, fun z hz => hT3.sm z (hzm z hz)⟩, ?_⟩
        · have hOd : OwnR eltT w3.drew w1.heap.size (some ⟨g, 0, none⟩) c3 (ys.take k) := hOt
          exact (show OwnI w3.drew w1.heap.size z.ad z.cp z.zs from hT3.ins z (hzm z hz)).kindKept hOd eltT_ty (by rw [List.length_take, HYL.out]; omega) hG
        · exact (show Below w1.heap.size w1 w3.drew from ⟨hb3.os, hb3.tape, hb3.output, hb3.size, hb3.block⟩).grown hG hw13 (fun r hr => by simp [Value.ownBlock] at hr; omega)
      have HT := Lib.hid tail
      clear tail
      have hkI : (k : Int) ≤ (c3 : Int) := by omega
      have hk2 : (0 : Int) ≤ (k : Int) + 1 := by omega
      have hk3 : (k : Int) + 1 ≤ (n : Int) := by omega
      have hk4 : (n : Int) ≤ (c3 : Int) := by omega
      have s1 : IntKind.i64.wrap ((k : Int) + 1) = (k : Int) + 1 := IntWalk.i64_in _ (by omega)
      have s2 : ((k : Int) + 1).toNat = k + 1 := by omega
      have hltk : (ys.take k).length = k := by rw [List.length_take, HYL.out]; omega
      have HLT := Lib.hid hltk
      have hOtd : OwnR eltT w3.drew w1.heap.size (some ⟨g, 0, none⟩) c3 (ys.take k) := hOt
      clear hltk hOt
      by_cases hcp : c3 = k + 1
      · have hnk : n = k + 1 := by omega
        subst hcp
        have hnk1 : (n : Int) ≤ (k : Int) + 1 := by omega
        have hkk : (k : Int) ≤ (k : Int) + 1 := by omega
        have hck : ¬ k + 1 = k := by omega
        have HNK := Lib.hid hnk
        clear hnk hT3
        go_wp2_with fail
        have HE := Lib.hid (show n - (k + 1) = 0 by have := HNK.out; omega)
        go_region_held3 (fun w' => True) (trivial)
          (first | (refine step_appR eltT (by rfl) _ _ (by rfl) (zs := ys.take k) (L := k) HLT.out (by rfl) hOtd ⟨g, 0, none⟩ 0 0 [] (by first | rfl | (rw [← HE.out]; rfl)) rfl (by intro j u h; cases h) (by omega) hw13 ?_; intro a6 c6 w6 hR6 hG6))
        have hn0 : n - 1 = k := by have := HNK.out; omega
        obtain ⟨hT6, hb6⟩ := HT.out (ys.take k ++ []) a6 c6 w6 (by rw [List.append_nil, List.length_take, HYL.out]; have := HNK.out; omega) (by intro z hz; rw [List.append_nil] at hz; exact List.mem_of_mem_take hz) hR6 hG6
        have HL6 := Lib.hid (show (ys.take k ++ []).length = n - 1 by rw [List.append_nil, List.length_take, HYL.out]; have := HNK.out; omega)
        clear hR6 hG6 hOtd hrd
        have K := TreeValid_any a6 (n - 1) c6 (ys.take k ++ []) w1.heap.size w6 (hT6.rd HL6.out) hT6.ins hT6.sm (by omega)
        try rw [Nat.add_zero]
        rw [← hn0]
        clear hn0
        go_wp2_with fail
        with_reducible refine K.mono ?_
        rintro e w7 ⟨v, rfl, hb67⟩
        have hT7 := hT6.below hb67
        have hb7 := hb6.trans (hb67.mono hb6.size)
        clear K hT6 hb67 hb6
        cases v with
        | false =>
          go_wp2
          go_ret2
          exact RetTD.no w1 w7 n hb7
        | true =>
          go_wp2
          go_ret2
          exact ⟨_, a6, c6, true, by rw [HL6.out]; rfl, fun _ => by rw [HL6.out]; omega, hT7, hb7⟩
      · have hcp' : k + 1 < c3 := by omega
        have hck : ¬ c3 = k := by omega
        have HB := Lib.hid (fun (W' : World) (hb : Below w3.heap.size w3 W') => (by have := hrd.news (k := k + 1) (m := n - (k + 1)) (by omega) hb; rw [Nat.zero_add] at this; exact this : ∀ j u, (eltT.flat ((ys.drop (k + 1)).take (n - (k + 1))))[j]? = some u → W'.cell? ((⟨g, (k + 1) * 3, none⟩ : Addr).add j) = some u))
        clear hT3
        go_wp2_with fail
        go_region_held3 (fun w' => True) (trivial)
          (first | (refine step_appR eltT (by rfl) _ _ (by rfl) (zs := ys.take k) (L := k) HLT.out (by rfl) hOtd ⟨g, (k + 1) * 3, none⟩ (n - (k + 1)) (c3 - (k + 1)) ((ys.drop (k + 1)).take (n - (k + 1))) (by rfl) (by rw [List.length_take, List.length_drop, HYL.out]; omega) (by exact HB.out _ (below_drewNT (Below.refl _ _) 1)) (by omega) hw13 ?_; intro a6 c6 w6 hR6 hG6))
        obtain ⟨hT6, hb6⟩ := HT.out (ys.take k ++ (ys.drop (k + 1)).take (n - (k + 1))) a6 c6 w6 (by rw [List.length_append, List.length_take, List.length_take, List.length_drop, HYL.out]; omega) (by intro z hz; rcases List.mem_append.1 hz with hz | hz; exact List.mem_of_mem_take hz; exact List.mem_of_mem_drop (List.mem_of_mem_take hz)) hR6 hG6
        have HL6 := Lib.hid (show (ys.take k ++ (ys.drop (k + 1)).take (n - (k + 1))).length = n - 1 by rw [List.length_append, List.length_take, List.length_take, List.length_drop, HYL.out]; omega)
        clear hR6 hG6 hOtd hrd
        have K := TreeValid_any a6 (n - 1) c6 (ys.take k ++ (ys.drop (k + 1)).take (n - (k + 1))) w1.heap.size w6 (hT6.rd HL6.out) hT6.ins hT6.sm (by omega)
        have hlen : k + (n - (k + 1)) = n - 1 := by omega
        try rw [hlen]
        clear hlen
        go_wp2_with fail
        with_reducible refine K.mono ?_
        rintro e w7 ⟨v, rfl, hb67⟩
        have hT7 := hT6.below hb67
        have hb7 := hb6.trans (hb67.mono hb6.size)
        clear K hT6 hb67 hb6
        cases v with
        | false =>
          go_wp2
          go_ret2
          exact RetTD.no w1 w7 n hb7
        | true =>
          go_wp2
          go_ret2
          exact ⟨_, a6, c6, true, by rw [HL6.out]; rfl, fun _ => by rw [HL6.out]; omega, hT7, hb7⟩

end Go.Proofs.Ytdjpaibjelfhnaa
