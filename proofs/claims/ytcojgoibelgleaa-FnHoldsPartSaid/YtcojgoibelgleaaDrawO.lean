/- Contracts of the draws of holds. -/
import Derived.Test.YtcojgoibelgleaaDrawPath
import Derived.Test.YtcojgoibelgleaaHoldPut2
import Derived.BigQuiet
import Derived.Deep.QuietTactic
import Derived.Deep.RegionHeld3
import Derived.StillTailTactics
import Derived.Outline
namespace Go.Proofs.Ytcojgoibelgleaa
open Go.RowKit
set_option linter.unusedVariables false

/-- Short texts. -/
def SmO (xs : List (ByteArray × ByteArray)) : Prop := ∀ x ∈ xs, x.1.size ≤ 16 ∧ x.2.size ≤ 16

theorem SmO.set {xs : List (ByteArray × ByteArray)} {x : ByteArray × ByteArray} (h : SmO xs) (j : Nat) (hx : x.1.size ≤ 16 ∧ x.2.size ≤ 16) : SmO (xs.set j x) := by
  intro z hz
  rcases List.mem_or_eq_of_mem_set hz with h' | rfl
  · exact h z h'
  · exact hx

/-- A list of holds was drawn. -/
def DrewO (w : World) (B g : Nat) (lim : Int) (e : Ending) (w' : World) : Prop :=
  ∃ xs a c, e = .returned (.slice a xs.length c) ∧ xs.length ≤ 30 ∧ SmO xs ∧ OwnR eltO w' w.heap.size a c xs ∧ Drawn w w' B g lim

def u0 : List ByteArray := [⟨#[115]⟩, ⟨#[116]⟩, ⟨#[117]⟩, ⟨#[118]⟩]
theorem u0_arr : #[Value.string ⟨#[115]⟩, Value.string ⟨#[116]⟩, Value.string ⟨#[117]⟩, Value.string ⟨#[118]⟩] = (u0.map Value.string).toArray := rfl
def u1 : List ByteArray := [⟨#[106, 111, 98]⟩, ⟨#[108, 97, 119]⟩, ⟨#[116, 101, 115, 116]⟩]
theorem u1_arr : #[Value.string ⟨#[106, 111, 98]⟩, Value.string ⟨#[108, 97, 119]⟩, Value.string ⟨#[116, 101, 115, 116]⟩] = (u1.map Value.string).toArray := rfl
def u2 : List ByteArray := [⟨#[]⟩, ⟨#[122, 122, 122]⟩, ⟨#[66, 97, 100]⟩]
theorem u2_arr : #[Value.string ⟨#[]⟩, Value.string ⟨#[122, 122, 122]⟩, Value.string ⟨#[66, 97, 100]⟩] = (u2.map Value.string).toArray := rfl

set_option maxHeartbeats 2000000 in
theorem l92Holds_any (B g : Nat) (p : Int) (w : World) (hr : Rdr w B g p) (hp : p ≤ 1000000000) :
    Calls Try.prog 18 #[.pointer (some ⟨g, 0, none⟩)] w (DrewO w B g (p + 100)) := by
  have hgl := hr.lt
  go_enter Try.func18, Try.ntmps18
  go_wp2_with fail
  have hO0 : OwnR eltO (w.alloc (.cells #[] 36)) w.heap.size (some ⟨w.heap.size, 0, none⟩) 0 [] := OwnR.empty eltO (Nat.le_refl _)
  have hD0 := (Drawn.start hr).alloc (.cells #[] 36)
  refine (pickD _ hD0 (by omega)).mono ?_
  rintro e w1 ⟨N, rfl, hN0, hN1, hD1, hg1⟩
  have hO1 := hO0.grown hg1 hgl
  have hN2 := hN1 (by omega)
  clear hN1 hg1 hO0 hD0 hr
  go_wp2_with fail
  refine (pickD _ hD1 (by omega)).mono ?_
  rintro e w2 ⟨x, rfl, hx0, hx1, hD2, hg2⟩
  have hO2 := hO1.grown hg2 hgl
  clear hx1 hg2 hO1 hD1 hx0
  by_cases x0 : x = 0
  · subst x0
    clear hN0 hN2
    go_wp2_with fail
    go_loopw [3, 5] (fun v i wr => ∃ k : Nat, (k : Int) ≤ 30 ∧ i = .int .i64 k ∧ ∃ zs a c L, v = .slice a L c ∧ Hid (zs.length = L) ∧ L ≤ k ∧ Hid (SmO zs) ∧ OwnR eltO wr w.heap.size a c zs ∧ Drawn w wr B g (p + 2 + 2 * k))
      (fun _ i _ => (30 - intOf i).toNat)
    case atStart => exact ⟨0, by omega, rfl, [], _, _, 0, rfl, Lib.hid rfl, Nat.le_refl _, Lib.hid (by intro z hz; cases hz), hO2, hD2.le (by omega)⟩
    case round =>
      clear hO2 hD2
      obtain ⟨k, hk, rfl, zs, a, c, L, rfl, hz, hLk, hsm, hO, hD⟩ := hrel
      by_cases hlt : (k : Int) < 30
      · go_wp2_with fail
        with_reducible refine (of_lit B g w _ _ 4 _ u0 u0_arr rfl hD (by omega) (by omega) (by omega) (by decide)).mono ?_
        rintro e w3 ⟨s, rfl, hs, hD3, hG3⟩
        have hO3 := hO.grown hG3 hgl
        clear hO hD hG3
        go_wp2_with fail
        with_reducible refine (of_lit B g w _ _ 3 _ u1 u1_arr rfl hD3 (by omega) (by omega) (by omega) (by decide)).mono ?_
        rintro e w4 ⟨t, rfl, ht, hD4, hG4⟩
        have hO4 := hO3.grown hG4 hgl
        clear hO3 hD3 hG4
        have hrd : RdR eltO w4 a L zs := by have := hO4.rd; rwa [hz.out] at this
        have K := holdPut_any a L c zs s t w4 hrd (fun x hx => by have := hsm.out x hx; omega) (by omega) (by omega) (by omega)
        clear hrd
        go_wp2_with fail
        with_reducible refine K.mono ?_
        rintro e w5 ⟨ys, a5, c5, ok, rfl, hyl, hym, hO5, hb5⟩
        have hsz4 := hD4.2.size
        have hD5 := hD4.step (row := none) (grownBy_of_below hb5 _) (fun r h => by cases h)
        have hOz := hO4.below hb5
        have hOy := hO5.mono hsz4
        have hsm5 : Hid (SmO ys) := Lib.hid (by
          intro x hx
          rcases hym x hx with h | rfl
          · exact hsm.out x h
          · exact ⟨hs, ht⟩)
        have hy5 : ys.length ≤ k + 1 := by omega
        clear hO4 hD4 hb5 hO5 hym hyl K
        obtain ⟨M, hM⟩ : ∃ M, ys.length = M := ⟨_, rfl⟩
        rw [hM] at hy5 ⊢
        have HM := Lib.hid hM
        clear hM
        cases ok with
        | true =>
          clear hOz
          go_wp2
          go_roundw
          case rel => exact ⟨k + 1, by omega, by go_num, ys, a5, c5, M, rfl, HM, hy5, hsm5, hOy, hD5.le (by omega)⟩
          case measure => simp [intOf]; omega
        | false =>
          clear hOy
          go_wp2
          go_roundw
          case rel => exact ⟨k + 1, by omega, by go_num, zs, a, c, L, rfl, hz, by omega, hsm, hOz, hD5.le (by omega)⟩
          case measure => simp [intOf]; omega
      · by_cases hL : L = 0
        · subst hL
          go_wp2
          go_ret
          exact ⟨zs, a, c, by rw [hz.out]; rfl, by rw [hz.out]; omega, hsm.out, hO, hD.le (by omega)⟩
        · have hLp : 0 < L := by omega
          have hLz : (0 : Int) < (L : Int) := by omega
          go_wp2_with fail
          refine (pickD _ hD (by omega)).mono ?_
          rintro e w1 ⟨x, rfl, hx0, hx1, hD1, hg1⟩
          have hO1 := hO.grown hg1 hgl
          clear hx0 hx1 hg1 hO hD
          by_cases x0 : x = 0
          · subst x0
            go_wp2_with fail
            refine (pickD _ hD1 (by omega)).mono ?_
            rintro e w2 ⟨y, rfl, hy0, hy1, hD2, hg2⟩
            have hO2 := hO1.grown hg2 hgl
            have hy2 := hy1 (by omega)
            clear hy1 hg2 hO1 hD1
            obtain ⟨y, rfl⟩ := Int.eq_ofNat_of_zero_le hy0
            have hyL : y < L := by omega
            go_wp2_with fail
            with_reducible refine (of_lit B g w _ _ 3 _ u2 u2_arr rfl hD2 (by omega) (by omega) (by omega) (by decide)).mono ?_
            rintro e w3 ⟨v, rfl, hv, hD3, hg3⟩
            have hO3 := hO2.grown hg3 hgl
            clear hg3 hO2 hD2
            obtain ⟨gg, rfl, hBg, hgg⟩ := hO3.head (by rw [hz.out]; omega)
            obtain ⟨x, hx⟩ : ∃ x, zs[y]? = some x := ⟨_, List.getElem?_eq_getElem (by rw [hz.out]; omega)⟩
            obtain ⟨⟨c0, c1⟩, f0, f1⟩ := cellsO hO3 hx
            have hset := hO3.set1 y x (x.1, v) hx 1 (.string v) (by decide) rfl
            have HS := Lib.hid hset.1
            have hD4 := hD3.step hset.2 (fun r e => by injection e; omega)
            have hsm2 := Lib.hid (hsm.out.set (x := (x.1, v)) y ⟨(hsm.out x (List.mem_of_getElem? hx)).1, hv⟩)
            have HL : Hid ((zs.set y (x.1, v)).length = L) := Lib.hid (by rw [List.length_set, hz.out])
            clear hset hO3 hD3 hx c0 f0
            go_wp2
            go_ret
            exact ⟨_, _, c, by rw [HL.out]; rfl, by rw [HL.out]; omega, hsm2.out, HS.out, hD4.le (by omega)⟩
          · have hn0 : (x == 0) = false := by simp [x0]
            go_wp2
            go_ret
            exact ⟨zs, a, c, by rw [hz.out]; rfl, by rw [hz.out]; omega, hsm.out, hO1, hD1.le (by omega)⟩
  · have hn0 : (x == 0) = false := by simp [x0]
    go_wp2_with fail
    go_loopw [3, 5] (fun v i wr => ∃ k : Nat, (k : Int) ≤ N ∧ i = .int .i64 k ∧ ∃ zs a c L, v = .slice a L c ∧ Hid (zs.length = L) ∧ L ≤ k ∧ Hid (SmO zs) ∧ OwnR eltO wr w.heap.size a c zs ∧ Drawn w wr B g (p + 2 + 2 * k))
      (fun _ i _ => (N - intOf i).toNat)
    case atStart => exact ⟨0, by omega, rfl, [], _, _, 0, rfl, Lib.hid rfl, Nat.le_refl _, Lib.hid (by intro z hz; cases hz), hO2, hD2.le (by omega)⟩
    case round =>
      clear hO2 hD2
      obtain ⟨k, hk, rfl, zs, a, c, L, rfl, hz, hLk, hsm, hO, hD⟩ := hrel
      by_cases hlt : (k : Int) < N
      · go_wp2_with fail
        with_reducible refine (of_lit B g w _ _ 4 _ u0 u0_arr rfl hD (by omega) (by omega) (by omega) (by decide)).mono ?_
        rintro e w3 ⟨s, rfl, hs, hD3, hG3⟩
        have hO3 := hO.grown hG3 hgl
        clear hO hD hG3
        go_wp2_with fail
        with_reducible refine (of_lit B g w _ _ 3 _ u1 u1_arr rfl hD3 (by omega) (by omega) (by omega) (by decide)).mono ?_
        rintro e w4 ⟨t, rfl, ht, hD4, hG4⟩
        have hO4 := hO3.grown hG4 hgl
        clear hO3 hD3 hG4
        have hrd : RdR eltO w4 a L zs := by have := hO4.rd; rwa [hz.out] at this
        have K := holdPut_any a L c zs s t w4 hrd (fun x hx => by have := hsm.out x hx; omega) (by omega) (by omega) (by omega)
        clear hrd
        go_wp2_with fail
        with_reducible refine K.mono ?_
        rintro e w5 ⟨ys, a5, c5, ok, rfl, hyl, hym, hO5, hb5⟩
        have hsz4 := hD4.2.size
        have hD5 := hD4.step (row := none) (grownBy_of_below hb5 _) (fun r h => by cases h)
        have hOz := hO4.below hb5
        have hOy := hO5.mono hsz4
        have hsm5 : Hid (SmO ys) := Lib.hid (by
          intro x hx
          rcases hym x hx with h | rfl
          · exact hsm.out x h
          · exact ⟨hs, ht⟩)
        have hy5 : ys.length ≤ k + 1 := by omega
        clear hO4 hD4 hb5 hO5 hym hyl K
        obtain ⟨M, hM⟩ : ∃ M, ys.length = M := ⟨_, rfl⟩
        rw [hM] at hy5 ⊢
        have HM := Lib.hid hM
        clear hM
        cases ok with
        | true =>
          clear hOz
          go_wp2
          go_roundw
          case rel => exact ⟨k + 1, by omega, by go_num, ys, a5, c5, M, rfl, HM, hy5, hsm5, hOy, hD5.le (by omega)⟩
          case measure => simp [intOf]; omega
        | false =>
          clear hOy
          go_wp2
          go_roundw
          case rel => exact ⟨k + 1, by omega, by go_num, zs, a, c, L, rfl, hz, by omega, hsm, hOz, hD5.le (by omega)⟩
          case measure => simp [intOf]; omega
      · by_cases hL : L = 0
        · subst hL
          go_wp2
          go_ret
          exact ⟨zs, a, c, by rw [hz.out]; rfl, by rw [hz.out]; omega, hsm.out, hO, hD.le (by omega)⟩
        · have hLp : 0 < L := by omega
          have hLz : (0 : Int) < (L : Int) := by omega
          go_wp2_with fail
          refine (pickD _ hD (by omega)).mono ?_
          rintro e w1 ⟨x, rfl, hx0, hx1, hD1, hg1⟩
          have hO1 := hO.grown hg1 hgl
          clear hx0 hx1 hg1 hO hD
          by_cases x0 : x = 0
          · subst x0
            go_wp2_with fail
            refine (pickD _ hD1 (by omega)).mono ?_
            rintro e w2 ⟨y, rfl, hy0, hy1, hD2, hg2⟩
            have hO2 := hO1.grown hg2 hgl
            have hy2 := hy1 (by omega)
            clear hy1 hg2 hO1 hD1
            obtain ⟨y, rfl⟩ := Int.eq_ofNat_of_zero_le hy0
            have hyL : y < L := by omega
            go_wp2_with fail
            with_reducible refine (of_lit B g w _ _ 3 _ u2 u2_arr rfl hD2 (by omega) (by omega) (by omega) (by decide)).mono ?_
            rintro e w3 ⟨v, rfl, hv, hD3, hg3⟩
            have hO3 := hO2.grown hg3 hgl
            clear hg3 hO2 hD2
            obtain ⟨gg, rfl, hBg, hgg⟩ := hO3.head (by rw [hz.out]; omega)
            obtain ⟨x, hx⟩ : ∃ x, zs[y]? = some x := ⟨_, List.getElem?_eq_getElem (by rw [hz.out]; omega)⟩
            obtain ⟨⟨c0, c1⟩, f0, f1⟩ := cellsO hO3 hx
            have hset := hO3.set1 y x (x.1, v) hx 1 (.string v) (by decide) rfl
            have HS := Lib.hid hset.1
            have hD4 := hD3.step hset.2 (fun r e => by injection e; omega)
            have hsm2 := Lib.hid (hsm.out.set (x := (x.1, v)) y ⟨(hsm.out x (List.mem_of_getElem? hx)).1, hv⟩)
            have HL : Hid ((zs.set y (x.1, v)).length = L) := Lib.hid (by rw [List.length_set, hz.out])
            clear hset hO3 hD3 hx c0 f0
            go_wp2
            go_ret
            exact ⟨_, _, c, by rw [HL.out]; rfl, by rw [HL.out]; omega, hsm2.out, HS.out, hD4.le (by omega)⟩
          · have hn0 : (x == 0) = false := by simp [x0]
            go_wp2
            go_ret
            exact ⟨zs, a, c, by rw [hz.out]; rfl, by rw [hz.out]; omega, hsm.out, hO1, hD1.le (by omega)⟩

/-- Holds were drawn into new memory. -/
def GotO (w : World) (e : Ending) (w' : World) : Prop :=
  ∃ xs a c, e = .returned (.slice a xs.length c) ∧ xs.length ≤ 30 ∧ SmO xs ∧ OwnR eltO w' w.heap.size a c xs ∧ Below w.heap.size w w'

set_option maxHeartbeats 1000000 in
theorem DrawHoldsValid_any (a : Option Addr) (n c : Nat) (w : World) (h : RdC w a n) (hc : n ≤ c) (hn : n ≤ 1048576) :
    Calls Try.prog 10 #[.slice a n c] w (GotO w) := by
  go_enter Try.func10, Try.ntmps10
  go_wp2_with fail
  with_reducible refine (l6Open_any a n c _ h hc hn).mono ?_
  rintro e w1 ⟨rfl, hR, hb1, hsz⟩
  have HS := Lib.hid hsz
  clear hsz
  go_wp2_with fail
  with_reducible refine (l92Holds_any _ _ _ _ hR (by omega)).mono ?_
  rintro e w2 ⟨zs, a2, c2, rfl, hz5, hsm, hO, hD⟩
  have hb2 := got_below hb1 HS.out hD.2
  go_wp2
  go_ret
  exact ⟨zs, a2, c2, rfl, hz5, hsm, hO.mono hb1.size, hb2⟩

end Go.Proofs.Ytcojgoibelgleaa
