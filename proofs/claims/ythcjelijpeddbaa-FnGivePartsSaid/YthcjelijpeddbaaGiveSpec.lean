/- Contract of spec's SpaceGive. -/
import Derived.Test.YthcjelijpeddbaaGiveImpl
import Derived.Test.YthcjelijpeddbaaPlainGive
import Derived.Test.YthcjelijpeddbaaExtent
import Derived.IntWalk
namespace Go.Proofs.Ythcjelijpeddbaa
open Go.RowKit
set_option linter.unusedVariables false

theorem meets_eq (f m f' m' : Int) : meets (f, m) (f', m') = (decide (f < f' + m') && decide (f' < f + m)) := rfl

set_option maxHeartbeats 400000 in
theorem l21Meets_any (f m f' m' : Int) (w : World) (h0 : 0 ≤ f) (h1 : f ≤ 100) (h2 : 0 ≤ m) (h3 : m ≤ 100) (h0' : 0 ≤ f') (h1' : f' ≤ 100) (h2' : 0 ≤ m') (h3' : m' ≤ 100) :
    Calls Try.prog 34 #[.agg #[.int .i64 f, .int .i64 m], .agg #[.int .i64 f', .int .i64 m']] w (RetB w (.bool (meets (f, m) (f', m')))) := by
  have hme := Lib.hid (meets_eq f m f' m')
  have hb : Below w.heap.size w ((w.alloc (.cells #[.int .i64 f, .int .i64 m] 32)).alloc (.cells #[.int .i64 f', .int .i64 m'] 32)) :=
    (boxBelow w _).alloc (by simp) _
  by_cases c1 : f < f' + m'
  · have d1 : decide (f < f' + m') = true := by simpa using c1
    by_cases c2 : f' < f + m
    · have d2 : decide (f' < f + m) = true := by simpa using c2
      go_enter Try.func34, Try.ntmps34
      go_wp2
      go_ret
      rw [hme.out, d1, d2]
      exact ⟨rfl, hb⟩
    · have d2 : decide (f' < f + m) = false := by simpa using c2
      go_enter Try.func34, Try.ntmps34
      go_wp2
      go_ret
      rw [hme.out, d1, d2]
      exact ⟨rfl, hb⟩
  · have d1 : decide (f < f' + m') = false := by simpa using c1
    go_enter Try.func34, Try.ntmps34
    go_wp2
    go_ret
    rw [hme.out, d1]
    exact ⟨rfl, hb⟩

/-- An append goes on: the boxed extent is there as before. -/
theorem insStep {w wr w2 : World} {row : Option Nat} {u v : Value} (hb : Below w.heap.size w wr) (x0 : wr.cell? ⟨w.heap.size, 0, none⟩ = some u) (x1 : wr.cell? ⟨w.heap.size, 1, none⟩ = some v) (hsz : w.heap.size < wr.heap.size) (o : Obj) (nq : Nat)
    (hG : ((wr.alloc o).drewN nq).grownBy w2 row) (hrow : ∀ r, row = some r → w.heap.size < r) :
    Below w.heap.size w w2 ∧ w2.cell? ⟨w.heap.size, 0, none⟩ = some u ∧ w2.cell? ⟨w.heap.size, 1, none⟩ = some v ∧ w.heap.size < w2.heap.size := by
  have hz := hG.size
  have hz' : wr.heap.size + 1 ≤ w2.heap.size := by simpa using hz
  refine ⟨(below_drewN (hb.alloc hb.size o) nq).grown hG (by have := hb.size; simp; omega) (fun r hr => by have := hrow r hr; omega), ?_, ?_, by omega⟩
  · exact hG.cell (a := ⟨w.heap.size, 0, none⟩) ((World.cell?_alloc_lt wr o ⟨w.heap.size, 0, none⟩ hsz).trans x0) (fun e => by have h : w.heap.size < w.heap.size := hrow _ e.symm; omega)
  · exact hG.cell (a := ⟨w.heap.size, 1, none⟩) ((World.cell?_alloc_lt wr o ⟨w.heap.size, 1, none⟩ hsz).trans x1) (fun e => by have h : w.heap.size < w.heap.size := hrow _ e.symm; omega)

theorem rdCells {w w2 : World} {b off n k : Nat} {xs : List (Int × Int)} {g q : Int} (hr : RdX w (some ⟨b, off, none⟩) n xs) (hb : Below w.heap.size w w2) (hk : k < n) (h : xs.getD k (0, 0) = (g, q)) :
    w2.cell? ⟨b, off + k * 2, none⟩ = some (.int .i64 g) ∧ w2.cell? ⟨b, off + k * 2 + 1, none⟩ = some (.int .i64 q) := by
  obtain ⟨b', off', he, hlt, hc⟩ := (hr.below hb).2 k hk
  injection he with he
  injection he with h1 h2 _
  subst h1 h2
  have := hc k hk
  rw [h] at this
  exact this

theorem rowLt {w : World} {B L : Nat} {a : Option Addr} {c : Nat} {xs : List (Int × Int)} (h : OwnX w B a c xs) (hL : xs.length = L) {k : Nat} (hk : k < B) : ∀ r, (Value.slice a L c).ownBlock = some r → k < r := by
  subst hL
  intro r hr
  have := (h.2.lt r hr).1
  omega

set_option maxHeartbeats 2000000 in
theorem l21Insert_any (a : Option Addr) (n c : Nat) (xs : List (Int × Int)) (f m : Int) (w : World) (hr : RdX w a n xs) (hwf : WfX xs) (hn : n ≤ 1048576) (hf : -9223372036854775808 ≤ f ∧ f ≤ 9223372036854775807) (hm : -9223372036854775808 ≤ m ∧ m ≤ 9223372036854775807) :
    Calls Try.prog 35 #[.slice a n c, .agg #[.int .i64 f, .int .i64 m]] w (RetX w (insertL (f, m) xs)) := by
  have hl := Lib.hid hr.1
  have HW := Lib.hid (wfX_one hf.1 hf.2 hm.1 hm.2)
  have hb0 := boxBelow w (.cells #[.int .i64 f, .int .i64 m] 32)
  have hb1 := hb0.alloc (by simp) (.cells #[] 32)
  have hO1 : OwnX ((w.alloc (.cells #[.int .i64 f, .int .i64 m] 32)).alloc (.cells #[] 32)) (w.heap.size + 1) (some ⟨w.heap.size + 1, 0, none⟩) 0 [] := by
    have := OwnX.empty (w := w.alloc (.cells #[.int .i64 f, .int .i64 m] 32)) (B := w.heap.size + 1) (by simp)
    simpa using this
  go_enter Try.func35, Try.ntmps35
  go_wp2
  go_loopw [5, 6, 7] (fun v s i wr => ∃ k : Nat, k ≤ n ∧ i = .int .i64 k ∧ ∃ (zs : List (Int × Int)) (a' : Option Addr) (c' : Nat) (L : Nat) (d : Bool), v = .slice a' L c' ∧ zs.length = L ∧ s = .bool d ∧ Hid (InsAt (f, m) xs k zs d) ∧ OwnX wr (w.heap.size + 1) a' c' zs ∧ Below w.heap.size w wr ∧ wr.cell? ⟨w.heap.size, 0, none⟩ = some (.int .i64 f) ∧ wr.cell? ⟨w.heap.size, 1, none⟩ = some (.int .i64 m) ∧ w.heap.size < wr.heap.size)
    (fun _ _ i _ => n - (intOf i).toNat)
  case atStart =>
    refine ⟨0, Nat.zero_le _, rfl, [], _, _, 0, false, rfl, rfl, rfl, Lib.hid (InsAt.start _ _), hO1, hb1, ?_, ?_, by simp; omega⟩
    · go_simp
    · go_simp
  case round =>
    clear hO1 hb1 hb0
    obtain ⟨k, hk, rfl, zs, a', c', L, d, rfl, hL, rfl, hI, hO, hb, x0, x1, hsz⟩ := hrel
    have hlen := hI.out.len
    have hll := hl.out
    by_cases hlt : k < n
    · obtain ⟨b, off, rfl, hblt, g, q, hfm, cf, cm, ⟨wf0, wf1⟩, wm0, wm1⟩ := (hr.below hb).at_ hwf hlt
      have hkl : k < xs.length := by omega
      have hk0 : (0 : Int) ≤ (k : Int) := by omega
      have hk1 : (k : Int) < (n : Int) := by omega
      by_cases hput : d = false ∧ f < g
      · obtain ⟨rfl, hfg⟩ := hput
        have HP := Lib.hid (hI.out.put hkl (by rw [hfm]; exact hfg))
        rw [hfm] at HP
        have d1 : decide (f < g) = true := by simpa using hfg
        have HW2 := Lib.hid (wfX_one wf0 wf1 wm0 wm1)
        have HFM := Lib.hid hfm
        clear hfm
        have HN := Lib.hid (newX wr f m)
        go_wp2
        go_quiet (fail)
        go_wp2_with (first
          | (at_builtin; refine wp_appX rfl _ _ rfl hL rfl ((hO.drewN nq).alloc _) ⟨wr.heap.size, 0, none⟩ 1 1 [(f, m)] rfl rfl HN.out HW.out (by omega) (by simp; omega) ?_; intro a2 c2 w2 hO2 hG2; obtain ⟨hb2, y0, y1, hsz2⟩ := insStep hb x0 x1 hsz _ nq hG2 (rowLt hO hL (by omega)); have ⟨cf2, cm2⟩ := rdCells hr hb2 hlt HFM.out; have HN2 := Lib.hid (newX w2 g q); have hL2 : (zs ++ [(f, m)]).length = L + 1 := by simp [hL])
          | (at_builtin; refine wp_appX rfl _ _ rfl hL2 rfl (hO2.alloc _) ⟨w2.heap.size, 0, none⟩ 1 1 [(g, q)] rfl rfl HN2.out HW2.out (by omega) (by simp; omega) ?_; intro a3 c3 w3 hO3 hG3; obtain ⟨hb3, z0, z1, hsz3⟩ := insStep hb2 y0 y1 hsz2 _ 0 hG3 (rowLt hO2 hL2 (by omega))))
        have hL3 : (zs ++ [(f, m)] ++ [(g, q)]).length = L + 1 + 1 := by simp [hL]
        clear hG2 hG3 hO hO2 hb hb2 HN HN2
        go_roundw
        case rel => exact ⟨k + 1, by omega, by go_num, zs ++ [(f, m)] ++ [(g, q)], a3, c3, L + 1 + 1, true, rfl, hL3, rfl, HP, hO3, hb3, z0, z1, hsz3⟩
        case measure => simp [intOf]; omega
      · have HP := Lib.hid (hI.out.keep hkl (by intro h1; rw [hfm]; intro h2; exact hput ⟨h1, h2⟩))
        rw [hfm] at HP
        have HW2 := Lib.hid (wfX_one wf0 wf1 wm0 wm1)
        have HN := Lib.hid (newX wr g q)
        have hcase : d = true ∨ (d = false ∧ decide (f < g) = false) := by
          cases d
          · right; exact ⟨rfl, by simp; exact Int.not_lt.1 (fun h => hput ⟨rfl, h⟩)⟩
          · left; rfl
        clear hfm hput
        rcases hcase with rfl | ⟨rfl, d1⟩
        all_goals
          go_wp2
          go_quiet (fail)
          go_wp2_with (at_builtin; refine wp_appX rfl _ _ rfl hL rfl ((hO.drewN nq).alloc _) ⟨wr.heap.size, 0, none⟩ 1 1 [(g, q)] rfl rfl HN.out HW2.out (by omega) (by simp; omega) ?_; intro a2 c2 w2 hO2 hG2; obtain ⟨hb2, y0, y1, hsz2⟩ := insStep hb x0 x1 hsz _ nq hG2 (rowLt hO hL (by omega)))
          have hL2 : (zs ++ [(g, q)]).length = L + 1 := by simp [hL]
          clear hG2 hO hb HN
          go_roundw
          case rel => exact ⟨k + 1, by omega, by go_num, zs ++ [(g, q)], a2, c2, L + 1, _, rfl, hL2, rfl, HP, hO2, hb2, y0, y1, hsz2⟩
          case measure => simp [intOf]; omega
    · obtain rfl : k = n := by omega
      have hI2 := hI.out
      rw [← hll] at hI2
      obtain ⟨e1, e2⟩ := hI2.end_
      clear hI2
      cases d
      · have HE := Lib.hid (e2 rfl)
        have HN := Lib.hid (newX wr f m)
        clear e1 e2
        go_wp2_with (at_builtin; refine wp_appX rfl _ _ rfl hL rfl (hO.alloc _) ⟨wr.heap.size, 0, none⟩ 1 1 [(f, m)] rfl rfl HN.out HW.out (by omega) (by simp; omega) ?_; intro a2 c2 w2 hO2 hG2; obtain ⟨hb2, y0, y1, hsz2⟩ := insStep hb x0 x1 hsz _ 0 hG2 (rowLt hO hL (by omega)))
        have hL2 : (zs ++ [(f, m)]).length = L + 1 := by simp [hL]
        go_ret
        rw [← HE.out]
        exact ⟨a2, c2, by rw [hL2]; rfl, hO2.mono (by omega), hb2⟩
      · have HE := Lib.hid (e1 rfl)
        clear e1 e2
        go_wp2
        go_ret
        rw [← HE.out]
        exact ⟨a', c', by rw [hL]; rfl, hO.mono (by omega), hb⟩

end Go.Proofs.Ythcjelijpeddbaa
