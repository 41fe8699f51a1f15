import Derived.Test.YtajheicheefpeaaM1
import Derived.StillTailTactics
import Derived.Deep.RegionHeld3
import Derived.Outline
import Derived.Conc.CrowdRun
import Derived.Conc.Beside
import Derived.WalkKit
/- Contracts of the reference's and the program's ChecksOf. -/
namespace Go.Proofs.Ytajheicheefpeaa
open Go.RowKit
set_option linter.unusedVariables false

/-- The sums of some blocks. -/
def sumsL (vs : List (Int × List Int × Int)) : List (Int × Int) := vs.map fun v => (v.1, sumL v.2.1)
/-- What ChecksOf answers. -/
def checksR (vs : List (Int × List Int × Int)) : List (Int × Int) × Bool := if storeV vs = true then (sumsL vs, true) else ([], false)

/-- A new list of sums and whether it is fine. -/
def RetC (w : World) (r : List (Int × Int) × Bool) (e : Ending) (w' : World) : Prop :=
  ∃ a c, e = .returned (.tuple #[.slice a r.1.length c, .bool r.2]) ∧ OwnX w' w.heap.size a c r.1 ∧ Below w.heap.size w w'

theorem store_ok {vs : List (Int × List Int × Int)} (h : storeV vs = true) {k : Nat} {v : Int × List Int × Int} (hv : vs[k]? = some v) : inB v.1 1 99 = true ∧ blockV v.2.1 = true ∧ inB v.2.2 1 999 = true := by
  have h1 := goodAt_ok ((chainV_iff.1 (storeV_iff.1 h).1).2 k (List.getElem?_eq_some_iff.1 hv).1) hv
  simp only [okH, Bool.and_eq_true] at h1
  exact ⟨h1.1.1, h1.1.2, h1.2⟩

theorem store_len {vs : List (Int × List Int × Int)} (h : storeV vs = true) : vs.length ≤ 16 := (chainV_iff.1 (storeV_iff.1 h).1).1

theorem sumsL_take {xs : List HV} {k : Nat} {x : HV} (h : xs[k]? = some x) : sumsL (valsH (xs.take (k + 1))) = sumsL (valsH (xs.take k)) ++ [(x.id, sumL x.zs)] := by
  obtain ⟨hk, rfl⟩ := List.getElem?_eq_some_iff.1 h
  rw [List.take_succ_eq_append_getElem hk]
  unfold sumsL valsH
  rw [List.map_append, List.map_append]
  rfl

theorem blockV_allB {zs : List Int} (h : blockV zs = true) : allB zs = true := by
  unfold blockV at h
  simp only [Bool.and_eq_true] at h
  exact h.1

theorem inB_bd {x lo hi : Int} (h : inB x lo hi = true) : lo ≤ x ∧ x ≤ hi := by simpa [inB] using h

theorem newC (W : World) (f m : Int) : ∀ j u, (flatX [(f, m)])[j]? = some u → (W.alloc (.cells #[.int .i64 f, .int .i64 m] 53)).cell? ((⟨W.heap.size, 0, none⟩ : Addr).add j) = some u := by
  intro j u hj
  rw [Addr.add_lit, cell_of_row _ W.heap.size _ _ _ (0, 0) (heap_alloc_new W _)]
  simpa [flatX] using hj

theorem wfC {f m : Int} (h0 : -9223372036854775808 ≤ f) (h1 : f ≤ 9223372036854775807) (h2 : -9223372036854775808 ≤ m) (h3 : m ≤ 9223372036854775807) : WfX [(f, m)] := by
  intro z hz
  simp at hz
  subst hz
  exact ⟨⟨h0, h1⟩, h2, h3⟩

theorem two_keep {W W' : World} {r : Option Nat} {p q : Addr} {u v : Value} (h : W.cell? p = some u ∧ W.cell? q = some v) (hg : W.grownBy W' r) (hp : some p.block ≠ r) (hq : some q.block ≠ r) : W'.cell? p = some u ∧ W'.cell? q = some v := ⟨hg.cell h.1 hp, hg.cell h.2 hq⟩

theorem two_alloc {W : World} {o : Obj} {p q : Addr} {u v : Value} (h : W.cell? p = some u ∧ W.cell? q = some v) (hp : p.block < W.heap.size) (hq : q.block < W.heap.size) : (W.alloc o).cell? p = some u ∧ (W.alloc o).cell? q = some v :=
  ⟨(World.cell?_alloc_lt W o p hp).trans h.1, (World.cell?_alloc_lt W o q hq).trans h.2⟩

set_option maxRecDepth 100000 in
set_option maxHeartbeats 1000000 in
theorem specChecksOf_any (a : Option Addr) (n c : Nat) (xs : List HV) (w : World) (hr : RdR eltH w a n xs) (hi : InH w xs) (hs : ∀ x ∈ xs, x.zs.length ≤ 4611686018427387904) (hn : n ≤ 4611686018427387904) :
    Calls Try.prog 9 #[.slice a n c] w (RetC w (checksR (valsH xs))) := by
  have hl := Lib.hid hr.1
  have HI := Lib.hid hi
  have HS := Lib.hid hs
  have hb0 : Below w.heap.size w (w.alloc (.cells #[] 53)) := (Below.refl _ _).alloc (Nat.le_refl _) _
  have hO0 : OwnX (w.alloc (.cells #[] 53)) w.heap.size (some ⟨w.heap.size, 0, none⟩) 0 [] := OwnX.empty (Nat.le_refl _)
  have K := specStoreValid_any a n c xs _ (hr.below hb0) (hi.below hb0) hs hn
  obtain ⟨v, hv⟩ : ∃ v, storeV (valsH xs) = v := ⟨_, rfl⟩
  rw [hv] at K
  have HV' := Lib.hid hv
  clear hi hs hv
  go_enter Try.func9, Try.ntmps9
  go_wp2_with fail
  with_reducible refine K.mono ?_
  rintro e w1 ⟨rfl, hb⟩
  have hb1 := hb0.trans (hb.mono hb0.size)
  have hO1 := hO0.below hb
  clear hb hb0 hO0 K
  cases v with
  | false =>
    have HF := Lib.hid (show checksR (valsH xs) = ([], false) by unfold checksR; rw [HV'.out]; rfl)
    go_wp2
    go_ret2
    rw [HF.out]
    exact ⟨_, _, rfl, hO1, hb1⟩
  | true =>
    have HF := Lib.hid (show checksR (valsH xs) = (sumsL (valsH xs), true) by unfold checksR; rw [HV'.out]; rfl)
    have hn16 : n ≤ 16 := by have := store_len HV'.out; rw [valsH_len, hl.out] at this; exact this
    go_wp2
    go_loopw [4, 5] (fun v i wr => ∃ k : Nat, k ≤ n ∧ i = .int .i64 k ∧ ∃ zs a' c' L, v = .slice a' L c' ∧ zs.length = L ∧ L ≤ k ∧ Hid (zs = sumsL (valsH (xs.take k))) ∧ OwnX wr w.heap.size a' c' zs ∧ Below w.heap.size w wr)
      (fun _ i _ => n - (intOf i).toNat)
    case atStart => exact ⟨0, Nat.zero_le _, rfl, [], _, _, 0, rfl, rfl, Nat.le_refl _, Lib.hid rfl, hO1, hb1⟩
    case round =>
      clear hO1 hb1
      obtain ⟨k, hk, rfl, zs, a', c', L, rfl, hz, hLk, hzs, hO, hb⟩ := hrel
      by_cases hlt : k < n
      · obtain ⟨b, off, x, rfl, hbl, hx, c0, c1, c2⟩ := atH hr hlt
        have hok := store_ok HV'.out (valsH_get hx)
        have hx1 := (HI.out x (List.mem_of_getElem? hx)).below hb
        have hx2 := HS.out x (List.mem_of_getElem? hx)
        have ht := sumsL_take hx
        obtain ⟨q, hq⟩ : ∃ q, sumL x.zs = q := ⟨_, rfl⟩
        have hqb := sumL_bd x.zs
        have K := still_of (l2Sum_any x.ad x.zs.length x.cp x.zs wr.drew hx1 (blockV_allB hok.2.1) hx2)
        have hidb : 1 ≤ x.id ∧ x.id ≤ 99 := inB_bd hok.1
        rw [hq] at ht hqb K
        have HT : Hid (zs ++ [(x.id, q)] = sumsL (valsH (xs.take (k + 1)))) := Lib.hid (by rw [hzs.out, ht])
        have HW := Lib.hid (wfC (f := x.id) (m := q) (by omega) (by omega) (by omega) (by omega))
        have hk0 : (0 : Int) ≤ (k : Int) := by omega
        have hk1 : (k : Int) < (n : Int) := by omega
        have hbd : Below w.heap.size w wr.drew := below_drewN hb 1
        have hsz : w.heap.size ≤ wr.heap.size := hb.size
        have hOd : OwnX wr.drew w.heap.size a' c' zs := hO
        have hcc : wr.drew.cell? ⟨b, off + k * 3, none⟩ = some (.int .i64 x.id) ∧ wr.drew.cell? ⟨b, off + k * 3 + 1, none⟩ = some (.slice x.ad x.zs.length x.cp) :=
          ⟨(hbd.cell (p := ⟨b, off + k * 3, none⟩) hbl).trans c0, (hbd.cell (p := ⟨b, off + k * 3 + 1, none⟩) hbl).trans c1⟩
        have hlt2 : b < wr.drew.heap.size := Nat.lt_of_lt_of_le hbl hbd.size
        have hne : some b ≠ (Value.slice a' L c').ownBlock := fun h => by have := hOd.2.lt b (by rw [hz]; exact h.symm); omega
        have HN := Lib.hid (newC wr.drew x.id q)
        clear hx hok ht hq hx1 hO hb hzs c0 c1 c2 hr
        go_wp2_with fail
        go_region_held3 (fun w' => w'.cell? ⟨b, off + k * 3, none⟩ = some (.int .i64 x.id) ∧ w'.cell? ⟨b, off + k * 3 + 1, none⟩ = some (.slice x.ad x.zs.length x.cp)) (first | exact hcc | exact two_alloc hcc hlt2 hlt2 | exact two_keep (two_alloc hcc hlt2 hlt2) hG2 hne hne)
          (first
            | (go_at_call 33; refine K.mono ?_; rintro e w3 ⟨rfl, rfl⟩)
            | (refine step_appX (by rfl) _ _ (by rfl) hz (by rfl) (hOd.alloc _) ⟨wr.drew.heap.size, 0, none⟩ 1 1 [(x.id, q)] (by rfl) rfl HN.out HW.out (by omega) (by simp; omega) ?_; intro a2 c2 w2 hO2 hG2))
        have hlen2 : (zs ++ [(x.id, q)]).length = L + 1 := by simp [hz]
        have hb2 := (hbd.alloc hbd.size (.cells #[.int .i64 x.id, .int .i64 q] 53)).grown hG2 (by simp; omega) (by rw [← hz]; exact fun r hr => (hOd.2.lt r hr).1)
        clear hG2 hOd hbd HN hcc K
        go_wp2
        go_roundw
        case rel => exact ⟨k + 1, by omega, by go_num, _, a2, c2, L + 1, rfl, hlen2, by omega, HT, hO2, hb2⟩
        case measure => simp [intOf]; omega
      · obtain rfl : k = n := by omega
        have HR : Hid (zs = sumsL (valsH xs)) := Lib.hid (by rw [hzs.out, List.take_of_length_le (by have := hl.out; omega)])
        go_wp2
        go_ret2
        rw [HF.out]
        rw [HR.out] at hz hO
        exact ⟨a', c', by rw [← hz]; rfl, hO, hb⟩

set_option maxRecDepth 100000 in
set_option maxHeartbeats 1000000 in
theorem implChecksOf_any (a : Option Addr) (n c : Nat) (xs : List HV) (w : World) (hr : RdR eltH w a n xs) (hi : InH w xs) (hs : ∀ x ∈ xs, x.zs.length ≤ 4611686018427387904) (hn : n ≤ c) (hc : c ≤ 9223372036854775807) :
    Calls Try.prog 11 #[.slice a n c] w (RetC w (checksR (valsH xs))) := by
  have hl := Lib.hid hr.1
  have HI := Lib.hid hi
  have HS := Lib.hid hs
  have K := implStoreValid_any a n c xs w hr hi hs hn hc
  obtain ⟨v, hv⟩ : ∃ v, storeV (valsH xs) = v := ⟨_, rfl⟩
  rw [hv] at K
  have HV' := Lib.hid hv
  clear hi hs hv
  go_enter Try.func11, Try.ntmps11
  go_wp2_with fail
  with_reducible refine K.mono ?_
  rintro e w1 ⟨rfl, hb1⟩
  clear K
  cases v with
  | false =>
    have HF := Lib.hid (show checksR (valsH xs) = ([], false) by unfold checksR; rw [HV'.out]; rfl)
    go_wp2
    go_ret2
    rw [HF.out]
    exact ⟨none, 0, rfl, OwnX.nil _ _, hb1⟩
  | true =>
    have HF := Lib.hid (show checksR (valsH xs) = (sumsL (valsH xs), true) by unfold checksR; rw [HV'.out]; rfl)
    have hn16 : n ≤ 16 := by have := store_len HV'.out; rw [valsH_len, hl.out] at this; exact this
    have hO1 : OwnX w1 w.heap.size none 0 [] := OwnX.nil _ _
    go_wp2
    go_loopw [4, 12] (fun v i wr => ∃ k : Nat, k ≤ n ∧ i = .int .i64 k ∧ ∃ zs a' c' L, v = .slice a' L c' ∧ zs.length = L ∧ L ≤ k ∧ Hid (zs = sumsL (valsH (xs.take k))) ∧ OwnX wr w.heap.size a' c' zs ∧ Below w.heap.size w wr)
      (fun _ i _ => n - (intOf i).toNat)
    case atStart => exact ⟨0, Nat.zero_le _, rfl, [], _, _, 0, rfl, rfl, Nat.le_refl _, Lib.hid rfl, hO1, hb1⟩
    case round =>
      clear hO1 hb1
      obtain ⟨k, hk, rfl, zs, a', c', L, rfl, hz, hLk, hzs, hO, hb⟩ := hrel
      by_cases hlt : k < n
      · obtain ⟨b, off, x, rfl, hbl, hx, c0, c1, c2⟩ := atH (hr.below hb) hlt
        have hok := store_ok HV'.out (valsH_get hx)
        have hx2 := HS.out x (List.mem_of_getElem? hx)
        have ht := sumsL_take hx
        have hidb : 1 ≤ x.id ∧ x.id ≤ 99 := inB_bd hok.1
        have hqb := sumL_bd x.zs
        have hbx := one_boxH wr (.int .i64 x.id) (.slice x.ad x.zs.length x.cp) (.int .i64 x.us) 45
        have hHl := hbx.1
        have q0 := hbx.2.1
        have q1 := hbx.2.2.1
        have q2 := hbx.2.2.2
        have hbw := hb.alloc hb.size (.cells #[.int .i64 x.id, .slice x.ad x.zs.length x.cp, .int .i64 x.us] 45)
        have hx1 := (HI.out x (List.mem_of_getElem? hx)).below hbw
        have hOw := hO.alloc (.cells #[.int .i64 x.id, .slice x.ad x.zs.length x.cp, .int .i64 x.us] 45)
        have hne : some wr.heap.size ≠ (Value.slice a' L c').ownBlock := fun h => by have := hO.2.lt wr.heap.size (by rw [hz]; exact h.symm); omega
        clear hbx
        have hk0 : (0 : Int) ≤ (k : Int) := by omega
        have hk1 : (k : Int) < (n : Int) := by omega
        obtain ⟨q, hq⟩ : ∃ q, sumL x.zs = q := ⟨_, rfl⟩
        rw [hq] at ht hqb
        have HQ : Hid (blockSum x.zs = q) := Lib.hid (by rw [← hq]; simp [blockSum, show blockV x.zs = true from hok.2.1])
        have HT : Hid (zs ++ [(x.id, q)] = sumsL (valsH (xs.take (k + 1)))) := Lib.hid (by rw [hzs.out, ht])
        have HW := Lib.hid (wfC (f := x.id) (m := q) (by omega) (by omega) (by omega) (by omega))
        have hsz : w.heap.size ≤ wr.heap.size := hb.size
        clear hok ht hq hx hzs
        go_wp2_with fail
        generalize wr.alloc (.cells #[.int .i64 x.id, .slice x.ad x.zs.length x.cp, .int .i64 x.us] 45) = W1 at hHl q0 q1 q2 hbw hx1 hOw ⊢
        generalize wr.heap.size = G at hHl q0 q1 q2 hne ⊢
        have K := still_of (implBlockSum_any x.ad x.zs.length x.cp x.zs W1.drew hx1 hx2)
        rw [HQ.out] at K
        have hbd : Below w.heap.size w W1.drew := below_drewN hbw 1
        have hsW : w.heap.size ≤ W1.heap.size := hbw.size
        have hOd : OwnX W1.drew w.heap.size a' c' zs := hOw
        have hcc : W1.drew.cell? ⟨G, 0, none⟩ = some (.int .i64 x.id) ∧ W1.drew.cell? ⟨G, 1, none⟩ = some (.slice x.ad x.zs.length x.cp) := ⟨q0, q1⟩
        have hHd : G < W1.drew.heap.size := hHl
        have HN := Lib.hid (newC W1.drew x.id q)
        clear hbw hOw hO hb c0 c1 c2 hr hx1 HQ
        go_region_held3 (fun w' => w'.cell? ⟨G, 0, none⟩ = some (.int .i64 x.id) ∧ w'.cell? ⟨G, 1, none⟩ = some (.slice x.ad x.zs.length x.cp)) (first | exact hcc | exact two_alloc hcc hHd hHd | exact two_keep (two_alloc hcc hHd hHd) hG2 hne hne)
          (first
            | (go_at_call 30; refine K.mono ?_; rintro e w3 ⟨rfl, rfl⟩)
            | (refine step_appX (by rfl) _ _ (by rfl) hz (by rfl) (hOd.alloc _) ⟨W1.drew.heap.size, 0, none⟩ 1 1 [(x.id, q)] (by rfl) rfl HN.out HW.out (by omega) (by simp; omega) ?_; intro a2 c2 w2 hO2 hG2))
        have hlen2 : (zs ++ [(x.id, q)]).length = L + 1 := by simp [hz]
        have hb2 := (hbd.alloc hbd.size (.cells #[.int .i64 x.id, .int .i64 q] 53)).grown hG2 (by simp; omega) (by rw [← hz]; exact fun r hr => (hOd.2.lt r hr).1)
        clear hG2 hOd hbd HN hcc K
        go_wp2
        go_roundw
        case rel => exact ⟨k + 1, by omega, by go_num, _, a2, c2, L + 1, rfl, hlen2, by omega, HT, hO2, hb2⟩
        case measure => simp [intOf]; omega
      · obtain rfl : k = n := by omega
        have HR : Hid (zs = sumsL (valsH xs)) := Lib.hid (by rw [hzs.out, List.take_of_length_le (by have := hl.out; omega)])
        go_wp2
        go_ret2
        rw [HF.out]
        rw [HR.out] at hz hO
        exact ⟨a', c', by rw [← hz]; rfl, hO, hb⟩

end Go.Proofs.Ytajheicheefpeaa

/- checksValid: what it answers. -/
namespace Go.Proofs.Ytajheicheefpeaa
open Go.RowKit
set_option linter.unusedVariables false

def okFrom : Int → List (Int × Int) → Bool
  | _, [] => true
  | l, c :: r => decide (l < c.1) && decide (c.1 ≤ 99) && decide (0 ≤ c.2) && decide (c.2 < 9973) && okFrom c.1 r
/-- Whether checks are valid. -/
def checksV (cs : List (Int × Int)) : Bool := decide (cs.length ≤ 16) && okFrom 0 cs

theorem okFrom_drop {cs : List (Int × Int)} {k : Nat} (hk : k < cs.length) (l : Int) : okFrom l (cs.drop k) = (decide (l < (cs.getD k (0, 0)).1) && decide ((cs.getD k (0, 0)).1 ≤ 99) && decide (0 ≤ (cs.getD k (0, 0)).2) && decide ((cs.getD k (0, 0)).2 < 9973) && okFrom (cs.getD k (0, 0)).1 (cs.drop (k + 1))) := by
  rw [List.drop_eq_getElem_cons hk]
  simp [okFrom, List.getD, hk]

/-- The boxes of c in the making. -/
theorem one_boxX (w : World) (x y : Value) (t : TypeId) :
    w.heap.size < (w.alloc (.cells #[x, y] t)).heap.size ∧ (w.alloc (.cells #[x, y] t)).cell? ⟨w.heap.size, 0, none⟩ = some x ∧ (w.alloc (.cells #[x, y] t)).cell? ⟨w.heap.size, 1, none⟩ = some y := by
  have h1 : ∀ j, (w.alloc (.cells #[x, y] t)).cell? ⟨w.heap.size, j, none⟩ = #[x, y][j]? := fun j => cell_of_row _ w.heap.size _ _ _ (0, 0) (heap_alloc_new w _)
  exact ⟨by simp, by rw [h1]; rfl, by rw [h1]; rfl⟩

set_option maxHeartbeats 1000000 in
theorem checksValid_any (a : Option Addr) (n c : Nat) (cs : List (Int × Int)) (w : World) (hr : RdX w a n cs) (hwf : WfX cs) (hn : n ≤ 4611686018427387904) :
    Calls Try.prog 41 #[.slice a n c] w fun e w' => e = .returned (.bool (checksV cs)) ∧ Below w.heap.size w w' := by
  have hl := Lib.hid hr.1
  by_cases h16 : 16 < n
  · have HF := Lib.hid (show checksV cs = false by unfold checksV; rw [hl.out]; simp; omega)
    have q0 : decide ((16 : Int) < (n : Int)) = true := decide_eq_true (by omega)
    go_enter Try.func41, Try.ntmps41
    go_wp2_with fail
    go_ret
    exact ⟨by rw [HF.out]; rfl, Below.refl _ _⟩
  · have HV := Lib.hid (show checksV cs = okFrom 0 cs by unfold checksV; rw [hl.out]; simp; omega)
    have HR := Lib.hid hr
    have HWf := Lib.hid hwf
    clear hr hwf
    go_enter Try.func41, Try.ntmps41
    go_wp2
    go_loopw [3, 11] (fun v i wr => ∃ (k : Nat) (l : Int), k ≤ n ∧ i = .int .i64 k ∧ v = .int .i64 l ∧ Hid (okFrom 0 cs = okFrom l (cs.drop k)) ∧ Below w.heap.size w wr)
      (fun _ i _ => n - (intOf i).toNat)
    case atStart => exact ⟨0, 0, Nat.zero_le _, rfl, rfl, Lib.hid rfl, Below.refl _ _⟩
    case round =>
      obtain ⟨k, l, hk, rfl, rfl, hok, hb⟩ := hrel
      by_cases hlt : k < n
      · obtain ⟨b, off, rfl, hbl, f, m, hx, c0, c1, hf, hm0, hm1⟩ := (HR.out.below hb).at_ HWf.out hlt
        have hstep := Lib.hid (okFrom_drop (cs := cs) (k := k) (by rw [hl.out]; exact hlt) l)
        rw [hx] at hstep
        have hbx := one_boxX wr (.int .i64 f) (.int .i64 m) 53
        have hHl := hbx.1
        have q0 := hbx.2.1
        have q1 := hbx.2.2
        have hbw := hb.alloc hb.size (.cells #[.int .i64 f, .int .i64 m] 53)
        clear hbx hx
        have hk0 : (0 : Int) ≤ (k : Int) := by omega
        have hk1 : (k : Int) < (n : Int) := by omega
        by_cases g1 : f ≤ l
        · have HF := Lib.hid (show okFrom 0 cs = false by rw [hok.out, hstep.out]; simp; omega)
          have e1 : decide (f ≤ l) = true := decide_eq_true g1
          go_wp2_with fail
          go_ret
          exact ⟨by rw [HV.out, HF.out]; rfl, hbw⟩
        have e1 : decide (f ≤ l) = false := decide_eq_false g1
        by_cases g2 : 99 < f
        · have HF := Lib.hid (show okFrom 0 cs = false by rw [hok.out, hstep.out]; simp; omega)
          have e2 : decide (99 < f) = true := decide_eq_true g2
          go_wp2_with fail
          go_ret
          exact ⟨by rw [HV.out, HF.out]; rfl, hbw⟩
        have e2 : decide (99 < f) = false := decide_eq_false g2
        by_cases g3 : m < 0
        · have HF := Lib.hid (show okFrom 0 cs = false by rw [hok.out, hstep.out]; simp; omega)
          have e3 : decide (m < 0) = true := decide_eq_true g3
          go_wp2_with fail
          go_ret
          exact ⟨by rw [HV.out, HF.out]; rfl, hbw⟩
        have e3 : decide (m < 0) = false := decide_eq_false g3
        by_cases g4 : 9973 ≤ m
        · have HF := Lib.hid (show okFrom 0 cs = false by rw [hok.out, hstep.out]; simp; omega)
          have e4 : decide (9973 ≤ m) = true := decide_eq_true g4
          go_wp2_with fail
          go_ret
          exact ⟨by rw [HV.out, HF.out]; rfl, hbw⟩
        have e4 : decide (9973 ≤ m) = false := decide_eq_false g4
        have HN := Lib.hid (show okFrom 0 cs = okFrom f (cs.drop (k + 1)) by
          rw [hok.out, hstep.out]
          have h1 : decide (l < f) = true := decide_eq_true (by omega)
          have h2 : decide (f ≤ 99) = true := decide_eq_true (by omega)
          have h3 : decide (0 ≤ m) = true := decide_eq_true (by omega)
          have h4 : decide (m < 9973) = true := decide_eq_true (by omega)
          rw [h1, h2, h3, h4]; rfl)
        have ew : IntKind.i64.wrap ((k : Int) + 1) = ((k + 1 : Nat) : Int) := by rw [IntKind.wrap_i64]; omega
        clear g1 g2 g3 g4 hok hstep
        go_wp2_with fail
        go_roundw
        case measure => simp [intOf]; omega
        case rel => exact ⟨k + 1, f, by omega, rfl, rfl, HN, hbw⟩
      · have hkn : k = n := by omega
        have hk1 : ¬ ((k : Int) < (n : Int)) := by omega
        have HF := Lib.hid (show okFrom 0 cs = true by rw [hok.out, List.drop_eq_nil_of_le (by rw [hl.out]; omega)]; rfl)
        go_wp2_with fail
        go_ret
        exact ⟨by rw [HV.out, HF.out]; rfl, hb⟩

end Go.Proofs.Ytajheicheefpeaa

/- A starter and its workers, each with blocks of its own that may grow: the relies, the guarantees, the judgement. -/

namespace Go.Proofs.Ytajheicheefpeaa
open Go.Conc
open Go.ConcN (WgLive PayAt Has Full RW AsideCell DWs EvW ShN)
open Go.ConcR (KK wgBlock WgAt stA smA rd wr mk Payload DC0)
set_option linter.unusedSimpArgs false
set_option linter.unusedVariables false

abbrev Bks := Nat → Prop

/-- What the starter suffers: the blocks of A stand; the group's block stays one. -/
structure RS (ty : TypeId) (Wg : Nat) (A : Bks) (w w₁ : World) : Prop where
  tape : w₁.tape = w.tape
  os : w₁.os = w.os
  output : w₁.output = w.output
  size : w.heap.size ≤ w₁.heap.size
  blk : ∀ b, A b → w₁.heap[b]? = w.heap[b]?
  live : WgLive ty Wg w → WgLive ty Wg w₁

/-- What the worker with cell c suffers. -/
structure RK [Payload] (ty : TypeId) (Wg C n c : Nat) (A : Bks) (w w₁ : World) : Prop where
  rs : RS ty Wg A w w₁
  pay : PayAt C n w → PayAt C n w₁
  cell : w₁.cell? ⟨C, c, none⟩ = w.cell? ⟨C, c, none⟩

section
variable {ty : TypeId} {Wg C n c : Nat} {A : Bks} {w w₁ w₂ : World}
theorem RS.refl (w : World) : RS ty Wg A w w := ⟨rfl, rfl, rfl, Nat.le_refl _, fun _ _ => rfl, id⟩
theorem RS.trans (h : RS ty Wg A w w₁) (h' : RS ty Wg A w₁ w₂) : RS ty Wg A w w₂ :=
  ⟨h'.tape.trans h.tape, h'.os.trans h.os, h'.output.trans h.output, Nat.le_trans h.size h'.size, fun b hb => (h'.blk b hb).trans (h.blk b hb), h'.live ∘ h.live⟩
theorem RS.at (w : World) (d : Nat) : RS ty Wg A w (w.at d) := ⟨rfl, rfl, rfl, Nat.le_refl _, fun _ _ => rfl, id⟩
theorem RS.less {A' : Bks} (h : RS ty Wg A w w₁) (hA : ∀ b, A' b → A b) : RS ty Wg A' w w₁ := ⟨h.tape, h.os, h.output, h.size, fun b hb => h.blk b (hA b hb), h.live⟩
variable [Payload]
theorem RK.refl (w : World) : RK ty Wg C n c A w w := ⟨.refl w, id, rfl⟩
theorem RK.trans (h : RK ty Wg C n c A w w₁) (h' : RK ty Wg C n c A w₁ w₂) : RK ty Wg C n c A w w₂ := ⟨h.rs.trans h'.rs, h'.pay ∘ h.pay, h'.cell.trans h.cell⟩
theorem RK.at (w : World) (d : Nat) : RK ty Wg C n c A w (w.at d) := ⟨.at w d, id, rfl⟩
theorem RK.less {A' : Bks} (h : RK ty Wg C n c A w w₁) (hA : ∀ b, A' b → A b) : RK ty Wg C n c A' w w₁ := ⟨h.rs.less hA, h.pay, h.cell⟩
theorem RK.rw (h : RK ty Wg C n c A w w₁) : RW ty Wg C n 0 c w w₁ := ⟨fun b hb => absurd hb (by omega), h.rs.live, h.pay, h.cell⟩
end

/-- What a goroutine's own code may list: accesses of its blocks. -/
def EvA (A O : Bks) (e : Event) : Prop :=
  (∃ a : Addr, e.loc = .cell a ∧ A a.block ∧ (e.write = true → O a.block) ∧ e.sync = false) ∨ (∃ r, e.loc = .obj r ∧ A r ∧ (e.write = true → O r) ∧ e.sync = false) ∨ e.loc = .mark .noRoom

/-- What its own code may do: the blocks that are not its own stand; what it allots is its own. -/
structure GK (A O A' O' : Bks) (w w' : World) (es : Array Event) : Prop where
  tape : w'.tape = w.tape
  os : w'.os = w.os
  output : w'.output = w.output
  size : w.heap.size ≤ w'.heap.size
  blk : ∀ b, b < w.heap.size → ¬ O b → w'.heap[b]? = w.heap[b]?
  upA : ∀ b, A b → A' b
  newA : ∀ b, A' b → A b ∨ (w.heap.size ≤ b ∧ b < w'.heap.size)
  upO : ∀ b, O b → O' b
  newO : ∀ b, O' b → O b ∨ (w.heap.size ≤ b ∧ b < w'.heap.size)
  sub : (∀ b, O b → A b) → ∀ b, O' b → A' b
  evs : ∀ e ∈ es, EvA A' O' e

theorem GK.none {A O : Bks} {w : World} {es : Array Event} (h : ∀ e ∈ es, EvA A O e) : GK A O A O w w es := ⟨rfl, rfl, rfl, Nat.le_refl _, fun _ _ _ => rfl, fun _ h => h, fun _ h => .inl h, fun _ h => h, fun _ h => .inl h, fun h => h, h⟩

def Rd0 : Nat → Loc → Prop := fun _ _ => False

/-- What a worker's own code may do: it may write its cell too. -/
def GW [Payload] (C n c : Nat) (A O A' O' : Bks) (w w' : World) (es : Array Event) : Prop :=
  GK A O A' O' w w' es ∨ (A' = A ∧ O' = O ∧ AsideCell C n c w w' ∧ ∀ e ∈ es, e = ⟨.cell ⟨C, c, none⟩, true, false⟩)

/-- ████ THE JUDGEMENT: at most m own steps from a stop, the blocks growing on the way. ████ -/
def Priv (P : Program) (main : Bool) (R : Bks → World → World → Prop) (D : Bks → Bks → Bks → Bks → World → World → Array Event → Prop) (Stop : Bks → Bks → Goroutine → World → Prop) : Nat → Bks → Bks → Goroutine → World → Prop
  | 0, A, O, g, w => ∀ w₁, R A w w₁ → Stop A O g w₁
  | m + 1, A, O, g, w => (∀ w₁, R A w w₁ → Stop A O g w₁) ∨
      (g.status = .running ∧ ∀ w₁, R A w w₁ → ∃ g' w' es A' O', stepG P main g w₁ = .go g' w' es ∧ D A O A' O' w₁ w' es ∧ Priv P main R D Stop m A' O' g' w')

section
variable {P : Program} {main : Bool} {R : Bks → World → World → Prop} {D : Bks → Bks → Bks → Bks → World → World → Array Event → Prop} {Stop : Bks → Bks → Goroutine → World → Prop} {A O : Bks} {g : Goroutine} {w w₁ : World} {m : Nat}

theorem Priv.stop (h : ∀ w₁, R A w w₁ → Stop A O g w₁) : Priv P main R D Stop m A O g w := by
  cases m with
  | zero => exact h
  | succ m => exact .inl h

theorem Priv.step (hs : g.status = .running) (h : ∀ w₁, R A w w₁ → ∃ g' w' es A' O', stepG P main g w₁ = .go g' w' es ∧ D A O A' O' w₁ w' es ∧ Priv P main R D Stop m A' O' g' w') : Priv P main R D Stop (m + 1) A O g w := .inr ⟨hs, h⟩

theorem Priv.rely (trans : ∀ A a b c, R A a b → R A b c → R A a c) (h : Priv P main R D Stop m A O g w) (hr : R A w w₁) : Priv P main R D Stop m A O g w₁ := by
  cases m with
  | zero => exact fun w₂ h₂ => h w₂ (trans _ _ _ _ hr h₂)
  | succ m =>
    rcases h with h | ⟨hs, h⟩
    · exact .inl fun w₂ h₂ => h w₂ (trans _ _ _ _ hr h₂)
    · exact .inr ⟨hs, fun w₂ h₂ => h w₂ (trans _ _ _ _ hr h₂)⟩

theorem Priv.more (h : Priv P main R D Stop m A O g w) : Priv P main R D Stop (m + 1) A O g w := by
  induction m generalizing A O g w with
  | zero => exact .inl h
  | succ m ih =>
    rcases h with h | ⟨hs, h⟩
    · exact .inl h
    · refine .inr ⟨hs, fun w₁ h₁ => ?_⟩
      obtain ⟨g', w', es, A', O', e1, e2, e3⟩ := h w₁ h₁
      exact ⟨g', w', es, A', O', e1, e2, ih e3⟩

theorem Priv.mono {m' : Nat} (h : Priv P main R D Stop m A O g w) (hm : m ≤ m') : Priv P main R D Stop m' A O g w := by
  induction hm with
  | refl => exact h
  | step _ ih => exact ih.more

/-- A piece of the library's judgement ahead. -/
theorem Priv.of_goes {Dg : World → World → Array Event → Prop} {Sg : Goroutine → World → Prop} (hD : ∀ w w' es, Dg w w' es → D A O A O w w' es) (hRr : ∀ A w, R A w w)
    (hS : ∀ g w, Sg g w → Priv P main R D Stop m A O g w) : ∀ {n : Nat} {g : Goroutine} {w : World}, Goes P main (R A) Dg Sg n g w → Priv P main R D Stop (m + n) A O g w := by
  intro n
  induction n with
  | zero =>
    intro g w h
    -- the stop holds whatever the others do
    have h0 := hS _ _ (h w (hRr A w))
    exact h0
  | succ n ih =>
    intro g w h
    rcases h with h | ⟨hs, h⟩
    · exact (hS _ _ (h w (hRr A w))).mono (by omega)
    · refine .inr ⟨hs, fun w₁ h₁ => ?_⟩
      have := h w₁ h₁
      cases hst : stepG P main g w₁ with
      | go g' w' es =>
        rw [hst, goes_go] at this
        exact ⟨g', w', es, A, O, rfl, hD _ _ _ this.1, ih this.2⟩
      | _ => rw [hst] at this; exact this.elim

theorem Priv.cases (h : Priv P main R D Stop m A O g w) : (∀ w₁, R A w w₁ → Stop A O g w₁) ∨
    ∃ m', m = m' + 1 ∧ g.status = .running ∧ ∀ w₁, R A w w₁ → ∃ g' w' es A' O', stepG P main g w₁ = .go g' w' es ∧ D A O A' O' w₁ w' es ∧ Priv P main R D Stop m' A' O' g' w' := by
  cases m with
  | zero => exact .inl h
  | succ m => exact h.imp id fun x => ⟨m, rfl, x⟩

theorem Priv.running (hst : ∀ A O g w, Stop A O g w → g.status = .running) (hRr : ∀ A w, R A w w) (h : Priv P main R D Stop m A O g w) : g.status = .running := by
  rcases h.cases with h | ⟨_, _, h, _⟩
  · exact hst _ _ _ _ (h w (hRr A w))
  · exact h
end
end Go.Proofs.Ytajheicheefpeaa

/- Where the starter and its workers stand: their scripts from stop to stop. -/
namespace Go.Proofs.Ytajheicheefpeaa
open Go.Conc
open Go.ConcN (WgLive PayAt Has Full RW WSit AtR0 CTag)
open Go.ConcR (KK wgBlock WgAt stA smA rd wr mk Payload DC0 again_blocked)
set_option linter.unusedSimpArgs false
set_option linter.unusedVariables false

/-- What the starter does inside the library between its stops: nothing, or it says that it reads or writes the semaphore's cell. -/
def DQ (Wg : Nat) (w w' : World) (es : Array Event) : Prop := w' = w ∧ ∀ e ∈ es, e = ⟨.mark (.read (smA Wg)), false, true⟩ ∨ e = ⟨.mark (.write (smA Wg)), false, true⟩

section
variable [Payload] (P : Program) (ty : TypeId) (Wg C n : Nat)

/-! ### a worker -/
def Works (c : Nat) (v : Value) (m : Nat) (A O : Bks) (g : Goroutine) (w : World) : Prop :=
  Priv P false (RK ty Wg C n c) (GW C n c) (fun _ _ => AtR0 P ty Wg C n 0 (c + 1) v) m A O g w

inductive WS (c : Nat) (v : Value) (A O : Bks) : Nat → Nat → Nat → Goroutine → World → Prop
  | wk {m : Nat} {g : Goroutine} {w : World} : Works P ty Wg C n c v m A O g w → WS c v A O 7 m 0 g w
  | lib {s m d : Nat} {g : Goroutine} {w : World} : s ≤ 6 → WSit P ty Wg C n Rd0 Rd0 0 (c + 1) v s m d g w → WS c v A O s m d g w

/-! ### the starter, from its end -/
section
variable (Ret : Bks → Bks → Goroutine → World → Prop) (AnchW : Bks → Bks → Goroutine → World → Prop) (A O : Bks)

def AtRet (g : Goroutine) (w : World) : Prop := g.status = .running ∧ Ret A O g w
def AtAcq (g : Goroutine) (w : World) : Prop :=
  g.status = .running ∧ ∃ g', stepG P true g w = .go g' w #[mk (.acquire (stA Wg))] ∧ ∃ m, Goes P true (RS ty Wg A) (DQ Wg) (AtRet Ret A O) m g' w
def AtKe (g : Goroutine) (w : World) : Prop :=
  g.status = .running ∧ ∃ g', stepG P true g w = .go g' w #[mk .enable] ∧ ∃ m, Goes P true (RS ty Wg A) (DQ Wg) (AtAcq P ty Wg Ret A O) m g' w
def AtW4 (g : Goroutine) (w : World) : Prop :=
  g.status = .running ∧ (WgAt ty Wg w 0 0 → ∃ g', stepG P true g w = .go g' w #[rd (stA Wg)] ∧ ∃ m, Goes P true (RS ty Wg A) (DQ Wg) (AtKe P ty Wg Ret A O) m g' w)
def AtW3 (g : Goroutine) (w : World) : Prop :=
  g.status = .running ∧ g.offers = none ∧
    ((∃ st, WgAt ty Wg w st 0) → stepG P true g w = .go { g with status := .blocked } w #[]) ∧
    (WgAt ty Wg w 0 1 → ∃ g', stepG P true g w = .go g' (w.setCell (smA Wg) (.int .u32 0)) (semEvents (smA Wg)) ∧ ∃ m, Goes P true (RS ty Wg A) (DQ Wg) (AtW4 P ty Wg Ret A O) m g' (w.setCell (smA Wg) (.int .u32 0)))
def AtW2 (vs : Nat) (g : Goroutine) (w : World) : Prop :=
  g.status = .running ∧ ∀ v : Nat, v < 2147483648 → WgAt ty Wg w (v * KK) 0 →
    (v = vs → ∃ g', stepG P true g w = .go g' (w.setCell (stA Wg) (.int .u64 (v * KK + 1))) #[rd (stA Wg), wr (stA Wg)] ∧ ∃ m, Goes P true (RS ty Wg A) (DQ Wg) (AtW3 P ty Wg Ret A O) m g' (w.setCell (stA Wg) (.int .u64 (v * KK + 1)))) ∧
    (v ≠ vs → ∃ g', stepG P true g w = .go g' w #[rd (stA Wg)] ∧ ∃ m, Goes P true (RS ty Wg A) (DQ Wg) (AnchW A O) m g' w)
def AtW1 (g : Goroutine) (w : World) : Prop :=
  g.status = .running ∧ ∀ v : Nat, v < 2147483648 → WgAt ty Wg w (v * KK) 0 → ∃ g', stepG P true g w = .go g' w #[rd (stA Wg)] ∧
    (v = 0 → ∃ m, Goes P true (RS ty Wg A) (DQ Wg) (AtKe P ty Wg Ret A O) m g' w) ∧ (v ≠ 0 → ∃ m, Goes P true (RS ty Wg A) (DQ Wg) (AtW2 P ty Wg Ret AnchW A O v) m g' w)
def AtKd (g : Goroutine) (w : World) : Prop :=
  g.status = .running ∧ ∃ g', stepG P true g w = .go g' w #[mk .disable] ∧ ∃ m, Goes P true (RS ty Wg A) (DQ Wg) (AnchW A O) m g' w
end

/-! ### .. while it starts them -/
section
variable (val : Nat → Value) (AnchW : Bks → Bks → Goroutine → World → Prop)

def AtGo (i : Nat) (Next : Bks → Bks → Goroutine → World → Prop) (A O : Bks) (g : Goroutine) (w : World) : Prop :=
  g.status = .running ∧ ∃ g' child A1, stepG P true g w = .spawn g' child w #[] ∧ child.status = .running ∧ (∀ b, A1 b → A b) ∧ (PayAt C n w → ∃ m, Works P ty Wg C n i (val i) m A1 (fun _ => False) child w) ∧ Next A (fun _ => False) g' w
def AtKeS (i : Nat) (Next : Bks → Bks → Goroutine → World → Prop) (A O : Bks) (g : Goroutine) (w : World) : Prop :=
  g.status = .running ∧ ∃ g', stepG P true g w = .go g' w #[mk .enable] ∧ ∃ m, Priv P true (RS ty Wg) GK (AtGo P ty Wg C n val i Next) m A O g' w
def AtA1 (i : Nat) (Next : Bks → Bks → Goroutine → World → Prop) (A O : Bks) (g : Goroutine) (w : World) : Prop :=
  g.status = .running ∧ ∀ v : Nat, v < 2147483647 → WgAt ty Wg w (v * KK) 0 →
    ∃ g', stepG P true g w = .go g' (w.setCell (stA Wg) (.int .u64 ((v + 1) * KK))) #[rd (stA Wg), wr (stA Wg)] ∧
      ∃ m, Goes P true (RS ty Wg A) (DQ Wg) (AtKeS P ty Wg C n val i Next A O) m g' (w.setCell (stA Wg) (.int .u64 ((v + 1) * KK)))
def AtKdS (i : Nat) (Next : Bks → Bks → Goroutine → World → Prop) (A O : Bks) (g : Goroutine) (w : World) : Prop :=
  g.status = .running ∧ ∃ g', stepG P true g w = .go g' w #[mk .disable] ∧ ∃ m, Goes P true (RS ty Wg A) (DQ Wg) (AtA1 P ty Wg C n val i Next A O) m g' w
/-- Into Wait. -/
def Fin (A O : Bks) (g : Goroutine) (w : World) : Prop := ∃ m, Priv P true (RS ty Wg) GK (AtKd P ty Wg AnchW) m A O g w
/-- r workers are still to be started. -/
def Spawns : Nat → Bks → Bks → Goroutine → World → Prop
  | 0, A, O, g, w => Fin P ty Wg AnchW A O g w
  | r + 1, A, O, g, w => ∃ m, Priv P true (RS ty Wg) GK (AtKdS P ty Wg C n val (n - (r + 1)) (Spawns r)) m A O g w
end

/-- The starter: its tag, how many goroutines there are beside it, fuel, deafness. o: how many there were before. -/
inductive SSit (val : Nat → Value) (Ret AnchW : Bks → Bks → Goroutine → World → Prop) (o : Nat) : CTag → Nat → Nat → Nat → Bks → Bks → Goroutine → World → Prop
  | skd {r m : Nat} {A O : Bks} {g : Goroutine} {w : World} : r < n → Priv P true (RS ty Wg) GK (AtKdS P ty Wg C n val (n - (r + 1)) (Spawns P ty Wg C n val AnchW r)) m A O g w → SSit val Ret AnchW o (.sp r 5) (o + (n - (r + 1))) m 0 A O g w
  | sa1 {r m : Nat} {A O : Bks} {g : Goroutine} {w : World} : r < n → Goes P true (RS ty Wg A) (DQ Wg) (AtA1 P ty Wg C n val (n - (r + 1)) (Spawns P ty Wg C n val AnchW r) A O) m g w → SSit val Ret AnchW o (.sp r 4) (o + (n - (r + 1))) m 1 A O g w
  | ske {r m : Nat} {A O : Bks} {g : Goroutine} {w : World} : r < n → Goes P true (RS ty Wg A) (DQ Wg) (AtKeS P ty Wg C n val (n - (r + 1)) (Spawns P ty Wg C n val AnchW r) A O) m g w → SSit val Ret AnchW o (.sp r 3) (o + (n - (r + 1))) m 1 A O g w
  | sgo {r m : Nat} {A O : Bks} {g : Goroutine} {w : World} : r < n → Priv P true (RS ty Wg) GK (AtGo P ty Wg C n val (n - (r + 1)) (Spawns P ty Wg C n val AnchW r)) m A O g w → SSit val Ret AnchW o (.sp r 2) (o + (n - (r + 1))) m 0 A O g w
  | kd {m : Nat} {A O : Bks} {g : Goroutine} {w : World} : Priv P true (RS ty Wg) GK (AtKd P ty Wg AnchW) m A O g w → SSit val Ret AnchW o .kd (o + n) m 0 A O g w
  | anch {m : Nat} {A O : Bks} {g : Goroutine} {w : World} : Goes P true (RS ty Wg A) (DQ Wg) (AnchW A O) m g w → SSit val Ret AnchW o .anch (o + n) m 1 A O g w
  | w1 {m : Nat} {A O : Bks} {g : Goroutine} {w : World} : Goes P true (RS ty Wg A) (DQ Wg) (AtW1 P ty Wg Ret AnchW A O) m g w → SSit val Ret AnchW o .w1 (o + n) m 1 A O g w
  | w2 {vs m : Nat} {A O : Bks} {g : Goroutine} {w : World} : Goes P true (RS ty Wg A) (DQ Wg) (AtW2 P ty Wg Ret AnchW A O vs) m g w → SSit val Ret AnchW o (.w2 vs) (o + n) m 1 A O g w
  | w3 {m : Nat} {A O : Bks} {g : Goroutine} {w : World} : Goes P true (RS ty Wg A) (DQ Wg) (AtW3 P ty Wg Ret A O) m g w → SSit val Ret AnchW o .w3 (o + n) (m + 1) 1 A O g w
  | blk {A O : Bks} {g : Goroutine} {w : World} : (∀ w₁, RS ty Wg A w w₁ → AtW3 P ty Wg Ret A O g w₁) → SSit val Ret AnchW o .blk (o + n) 0 1 A O { g with status := .blocked } w
  | w4 {m : Nat} {A O : Bks} {g : Goroutine} {w : World} : Goes P true (RS ty Wg A) (DQ Wg) (AtW4 P ty Wg Ret A O) m g w → SSit val Ret AnchW o .w4 (o + n) m 1 A O g w
  | ke {m : Nat} {A O : Bks} {g : Goroutine} {w : World} : Goes P true (RS ty Wg A) (DQ Wg) (AtKe P ty Wg Ret A O) m g w → SSit val Ret AnchW o .ke (o + n) m 1 A O g w
  | acq {m : Nat} {A O : Bks} {g : Goroutine} {w : World} : Goes P true (RS ty Wg A) (DQ Wg) (AtAcq P ty Wg Ret A O) m g w → SSit val Ret AnchW o .acq (o + n) m 0 A O g w
  | ret {m : Nat} {A O : Bks} {g : Goroutine} {w : World} : Goes P true (RS ty Wg A) (DQ Wg) (AtRet Ret A O) m g w → SSit val Ret AnchW o .ret (o + n) m 0 A O g w
end

section
variable [Payload] {P : Program} {ty : TypeId} {Wg C n c : Nat} {v : Value} {A O : Bks} {s m d : Nat} {g : Goroutine} {w w₁ : World}

theorem WS.rely (h : WS P ty Wg C n c v A O s m d g w) (hr : RK ty Wg C n c A w w₁) : WS P ty Wg C n c v A O s m d g w₁ := by
  cases h with
  | wk h => exact .wk (Priv.rely (fun _ _ _ _ h1 h2 => h1.trans h2) h hr)
  | lib hs h => exact .lib hs (h.rely hr.rw)

theorem WS.status (h : WS P ty Wg C n c v A O s m d g w) : g.status = .running ∨ g.status = .finished := by
  cases h with
  | wk h => exact .inl (Priv.running (fun _ _ _ _ x => x.1) (fun _ w => RK.refl w) h)
  | lib _ h => exact h.status

theorem WS.running_of (h : WS P ty Wg C n c v A O s m d g w) (hs : s ≠ 1) : g.status = .running := by
  cases h with
  | wk h => exact Priv.running (fun _ _ _ _ x => x.1) (fun _ w => RK.refl w) h
  | lib _ h => exact h.running_of hs

theorem WS.woken (h : WS P ty Wg C n c v A O s m d g w) (a a' : Goroutine) (w' : World) : woken P a a' w' g = g := by
  unfold Go.Conc.woken
  split
  · exact again_running _ h.status
  · rfl
end

section
variable [Payload] {P : Program} {ty : TypeId} {Wg C n o : Nat} {val : Nat → Value} {Ret AnchW : Bks → Bks → Goroutine → World → Prop} {tag : CTag} {j f d : Nat} {A O : Bks} {a : Goroutine} {w w' : World}

theorem SSit.rely (h : SSit P ty Wg C n val Ret AnchW o tag j f d A O a w) (hr : RS ty Wg A w w') : SSit P ty Wg C n val Ret AnchW o tag j f d A O a w' := by
  have tr : ∀ x y z, RS ty Wg A x y → RS ty Wg A y z → RS ty Wg A x z := fun _ _ _ h1 h2 => h1.trans h2
  have trP : ∀ A x y z, RS ty Wg A x y → RS ty Wg A y z → RS ty Wg A x z := fun _ _ _ _ h1 h2 => h1.trans h2
  cases h with
  | skd hn h => exact .skd hn (Priv.rely trP h hr)
  | sa1 hn h => exact .sa1 hn (Goes.rely tr h hr)
  | ske hn h => exact .ske hn (Goes.rely tr h hr)
  | sgo hn h => exact .sgo hn (Priv.rely trP h hr)
  | kd h => exact .kd (Priv.rely trP h hr)
  | anch h => exact .anch (Goes.rely tr h hr)
  | w1 h => exact .w1 (Goes.rely tr h hr)
  | w2 h => exact .w2 (Goes.rely tr h hr)
  | w3 h => exact .w3 (Goes.rely tr h hr)
  | blk h => exact .blk (fun w₂ h₂ => h w₂ (hr.trans h₂))
  | w4 h => exact .w4 (Goes.rely tr h hr)
  | ke h => exact .ke (Goes.rely tr h hr)
  | acq h => exact .acq (Goes.rely tr h hr)
  | ret h => exact .ret (Goes.rely tr h hr)

theorem SSit.status (hAr : ∀ A O g w, AnchW A O g w → g.status = .running) (h : SSit P ty Wg C n val Ret AnchW o tag j f d A O a w) : (a.status = .running ∧ tag ≠ .blk) ∨ (a.status = .blocked ∧ tag = .blk) := by
  have rf : ∀ A (w : World), RS ty Wg A w w := fun _ w => RS.refl w
  cases h with
  | skd _ h => exact .inl ⟨Priv.running (fun _ _ _ _ x => x.1) rf h, by simp⟩
  | sgo _ h => exact .inl ⟨Priv.running (fun _ _ _ _ x => x.1) rf h, by simp⟩
  | kd h => exact .inl ⟨Priv.running (fun _ _ _ _ x => x.1) rf h, by simp⟩
  | anch h => exact .inl ⟨Goes.running (hAr A O) w (.refl w) h, by simp⟩
  | blk h => exact .inr ⟨rfl, rfl⟩
  | sa1 _ h | ske _ h | w1 h | w2 h | w3 h | w4 h | ke h | acq h | ret h => exact .inl ⟨Goes.running (fun _ _ x => x.1) w (.refl w) h, by simp⟩

theorem SSit.wokenBy (hAr : ∀ A O g w, AnchW A O g w → g.status = .running) (h : SSit P ty Wg C n val Ret AnchW o tag j f d A O a w) (hr : RS ty Wg A w w') (g g' : Goroutine) :
    ∃ tag' f', SSit P ty Wg C n val Ret AnchW o tag' j f' d A O (woken P g g' w' a) w' ∧ f' ≤ f + 1 ∧ (tag' = tag ∨ (tag = .blk ∧ tag' = .w3)) ∧ (mayWake P g = true → g'.status = .running → tag' ≠ .blk) := by
  have h' := h.rely hr
  unfold Go.Conc.woken
  split
  · rcases h'.status hAr with ⟨hs, hne⟩ | ⟨_, rfl⟩
    · exact ⟨tag, f, by rw [again_running _ (.inl hs)]; exact h', by omega, .inl rfl, fun _ _ => hne⟩
    · cases h' with
      | blk hb =>
        have h3 := hb w' (.refl w')
        exact ⟨.w3, 0 + 1, by rw [again_blocked h3.1 h3.2.1]; exact .w3 (Goes.stop hb), by omega, .inr ⟨rfl, rfl⟩, fun _ _ => by simp⟩
  · rename_i hc
    exact ⟨tag, f, h', by omega, .inl rfl, fun h1 h2 => absurd (by simp [h1, h2]) hc⟩

theorem SSit.bound (h : SSit P ty Wg C n val Ret AnchW o tag j f d A O a w) : j + Go.ConcN.pend tag ≤ o + n ∧ o ≤ j := by
  cases h <;> simp only [Go.ConcN.pend] <;> (try simp) <;> omega
end
end Go.Proofs.Ytajheicheefpeaa

/- A step of plain memory, made in two worlds that are alike but for some blocks which the one world has emptied: what goes well in the emptied world goes the same way in the other, and touches none of those blocks. No condition on the program. -/
namespace Go.Proofs.Ytajheicheefpeaa
open Go.Conc
set_option linter.unusedSimpArgs false

/-- It never yields. -/
def NoOk (P : Program) {α : Type} (s : Sem α) : Prop := ∀ w a w', s.run P w ≠ .ok a w'

def mapObj : Obj → Bool
  | .map _ _ => true
  | _ => false

def pendObj : Obj → Bool
  | .pending _ _ => true
  | _ => false

/-- A variable that waits for its initialiser is a thing that nothing reads. -/
def inert : Obj → Obj
  | .pending _ _ => .deferred none
  | o => o

/-- The ways in which a calm step may stop. -/
def haltOk : Halt → Bool
  | .panic _ | .stuck _ => true
  | .unsupported (.initOrder _) => false
  | .unsupported _ => true
  | _ => false

/-- Plain loads and stores, new rows and maps, draws; no mark but 'no room'; nothing outside. -/
def Calm (P : Program) {α : Type} : Sem α → Prop
  | .pure _ => True
  | .load m _ k => m = .plain ∧ ∀ v, Calm P (k v)
  | .store m _ _ k => m = .plain ∧ Calm P k
  | .new o k => pendObj o = false ∧ ∀ r, Calm P (k r)
  | .shape _ k => (∀ s, Calm P (k s)) ∧ ∀ e n, k (some (e, n)) = k (some (e, 0)) ∨ NoOk P (k (some (e, 0)))
  | .freeze _ _ _ => False
  | .frozen _ k => ∀ b, Calm P (k b)
  | .getObj _ k => (∀ o, Calm P (k o)) ∧ ∀ c e, k (.pending c e) = k (.deferred none)
  | .setObj _ o k => mapObj o = true ∧ Calm P k
  | .choose _ k => ∀ n, Calm P (k n)
  | .sys _ _ => False
  | .program k => Calm P (k P)
  | .mark m k => m = .noRoom ∧ Calm P k
  | .halt x => haltOk x = true

/-- The one world is the other with the blocks of F emptied. -/
structure Sim (F : Nat → Prop) (w0 w : World) : Prop where
  size : w0.heap.size = w.heap.size
  same : ∀ b, ¬ F b → w0.heap[b]? = (w.heap[b]?).map inert
  blank : ∀ b, F b → ∃ c e, w.heap[b]? = some (.cells c e (0, 0)) ∧ w0.heap[b]? = some (.cells #[] e (0, 0))
  os : w0.os = w.os
  output : w0.output = w.output

/-- What such a step may list. -/
def EvOk (F : Nat → Prop) (B : Nat) (e : Event) : Prop :=
  (∃ a : Addr, e.loc = .cell a ∧ a.block < B ∧ ¬ F a.block ∧ e.sync = false) ∨ (∃ r, e.loc = .obj r ∧ r < B ∧ ¬ F r ∧ (e.write = true → e.sync = false)) ∨ e.loc = .mark .noRoom

theorem EvOk.mono {F : Nat → Prop} {B B' : Nat} {e : Event} (h : EvOk F B e) (hb : B ≤ B') : EvOk F B' e := by
  rcases h with ⟨a, h1, h2, h3⟩ | ⟨r, h1, h2, h3⟩ | h
  · exact .inl ⟨a, h1, Nat.lt_of_lt_of_le h2 hb, h3⟩
  · exact .inr (.inl ⟨r, h1, Nat.lt_of_lt_of_le h2 hb, h3⟩)
  · exact .inr (.inr h)

section
variable {F : Nat → Prop} {w0 w : World}

theorem lt_of_get {α : Type} {a : Array α} {i : Nat} {x : α} (h : a[i]? = some x) : i < a.size := (Array.getElem?_eq_some_iff.1 h).1

theorem inert_cells {o : Obj} {c : Array Value} {e : TypeId} {f : Nat × Nat} (h : inert o = .cells c e f) : o = .cells c e f := by cases o <;> simp_all [inert]
theorem inert_eq {o o' : Obj} (h : inert o = o') (h' : o' ≠ .deferred none) : o = o' := by cases o <;> simp_all [inert]

theorem Sim.get (h : Sim F w0 w) {b : Nat} {o : Obj} (hb : ¬ F b) (ho : w0.heap[b]? = some o) (hd : o ≠ .deferred none) : w.heap[b]? = some o := by
  rw [h.same b hb] at ho
  obtain ⟨x, hx, hxo⟩ := Option.map_eq_some_iff.1 ho
  rw [hx, inert_eq hxo hd]

theorem Sim.cell (h : Sim F w0 w) {a : Addr} {v : Value} (hc : w0.cell? a = some v) : w.cell? a = some v ∧ ¬ F a.block ∧ a.block < w.heap.size := by
  have hn : ¬ F a.block := fun hf => by
    obtain ⟨c, e, _, h2⟩ := h.blank _ hf
    simp [World.cell?, h2] at hc
  unfold World.cell? at hc
  split at hc
  · rename_i c e f hh
    have := h.get hn hh (by simp)
    refine ⟨by unfold World.cell?; rw [this]; exact hc, hn, lt_of_get this⟩
  · cases hc

theorem Sim.noCell (h : Sim F w0 w) {a : Addr} (hn : ¬ F a.block) (hc : w0.cell? a = none) : w.cell? a = none := by
  unfold World.cell? at *
  split
  · rename_i c e f hh
    rw [h.same _ hn, hh] at hc
    simpa [inert] using hc
  · rfl

theorem Sim.frozen (h : Sim F w0 w) (a : Addr) : w0.frozen? a = w.frozen? a := by
  by_cases hf : F a.block
  · obtain ⟨c, e, h1, h2⟩ := h.blank _ hf
    simp [World.frozen?, h1, h2]
  · unfold World.frozen?
    rw [h.same _ hf]
    cases hh : w.heap[a.block]? with
    | none => simp
    | some o => cases o <;> simp [inert]

theorem Sim.shape (h : Sim F w0 w) {r : Nat} (hf : ¬ F r) : w0.shape? r = w.shape? r := by
  unfold World.shape?
  rw [h.same _ hf]
  cases hh : w.heap[r]? with
  | none => simp
  | some o => cases o <;> simp [inert]

theorem Sim.push (h : Sim F w0 w) {o : Obj} (ho : pendObj o = false) : Sim F { w0 with heap := w0.heap.push o } { w with heap := w.heap.push o } := by
  have hi : inert o = o := by cases o <;> simp_all [inert, pendObj]
  refine ⟨by simp [h.size], fun b hb => ?_, fun b hb => ?_, h.os, h.output⟩
  · simp only [Array.getElem?_push, h.size]
    by_cases e : b = w.heap.size
    · simp [e, hi]
    · simp [e, h.same b hb]
  · obtain ⟨c, e, h1, h2⟩ := h.blank b hb
    have l1 := lt_of_get h1
    have l2 := lt_of_get h2
    exact ⟨c, e, by rw [Array.getElem?_push_lt l1]; simpa [Array.getElem?_eq_getElem l1] using h1, by rw [Array.getElem?_push_lt l2]; simpa [Array.getElem?_eq_getElem l2] using h2⟩

theorem Sim.modify (h : Sim F w0 w) {b : Nat} (hb : ¬ F b) (f : Obj → Obj) (hf : ∀ o, f (inert o) = inert (f o)) : Sim F { w0 with heap := w0.heap.modify b f } { w with heap := w.heap.modify b f } := by
  refine ⟨by simp [h.size], fun i hi => ?_, fun i hi => ?_, h.os, h.output⟩
  · simp only [Array.getElem?_modify, h.same i hi]
    by_cases e : b = i
    · simp only [e, if_true, Option.map_map]
      congr 1
      funext o
      exact hf o
    · simp [e]
  · have hne : b ≠ i := fun e => hb (e ▸ hi)
    obtain ⟨c, e, h1, h2⟩ := h.blank i hi
    exact ⟨c, e, by simp [Array.getElem?_modify, hne, h1], by simp [Array.getElem?_modify, hne, h2]⟩

theorem Sim.setCell (h : Sim F w0 w) {a : Addr} (hb : ¬ F a.block) (v : Value) : Sim F (w0.setCell a v) (w.setCell a v) := by
  refine h.modify hb _ fun o => ?_
  cases o <;> rfl

theorem Sim.set (h : Sim F w0 w) {b : Nat} (hb : ¬ F b) {o : Obj} (ho : pendObj o = false) : Sim F { w0 with heap := w0.heap.setIfInBounds b o } { w with heap := w.heap.setIfInBounds b o } := by
  have hi' : inert o = o := by cases o <;> simp_all [inert, pendObj]
  refine ⟨by simp [h.size], fun i hi => ?_, fun i hi => ?_, h.os, h.output⟩
  · by_cases e : b = i
    · subst e
      by_cases hl : b < w.heap.size
      · simp [hl, h.size, hi']
      · simp [hl, h.size]
    · simp [e, h.same i hi]
  · have hne : b ≠ i := fun e => hb (e ▸ hi)
    obtain ⟨c, e, h1, h2⟩ := h.blank i hi
    exact ⟨c, e, by simp [hne, h1], by simp [hne, h2]⟩

theorem Sim.drawn (h : Sim F w0 w) (d d' : Nat) : Sim F { w0 with drawn := d } { w with drawn := d' } := ⟨h.size, h.same, h.blank, h.os, h.output⟩

end

/-! ### memory seen as another type -/
section
variable {P : Program} {F : Nat → Prop} {w0 w : World}

theorem bytes_pos {v : Value} {l : List UInt8} (h : v.bytes? = some l) : 0 < l.length := by
  have hl : ∀ s n, (leBytes s n).length = s := by
    intro s
    induction s with
    | zero => intro n; rfl
    | succ s ih => intro n; simp [leBytes, ih]
  cases v <;> simp [Value.bytes?] at h <;> subst h <;> simp [hl]
  · rename_i k _; cases k <;> simp [IntKind.bits]
  · rename_i k _; cases k <;> simp [FloatKind.bytes]
  · rename_i k _ _; cases k <;> simp [FloatKind.bytes]

theorem seenCells_nil (e : TypeId) (f x stop : Nat) (h : x < stop) : ∃ s, seenCells P #[] e f x stop = .error s := by
  cases f with
  | zero => exact ⟨_, rfl⟩
  | succ f =>
    unfold seenCells
    rw [if_neg (by omega)]
    by_cases hw : P.bytesOf e = 0
    · simp [hw]
    · simp only [hw, if_false]
      split
      · exact ⟨_, rfl⟩
      · simp

theorem seen_ok {at_ : Addr} {u : TypeId} {k : Addr} {m : Bool} {r : Array Value × TypeId × (Nat × Nat) × Nat × Value × List (Nat × Nat × List UInt8)} (h : w.seen P at_ u k m = .ok r) :
    ∃ c e f, w.heap[at_.block]? = some (.cells c e f) ∧ c ≠ #[] := by
  unfold World.seen at h
  simp only [bind, Except.bind, throw, throwThe, MonadExceptOf.throw, MonadExcept.throw, pure, Except.pure] at h
  split at h
  · cases h
  split at h
  · rename_i like hl
    split at h
    · rename_i size hs
      split at h
      · rename_i β hβ
        split at h
        · rename_i c e f hh
          split at h
          · cases h
          split at h
          · rename_i b0 hb0
            refine ⟨c, e, f, hh, ?_⟩
            rintro rfl
            obtain ⟨bs, hbs, hlen⟩ := Option.map_eq_some_iff.1 hs
            have := bytes_pos hbs
            obtain ⟨s, he⟩ := seenCells_nil (P := P) e (size + 1) (at_.off / P.cellsOf e * P.bytesOf e + b0 + β) (at_.off / P.cellsOf e * P.bytesOf e + b0 + β + size) (by omega)
            rw [he] at h
            cases h
          · cases h
        · cases h
      · cases h
    · cases h
  · cases h

theorem seen_congr {w w' : World} {at_ : Addr} (h : w.heap[at_.block]? = w'.heap[at_.block]?) (u : TypeId) (k : Addr) (m : Bool) : w.seen P at_ u k m = w'.seen P at_ u k m := by
  unfold World.seen
  rw [h]

theorem Sim.seen (h : Sim F w0 w) {at_ : Addr} {u : TypeId} {k : Addr} {m : Bool} {r : Array Value × TypeId × (Nat × Nat) × Nat × Value × List (Nat × Nat × List UInt8)} (hr : w0.seen P at_ u k m = .ok r) :
    w.seen P at_ u k m = .ok r ∧ ¬ F at_.block ∧ at_.block < w.heap.size := by
  obtain ⟨c, e, f, hh, hc⟩ := seen_ok hr
  have hn : ¬ F at_.block := fun hf => by
    obtain ⟨_, _, _, h2⟩ := h.blank _ hf
    rw [h2] at hh
    cases hh
    exact hc rfl
  have hh' := h.get hn hh (by simp)
  exact ⟨by rw [← seen_congr (hh.trans hh'.symm)]; exact hr, hn, lt_of_get hh'⟩

theorem Sim.farLoad (h : Sim F w0 w) {a : Addr} {r : Value × List Addr} (hr : w0.farLoad P a false = .ok r) :
    w.farLoad P a false = .ok r ∧ ∀ x ∈ r.2, x.block < w.heap.size ∧ ¬ F x.block := by
  unfold World.farLoad at *
  split at hr
  · rename_i at_ u hv
    have hn : ¬ F a.block := fun hf => by
      obtain ⟨_, _, _, h2⟩ := h.blank _ hf
      rw [h2] at hv; cases hv
    have hv := h.get hn hv (by simp)
    simp only [hv]
    split at hr
    · rename_i r' hl
      cases hr
      unfold World.viewLoad at hl
      simp only [bind, Except.bind, throw, throwThe, MonadExceptOf.throw, MonadExcept.throw, pure, Except.pure] at hl
      split at hl
      · cases hl
      · rename_i x hs
        obtain ⟨h1, h2, h3⟩ := h.seen hs
        have e1 : w.viewLoad P at_ u a false = .ok r := by
          unfold World.viewLoad
          simp only [bind, Except.bind, throw, throwThe, MonadExceptOf.throw, MonadExcept.throw, pure, Except.pure, h1]
          exact hl
        rw [e1]
        refine ⟨rfl, fun y hy => ?_⟩
        split at hl
        · cases hl
          simp only [List.mem_map] at hy
          obtain ⟨z, _, rfl⟩ := hy
          exact ⟨h3, h2⟩
        · cases hl
    · cases hr
  · cases hr

theorem Sim.farStore (h : Sim F w0 w) {a : Addr} {v : Value} {w0' : World} {l : List Addr} (hr : w0.farStore P a v false = .ok (w0', l)) :
    ∃ w', w.farStore P a v false = .ok (w', l) ∧ Sim F w0' w' ∧ w'.tape = w.tape ∧ w'.drawn = w.drawn ∧ w0'.tape = w0.tape ∧ w0'.drawn = w0.drawn ∧ w'.heap.size = w.heap.size ∧ ∀ x ∈ l, x.block < w.heap.size ∧ ¬ F x.block := by
  unfold World.farStore at *
  split at hr
  · rename_i at_ u hv
    have hn : ¬ F a.block := fun hf => by
      obtain ⟨_, _, _, h2⟩ := h.blank _ hf
      rw [h2] at hv; cases hv
    have hv := h.get hn hv (by simp)
    simp only [hv]
    split at hr
    · rename_i r' hl
      cases hr
      unfold World.viewStore at *
      simp only [bind, Except.bind, throw, throwThe, MonadExceptOf.throw, MonadExcept.throw, pure, Except.pure] at *
      by_cases hti : (!tight P P.depth u) = true
      · simp only [hti, if_true] at hl
        cases hl
      simp only [hti, Bool.false_eq_true, if_false] at hl
      split at hl
      · cases hl
      · rename_i x hs
        obtain ⟨h1, h2, h3⟩ := h.seen hs
        simp only [hti, h1, Bool.false_eq_true, if_false]
        split at hl
        · rename_i bytes hb
          split at hl
          · cases hl
          · rename_i hne
            split at hl
            · cases hl
            · rename_i c hc
              cases hl
              simp only [hb, hne, hc, if_false, Bool.false_eq_true]
              refine ⟨_, rfl, h.set h2 rfl, rfl, rfl, trivial, trivial, by simp, fun y hy => ?_⟩
              simp only [List.mem_map] at hy
              obtain ⟨z, _, rfl⟩ := hy
              exact ⟨h3, h2⟩
        · cases hl
    · cases hr
  · cases hr
end

/-! ### the draws of such a step -/
theorem Calm.drawn {P : Program} {α : Type} : ∀ (s : Sem α) {w : World} {a : α} {w' : World}, Calm P s → s.run P w = .ok a w' → w.drawn ≤ w'.drawn ∧ w'.tape = w.tape := by
  intro s
  induction s with
  | pure a => intro w b w' _ h; simp only [Sem.run] at h; cases h; exact ⟨Nat.le_refl _, rfl⟩
  | load m a k ih =>
    intro w b w' hc h
    simp only [Sem.run] at h
    split at h
    · exact ih _ (hc.2 _) h
    · split at h
      · exact ih _ (hc.2 _) h
      · cases h
  | store m a v k ih =>
    intro w b w' hc h
    obtain ⟨rfl, hc⟩ := hc
    have key : ∀ w1 : World, w1.drawn = w.drawn → w1.tape = w.tape → k.run P w1 = .ok b w' → w.drawn ≤ w'.drawn ∧ w'.tape = w.tape := fun w1 h1 h2 h3 => by
      have := ih hc h3
      rw [h1, h2] at this; exact this
    have h' : (match w.cell? a with
      | some _ => if w.frozen? a then Result.halt (.unsupported (.unsafePointer "a write to bytes that a string shares")) w else k.run P (w.setCell a v)
      | none => match w.farStore P a v (Mode.plain == Mode.atomic) with
        | .ok (w, _) => k.run P w
        | .error h => .halt h w) = .ok b w' := by
      cases v <;> first | (simp only [Sem.run] at h; cases h) | exact h
    split at h'
    · split at h'
      · cases h'
      · exact key (w.setCell a v) rfl rfl h'
    · split at h'
      · rename_i w1 l hf
        have : w1.drawn = w.drawn ∧ w1.tape = w.tape := by
          unfold World.farStore at hf
          split at hf
          · split at hf
            · rename_i r hl
              cases hf
              unfold World.viewStore at hl
              simp only [bind, Except.bind, throw, throwThe, MonadExceptOf.throw, MonadExcept.throw, pure, Except.pure] at hl
              repeat' split at hl
              all_goals first | cases hl; done | (cases hl; exact ⟨rfl, rfl⟩)
            · cases hf
          · cases hf
        exact key _ this.1 this.2 h'
      · cases h'
  | new o k ih => intro w b w' hc h; simp only [Sem.run] at h; have := ih _ (hc.2 _) h; exact this
  | shape r k ih => intro w b w' hc h; simp only [Sem.run] at h; exact ih _ (hc.1 _) h
  | freeze a n k ih => intro w b w' hc; exact hc.elim
  | frozen a k ih => intro w b w' hc h; simp only [Sem.run] at h; exact ih _ (hc _) h
  | getObj r k ih =>
    intro w b w' hc h
    simp only [Sem.run] at h
    split at h
    · cases h
    · exact ih _ (hc.1 _) h
    · cases h
  | setObj r o k ih =>
    intro w b w' hc h
    simp only [Sem.run] at h
    split at h
    · cases h
    · have := ih hc.2 h
      exact this
    · cases h
  | choose q k ih =>
    intro w b w' hc h
    simp only [Sem.run] at h
    split at h
    · exact ih _ (hc _) h
    · have := ih _ (hc _) h
      exact ⟨Nat.le_trans (Nat.le_succ _) this.1, this.2⟩
  | sys c k ih => intro w b w' hc; exact hc.elim
  | program k ih => intro w b w' hc h; simp only [Sem.run] at h; exact ih _ hc h
  | mark m k ih => intro w b w' hc h; simp only [Sem.run] at h; exact ih hc.2 h
  | halt x => intro w b w' _ h; simp only [Sem.run] at h; cases h

/-- What the step in the other world is. -/
structure Locked (P : Program) (F : Nat → Prop) {α : Type} (s : Sem α) (w0 w w0' : World) (a : α) (es : Array Event) : Prop where
  ex : ∃ w' es', s.runT P w es = (.ok a w', es ++ es') ∧ Sim F w0' w' ∧ w'.tape = w.tape ∧ w'.drawn + w0.drawn = w.drawn + w0'.drawn ∧ w.heap.size ≤ w'.heap.size ∧ ∀ e ∈ es', EvOk F w'.heap.size e

theorem Locked.of {P : Program} {F : Nat → Prop} {α : Type} {s k : Sem α} {w0 w w0' w1 w01 : World} {a : α} {es u : Array Event}
    (h : Locked P F k w01 w1 w0' a (es ++ u)) (hs : s.runT P w es = k.runT P w1 (es ++ u)) (ht : w1.tape = w.tape) (hd : w1.drawn + w0.drawn = w.drawn + w01.drawn) (hz : w.heap.size ≤ w1.heap.size)
    (hu : ∀ e ∈ u, EvOk F w1.heap.size e) : Locked P F s w0 w w0' a es := by
  obtain ⟨w', es', h1, h2, h3, h4, h5, h6⟩ := h.ex
  refine ⟨w', u ++ es', by rw [hs, h1, Array.append_assoc], h2, h3.trans ht, by omega, by omega, fun e he => ?_⟩
  rcases Array.mem_append.1 he with he | he
  · exact (hu e he).mono h5
  · exact h6 e he

theorem Locked.of0 {P : Program} {F : Nat → Prop} {α : Type} {s k : Sem α} {w0 w w0' w1 w01 : World} {a : α} {es : Array Event}
    (h : Locked P F k w01 w1 w0' a es) (hs : s.runT P w es = k.runT P w1 es) (ht : w1.tape = w.tape) (hd : w1.drawn + w0.drawn = w.drawn + w01.drawn) (hz : w.heap.size ≤ w1.heap.size) : Locked P F s w0 w w0' a es :=
  Locked.of (u := #[]) (by simpa using h) (by simpa using hs) ht hd hz (by simp)

theorem push_eq (es : Array Event) (e : Event) : es.push e = es ++ #[e] := by simp

/-- IN STEP: what goes well in the emptied world goes the same way in the other. -/
theorem Calm.lock {P : Program} {F : Nat → Prop} {α : Type} : ∀ (s : Sem α) {w0 w w0' : World} {a : α} {es : Array Event}, Calm P s → Sim F w0 w → s.run P w0 = .ok a w0' →
    (∀ k, w0.drawn + k < w0'.drawn → w.tape (w.drawn + k) = w0.tape (w0.drawn + k)) → Locked P F s w0 w w0' a es := by
  intro s
  induction s with
  | pure a =>
    intro w0 w w0' b es _ hS h _
    simp only [Sem.run] at h; cases h
    exact ⟨w, #[], by simp [Sem.runT], hS, rfl, rfl, Nat.le_refl _, by simp⟩
  | load m a k ih =>
    intro w0 w w0' b es hc hS h ht
    obtain ⟨rfl, hc⟩ := hc
    simp only [Sem.run] at h
    split at h
    · rename_i v hv
      obtain ⟨h1, h2, h3⟩ := hS.cell hv
      refine Locked.of (u := #[⟨.cell a, false, false⟩]) (ih _ (hc _) hS h ht) ?_ rfl rfl (Nat.le_refl _) ?_
      · simp only [Sem.runT, h1, push_eq]; rfl
      · intro e he
        simp only [List.mem_toArray, List.mem_cons, List.not_mem_nil, or_false] at he
        subst he
        exact .inl ⟨a, rfl, h3, h2, rfl⟩
    · rename_i hv
      split at h
      · rename_i r l hl
        have hl' : w0.farLoad P a false = .ok (r, l) := hl
        obtain ⟨h1, h2⟩ := hS.farLoad hl'
        have hnone : w.cell? a = none := by
          by_cases hf : F a.block
          · exfalso
            unfold World.farLoad at hl'
            obtain ⟨_, _, _, hb⟩ := hS.blank _ hf
            simp only [hb] at hl'
            cases hl'
          · exact hS.noCell hf hv
        refine Locked.of (u := l.toArray.map (⟨.cell ·, false, false⟩)) (ih _ (hc _) hS h ht) ?_ rfl rfl (Nat.le_refl _) ?_
        · have h1' : w.farLoad P a (Mode.plain == Mode.atomic) = .ok (r, l) := h1
          simp only [Sem.runT, hnone, h1']
          rfl
        · intro e he
          obtain ⟨x, hx, rfl⟩ := Array.mem_map.1 he
          exact .inl ⟨x, rfl, (h2 x (by simpa using hx)).1, (h2 x (by simpa using hx)).2, rfl⟩
      · cases h
  | store m a v k ih =>
    intro w0 w w0' b es hc hS h ht
    obtain ⟨rfl, hc⟩ := hc
    have h' : (match w0.cell? a with
      | some _ => if w0.frozen? a then Result.halt (.unsupported (.unsafePointer "a write to bytes that a string shares")) w0 else k.run P (w0.setCell a v)
      | none => match w0.farStore P a v (Mode.plain == Mode.atomic) with
        | .ok (w, _) => k.run P w
        | .error h => .halt h w0) = .ok b w0' := by
      cases v <;> first | (simp only [Sem.run] at h; cases h) | exact h
    have hT : (Sem.store Mode.plain a v k).runT P w es = (match w.cell? a with
      | some _ => if w.frozen? a then (Result.halt (.unsupported (.unsafePointer "a write to bytes that a string shares")) w, es) else k.runT P (w.setCell a v) (es.push ⟨.cell a, true, false⟩)
      | none => match w.farStore P a v (Mode.plain == Mode.atomic) with
        | .ok (w, touched) => k.runT P w (es ++ touched.toArray.map (⟨.cell ·, true, false⟩))
        | .error h => (.halt h w, es)) := by
      cases v <;> first | (simp only [Sem.run] at h; cases h; done) | rfl
    split at h'
    · rename_i u hu
      obtain ⟨h1, h2, h3⟩ := hS.cell hu
      split at h'
      · cases h'
      · rename_i hfr
        rw [hS.frozen] at hfr
        have hfr' : w.frozen? a = false := by simpa using hfr
        refine Locked.of (u := #[⟨.cell a, true, false⟩]) (ih hc (hS.setCell h2 v) h' ht) ?_ rfl rfl (by simp) ?_
        · rw [hT]; simp only [h1, hfr', push_eq]; rfl
        · intro e he
          simp only [List.mem_toArray, List.mem_cons, List.not_mem_nil, or_false] at he
          subst he
          exact .inl ⟨a, rfl, by simpa using h3, h2, rfl⟩
    · rename_i hv
      split at h'
      · rename_i w01 l hl
        have hl' : w0.farStore P a v false = .ok (w01, l) := hl
        obtain ⟨w1, h1, h2, h3, h4, h5, h6, h7, h8⟩ := hS.farStore hl'
        have hnone : w.cell? a = none := by
          by_cases hf : F a.block
          · exfalso
            unfold World.farStore at hl'
            obtain ⟨_, _, _, hb⟩ := hS.blank _ hf
            simp only [hb] at hl'
            cases hl'
          · exact hS.noCell hf hv
        refine Locked.of (u := l.toArray.map (⟨.cell ·, true, false⟩)) (ih hc h2 h' (by rw [h3, h4, h5, h6]; exact ht)) ?_ h3 (by omega) (by omega) ?_
        · have h1' : w.farStore P a v (Mode.plain == Mode.atomic) = .ok (w1, l) := h1
          rw [hT]; simp only [hnone, h1']
        · intro e he
          obtain ⟨x, hx, rfl⟩ := Array.mem_map.1 he
          exact .inl ⟨x, rfl, by rw [h7]; exact (h8 x (by simpa using hx)).1, (h8 x (by simpa using hx)).2, rfl⟩
      · cases h'
  | new o k ih =>
    intro w0 w w0' b es hc hS h ht
    simp only [Sem.run] at h
    refine Locked.of0 (ih _ (hc.2 _) (hS.push hc.1) h ht) ?_ rfl rfl (by simp)
    simp only [Sem.runT, hS.size]
  | shape r k ih =>
    intro w0 w w0' b es hc hS h ht
    simp only [Sem.run] at h
    by_cases hf : F r
    · obtain ⟨c, e, h1, h2⟩ := hS.blank _ hf
      have e0 : w0.shape? r = some (e, 0) := by simp [World.shape?, h2]
      have e1 : w.shape? r = some (e, c.size) := by simp [World.shape?, h1]
      rw [e0] at h
      rcases hc.2 e c.size with hk | hk
      · refine Locked.of0 (ih _ (hc.1 _) hS h ht) ?_ rfl rfl (Nat.le_refl _)
        simp only [Sem.runT, e1, hk]
      · exact absurd h (hk _ _ _)
    · have e1 : w.shape? r = w0.shape? r := (hS.shape hf).symm
      refine Locked.of0 (ih _ (hc.1 _) hS h ht) ?_ rfl rfl (Nat.le_refl _)
      simp only [Sem.runT, e1]
  | freeze a n k ih => intro w0 w w0' b es hc; exact hc.elim
  | frozen a k ih =>
    intro w0 w w0' b es hc hS h ht
    simp only [Sem.run] at h
    refine Locked.of0 (ih _ (hc _) hS h ht) ?_ rfl rfl (Nat.le_refl _)
    simp only [Sem.runT, hS.frozen]
  | getObj r k ih =>
    intro w0 w w0' b es hc hS h ht
    simp only [Sem.run] at h
    by_cases hf : F r
    · obtain ⟨c, e, h1, h2⟩ := hS.blank _ hf
      simp only [h2] at h
      cases h
    · rw [hS.same _ hf] at h
      cases ho : w.heap[r]? with
      | none => simp only [ho, Option.map_none] at h; cases h
      | some o =>
        have key : ∀ o', (∀ c e f, o' ≠ .cells c e f) → w.heap[r]? = some o' → k o' = k (inert o') → Sem.run P (k (inert o')) w0 = .ok b w0' → Locked P F (Sem.getObj r k) w0 w w0' b es := by
          intro o' hne ho' hk hr
          refine Locked.of (u := #[⟨.obj r, false, o'.isChan⟩]) (ih _ (hc.1 _) hS hr ht) ?_ rfl rfl (Nat.le_refl _) ?_
          · rw [← hk]
            cases o' <;> first | exact (hne _ _ _ rfl).elim | simp only [Sem.runT, ho', push_eq]
          · intro e he
            simp only [List.mem_toArray, List.mem_cons, List.not_mem_nil, or_false] at he
            subst he
            exact .inr (.inl ⟨r, rfl, lt_of_get ho', hf, by simp⟩)
        simp only [ho, Option.map_some] at h
        cases o with
        | cells c e f => simp only [inert] at h; cases h
        | pending c e => exact key _ (by simp) ho (hc.2 c e) h
        | _ => exact key _ (by simp) ho rfl h
  | setObj r o k ih =>
    intro w0 w w0' b es hc hS h ht
    simp only [Sem.run] at h
    by_cases hf : F r
    · obtain ⟨c, e, h1, h2⟩ := hS.blank _ hf
      simp only [h2] at h
      cases h
    · have hh := hS.same _ hf
      rw [hh] at h
      have hoc : o.isChan = false := by have := hc.1; cases o <;> simp_all [mapObj, Obj.isChan]
      have hop : pendObj o = false := by have := hc.1; cases o <;> simp_all [mapObj, pendObj]
      cases ho : w.heap[r]? with
      | none => simp only [ho, Option.map_none] at h; cases h
      | some o' =>
        have key : (∀ c e f, o' ≠ .cells c e f) → Sem.run P k { w0 with heap := w0.heap.setIfInBounds r o } = .ok b w0' → Locked P F (Sem.setObj r o k) w0 w w0' b es := by
          intro hne hr
          refine Locked.of (u := #[⟨.obj r, true, o.isChan⟩]) (ih hc.2 (hS.set hf hop) hr ht) ?_ rfl rfl (by simp) ?_
          · cases o' <;> first | exact (hne _ _ _ rfl).elim | simp only [Sem.runT, ho, push_eq]
          · intro e he
            simp only [List.mem_toArray, List.mem_cons, List.not_mem_nil, or_false] at he
            subst he
            exact .inr (.inl ⟨r, rfl, by simpa using lt_of_get ho, hf, fun _ => hoc⟩)
        simp only [ho, Option.map_some] at h
        cases o' with
        | cells c e f => simp only [inert] at h; cases h
        | _ => exact key (by simp) h
  | choose q k ih =>
    intro w0 w w0' b es hc hS h ht
    simp only [Sem.run] at h
    split at h
    · rename_i hq
      refine Locked.of0 (ih _ (hc _) hS h ht) ?_ rfl rfl (Nat.le_refl _)
      simp only [Sem.runT, hq, if_true]
    · rename_i hq
      have hd := (Calm.drawn _ (hc _) h).1
      have h0 := ht 0 (by simp at hd ⊢; omega)
      simp only [Nat.add_zero] at h0
      refine Locked.of0 (ih _ (hc _) (hS.drawn (w0.drawn + 1) (w.drawn + 1)) h (fun n hn => ?_)) ?_ rfl (by simp; omega) (Nat.le_refl _)
      · have := ht (n + 1) (by simp at hn; omega)
        simpa [Nat.add_assoc, Nat.add_comm, Nat.add_left_comm] using this
      · simp only [Sem.runT, hq, Bool.false_eq_true, if_false, h0]
  | sys c k ih => intro w0 w w0' b es hc; exact hc.elim
  | program k ih =>
    intro w0 w w0' b es hc hS h ht
    simp only [Sem.run] at h
    exact Locked.of0 (ih _ hc hS h ht) (by simp only [Sem.runT]) rfl rfl (Nat.le_refl _)
  | mark m k ih =>
    intro w0 w w0' b es hc hS h ht
    obtain ⟨rfl, hc⟩ := hc
    simp only [Sem.run] at h
    refine Locked.of (u := #[⟨.mark .noRoom, false, true⟩]) (ih hc hS h ht) ?_ rfl rfl (Nat.le_refl _) ?_
    · simp only [Sem.runT, push_eq]
    · intro e he
      simp only [List.mem_toArray, List.mem_cons, List.not_mem_nil, or_false] at he
      subst he
      exact .inr (.inr rfl)
  | halt x => intro w0 w w0' b es _ _ h; simp only [Sem.run] at h; cases h

/-- No variable waits. -/
def NoPend (w : World) : Prop := ∀ (b : Nat) (c : Array Value) (e : TypeId), w.heap[b]? ≠ some (.pending c e)

theorem NoPend.push {w : World} (h : NoPend w) {o : Obj} (ho : pendObj o = false) : NoPend { w with heap := w.heap.push o } := by
  intro b c e hb
  simp only [Array.getElem?_push] at hb
  split at hb
  · cases hb; simp [pendObj] at ho
  · exact h b c e hb
theorem NoPend.set {w : World} (h : NoPend w) (r : Nat) {o : Obj} (ho : pendObj o = false) : NoPend { w with heap := w.heap.setIfInBounds r o } := by
  intro b c e hb
  simp only [Array.getElem?_setIfInBounds] at hb
  split at hb
  · split at hb
    · cases hb; simp [pendObj] at ho
    · cases hb
  · exact h b c e hb
theorem NoPend.setCell {w : World} (h : NoPend w) (a : Addr) (v : Value) : NoPend (w.setCell a v) := by
  intro b c e hb
  simp only [World.setCell, Array.getElem?_modify] at hb
  split at hb
  · obtain ⟨o, ho, hoo⟩ := Option.map_eq_some_iff.1 hb
    cases o <;> simp at hoo
    exact h _ _ _ (by rw [ho])
  · exact h b c e hb

theorem farStore_pend {P : Program} {w w1 : World} {a : Addr} {v : Value} {m : Bool} {l : List Addr} (h : NoPend w) (hf : w.farStore P a v m = .ok (w1, l)) : NoPend w1 := by
  unfold World.farStore at hf
  split at hf
  · split at hf
    · rename_i r hl
      cases hf
      unfold World.viewStore at hl
      simp only [bind, Except.bind, throw, throwThe, MonadExceptOf.throw, MonadExcept.throw, pure, Except.pure] at hl
      repeat' split at hl
      all_goals first | cases hl; done | (cases hl; exact h.set _ rfl)
    · cases hf
  · cases hf

/-- A calm step keeps every variable laid; where it stops it stops in a way that ends the run or is a panic. -/
theorem Calm.halts {P : Program} {α : Type} : ∀ (s : Sem α) {w : World}, Calm P s → NoPend w → (∀ a w', s.run P w = .ok a w' → NoPend w') ∧ (∀ x w', s.run P w = .halt x w' → haltOk x = true) := by
  intro s
  induction s with
  | pure a => intro w _ hn; exact ⟨fun b w' h => by simp only [Sem.run] at h; cases h; exact hn, fun x w' h => by simp only [Sem.run] at h; cases h⟩
  | load m a k ih =>
    intro w hc hn
    simp only [Sem.run]
    split
    · exact ih _ (hc.2 _) hn
    · split
      · exact ih _ (hc.2 _) hn
      · rename_i e he
        refine ⟨fun _ _ h => (by cases h), fun x w' h => ?_⟩
        cases h
        unfold World.farLoad at he
        split at he
        · split at he
          · cases he
          · cases he; rfl
        · cases he
          unfold World.noCell
          split
          · rename_i hh; exact absurd hh (hn _ _ _)
          · rfl
          · rfl
  | store m a v k ih =>
    intro w hc hn
    have key : (∀ a_1 w', (match w.cell? a with
      | some _ => if w.frozen? a then Result.halt (.unsupported (.unsafePointer "a write to bytes that a string shares")) w else k.run P (w.setCell a v)
      | none => match w.farStore P a v (m == Mode.atomic) with
        | .ok (w, _) => k.run P w
        | .error h => .halt h w) = .ok a_1 w' → NoPend w') ∧ (∀ x w', (match w.cell? a with
      | some _ => if w.frozen? a then Result.halt (.unsupported (.unsafePointer "a write to bytes that a string shares")) w else k.run P (w.setCell a v)
      | none => match w.farStore P a v (m == Mode.atomic) with
        | .ok (w, _) => k.run P w
        | .error h => .halt h w) = .halt x w' → haltOk x = true) := by
      split
      · split
        · exact ⟨fun _ _ h => (by cases h), fun x w' h => (by cases h; rfl)⟩
        · exact ih hc.2 (hn.setCell a v)
      · split
        · rename_i w1 l hf
          exact ih hc.2 (farStore_pend hn hf)
        · rename_i e he
          refine ⟨fun _ _ h => (by cases h), fun x w' h => ?_⟩
          cases h
          unfold World.farStore at he
          split at he
          · split at he
            · cases he
            · cases he; rfl
          · cases he
            unfold World.noCell
            split
            · rename_i hh; exact absurd hh (hn _ _ _)
            · rfl
            · rfl
    cases v <;> first | exact key | (refine ⟨fun _ _ h => ?_, fun x w' h => ?_⟩ <;> (simp only [Sem.run] at h; cases h; try rfl))
  | new o k ih => intro w hc hn; simp only [Sem.run]; exact ih _ (hc.2 _) (hn.push hc.1)
  | shape r k ih => intro w hc hn; simp only [Sem.run]; exact ih _ (hc.1 _) hn
  | freeze a n k ih => intro w hc; exact hc.elim
  | frozen a k ih => intro w hc hn; simp only [Sem.run]; exact ih _ (hc _) hn
  | getObj r k ih =>
    intro w hc hn
    simp only [Sem.run]
    split
    · exact ⟨fun _ _ h => (by cases h), fun x w' h => (by cases h; rfl)⟩
    · exact ih _ (hc.1 _) hn
    · exact ⟨fun _ _ h => (by cases h), fun x w' h => (by cases h; rfl)⟩
  | setObj r o k ih =>
    intro w hc hn
    have hop : pendObj o = false := by have := hc.1; cases o <;> simp_all [mapObj, pendObj]
    simp only [Sem.run]
    split
    · exact ⟨fun _ _ h => (by cases h), fun x w' h => (by cases h; rfl)⟩
    · exact ih hc.2 (hn.set r hop)
    · exact ⟨fun _ _ h => (by cases h), fun x w' h => (by cases h; rfl)⟩
  | choose q k ih =>
    intro w hc hn
    simp only [Sem.run]
    split
    · exact ih _ (hc _) hn
    · exact ih _ (hc _) hn
  | sys c k ih => intro w hc; exact hc.elim
  | program k ih => intro w hc hn; simp only [Sem.run]; exact ih _ hc hn
  | mark m k ih => intro w hc hn; simp only [Sem.run]; exact ih hc.2 hn
  | halt x => intro w hc hn; simp only [Sem.run]; exact ⟨fun _ _ h => (by cases h), fun x w' h => (by cases h; exact hc)⟩

/-- What waits goes on waiting, or has become a map; a map stays one; nothing begins to wait. -/
structure Stay (w w' : World) : Prop where
  size : w.heap.size ≤ w'.heap.size
  pend : ∀ (b : Nat) (c : Array Value) (e : TypeId), w.heap[b]? = some (.pending c e) → w'.heap[b]? = some (.pending c e) ∨ ∃ es n, w'.heap[b]? = some (.map es n)
  map : ∀ (b : Nat) es n, w.heap[b]? = some (.map es n) → ∃ es' n', w'.heap[b]? = some (.map es' n')
  back : ∀ (b : Nat) (c : Array Value) (e : TypeId), b < w.heap.size → w'.heap[b]? = some (.pending c e) → w.heap[b]? = some (.pending c e)

theorem Stay.of {w w' : World} (hz : w.heap.size ≤ w'.heap.size) (h : ∀ b, b < w.heap.size → w'.heap[b]? = w.heap[b]?) : Stay w w' :=
  ⟨hz, fun b _ _ hb => .inl ((h b (lt_of_get hb)).trans hb), fun b _ _ hb => ⟨_, _, (h b (lt_of_get hb)).trans hb⟩, fun b _ _ hlt hb => (h b hlt).symm.trans hb⟩
theorem Stay.refl (w : World) : Stay w w := .of (Nat.le_refl _) fun _ _ => rfl
theorem Stay.trans {w w1 w2 : World} (h : Stay w w1) (h' : Stay w1 w2) : Stay w w2 := by
  refine ⟨Nat.le_trans h.size h'.size, fun b c e hb => ?_, fun b es n hb => ?_, fun b c e hlt hb => h.back b c e hlt (h'.back b c e (Nat.lt_of_lt_of_le hlt h.size) hb)⟩
  · rcases h.pend b c e hb with h1 | ⟨es, n, h1⟩
    · exact h'.pend b c e h1
    · exact .inr (h'.map b es n h1)
  · obtain ⟨es', n', h1⟩ := h.map b es n hb
    exact h'.map b es' n' h1
theorem Stay.push (w : World) (o : Obj) : Stay w { w with heap := w.heap.push o } :=
  .of (by simp) fun b hb => by
    show (w.heap.push o)[b]? = _
    rw [Array.getElem?_push_lt hb, Array.getElem?_eq_getElem hb]
theorem Stay.setMap (w : World) (r : Nat) {o : Obj} (ho : mapObj o = true) : Stay w { w with heap := w.heap.setIfInBounds r o } := by
  obtain ⟨es, n, rfl⟩ : ∃ es n, o = .map es n := by cases o <;> simp [mapObj] at ho; exact ⟨_, _, rfl⟩
  refine ⟨by simp, fun b c e hb => ?_, fun b es' n' hb => ?_, fun b c e hlt hb => ?_⟩
  · by_cases h : r = b
    · subst h; exact .inr ⟨es, n, by simp [lt_of_get hb]⟩
    · exact .inl (by simp [Array.getElem?_setIfInBounds_ne h, hb])
  · by_cases h : r = b
    · subst h; exact ⟨es, n, by simp [lt_of_get hb]⟩
    · exact ⟨es', n', by simp [Array.getElem?_setIfInBounds_ne h, hb]⟩
  · by_cases h : r = b
    · subst h; simp [hlt] at hb
    · simpa [Array.getElem?_setIfInBounds_ne h] using hb
theorem Stay.setCells (w : World) (r : Nat) (o : Obj) (ho : pendObj o = false) {c : Array Value} {e : TypeId} {f : Nat × Nat} (hr : w.heap[r]? = some (.cells c e f)) : Stay w { w with heap := w.heap.setIfInBounds r o } := by
  refine ⟨by simp, fun b c e hb => .inl ?_, fun b es' n' hb => ⟨es', n', ?_⟩, fun b c e hlt hb => ?_⟩
  · have h : r ≠ b := fun h => by rw [h, hb] at hr; cases hr
    simp [Array.getElem?_setIfInBounds_ne h, hb]
  · have h : r ≠ b := fun h => by rw [h, hb] at hr; cases hr
    simp [Array.getElem?_setIfInBounds_ne h, hb]
  · by_cases h : r = b
    · subst h; simp [hlt] at hb; subst hb; cases ho
    · simpa [Array.getElem?_setIfInBounds_ne h] using hb
theorem Stay.setCell (w : World) (a : Addr) (v : Value) : Stay w (w.setCell a v) := by
  refine ⟨by simp, fun b c e hb => .inl ?_, fun b es n hb => ⟨es, n, ?_⟩, fun b c e _ hb => ?_⟩
  · simp only [World.setCell, Array.getElem?_modify]
    split
    · rename_i h; subst h; rw [hb]; rfl
    · exact hb
  · simp only [World.setCell, Array.getElem?_modify]
    split
    · rename_i h; subst h; rw [hb]; rfl
    · exact hb
  · simp only [World.setCell, Array.getElem?_modify] at hb
    split at hb
    · obtain ⟨o, ho, hoo⟩ := Option.map_eq_some_iff.1 hb
      cases o <;> simp at hoo
      obtain ⟨rfl, rfl⟩ := hoo
      exact ho
    · exact hb

theorem farStore_stay {P : Program} {w w1 : World} {a : Addr} {v : Value} {m : Bool} {l : List Addr} (hf : w.farStore P a v m = .ok (w1, l)) : Stay w w1 := by
  unfold World.farStore at hf
  split at hf
  · split at hf
    · rename_i r hl
      cases hf
      unfold World.viewStore at hl
      simp only [bind, Except.bind, throw, throwThe, MonadExceptOf.throw, MonadExcept.throw, pure, Except.pure] at hl
      split at hl
      · cases hl
      split at hl
      · cases hl
      · rename_i x hs
        obtain ⟨c, e, f, hh, _⟩ := seen_ok hs
        repeat' split at hl
        all_goals first | cases hl; done | (cases hl; exact Stay.setCells w _ _ rfl hh)
    · cases hf
  · cases hf

theorem Calm.stay {P : Program} {α : Type} : ∀ (s : Sem α) {w : World} {a : α} {w' : World}, Calm P s → s.run P w = .ok a w' → Stay w w' := by
  intro s
  induction s with
  | pure a => intro w _ w' _ h; simp only [Sem.run] at h; cases h; exact .refl w
  | load m a k ih =>
    intro w b w' hc h
    simp only [Sem.run] at h
    split at h
    · exact ih _ (hc.2 _) h
    · split at h
      · exact ih _ (hc.2 _) h
      · cases h
  | store m a v k ih =>
    intro w b w' hc h
    have h' : (match w.cell? a with
        | some _ => if w.frozen? a then Result.halt (.unsupported (.unsafePointer "a write to bytes that a string shares")) w else k.run P (w.setCell a v)
        | none => match w.farStore P a v (m == Mode.atomic) with
          | .ok (w, _) => k.run P w
          | .error h => .halt h w) = .ok b w' := by
      cases v <;> first | (simp only [Sem.run] at h; cases h) | exact h
    split at h'
    · split at h'
      · cases h'
      · exact (Stay.setCell w a v).trans (ih hc.2 h')
    · split at h'
      · rename_i w1 l hf
        exact (farStore_stay hf).trans (ih hc.2 h')
      · cases h'
  | new o k ih => intro w b w' hc h; simp only [Sem.run] at h; exact (Stay.push w o).trans (ih _ (hc.2 _) h)
  | shape r k ih => intro w b w' hc h; simp only [Sem.run] at h; exact ih _ (hc.1 _) h
  | freeze a n k ih => intro w b w' hc; exact hc.elim
  | frozen a k ih => intro w b w' hc h; simp only [Sem.run] at h; exact ih _ (hc _) h
  | getObj r k ih =>
    intro w b w' hc h
    simp only [Sem.run] at h
    split at h
    · cases h
    · exact ih _ (hc.1 _) h
    · cases h
  | setObj r o k ih =>
    intro w b w' hc h
    simp only [Sem.run] at h
    split at h
    · cases h
    · exact (Stay.setMap w r hc.1).trans (ih hc.2 h)
    · cases h
  | choose q k ih =>
    intro w b w' hc h
    simp only [Sem.run] at h
    split at h
    · exact ih _ (hc _) h
    · have h0 : Stay w { w with drawn := w.drawn + 1 } := .of (Nat.le_refl _) fun _ _ => rfl
      exact h0.trans (ih _ (hc _) h)
  | sys c k ih => intro w b w' hc; exact hc.elim
  | program k ih => intro w b w' hc h; simp only [Sem.run] at h; exact ih _ hc h
  | mark m k ih => intro w b w' hc h; simp only [Sem.run] at h; exact ih hc.2 h
  | halt x => intro w b w' _ h; simp only [Sem.run] at h; cases h

end Go.Proofs.Ytajheicheefpeaa

/- Which operations are calm: loads, stores, addresses, arithmetic, appends, maps. -/
namespace Go.Proofs.Ytajheicheefpeaa
open Go.Conc
set_option linter.unusedSimpArgs false
set_option linter.unusedVariables false

theorem NoOk.bind {P : Program} {α β : Type} {s : Sem α} {f : α → Sem β} (h : NoOk P s) : NoOk P (s.bind f) := by
  intro w b w' hr
  have : s >>= f = s.bind f := rfl
  rw [← this, Sem.run_bind] at hr
  cases hs : s.run P w with
  | ok a w1 => exact h _ _ _ hs
  | halt x w1 => rw [hs] at hr; cases hr

theorem Calm.bind' {P : Program} {α β : Type} {f : α → Sem β} (hf : ∀ a, Calm P (f a)) : ∀ {s : Sem α}, Calm P s → Calm P (s.bind f) := by
  intro s
  induction s with
  | pure a => intro _; exact hf a
  | load m a k ih => intro h; exact ⟨h.1, fun v => ih v (h.2 v)⟩
  | store m a v k ih => intro h; exact ⟨h.1, ih h.2⟩
  | new o k ih => intro h; exact ⟨h.1, fun r => ih r (h.2 r)⟩
  | shape r k ih => intro h; exact ⟨fun s => ih s (h.1 s), fun e n => (h.2 e n).imp (fun x => by show (k _).bind f = (k _).bind f; rw [x]) NoOk.bind⟩
  | freeze a n k ih => intro h; exact h.elim
  | frozen a k ih => intro h; exact fun b => ih b (h b)
  | getObj r k ih => intro h; exact ⟨fun o => ih o (h.1 o), fun c e => by show (k _).bind f = (k _).bind f; rw [h.2 c e]⟩
  | setObj r o k ih => intro h; exact ⟨h.1, ih h.2⟩
  | choose q k ih => intro h; exact fun n => ih n (h n)
  | sys c k ih => intro h; exact h.elim
  | program k ih => intro h; exact ih P h
  | mark m k ih => intro h; exact ⟨h.1, ih h.2⟩
  | halt x => intro h; exact h

section
variable {P : Program}
theorem Calm.bind {α β : Type} {s : Sem α} {f : α → Sem β} (h : Calm P s) (hf : ∀ a, Calm P (f a)) : Calm P (s >>= f) := Calm.bind' hf h
theorem calm_map {α β : Type} {f : α → β} {s : Sem α} (h : Calm P s) : Calm P (f <$> s) := Calm.bind h fun _ => trivial
theorem calm_pure {α : Type} (a : α) : Calm P (pure a : Sem α) := trivial
theorem calm_load (a : Addr) : Calm P (load a) := ⟨rfl, fun _ => trivial⟩
theorem calm_store (a : Addr) (v : Value) : Calm P (store a v) := ⟨rfl, trivial⟩
theorem calm_newObj (o : Obj) (h : pendObj o = false := by rfl) : Calm P (newObj o) := ⟨h, fun _ => trivial⟩
theorem calm_getObj {β : Type} (r : Nat) {f : Obj → Sem β} (h : ∀ o, Calm P (f o)) (hk : ∀ c e, f (.pending c e) = f (.deferred none)) : Calm P (getObj r >>= f) := ⟨h, hk⟩
theorem calm_setMap (r : Nat) (es : Array MapEntry) (n : Nat) : Calm P (setObj r (.map es n)) := ⟨rfl, trivial⟩
theorem calm_choose (q : Question) : Calm P (choose q) := fun _ => trivial
theorem calm_frozen (a : Addr) : Calm P (frozen a) := fun _ => trivial
theorem calm_program : Calm P program := trivial
theorem calm_noRoom : Calm P (mark .noRoom) := ⟨rfl, trivial⟩
theorem calm_stuck {α : Type} (s : String) : Calm P (stuck s : Sem α) := rfl
theorem calm_unsupported {α : Type} (u : Unsupported) (h : haltOk (.unsupported u) = true := by rfl) : Calm P (unsupported u : Sem α) := h
theorem calm_goPanic {α : Type} (v : Value) : Calm P (goPanic v : Sem α) := rfl
/-- The program's own data, read. -/
theorem calm_prog {β : Type} {f : Program → Sem β} (h : Calm P (f P)) : Calm P (program >>= f) := h
/-- What hangs on the shape's type alone. -/
theorem calm_shape {β : Type} (r : Nat) {f : Option (TypeId × Nat) → Sem β} (h : ∀ s, Calm P (f s)) (hk : ∀ e n, f (some (e, n)) = f (some (e, 0)) ∨ NoOk P (f (some (e, 0)))) : Calm P (shape r >>= f) :=
  ⟨h, hk⟩

theorem noOk_unsupported {α : Type} (u : Unsupported) : NoOk P (unsupported u : Sem α) := by
  intro w a w' h; simp [unsupported, Sem.run] at h

theorem calm_typeInfo (t : TypeId) : Calm P (typeInfo t) := by
  unfold typeInfo
  refine calm_prog ?_
  split
  · exact calm_pure _
  · exact calm_stuck _
theorem calm_underlying (t : TypeId) : Calm P (underlying t) := by
  unfold underlying
  refine calm_prog ?_
  split
  · exact calm_pure _
  · exact calm_stuck _
theorem calm_underlying_at {β : Type} {t : TypeId} {d : TypeDesc} {f : TypeDesc → Sem β} (ht : P.underlying t = some d) (h : Calm P (f d)) : Calm P (underlying t >>= f) := by
  have e : underlying t >>= f = Sem.program fun p => (match p.underlying t with
    | some d => (pure d : Sem TypeDesc)
    | none => stuck "no such type").bind f := rfl
  rw [e]
  show Calm P ((match P.underlying t with
    | some d => (pure d : Sem TypeDesc)
    | none => stuck "no such type").bind f)
  rw [ht]
  exact h
theorem calm_zeroValue (t : TypeId) : Calm P (zeroValue t) := by
  unfold zeroValue
  refine Calm.bind (calm_typeInfo _) fun i => ?_
  split
  · exact calm_pure _
  · exact calm_unsupported _
theorem calm_sizeOf (t : TypeId) : Calm P (Go.sizeOf t) := Calm.bind (calm_typeInfo _) fun _ => calm_pure _
theorem calm_isAgg (t : TypeId) : Calm P (isAgg t) := by
  unfold isAgg
  refine Calm.bind (calm_underlying _) fun i => ?_
  split <;> exact calm_pure _
theorem calm_loadCellsFrom (a : Addr) : ∀ (n i : Nat) (acc : Array Value), Calm P (loadCellsFrom a i n acc)
  | 0, _, _ => calm_pure _
  | n + 1, _, _ => Calm.bind (calm_load _) fun _ => calm_loadCellsFrom a n _ _
theorem calm_loadCells (a : Addr) (n : Nat) : Calm P (loadCells a n) := calm_loadCellsFrom a n 0 #[]
theorem calm_storeCells (a : Addr) : ∀ (vs : List Value) (i : Nat), Calm P (storeCells a vs i)
  | [], _ => calm_pure _
  | _ :: vs, _ => Calm.bind (calm_store _ _) fun _ => calm_storeCells a vs _
theorem calm_loadVar (t : TypeId) (a : Addr) : Calm P (loadVar t a) := by
  unfold loadVar
  refine Calm.bind (calm_isAgg _) fun b => ?_
  split
  · exact Calm.bind (calm_sizeOf _) fun _ => Calm.bind (calm_loadCells _ _) fun _ => calm_pure _
  · exact calm_load _
theorem calm_storeVar (t : TypeId) (a : Addr) (v : Value) : Calm P (storeVar t a v) := by
  unfold storeVar
  refine Calm.bind (calm_sizeOf _) fun n => ?_
  split
  · exact Calm.bind (calm_stuck _) fun _ => calm_storeCells _ _ _
  · exact calm_storeCells _ _ _
theorem calm_newRow (e : TypeId) (c : Array Value) : Calm P (newRow e c) := Calm.bind (calm_newObj _) fun _ => calm_pure _
theorem calm_newVar (t : TypeId) (v : Value) : Calm P (newVar t v) := calm_newRow _ _
theorem calm_elemOf (t : TypeId) : Calm P (elemOf t) := by
  unfold elemOf
  refine Calm.bind (calm_underlying _) fun i => ?_
  split
  · exact calm_pure _
  · exact calm_stuck _
theorem calm_part (t : TypeId) (cs : Array Value) (off : Nat) : Calm P (part t cs off) := by
  unfold part
  refine Calm.bind (calm_isAgg _) fun b => ?_
  split
  · exact Calm.bind (calm_sizeOf _) fun _ => calm_pure _
  · split
    · exact calm_pure _
    · exact calm_stuck _
theorem calm_runtimePanic {α : Type} (e : RuntimeError) : Calm P (runtimePanic e : Sem α) := by
  unfold runtimePanic
  refine calm_prog ?_
  dsimp only
  split
  all_goals first | exact calm_goPanic _ | exact Calm.bind (calm_elemOf _) fun _ => Calm.bind (calm_newVar _ _) fun _ => calm_goPanic _
theorem calm_boundsPanic {α : Type} (k : IntKind) (x y : Int) (c : BoundsCode) : Calm P (boundsPanic k x y c : Sem α) := by
  unfold boundsPanic
  repeat' first | with_reducible exact calm_pure _ | with_reducible exact calm_stuck _ | ((with_reducible refine calm_unsupported _ ?_); rfl) | with_reducible exact calm_goPanic _ | with_reducible exact calm_load _ | with_reducible exact calm_store _ _ | ((with_reducible refine calm_getObj _ (fun _ => ?_) ?_); rotate_left; focus (intro _ _; rfl)) | with_reducible exact calm_setMap _ _ _ | with_reducible exact calm_choose _ | with_reducible exact calm_typeInfo _ | with_reducible exact calm_underlying _ | with_reducible exact calm_zeroValue _ | with_reducible exact calm_sizeOf _ | with_reducible exact calm_isAgg _ | with_reducible exact calm_loadCells _ _ | with_reducible exact calm_storeCells _ _ _ | with_reducible exact calm_loadVar _ _ | with_reducible exact calm_newRow _ _ | with_reducible exact calm_newVar _ _ | with_reducible exact calm_elemOf _ | with_reducible exact calm_part _ _ _ | with_reducible exact calm_runtimePanic _ | with_reducible refine calm_map ?_ | with_reducible refine Calm.bind ?_ fun _ => ?_ | split | dsimp only
theorem calm_askRoom (n : Nat) : Calm P (askRoom n) := by
  unfold askRoom
  split
  · exact calm_noRoom
  · exact calm_pure _
theorem calm_asIntOf (v : Value) : Calm P (asIntOf v) := by
  unfold asIntOf
  split
  · exact calm_pure _
  · exact calm_unsupported _
  · exact calm_stuck _
theorem calm_asInt (v : Value) : Calm P (asInt v) := Calm.bind (calm_asIntOf _) fun _ => calm_pure _
theorem calm_asBool (v : Value) : Calm P (asBool v) := by
  unfold asBool
  split
  · exact calm_pure _
  · exact calm_stuck _
theorem calm_asAgg (v : Value) : Calm P (asAgg v) := by
  unfold asAgg
  split
  · exact calm_pure _
  · exact calm_stuck _
theorem calm_sureAddr (v : Value) : Calm P (Instr.sureAddr v) := by
  unfold Instr.sureAddr
  split
  · exact calm_pure _
  · exact calm_stuck _
theorem calm_asAddr (v : Value) : Calm P (asAddr v) := by
  unfold asAddr
  split
  · exact calm_pure _
  · exact calm_runtimePanic _
  · exact calm_stuck _

/-! ### the operations -/
theorem calm_alloc (t : TypeId) (v : Value) : Calm P (Instr.alloc t true v) := by
  unfold Instr.alloc
  refine Calm.bind (calm_zeroValue _) fun z => ?_
  exact Calm.bind (calm_newVar _ _) fun _ => calm_pure _
theorem calm_box (t : TypeId) (v : Value) : Calm P (Instr.box t v) := Calm.bind (calm_newVar _ _) fun _ => calm_pure _
theorem calm_mapM {α β : Type} {f : α → Sem β} (h : ∀ a, Calm P (f a)) : ∀ l : List α, Calm P (l.mapM f)
  | [] => by simp only [List.mapM_nil]; exact calm_pure _
  | a :: l => by
    simp only [List.mapM_cons]
    exact Calm.bind (h a) fun _ => Calm.bind (calm_mapM h l) fun _ => calm_pure _
theorem calm_mapM_array {α β : Type} {f : α → Sem β} (h : ∀ a, Calm P (f a)) (xs : Array α) : Calm P (xs.mapM f) := by
  rw [Array.mapM_eq_mapM_toList]
  exact Calm.bind (calm_mapM h _) fun _ => calm_pure _
theorem calm_build (t : TypeId) (ps : Array (Nat × Value)) : Calm P (Instr.build t ps) := by
  unfold Instr.build
  refine Calm.bind (calm_zeroValue _) fun z => Calm.bind (calm_underlying _) fun d => ?_
  split
  · refine Calm.bind (calm_mapM_array (fun _ => Calm.bind (calm_sizeOf _) fun _ => calm_pure _) _) fun _ => ?_
    split
    · exact calm_pure _
    · exact calm_stuck _
  · refine Calm.bind (calm_sizeOf _) fun _ => ?_
    split
    · exact calm_pure _
    · exact calm_stuck _
  · exact calm_stuck _
theorem calm_buildSlice (t : TypeId) (n : Nat) (ps : Array (Nat × Value)) : Calm P (Instr.buildSlice t n ps) := by
  unfold Instr.buildSlice
  repeat' first | with_reducible exact calm_pure _ | with_reducible exact calm_stuck _ | ((with_reducible refine calm_unsupported _ ?_); rfl) | with_reducible exact calm_goPanic _ | with_reducible exact calm_load _ | with_reducible exact calm_store _ _ | ((with_reducible refine calm_getObj _ (fun _ => ?_) ?_); rotate_left; focus (intro _ _; rfl)) | with_reducible exact calm_setMap _ _ _ | with_reducible exact calm_choose _ | with_reducible exact calm_typeInfo _ | with_reducible exact calm_underlying _ | with_reducible exact calm_zeroValue _ | with_reducible exact calm_sizeOf _ | with_reducible exact calm_isAgg _ | with_reducible exact calm_loadCells _ _ | with_reducible exact calm_storeCells _ _ _ | with_reducible exact calm_loadVar _ _ | with_reducible exact calm_newRow _ _ | with_reducible exact calm_newVar _ _ | with_reducible exact calm_elemOf _ | with_reducible exact calm_part _ _ _ | with_reducible exact calm_runtimePanic _ | with_reducible exact calm_boundsPanic _ _ _ _ | with_reducible exact calm_askRoom _ | with_reducible exact calm_asIntOf _ | with_reducible exact calm_asInt _ | with_reducible exact calm_asBool _ | with_reducible exact calm_asAgg _ | with_reducible exact calm_sureAddr _ | with_reducible exact calm_asAddr _ | with_reducible exact calm_noRoom | with_reducible refine calm_map ?_ | with_reducible refine Calm.bind ?_ fun _ => ?_ | split | dsimp only
theorem calm_loadAt (t : TypeId) (v : Value) : Calm P (Instr.loadAt t v) := Calm.bind (calm_sureAddr _) fun _ => calm_loadVar _ _
theorem calm_storeAt (t : TypeId) (v x : Value) : Calm P (Instr.storeAt t v x) := Calm.bind (calm_sureAddr _) fun _ => calm_storeVar _ _ _
theorem calm_indexAt (t : TypeId) (x i : Value) : Calm P (Instr.indexAt t x i) := by
  unfold Instr.indexAt
  repeat' first | with_reducible exact calm_pure _ | with_reducible exact calm_stuck _ | ((with_reducible refine calm_unsupported _ ?_); rfl) | with_reducible exact calm_goPanic _ | with_reducible exact calm_load _ | with_reducible exact calm_store _ _ | ((with_reducible refine calm_getObj _ (fun _ => ?_) ?_); rotate_left; focus (intro _ _; rfl)) | with_reducible exact calm_setMap _ _ _ | with_reducible exact calm_choose _ | with_reducible exact calm_typeInfo _ | with_reducible exact calm_underlying _ | with_reducible exact calm_zeroValue _ | with_reducible exact calm_sizeOf _ | with_reducible exact calm_isAgg _ | with_reducible exact calm_loadCells _ _ | with_reducible exact calm_storeCells _ _ _ | with_reducible exact calm_loadVar _ _ | with_reducible exact calm_newRow _ _ | with_reducible exact calm_newVar _ _ | with_reducible exact calm_elemOf _ | with_reducible exact calm_part _ _ _ | with_reducible exact calm_runtimePanic _ | with_reducible exact calm_boundsPanic _ _ _ _ | with_reducible exact calm_askRoom _ | with_reducible exact calm_asIntOf _ | with_reducible exact calm_asInt _ | with_reducible exact calm_asBool _ | with_reducible exact calm_asAgg _ | with_reducible exact calm_sureAddr _ | with_reducible exact calm_asAddr _ | with_reducible exact calm_noRoom | with_reducible refine calm_map ?_ | with_reducible refine Calm.bind ?_ fun _ => ?_ | split | dsimp only
theorem calm_sliceBound (x : Value) (y : Nat) (c : BoundsCode) : Calm P (Instr.sliceBound x y c) := by
  unfold Instr.sliceBound
  repeat' first | with_reducible exact calm_pure _ | with_reducible exact calm_stuck _ | ((with_reducible refine calm_unsupported _ ?_); rfl) | with_reducible exact calm_goPanic _ | with_reducible exact calm_load _ | with_reducible exact calm_store _ _ | ((with_reducible refine calm_getObj _ (fun _ => ?_) ?_); rotate_left; focus (intro _ _; rfl)) | with_reducible exact calm_setMap _ _ _ | with_reducible exact calm_choose _ | with_reducible exact calm_typeInfo _ | with_reducible exact calm_underlying _ | with_reducible exact calm_zeroValue _ | with_reducible exact calm_sizeOf _ | with_reducible exact calm_isAgg _ | with_reducible exact calm_loadCells _ _ | with_reducible exact calm_storeCells _ _ _ | with_reducible exact calm_loadVar _ _ | with_reducible exact calm_newRow _ _ | with_reducible exact calm_newVar _ _ | with_reducible exact calm_elemOf _ | with_reducible exact calm_part _ _ _ | with_reducible exact calm_runtimePanic _ | with_reducible exact calm_boundsPanic _ _ _ _ | with_reducible exact calm_askRoom _ | with_reducible exact calm_asIntOf _ | with_reducible exact calm_asInt _ | with_reducible exact calm_asBool _ | with_reducible exact calm_asAgg _ | with_reducible exact calm_sureAddr _ | with_reducible exact calm_asAddr _ | with_reducible exact calm_noRoom | with_reducible refine calm_map ?_ | with_reducible refine Calm.bind ?_ fun _ => ?_ | split | dsimp only
theorem calm_sliceBounds (b : Bool) (l c : Nat) (lo hi mx : Option Value) : Calm P (Instr.sliceBounds b l c lo hi mx) := by
  unfold Instr.sliceBounds
  repeat' first | with_reducible exact calm_pure _ | with_reducible exact calm_stuck _ | ((with_reducible refine calm_unsupported _ ?_); rfl) | with_reducible exact calm_goPanic _ | with_reducible exact calm_load _ | with_reducible exact calm_store _ _ | ((with_reducible refine calm_getObj _ (fun _ => ?_) ?_); rotate_left; focus (intro _ _; rfl)) | with_reducible exact calm_setMap _ _ _ | with_reducible exact calm_choose _ | with_reducible exact calm_typeInfo _ | with_reducible exact calm_underlying _ | with_reducible exact calm_zeroValue _ | with_reducible exact calm_sizeOf _ | with_reducible exact calm_isAgg _ | with_reducible exact calm_loadCells _ _ | with_reducible exact calm_storeCells _ _ _ | with_reducible exact calm_loadVar _ _ | with_reducible exact calm_newRow _ _ | with_reducible exact calm_newVar _ _ | with_reducible exact calm_elemOf _ | with_reducible exact calm_part _ _ _ | with_reducible exact calm_runtimePanic _ | with_reducible exact calm_boundsPanic _ _ _ _ | with_reducible exact calm_askRoom _ | with_reducible exact calm_asIntOf _ | with_reducible exact calm_asInt _ | with_reducible exact calm_asBool _ | with_reducible exact calm_asAgg _ | with_reducible exact calm_sureAddr _ | with_reducible exact calm_asAddr _ | with_reducible exact calm_noRoom | with_reducible exact calm_sliceBound _ _ _ | with_reducible refine calm_map ?_ | with_reducible refine Calm.bind ?_ fun _ => ?_ | split | dsimp only
theorem calm_slice (t : TypeId) (x : Value) (lo hi mx : Option Value) : Calm P (Instr.slice t x lo hi mx) := by
  unfold Instr.slice
  repeat' first | with_reducible exact calm_pure _ | with_reducible exact calm_stuck _ | ((with_reducible refine calm_unsupported _ ?_); rfl) | with_reducible exact calm_goPanic _ | with_reducible exact calm_load _ | with_reducible exact calm_store _ _ | ((with_reducible refine calm_getObj _ (fun _ => ?_) ?_); rotate_left; focus (intro _ _; rfl)) | with_reducible exact calm_setMap _ _ _ | with_reducible exact calm_choose _ | with_reducible exact calm_typeInfo _ | with_reducible exact calm_underlying _ | with_reducible exact calm_zeroValue _ | with_reducible exact calm_sizeOf _ | with_reducible exact calm_isAgg _ | with_reducible exact calm_loadCells _ _ | with_reducible exact calm_storeCells _ _ _ | with_reducible exact calm_loadVar _ _ | with_reducible exact calm_newRow _ _ | with_reducible exact calm_newVar _ _ | with_reducible exact calm_elemOf _ | with_reducible exact calm_part _ _ _ | with_reducible exact calm_runtimePanic _ | with_reducible exact calm_boundsPanic _ _ _ _ | with_reducible exact calm_askRoom _ | with_reducible exact calm_asIntOf _ | with_reducible exact calm_asInt _ | with_reducible exact calm_asBool _ | with_reducible exact calm_asAgg _ | with_reducible exact calm_sureAddr _ | with_reducible exact calm_asAddr _ | with_reducible exact calm_noRoom | with_reducible exact calm_sliceBounds _ _ _ _ _ _ | with_reducible refine calm_map ?_ | with_reducible refine Calm.bind ?_ fun _ => ?_ | split | dsimp only
theorem calm_sliceAt (t : TypeId) (x : Value) (lo hi mx : Option Value) : Calm P (Instr.sliceAt t x lo hi mx) := by
  unfold Instr.sliceAt
  repeat' first | with_reducible exact calm_pure _ | with_reducible exact calm_stuck _ | ((with_reducible refine calm_unsupported _ ?_); rfl) | with_reducible exact calm_goPanic _ | with_reducible exact calm_load _ | with_reducible exact calm_store _ _ | ((with_reducible refine calm_getObj _ (fun _ => ?_) ?_); rotate_left; focus (intro _ _; rfl)) | with_reducible exact calm_setMap _ _ _ | with_reducible exact calm_choose _ | with_reducible exact calm_typeInfo _ | with_reducible exact calm_underlying _ | with_reducible exact calm_zeroValue _ | with_reducible exact calm_sizeOf _ | with_reducible exact calm_isAgg _ | with_reducible exact calm_loadCells _ _ | with_reducible exact calm_storeCells _ _ _ | with_reducible exact calm_loadVar _ _ | with_reducible exact calm_newRow _ _ | with_reducible exact calm_newVar _ _ | with_reducible exact calm_elemOf _ | with_reducible exact calm_part _ _ _ | with_reducible exact calm_runtimePanic _ | with_reducible exact calm_boundsPanic _ _ _ _ | with_reducible exact calm_askRoom _ | with_reducible exact calm_asIntOf _ | with_reducible exact calm_asInt _ | with_reducible exact calm_asBool _ | with_reducible exact calm_asAgg _ | with_reducible exact calm_sureAddr _ | with_reducible exact calm_asAddr _ | with_reducible exact calm_noRoom | with_reducible exact calm_sliceBounds _ _ _ _ _ _ | with_reducible exact calm_slice _ _ _ _ _ | with_reducible refine calm_map ?_ | with_reducible refine Calm.bind ?_ fun _ => ?_ | split | dsimp only
theorem calm_makeSlice (t : TypeId) (l c : Value) : Calm P (Instr.makeSlice t l c) := by
  unfold Instr.makeSlice
  repeat' first | with_reducible exact calm_pure _ | with_reducible exact calm_stuck _ | ((with_reducible refine calm_unsupported _ ?_); rfl) | with_reducible exact calm_goPanic _ | with_reducible exact calm_load _ | with_reducible exact calm_store _ _ | ((with_reducible refine calm_getObj _ (fun _ => ?_) ?_); rotate_left; focus (intro _ _; rfl)) | with_reducible exact calm_setMap _ _ _ | with_reducible exact calm_choose _ | with_reducible exact calm_typeInfo _ | with_reducible exact calm_underlying _ | with_reducible exact calm_zeroValue _ | with_reducible exact calm_sizeOf _ | with_reducible exact calm_isAgg _ | with_reducible exact calm_loadCells _ _ | with_reducible exact calm_storeCells _ _ _ | with_reducible exact calm_loadVar _ _ | with_reducible exact calm_newRow _ _ | with_reducible exact calm_newVar _ _ | with_reducible exact calm_elemOf _ | with_reducible exact calm_part _ _ _ | with_reducible exact calm_runtimePanic _ | with_reducible exact calm_boundsPanic _ _ _ _ | with_reducible exact calm_askRoom _ | with_reducible exact calm_asIntOf _ | with_reducible exact calm_asInt _ | with_reducible exact calm_asBool _ | with_reducible exact calm_asAgg _ | with_reducible exact calm_sureAddr _ | with_reducible exact calm_asAddr _ | with_reducible exact calm_noRoom | with_reducible refine calm_map ?_ | with_reducible refine Calm.bind ?_ fun _ => ?_ | split | dsimp only
theorem calm_makeMap (t : TypeId) : Calm P (Instr.makeMap t none) := Calm.bind (calm_newObj _) fun _ => calm_pure _
theorem calm_extract (v : Value) (i : Nat) : Calm P (Instr.extract v i) := by
  unfold Instr.extract
  repeat' first | with_reducible exact calm_pure _ | with_reducible exact calm_stuck _ | ((with_reducible refine calm_unsupported _ ?_); rfl) | with_reducible exact calm_goPanic _ | with_reducible exact calm_load _ | with_reducible exact calm_store _ _ | ((with_reducible refine calm_getObj _ (fun _ => ?_) ?_); rotate_left; focus (intro _ _; rfl)) | with_reducible exact calm_setMap _ _ _ | with_reducible exact calm_choose _ | with_reducible exact calm_typeInfo _ | with_reducible exact calm_underlying _ | with_reducible exact calm_zeroValue _ | with_reducible exact calm_sizeOf _ | with_reducible exact calm_isAgg _ | with_reducible exact calm_loadCells _ _ | with_reducible exact calm_storeCells _ _ _ | with_reducible exact calm_loadVar _ _ | with_reducible exact calm_newRow _ _ | with_reducible exact calm_newVar _ _ | with_reducible exact calm_elemOf _ | with_reducible exact calm_part _ _ _ | with_reducible exact calm_runtimePanic _ | with_reducible exact calm_boundsPanic _ _ _ _ | with_reducible exact calm_askRoom _ | with_reducible exact calm_asIntOf _ | with_reducible exact calm_asInt _ | with_reducible exact calm_asBool _ | with_reducible exact calm_asAgg _ | with_reducible exact calm_sureAddr _ | with_reducible exact calm_asAddr _ | with_reducible exact calm_noRoom | with_reducible refine calm_map ?_ | with_reducible refine Calm.bind ?_ fun _ => ?_ | split | dsimp only
theorem calm_len (ts : Array TypeId) (t : TypeId) (args : Array Value) : Calm P (Builtin.len_ ts t args) := by
  unfold Builtin.len_
  repeat' first | with_reducible exact calm_pure _ | with_reducible exact calm_stuck _ | ((with_reducible refine calm_unsupported _ ?_); rfl) | with_reducible exact calm_goPanic _ | with_reducible exact calm_load _ | with_reducible exact calm_store _ _ | ((with_reducible refine calm_getObj _ (fun _ => ?_) ?_); rotate_left; focus (intro _ _; rfl)) | with_reducible exact calm_setMap _ _ _ | with_reducible exact calm_choose _ | with_reducible exact calm_typeInfo _ | with_reducible exact calm_underlying _ | with_reducible exact calm_zeroValue _ | with_reducible exact calm_sizeOf _ | with_reducible exact calm_isAgg _ | with_reducible exact calm_loadCells _ _ | with_reducible exact calm_storeCells _ _ _ | with_reducible exact calm_loadVar _ _ | with_reducible exact calm_newRow _ _ | with_reducible exact calm_newVar _ _ | with_reducible exact calm_elemOf _ | with_reducible exact calm_part _ _ _ | with_reducible exact calm_runtimePanic _ | with_reducible exact calm_boundsPanic _ _ _ _ | with_reducible exact calm_askRoom _ | with_reducible exact calm_asIntOf _ | with_reducible exact calm_asInt _ | with_reducible exact calm_asBool _ | with_reducible exact calm_asAgg _ | with_reducible exact calm_sureAddr _ | with_reducible exact calm_asAddr _ | with_reducible exact calm_noRoom | with_reducible refine calm_map ?_ | with_reducible refine Calm.bind ?_ fun _ => ?_ | split | dsimp only

theorem sem_bind_assoc {α β γ : Type} (s : Sem α) (g : α → Sem β) (f : β → Sem γ) : (s >>= g) >>= f = s >>= fun a => g a >>= f := by
  show (s.bind g).bind f = s.bind fun a => (g a).bind f
  induction s with
  | pure a => rfl
  | load m a k ih => simp only [Sem.bind]; congr 1; funext v; exact ih v
  | store m a v k ih => simp only [Sem.bind]; congr 1
  | new o k ih => simp only [Sem.bind]; congr 1; funext v; exact ih v
  | shape r k ih => simp only [Sem.bind]; congr 1; funext v; exact ih v
  | freeze a n k ih => simp only [Sem.bind]; congr 1
  | frozen a k ih => simp only [Sem.bind]; congr 1; funext v; exact ih v
  | getObj r k ih => simp only [Sem.bind]; congr 1; funext v; exact ih v
  | setObj r o k ih => simp only [Sem.bind]; congr 1
  | choose q k ih => simp only [Sem.bind]; congr 1; funext v; exact ih v
  | sys c k ih => simp only [Sem.bind]; congr 1; funext v; exact ih v
  | program k ih => simp only [Sem.bind]; congr 1; funext v; exact ih v
  | mark m k ih => simp only [Sem.bind]; congr 1
  | halt x => rfl

/-- It only looks, ahead of what never yields. -/
def Peek (P : Program) {α : Type} (s : Sem α) : Prop := ∀ (β : Type) (f : α → Sem β), (∀ a, Calm P (f a)) → (∀ a, NoOk P (f a)) → Calm P (s >>= f) ∧ NoOk P (s >>= f)
theorem Peek.bind {α β : Type} {s : Sem α} {g : α → Sem β} (h : Peek P s) (hg : ∀ a, Peek P (g a)) : Peek P (s >>= g) := by
  intro γ f h1 h2
  rw [sem_bind_assoc]
  exact h _ _ (fun a => (hg a _ f h1 h2).1) (fun a => (hg a _ f h1 h2).2)
theorem peek_pure {α : Type} (a : α) : Peek P (pure a : Sem α) := fun β f h1 h2 => ⟨h1 a, h2 a⟩
theorem peek_frozen (a : Addr) : Peek P (frozen a) := fun β f h1 h2 => ⟨fun b => h1 b, fun w x w' h => h2 _ _ _ _ h⟩
theorem peek_shape (r : Nat) : Peek P (shape r) := fun β f h1 h2 => ⟨⟨fun s => h1 s, fun e n => .inr (h2 _)⟩, fun w x w' h => h2 _ _ _ _ h⟩
theorem peek_holdsCells (a : Addr) (n : Nat) : Peek P (Builtin.holdsCells a n) := by
  unfold Builtin.holdsCells
  refine Peek.bind (peek_shape _) fun s => ?_
  split <;> exact peek_pure _
theorem peek_mayShare (a b c : Nat) (base : Option Addr) (x : Value) : Peek P (Builtin.mayShare a b c base x) := by
  unfold Builtin.mayShare
  repeat' first | with_reducible exact peek_pure _ | with_reducible exact peek_frozen _ | with_reducible exact peek_holdsCells _ _ | with_reducible refine Peek.bind ?_ fun _ => ?_ | split | dsimp only
theorem calm_peek {α β : Type} {s : Sem α} {f : α → Sem β} (h : Peek P s) (h1 : ∀ a, Calm P (f a)) (h2 : ∀ a, NoOk P (f a)) : Calm P (s >>= f) := (h _ f h1 h2).1
theorem noOk_mark {α : Type} (m : Mark) {s : Sem α} (h : NoOk P s) : NoOk P (mark m >>= fun _ => s) := fun w x w' hr => h w x w' hr

theorem calm_lenOf (v : Value) : Calm P (Builtin.lenOf v) := by
  unfold Builtin.lenOf
  repeat' first | with_reducible exact calm_pure _ | with_reducible exact calm_stuck _ | ((with_reducible refine calm_unsupported _ ?_); rfl) | with_reducible exact calm_goPanic _ | with_reducible exact calm_load _ | with_reducible exact calm_store _ _ | ((with_reducible refine calm_getObj _ (fun _ => ?_) ?_); rotate_left; focus (intro _ _; rfl)) | with_reducible exact calm_setMap _ _ _ | with_reducible exact calm_choose _ | with_reducible exact calm_typeInfo _ | with_reducible exact calm_underlying _ | with_reducible exact calm_zeroValue _ | with_reducible exact calm_sizeOf _ | with_reducible exact calm_isAgg _ | with_reducible exact calm_loadCells _ _ | with_reducible exact calm_storeCells _ _ _ | with_reducible exact calm_loadVar _ _ | with_reducible exact calm_newRow _ _ | with_reducible exact calm_newVar _ _ | with_reducible exact calm_elemOf _ | with_reducible exact calm_part _ _ _ | with_reducible exact calm_runtimePanic _ | with_reducible exact calm_boundsPanic _ _ _ _ | with_reducible exact calm_askRoom _ | with_reducible exact calm_asIntOf _ | with_reducible exact calm_asInt _ | with_reducible exact calm_asBool _ | with_reducible exact calm_asAgg _ | with_reducible exact calm_sureAddr _ | with_reducible exact calm_asAddr _ | with_reducible exact calm_noRoom | with_reducible refine calm_map ?_ | with_reducible refine Calm.bind ?_ fun _ => ?_ | split | dsimp only
theorem calm_firstCells (a b : Nat) (v : Value) : Calm P (Builtin.firstCells a b v) := by
  unfold Builtin.firstCells
  repeat' first | with_reducible exact calm_pure _ | with_reducible exact calm_stuck _ | ((with_reducible refine calm_unsupported _ ?_); rfl) | with_reducible exact calm_goPanic _ | with_reducible exact calm_load _ | with_reducible exact calm_store _ _ | ((with_reducible refine calm_getObj _ (fun _ => ?_) ?_); rotate_left; focus (intro _ _; rfl)) | with_reducible exact calm_setMap _ _ _ | with_reducible exact calm_choose _ | with_reducible exact calm_typeInfo _ | with_reducible exact calm_underlying _ | with_reducible exact calm_zeroValue _ | with_reducible exact calm_sizeOf _ | with_reducible exact calm_isAgg _ | with_reducible exact calm_loadCells _ _ | with_reducible exact calm_storeCells _ _ _ | with_reducible exact calm_loadVar _ _ | with_reducible exact calm_newRow _ _ | with_reducible exact calm_newVar _ _ | with_reducible exact calm_elemOf _ | with_reducible exact calm_part _ _ _ | with_reducible exact calm_runtimePanic _ | with_reducible exact calm_boundsPanic _ _ _ _ | with_reducible exact calm_askRoom _ | with_reducible exact calm_asIntOf _ | with_reducible exact calm_asInt _ | with_reducible exact calm_asBool _ | with_reducible exact calm_asAgg _ | with_reducible exact calm_sureAddr _ | with_reducible exact calm_asAddr _ | with_reducible exact calm_noRoom | with_reducible refine calm_map ?_ | with_reducible refine Calm.bind ?_ fun _ => ?_ | split | dsimp only
theorem calm_append (ts : Array TypeId) (t : TypeId) (args : Array Value) : Calm P (Builtin.append_ ts t args) := by
  unfold Builtin.append_
  split
  · refine Calm.bind (calm_underlying _) fun d => ?_
    split
    · split
      · refine Calm.bind (calm_sizeOf _) fun size => ?_
        extract_lets jpU jpZ
        have hU : ∀ u, Calm P (jpU u) := fun u => calm_unsupported _
        have hU' : ∀ u, NoOk P (jpU u) := fun u => noOk_unsupported _
        have h1 : ∀ zeros, Calm P (jpZ zeros) := by
          intro zeros
          dsimp -zeta only [jpZ]
          extract_lets jpN
          have h2 : ∀ n, Calm P (jpN n) := by
            intro n
            dsimp -zeta only [jpN]
            extract_lets appended need jpR jpK jpG
            have ha : Calm P appended := by
              dsimp only [appended]
              repeat' first | with_reducible exact calm_lenOf _ | with_reducible exact calm_firstCells _ _ _ | with_reducible refine calm_peek (peek_mayShare _ _ _ _ _) (fun _ => ?_) (fun _ => ?_) | with_reducible exact calm_pure _ | with_reducible exact calm_stuck _ | ((with_reducible refine calm_unsupported _ ?_); rfl) | with_reducible exact calm_goPanic _ | with_reducible exact calm_load _ | with_reducible exact calm_store _ _ | ((with_reducible refine calm_getObj _ (fun _ => ?_) ?_); rotate_left; focus (intro _ _; rfl)) | with_reducible exact calm_setMap _ _ _ | with_reducible exact calm_choose _ | with_reducible exact calm_typeInfo _ | with_reducible exact calm_underlying _ | with_reducible exact calm_zeroValue _ | with_reducible exact calm_sizeOf _ | with_reducible exact calm_isAgg _ | with_reducible exact calm_loadCells _ _ | with_reducible exact calm_storeCells _ _ _ | with_reducible exact calm_loadVar _ _ | with_reducible exact calm_newRow _ _ | with_reducible exact calm_newVar _ _ | with_reducible exact calm_elemOf _ | with_reducible exact calm_part _ _ _ | with_reducible exact calm_runtimePanic _ | with_reducible exact calm_boundsPanic _ _ _ _ | with_reducible exact calm_askRoom _ | with_reducible exact calm_asIntOf _ | with_reducible exact calm_asInt _ | with_reducible exact calm_asBool _ | with_reducible exact calm_asAgg _ | with_reducible exact calm_sureAddr _ | with_reducible exact calm_asAddr _ | with_reducible exact calm_noRoom | with_reducible refine calm_map ?_ | with_reducible refine Calm.bind ?_ fun _ => ?_ | split | dsimp only
            have hR : ∀ u, Calm P (jpR u) := fun u => calm_pure _
            have h4 : ∀ u, Calm P (jpK u) := by
              intro u
              dsimp only [jpK]
              repeat' first | exact ha | with_reducible exact calm_lenOf _ | with_reducible exact calm_firstCells _ _ _ | with_reducible refine calm_peek (peek_mayShare _ _ _ _ _) (fun _ => ?_) (fun _ => ?_) | with_reducible exact calm_pure _ | with_reducible exact calm_stuck _ | ((with_reducible refine calm_unsupported _ ?_); rfl) | with_reducible exact calm_goPanic _ | with_reducible exact calm_load _ | with_reducible exact calm_store _ _ | ((with_reducible refine calm_getObj _ (fun _ => ?_) ?_); rotate_left; focus (intro _ _; rfl)) | with_reducible exact calm_setMap _ _ _ | with_reducible exact calm_choose _ | with_reducible exact calm_typeInfo _ | with_reducible exact calm_underlying _ | with_reducible exact calm_zeroValue _ | with_reducible exact calm_sizeOf _ | with_reducible exact calm_isAgg _ | with_reducible exact calm_loadCells _ _ | with_reducible exact calm_storeCells _ _ _ | with_reducible exact calm_loadVar _ _ | with_reducible exact calm_newRow _ _ | with_reducible exact calm_newVar _ _ | with_reducible exact calm_elemOf _ | with_reducible exact calm_part _ _ _ | with_reducible exact calm_runtimePanic _ | with_reducible exact calm_boundsPanic _ _ _ _ | with_reducible exact calm_askRoom _ | with_reducible exact calm_asIntOf _ | with_reducible exact calm_asInt _ | with_reducible exact calm_asBool _ | with_reducible exact calm_asAgg _ | with_reducible exact calm_sureAddr _ | with_reducible exact calm_asAddr _ | with_reducible exact calm_noRoom | with_reducible refine calm_map ?_ | with_reducible refine Calm.bind ?_ fun _ => ?_ | split | dsimp only
            have h3 : ∀ u, Calm P (jpG u) := by
              intro u
              dsimp -zeta only [jpG]
              refine Calm.bind (calm_typeInfo _) fun ti => ?_
              split
              · refine Calm.bind ?_ h4
                split
                · exact calm_runtimePanic _
                · refine calm_peek (peek_mayShare _ _ _ _ _) (fun b => ?_) (fun b => ?_)
                  · split
                    · exact Calm.bind calm_noRoom hU
                    · exact hU ()
                  · split
                    · exact noOk_mark _ (hU' ())
                    · exact hU' ()
              · exact h4 ()
            split
            · refine Calm.bind ha fun new => ?_
              split
              · exact Calm.bind (calm_storeCells _ _ _) hR
              · exact hR ()
            · refine Calm.bind (calm_typeInfo _) fun ti => ?_
              split
              · exact Calm.bind (calm_runtimePanic _) h3
              · exact h3 ()
          clear_value jpN
          repeat' first | exact h2 _ | with_reducible refine Calm.bind ?_ h2 | with_reducible exact calm_lenOf _ | with_reducible exact calm_firstCells _ _ _ | with_reducible refine calm_peek (peek_mayShare _ _ _ _ _) (fun _ => ?_) (fun _ => ?_) | with_reducible exact calm_pure _ | with_reducible exact calm_stuck _ | ((with_reducible refine calm_unsupported _ ?_); rfl) | with_reducible exact calm_goPanic _ | with_reducible exact calm_load _ | with_reducible exact calm_store _ _ | ((with_reducible refine calm_getObj _ (fun _ => ?_) ?_); rotate_left; focus (intro _ _; rfl)) | with_reducible exact calm_setMap _ _ _ | with_reducible exact calm_choose _ | with_reducible exact calm_typeInfo _ | with_reducible exact calm_underlying _ | with_reducible exact calm_zeroValue _ | with_reducible exact calm_sizeOf _ | with_reducible exact calm_isAgg _ | with_reducible exact calm_loadCells _ _ | with_reducible exact calm_storeCells _ _ _ | with_reducible exact calm_loadVar _ _ | with_reducible exact calm_newRow _ _ | with_reducible exact calm_newVar _ _ | with_reducible exact calm_elemOf _ | with_reducible exact calm_part _ _ _ | with_reducible exact calm_runtimePanic _ | with_reducible exact calm_boundsPanic _ _ _ _ | with_reducible exact calm_askRoom _ | with_reducible exact calm_asIntOf _ | with_reducible exact calm_asInt _ | with_reducible exact calm_asBool _ | with_reducible exact calm_asAgg _ | with_reducible exact calm_sureAddr _ | with_reducible exact calm_asAddr _ | with_reducible exact calm_noRoom | with_reducible refine calm_map ?_ | with_reducible refine Calm.bind ?_ fun _ => ?_ | split | dsimp only
        clear_value jpZ
        repeat' first | exact h1 _ | with_reducible refine Calm.bind ?_ h1 | with_reducible exact calm_lenOf _ | with_reducible exact calm_firstCells _ _ _ | with_reducible refine calm_peek (peek_mayShare _ _ _ _ _) (fun _ => ?_) (fun _ => ?_) | with_reducible exact calm_pure _ | with_reducible exact calm_stuck _ | ((with_reducible refine calm_unsupported _ ?_); rfl) | with_reducible exact calm_goPanic _ | with_reducible exact calm_load _ | with_reducible exact calm_store _ _ | ((with_reducible refine calm_getObj _ (fun _ => ?_) ?_); rotate_left; focus (intro _ _; rfl)) | with_reducible exact calm_setMap _ _ _ | with_reducible exact calm_choose _ | with_reducible exact calm_typeInfo _ | with_reducible exact calm_underlying _ | with_reducible exact calm_zeroValue _ | with_reducible exact calm_sizeOf _ | with_reducible exact calm_isAgg _ | with_reducible exact calm_loadCells _ _ | with_reducible exact calm_storeCells _ _ _ | with_reducible exact calm_loadVar _ _ | with_reducible exact calm_newRow _ _ | with_reducible exact calm_newVar _ _ | with_reducible exact calm_elemOf _ | with_reducible exact calm_part _ _ _ | with_reducible exact calm_runtimePanic _ | with_reducible exact calm_boundsPanic _ _ _ _ | with_reducible exact calm_askRoom _ | with_reducible exact calm_asIntOf _ | with_reducible exact calm_asInt _ | with_reducible exact calm_asBool _ | with_reducible exact calm_asAgg _ | with_reducible exact calm_sureAddr _ | with_reducible exact calm_asAddr _ | with_reducible exact calm_noRoom | with_reducible refine calm_map ?_ | with_reducible refine Calm.bind ?_ fun _ => ?_ | split | dsimp only
      · exact calm_stuck _
    · exact calm_stuck _
  · exact calm_stuck _
end
end Go.Proofs.Ytajheicheefpeaa
