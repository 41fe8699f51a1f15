/- Contracts of the reference's and the program's ChecksOf. -/
import Derived.Test.YtajheicheefpeaaStoreImpl
import Derived.Test.YtajheicheefpeaaSum
import Derived.Test.YtajheicheefpeaaAppXc
import Derived.StillTailTactics
import Derived.Deep.RegionHeld3
import Derived.Outline
namespace Go.Proofs.Ytajheicheefpeaa
open Go.RowKit
set_option linter.unusedVariables false

/-- The sums of some blocks. -/
def sumsL (vs : List (Int × List Int × Int)) : List (Int × Int) := vs.map fun v => (v.1, sumL v.2.1)
/-- What ChecksOf answers. -/
def checksR (vs : List (Int × List Int × Int)) : List (Int × Int) × Bool := if storeV vs = true then (sumsL vs, true) else ([], false)

/-- A new list of sums and whether it is fine. -/
def RetC (w : World) (r : List (Int × Int) × Bool) (e : Ending) (w' : World) : Prop :=
  ∃ a c, e = .returned (.tuple #[.slice a r.1.length c, .bool r.2]) ∧ OwnX w' w.heap.size a c r.1 ∧ Below w.heap.size w w'

theorem store_ok {vs : List (Int × List Int × Int)} (h : storeV vs = true) {k : Nat} {v : Int × List Int × Int} (hv : vs[k]? = some v) : inB v.1 1 99 = true ∧ blockV v.2.1 = true ∧ inB v.2.2 1 999 = true := by
  have h1 := goodAt_ok ((chainV_iff.1 (storeV_iff.1 h).1).2 k (List.getElem?_eq_some_iff.1 hv).1) hv
  simp only [okH, Bool.and_eq_true] at h1
  exact ⟨h1.1.1, h1.1.2, h1.2⟩

theorem store_len {vs : List (Int × List Int × Int)} (h : storeV vs = true) : vs.length ≤ 16 := (chainV_iff.1 (storeV_iff.1 h).1).1

theorem sumsL_take {xs : List HV} {k : Nat} {x : HV} (h : xs[k]? = some x) : sumsL (valsH (xs.take (k + 1))) = sumsL (valsH (xs.take k)) ++ [(x.id, sumL x.zs)] := by
  obtain ⟨hk, rfl⟩ := List.getElem?_eq_some_iff.1 h
  rw [List.take_succ_eq_append_getElem hk]
  unfold sumsL valsH
  rw [List.map_append, List.map_append]
  rfl

theorem blockV_allB {zs : List Int} (h : blockV zs = true) : allB zs = true := by
  unfold blockV at h
  simp only [Bool.and_eq_true] at h
  exact h.1

theorem inB_bd {x lo hi : Int} (h : inB x lo hi = true) : lo ≤ x ∧ x ≤ hi := by simpa [inB] using h

theorem newC (W : World) (f m : Int) : ∀ j u, (flatX [(f, m)])[j]? = some u → (W.alloc (.cells #[.int .i64 f, .int .i64 m] 53)).cell? ((⟨W.heap.size, 0, none⟩ : Addr).add j) = some u := by
  intro j u hj
  rw [Addr.add_lit, cell_of_row _ W.heap.size _ _ _ (0, 0) (heap_alloc_new W _)]
  simpa [flatX] using hj

theorem wfC {f m : Int} (h0 : -9223372036854775808 ≤ f) (h1 : f ≤ 9223372036854775807) (h2 : -9223372036854775808 ≤ m) (h3 : m ≤ 9223372036854775807) : WfX [(f, m)] := by
  intro z hz
  simp at hz
  subst hz
  exact ⟨⟨h0, h1⟩, h2, h3⟩

theorem two_keep {W W' : World} {r : Option Nat} {p q : Addr} {u v : Value} (h : W.cell? p = some u ∧ W.cell? q = some v) (hg : W.grownBy W' r) (hp : some p.block ≠ r) (hq : some q.block ≠ r) : W'.cell? p = some u ∧ W'.cell? q = some v := ⟨hg.cell h.1 hp, hg.cell h.2 hq⟩

theorem two_alloc {W : World} {o : Obj} {p q : Addr} {u v : Value} (h : W.cell? p = some u ∧ W.cell? q = some v) (hp : p.block < W.heap.size) (hq : q.block < W.heap.size) : (W.alloc o).cell? p = some u ∧ (W.alloc o).cell? q = some v :=
  ⟨(World.cell?_alloc_lt W o p hp).trans h.1, (World.cell?_alloc_lt W o q hq).trans h.2⟩

set_option maxRecDepth 100000 in
set_option maxHeartbeats 1000000 in
theorem specChecksOf_any (a : Option Addr) (n c : Nat) (xs : List HV) (w : World) (hr : RdR eltH w a n xs) (hi : InH w xs) (hs : ∀ x ∈ xs, x.zs.length ≤ 4611686018427387904) (hn : n ≤ 4611686018427387904) :
    Calls Try.prog 9 #[.slice a n c] w (RetC w (checksR (valsH xs))) := by
  have hl := Lib.hid hr.1
  have HI := Lib.hid hi
  have HS := Lib.hid hs
  have hb0 : Below w.heap.size w (w.alloc (.cells #[] 53)) := (Below.refl _ _).alloc (Nat.le_refl _) _
  have hO0 : OwnX (w.alloc (.cells #[] 53)) w.heap.size (some ⟨w.heap.size, 0, none⟩) 0 [] := OwnX.empty (Nat.le_refl _)
  have K := specStoreValid_any a n c xs _ (hr.below hb0) (hi.below hb0) hs hn
  obtain ⟨v, hv⟩ : ∃ v, storeV (valsH xs) = v := ⟨_, rfl⟩
  rw [hv] at K
  have HV' := Lib.hid hv
  clear hi hs hv
  go_enter Try.func9, Try.ntmps9
  go_wp2_with fail
  with_reducible refine K.mono ?_
  rintro e w1 ⟨rfl, hb⟩
  have hb1 := hb0.trans (hb.mono hb0.size)
  have hO1 := hO0.below hb
  clear hb hb0 hO0 K
  cases v with
  | false =>
    have HF := Lib.hid (show checksR (valsH xs) = ([], false) by unfold checksR; rw [HV'.out]; rfl)
    go_wp2
    go_ret2
    rw [HF.out]
    exact ⟨_, _, rfl, hO1, hb1⟩
  | true =>
    have HF := Lib.hid (show checksR (valsH xs) = (sumsL (valsH xs), true) by unfold checksR; rw [HV'.out]; rfl)
    have hn16 : n ≤ 16 := by have := store_len HV'.out; rw [valsH_len, hl.out] at this; exact this
    go_wp2
    go_loopw [4, 5] (fun v i wr => ∃ k : Nat, k ≤ n ∧ i = .int .i64 k ∧ ∃ zs a' c' L, v = .slice a' L c' ∧ zs.length = L ∧ L ≤ k ∧ Hid (zs = sumsL (valsH (xs.take k))) ∧ OwnX wr w.heap.size a' c' zs ∧ Below w.heap.size w wr)
      (fun _ i _ => n - (intOf i).toNat)
    case atStart => exact ⟨0, Nat.zero_le _, rfl, [], _, _, 0, rfl, rfl, Nat.le_refl _, Lib.hid rfl, hO1, hb1⟩
    case round =>
      clear hO1 hb1
      obtain ⟨k, hk, rfl, zs, a', c', L, rfl, hz, hLk, hzs, hO, hb⟩ := hrel
      by_cases hlt : k < n
      · obtain ⟨b, off, x, rfl, hbl, hx, c0, c1, c2⟩ := atH hr hlt
        have hok := store_ok HV'.out (valsH_get hx)
        have hx1 := (HI.out x (List.mem_of_getElem? hx)).below hb
        have hx2 := HS.out x (List.mem_of_getElem? hx)
        have ht := sumsL_take hx
        obtain ⟨q, hq⟩ : ∃ q, sumL x.zs = q := ⟨_, rfl⟩
        have hqb := sumL_bd x.zs
        have K := still_of (l2Sum_any x.ad x.zs.length x.cp x.zs wr.drew hx1 (blockV_allB hok.2.1) hx2)
        have hidb : 1 ≤ x.id ∧ x.id ≤ 99 := inB_bd hok.1
        rw [hq] at ht hqb K
        have HT : Hid (zs ++ [(x.id, q)] = sumsL (valsH (xs.take (k + 1)))) := Lib.hid (by rw [hzs.out, ht])
        have HW := Lib.hid (wfC (f := x.id) (m := q) (by omega) (by omega) (by omega) (by omega))
        have hk0 : (0 : Int) ≤ (k : Int) := by omega
        have hk1 : (k : Int) < (n : Int) := by omega
        have hbd : Below w.heap.size w wr.drew := below_drewN hb 1
        have hsz : w.heap.size ≤ wr.heap.size := hb.size
        have hOd : OwnX wr.drew w.heap.size a' c' zs := hO
        have hcc : wr.drew.cell? ⟨b, off + k * 3, none⟩ = some (.int .i64 x.id) ∧ wr.drew.cell? ⟨b, off + k * 3 + 1, none⟩ = some (.slice x.ad x.zs.length x.cp) :=
          ⟨(hbd.cell (p := ⟨b, off + k * 3, none⟩) hbl).trans c0, (hbd.cell (p := ⟨b, off + k * 3 + 1, none⟩) hbl).trans c1⟩
        have hlt2 : b < wr.drew.heap.size := Nat.lt_of_lt_of_le hbl hbd.size
        have hne : some b ≠ (Value.slice a' L c').ownBlock := fun h => by have := hOd.2.lt b (by rw [hz]; exact h.symm); omega
        have HN := Lib.hid (newC wr.drew x.id q)
        clear hx hok ht hq hx1 hO hb hzs c0 c1 c2 hr
        go_wp2_with fail
        go_region_held3 (fun w' => w'.cell? ⟨b, off + k * 3, none⟩ = some (.int .i64 x.id) ∧ w'.cell? ⟨b, off + k * 3 + 1, none⟩ = some (.slice x.ad x.zs.length x.cp)) (first | exact hcc | exact two_alloc hcc hlt2 hlt2 | exact two_keep (two_alloc hcc hlt2 hlt2) hG2 hne hne)
          (first
            | (go_at_call 33; refine K.mono ?_; rintro e w3 ⟨rfl, rfl⟩)
            | (refine step_appX (by rfl) _ _ (by rfl) hz (by rfl) (hOd.alloc _) ⟨wr.drew.heap.size, 0, none⟩ 1 1 [(x.id, q)] (by rfl) rfl HN.out HW.out (by omega) (by simp; omega) ?_; intro a2 c2 w2 hO2 hG2))
        have hlen2 : (zs ++ [(x.id, q)]).length = L + 1 := by simp [hz]
        have hb2 := (hbd.alloc hbd.size (.cells #[.int .i64 x.id, .int .i64 q] 53)).grown hG2 (by simp; omega) (by rw [← hz]; exact fun r hr => (hOd.2.lt r hr).1)
        clear hG2 hOd hbd HN hcc K
        go_wp2
        go_roundw
        case rel => exact ⟨k + 1, by omega, by go_num, _, a2, c2, L + 1, rfl, hlen2, by omega, HT, hO2, hb2⟩
        case measure => simp [intOf]; omega
      · obtain rfl : k = n := by omega
        have HR : Hid (zs = sumsL (valsH xs)) := Lib.hid (by rw [hzs.out, List.take_of_length_le (by have := hl.out; omega)])
        go_wp2
        go_ret2
        rw [HF.out]
        rw [HR.out] at hz hO
        exact ⟨a', c', by rw [← hz]; rfl, hO, hb⟩

set_option maxRecDepth 100000 in
set_option maxHeartbeats 1000000 in
theorem implChecksOf_any (a : Option Addr) (n c : Nat) (xs : List HV) (w : World) (hr : RdR eltH w a n xs) (hi : InH w xs) (hs : ∀ x ∈ xs, x.zs.length ≤ 4611686018427387904) (hn : n ≤ c) (hc : c ≤ 9223372036854775807) :
    Calls Try.prog 11 #[.slice a n c] w (RetC w (checksR (valsH xs))) := by
  have hl := Lib.hid hr.1
  have HI := Lib.hid hi
  have HS := Lib.hid hs
  have K := implStoreValid_any a n c xs w hr hi hs hn hc
  obtain ⟨v, hv⟩ : ∃ v, storeV (valsH xs) = v := ⟨_, rfl⟩
  rw [hv] at K
  have HV' := Lib.hid hv
  clear hi hs hv
  go_enter Try.func11, Try.ntmps11
  go_wp2_with fail
  with_reducible refine K.mono ?_
  rintro e w1 ⟨rfl, hb1⟩
  clear K
  cases v with
  | false =>
    have HF := Lib.hid (show checksR (valsH xs) = ([], false) by unfold checksR; rw [HV'.out]; rfl)
    go_wp2
    go_ret2
    rw [HF.out]
    exact ⟨none, 0, rfl, OwnX.nil _ _, hb1⟩
  | true =>
    have HF := Lib.hid (show checksR (valsH xs) = (sumsL (valsH xs), true) by unfold checksR; rw [HV'.out]; rfl)
    have hn16 : n ≤ 16 := by have := store_len HV'.out; rw [valsH_len, hl.out] at this; exact this
    have hO1 : OwnX w1 w.heap.size none 0 [] := OwnX.nil _ _
    go_wp2
    go_loopw [4, 12] (fun v i wr => ∃ k : Nat, k ≤ n ∧ i = .int .i64 k ∧ ∃ zs a' c' L, v = .slice a' L c' ∧ zs.length = L ∧ L ≤ k ∧ Hid (zs = sumsL (valsH (xs.take k))) ∧ OwnX wr w.heap.size a' c' zs ∧ Below w.heap.size w wr)
      (fun _ i _ => n - (intOf i).toNat)
    case atStart => exact ⟨0, Nat.zero_le _, rfl, [], _, _, 0, rfl, rfl, Nat.le_refl _, Lib.hid rfl, hO1, hb1⟩
    case round =>
      clear hO1 hb1
      obtain ⟨k, hk, rfl, zs, a', c', L, rfl, hz, hLk, hzs, hO, hb⟩ := hrel
      by_cases hlt : k < n
      · obtain ⟨b, off, x, rfl, hbl, hx, c0, c1, c2⟩ := atH (hr.below hb) hlt
        have hok := store_ok HV'.out (valsH_get hx)
        have hx2 := HS.out x (List.mem_of_getElem? hx)
        have ht := sumsL_take hx
        have hidb : 1 ≤ x.id ∧ x.id ≤ 99 := inB_bd hok.1
        have hqb := sumL_bd x.zs
        have hbx := one_boxH wr (.int .i64 x.id) (.slice x.ad x.zs.length x.cp) (.int .i64 x.us) 45
        have hHl := hbx.1
        have q0 := hbx.2.1
        have q1 := hbx.2.2.1
        have q2 := hbx.2.2.2
        have hbw := hb.alloc hb.size (.cells #[.int .i64 x.id, .slice x.ad x.zs.length x.cp, .int .i64 x.us] 45)
        have hx1 := (HI.out x (List.mem_of_getElem? hx)).below hbw
        have hOw := hO.alloc (.cells #[.int .i64 x.id, .slice x.ad x.zs.length x.cp, .int .i64 x.us] 45)
        have hne : some wr.heap.size ≠ (Value.slice a' L c').ownBlock := fun h => by have := hO.2.lt wr.heap.size (by rw [hz]; exact h.symm); omega
        clear hbx
        have hk0 : (0 : Int) ≤ (k : Int) := by omega
        have hk1 : (k : Int) < (n : Int) := by omega
        obtain ⟨q, hq⟩ : ∃ q, sumL x.zs = q := ⟨_, rfl⟩
        rw [hq] at ht hqb
        have HQ : Hid (blockSum x.zs = q) := Lib.hid (by rw [← hq]; simp [blockSum, show blockV x.zs = true from hok.2.1])
        have HT : Hid (zs ++ [(x.id, q)] = sumsL (valsH (xs.take (k + 1)))) := Lib.hid (by rw [hzs.out, ht])
        have HW := Lib.hid (wfC (f := x.id) (m := q) (by omega) (by omega) (by omega) (by omega))
        have hsz : w.heap.size ≤ wr.heap.size := hb.size
        clear hok ht hq hx hzs
        go_wp2_with fail
        generalize wr.alloc (.cells #[.int .i64 x.id, .slice x.ad x.zs.length x.cp, .int .i64 x.us] 45) = W1 at hHl q0 q1 q2 hbw hx1 hOw ⊢
        generalize wr.heap.size = G at hHl q0 q1 q2 hne ⊢
        have K := still_of (implBlockSum_any x.ad x.zs.length x.cp x.zs W1.drew hx1 hx2)
        rw [HQ.out] at K
        have hbd : Below w.heap.size w W1.drew := below_drewN hbw 1
        have hsW : w.heap.size ≤ W1.heap.size := hbw.size
        have hOd : OwnX W1.drew w.heap.size a' c' zs := hOw
        have hcc : W1.drew.cell? ⟨G, 0, none⟩ = some (.int .i64 x.id) ∧ W1.drew.cell? ⟨G, 1, none⟩ = some (.slice x.ad x.zs.length x.cp) := ⟨q0, q1⟩
        have hHd : G < W1.drew.heap.size := hHl
        have HN := Lib.hid (newC W1.drew x.id q)
        clear hbw hOw hO hb c0 c1 c2 hr hx1 HQ
        go_region_held3 (fun w' => w'.cell? ⟨G, 0, none⟩ = some (.int .i64 x.id) ∧ w'.cell? ⟨G, 1, none⟩ = some (.slice x.ad x.zs.length x.cp)) (first | exact hcc | exact two_alloc hcc hHd hHd | exact two_keep (two_alloc hcc hHd hHd) hG2 hne hne)
          (first
            | (go_at_call 30; refine K.mono ?_; rintro e w3 ⟨rfl, rfl⟩)
            | (refine step_appX (by rfl) _ _ (by rfl) hz (by rfl) (hOd.alloc _) ⟨W1.drew.heap.size, 0, none⟩ 1 1 [(x.id, q)] (by rfl) rfl HN.out HW.out (by omega) (by simp; omega) ?_; intro a2 c2 w2 hO2 hG2))
        have hlen2 : (zs ++ [(x.id, q)]).length = L + 1 := by simp [hz]
        have hb2 := (hbd.alloc hbd.size (.cells #[.int .i64 x.id, .int .i64 q] 53)).grown hG2 (by simp; omega) (by rw [← hz]; exact fun r hr => (hOd.2.lt r hr).1)
        clear hG2 hOd hbd HN hcc K
        go_wp2
        go_roundw
        case rel => exact ⟨k + 1, by omega, by go_num, _, a2, c2, L + 1, rfl, hlen2, by omega, HT, hO2, hb2⟩
        case measure => simp [intOf]; omega
      · obtain rfl : k = n := by omega
        have HR : Hid (zs = sumsL (valsH xs)) := Lib.hid (by rw [hzs.out, List.take_of_length_le (by have := hl.out; omega)])
        go_wp2
        go_ret2
        rw [HF.out]
        rw [HR.out] at hz hO
        exact ⟨a', c', by rw [← hz]; rfl, hO, hb⟩

end Go.Proofs.Ytajheicheefpeaa
