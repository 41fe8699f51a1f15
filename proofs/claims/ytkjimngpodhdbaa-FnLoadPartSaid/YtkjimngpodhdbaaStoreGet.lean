/- Contracts of StoreGet: the reference's and the program's. -/
import Derived.Test.YtkjimngpodhdbaaOpen2
namespace Go.Proofs.Ytkjimngpodhdbaa
open Go.RowKit Go.Maps
set_option linter.unusedVariables false

/-- A slice of ints of the call's own and a bool are handed back. -/
def RetIB (w : World) (zs : List Int) (ok : Bool) (e : Ending) (w' : World) : Prop :=
  ∃ a c, e = .returned (.tuple #[.slice a zs.length c, .bool ok]) ∧ OwnI w' w.heap.size a c zs ∧ Below w.heap.size w w'

theorem RetIB.nilI (w w' : World) (hb : Below w.heap.size w w') : RetIB w [] false (.returned (.tuple #[.slice none 0 0, .bool false])) w' :=
  ⟨_, _, rfl, ⟨(by intro z hz; cases hz), World.ownsRow_nil _ _ _ _⟩, hb⟩

theorem RetIB.emptyI (w w' : World) (hb : Below w.heap.size w w') : RetIB w [] false (.returned (.tuple #[.slice (some ⟨w'.heap.size, 0, none⟩) 0 0, .bool false])) (w'.alloc (.cells #[] 3)) :=
  ⟨_, _, rfl, OwnI.empty hb.size, hb.alloc hb.size _⟩

/-- A valid block lies somewhere. -/
theorem RdI.cellsAt {w w' : World} {a : Option Addr} {zs : List Int} (h : RdI w a zs.length zs) (h1 : 1 ≤ zs.length) (hb : Below w.heap.size w w') : ∃ ad, a = some ad ∧ ∀ j u, (zs.map (Value.int .i64))[j]? = some u → w'.cell? (ad.add j) = some u := by
  obtain ⟨b, off, rfl, hlt, hc⟩ := h.2 0 (by omega)
  refine ⟨_, rfl, fun j u hj => ?_⟩
  have hjn : j < zs.length := by have := (List.getElem?_eq_some_iff.1 hj).1; simpa using this
  rw [getElem?_ints zs j hjn] at hj
  injection hj with hj
  subst hj
  rw [Addr.add_lit, hb.cell (p := ⟨b, off + j, none⟩) hlt]
  exact hc j hjn

set_option maxHeartbeats 400000 in
theorem specStoreGet_any (a : Option Addr) (n c : Nat) (xs : List HV) (i : Int) (w : World) (hr : RdR eltH w a n xs) (hi : InH w xs) (hs : ∀ x ∈ xs, x.zs.length ≤ 4611686018427387904) (hn : n ≤ 4611686018427387904) :
    Calls Try.prog 14 #[.slice a n c, .int .i64 i] w (RetIB w (getR (valsH xs) i).1 (getR (valsH xs) i).2) := by
  have HI := Lib.hid hi
  have HR := Lib.hid hr
  go_enter Try.func14, Try.ntmps14
  go_wp2_with fail
  with_reducible refine (l3At_any a n c xs i w hr hn).mono ?_
  rintro e w1 ⟨r, rfl, hA, m, rfl⟩
  have hb1 : Below w.heap.size w (w.drewN m) := below_drewNH (Below.refl _ _) m
  have K := specStoreValid_any a n c xs (w.drewN m) (hr.below hb1) (hi.below hb1) hs hn
  generalize w.drewN m = w1 at hb1 K ⊢
  clear hi hs
  have hA := Lib.hid hA
  cases hv : storeV (valsH xs) with
  | false =>
    rw [hv] at K
    have HG := Lib.hid (getR_bad (i := i) hv)
    clear hv
    go_wp2_with fail
    with_reducible refine K.mono ?_
    rintro e w2 ⟨rfl, hb⟩
    have hb2 := hb1.trans (hb.mono hb1.size)
    go_wp2
    go_ret2
    rw [HG.out]
    exact RetIB.emptyI w w2 hb2
  | true =>
    rw [hv] at K
    go_wp2_with fail
    with_reducible refine K.mono ?_
    rintro e w2 ⟨rfl, hb⟩
    have hb2 := hb1.trans (hb.mono hb1.size)
    clear K hb hb1 hr
    rcases getR_cases hA.out hv with ⟨rfl, hg⟩ | ⟨k, rfl, x, hx, hg⟩
    · have HG := Lib.hid hg
      clear hv hg
      go_wp2
      go_ret2
      rw [HG.out]
      exact RetIB.emptyI w w2 hb2
    · have HG := Lib.hid hg
      have hkn : k < n := by have := HR.out.1; have := (List.getElem?_eq_some_iff.1 hx).1; omega
      obtain ⟨b, off, x', rfl, hbl, hx', c0, c1, c2⟩ := atH (HR.out.below hb2) hkn
      obtain rfl : x' = x := Option.some.inj (hx'.symm.trans hx)
      have hbv := (store_ids hv hx).1.2.2
      have hw8 := blockV_wf hbv
      have h1 := (blockV_parts hbv).2.1
      obtain ⟨ad, hadx, hcl⟩ := (HI.out x' (List.mem_of_getElem? hx)).cellsAt (w' := w2.alloc (.cells #[] 3)) h1 (hb2.alloc hb2.size _)
      rw [hadx] at c1
      have HC := Lib.hid hcl
      have HW := Lib.hid hw8.1
      have hk0 : (0 : Int) ≤ (k : Int) := by omega
      have hkI : (k : Int) < (n : Int) := by omega
      have hkneg : decide ((k : Int) < 0) = false := by simp
      have hl8 := hw8.2
      have q1 := (World.cell?_alloc_lt w2 (.cells #[] 3) ⟨b, off + k * 3 + 1, none⟩ hbl).trans c1
      clear hv hg hx hx' hbv hw8 hcl hadx c0 c1 c2
      go_wp2_with (at_builtin; refine wp_app rfl _ _ rfl rfl (OwnI.empty (Nat.le_refl _)) ad x'.zs.length x'.cp x'.zs rfl rfl HC.out HW.out (by simp; omega) (by simp) ?_; intro a5 c5 w5 hO5 hG5)
      have hb5 : Below w2.heap.size w2 w5 := ((Below.refl _ _).alloc (Nat.le_refl _) _).grown hG5 (by simp) (by intro r hr; simp [Value.ownBlock] at hr; omega)
      clear hG5
      go_ret2
      rw [HG.out]
      exact ⟨a5, c5, by simp, by simpa using hO5.mono hb2.size, hb2.trans (hb5.mono hb2.size)⟩

theorem zeroHeld (w : World) : (zeroValue 47).run Try.prog w = .ok (.agg #[.int .i64 0, .slice none 0 0, .int .i64 0]) w := by kernel_rfl

/-- 'h, ok := s[i]' where s is a store. -/
theorem StoreM.look {w : World} {B b : Nat} {ys : List HV} (h : StoreM w B b ys) {i : Int} (hi : (Lit.int .i64 i).wf = true) :
    (atV (valsH ys) i = none ∧ ∀ c, (Instr.lookup 56 (.map (some b)) (.int .i64 i) c).run Try.prog w = .ok (if c then .tuple #[.agg #[.int .i64 0, .slice none 0 0, .int .i64 0], .bool false] else .agg #[.int .i64 0, .slice none 0 0, .int .i64 0]) w) ∨
    ∃ y ∈ ys, atV (valsH ys) i = some y.val ∧ ∀ c, (Instr.lookup 56 (.map (some b)) (.int .i64 i) c).run Try.prog w = .ok (if c then .tuple #[valH y, .bool true] else valH y) w := by
  have hl := fun c => h.map.look Try.underlying56 (zeroHeld w) hi c
  rcases mapOf_atV (ys := ys) (i := i) with ⟨h1, h2⟩ | ⟨y, hy, h1, h2⟩
  · rw [h1] at hl
    exact .inl ⟨h2, hl⟩
  · rw [h1] at hl
    exact .inr ⟨y, hy, h2, hl⟩

set_option maxHeartbeats 400000 in
theorem implStoreGet_any (a : Option Addr) (n c : Nat) (xs : List HV) (i : Int) (w : World) (hr : RdR eltH w a n xs) (hi : InH w xs) (hs : ∀ x ∈ xs, x.zs.length ≤ 4611686018427387904) (hn : n ≤ c) (hc : c ≤ 9223372036854775807) (hwf : (Lit.int .i64 i).wf = true) :
    Calls Try.prog 15 #[.slice a n c, .int .i64 i] w (RetIB w (getR (valsH xs) i).1 (getR (valsH xs) i).2) := by
  have K := openStore_any a n c xs w hr hi hs hn hc
  go_enter Try.func15, Try.ntmps15
  go_wp2_with fail
  with_reducible refine K.mono ?_
  rintro e w1 (⟨hv, rfl, hb⟩ | ⟨hv, b, ys, rfl, hys, hM, hb⟩)
  · have HG := Lib.hid (getR_bad (i := i) hv)
    clear hv
    go_wp2
    go_ret2
    rw [HG.out]
    exact RetIB.nilI w w1 hb
  · rcases hM.look hwf with ⟨h1, hl⟩ | ⟨y, hy, h1, hl⟩
    · have hg : getR (valsH xs) i = ([], false) := by unfold getR; rw [← hys, h1]; simp
      have HG := Lib.hid hg
      have hl1 := hl true
      simp only [if_true] at hl1
      clear hg h1 hl hv hys
      go_wp2
      go_ret2
      rw [HG.out]
      exact RetIB.nilI w _ (hb.alloc hb.size _)
    · have hg : getR (valsH xs) i = (y.zs, true) := by unfold getR; rw [hv, ← hys, h1]; rfl
      have HG := Lib.hid hg
      have hl1 := hl true
      simp only [if_true] at hl1
      unfold valH at hl1
      have hO := hM.ins y hy
      clear hg h1 hl hv hys hy
      go_wp2
      go_ret2
      rw [HG.out]
      exact ⟨y.ad, y.cp, rfl, hO.alloc _, hb.alloc hb.size _⟩

end Go.Proofs.Ytkjimngpodhdbaa
