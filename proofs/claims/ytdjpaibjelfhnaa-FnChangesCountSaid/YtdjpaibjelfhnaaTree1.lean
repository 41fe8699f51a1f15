/- Items of a tree; weak contracts of l5Parent, l5At, l5Home, l5Item, l5Copy, l13Same. -/
import Derived.Test.YtdjpaibjelfhnaaEltT
import Derived.Test.YtdjpaibjelfhnaaPathSpec
import Derived.Test.YtdjpaibjelfhnaaMarkG
import Derived.Test.YtdjpaibjelfhnaaApp
import Derived.Outline
namespace Go.Proofs.Ytdjpaibjelfhnaa
open Go.RowKit
set_option linter.unusedVariables false

/-- Every item's own list reads as it says. -/
def InT (w : World) (xs : List TV) : Prop := ∀ x ∈ xs, RdI w x.ad x.zs.length x.zs
theorem InT.below {w w' : World} {xs : List TV} (h : InT w xs) (hb : Below w.heap.size w w') : InT w' xs := fun x hx => (h x hx).below hb

/-- Short paths, short lists. -/
def SmT (xs : List TV) : Prop := ∀ x ∈ xs, x.pa.size ≤ 1000 ∧ x.zs.length ≤ 1000 ∧ WfI x.zs

/-- Some bool is handed back. -/
def AnyB (w : World) (e : Ending) (w' : World) : Prop := ∃ b, e = .returned (.bool b) ∧ Below w.heap.size w w'

theorem below_drewNT {B : Nat} {w w' : World} (h : Below B w w') (k : Nat) : Below B w (w'.drewN k) := ⟨h.os, h.tape, h.output, h.size, h.block⟩

theorem boxT (w : World) (a b c : Value) (t : TypeId) :
    w.heap.size < (w.alloc (.cells #[a, b, c] t)).heap.size ∧ (w.alloc (.cells #[a, b, c] t)).cell? ⟨w.heap.size, 0, none⟩ = some a ∧ (w.alloc (.cells #[a, b, c] t)).cell? ⟨w.heap.size, 1, none⟩ = some b ∧ (w.alloc (.cells #[a, b, c] t)).cell? ⟨w.heap.size, 2, none⟩ = some c := by
  have h1 : ∀ j, (w.alloc (.cells #[a, b, c] t)).cell? ⟨w.heap.size, j, none⟩ = #[a, b, c][j]? := fun j => cell_of_row _ w.heap.size _ _ _ (0, 0) (heap_alloc_new w _)
  exact ⟨by simp, by rw [h1]; rfl, by rw [h1]; rfl, by rw [h1]; rfl⟩

theorem lastL_bd (s : ByteArray) : -1 ≤ lastL (bts s) ∧ lastL (bts s) ≤ s.size := by
  refine ⟨lastL_ge _, ?_⟩
  rcases lastL_cases (bts s) with ⟨h, _⟩ | ⟨a, p, h1, h2, _⟩
  · omega
  · have := congrArg List.length h1
    rw [bts_length, List.length_append, List.length_cons] at this
    omega

set_option maxHeartbeats 400000 in
theorem l5Parent_any (s : ByteArray) (w : World) (hs : s.size ≤ 1073741824) :
    Calls Try.prog 54 #[.string s] w fun e w' => ∃ t : ByteArray, e = .returned (.string t) ∧ t.size ≤ s.size ∧ w' = w := by
  obtain ⟨hl0, hl1⟩ := lastL_bd s
  obtain ⟨q, hq⟩ : ∃ q, lastL (bts s) = q := ⟨_, rfl⟩
  have K := l1Last_any s w hs
  rw [hq] at K hl0 hl1
  by_cases h0 : q < 0
  · obtain rfl : q = -1 := by omega
    go_enter Try.func54, Try.ntmps54
    go_wp2_with fail
    with_reducible refine K.mono ?_
    rintro e w1 ⟨rfl, hw⟩
    subst hw
    go_wp2
    go_ret
    exact ⟨_, rfl, by simp, rfl⟩
  · obtain ⟨q, rfl⟩ := Int.eq_ofNat_of_zero_le (show 0 ≤ q by omega)
    go_enter Try.func54, Try.ntmps54
    go_wp2_with fail
    with_reducible refine K.mono ?_
    rintro e w1 ⟨rfl, hw⟩
    subst hw
    go_wp2
    go_ret
    exact ⟨_, rfl, by simp; omega, rfl⟩

set_option maxHeartbeats 400000 in
theorem l5At_any (a : Option Addr) (n c : Nat) (xs : List TV) (s : ByteArray) (w : World) (hr : RdR eltT w a n xs) (hn : n ≤ 4611686018427387904) :
    Calls Try.prog 51 #[.slice a n c, .string s] w fun e w' => ∃ r : Int, e = .returned (.int .i64 r) ∧ (r = -1 ∨ ∃ k : Nat, r = k ∧ k < n) ∧ w' = w := by
  go_enter Try.func51, Try.ntmps51
  go_wp2
  go_loopw [5] (fun q wr => ∃ k : Nat, k ≤ n ∧ q = .int .i64 k ∧ wr = w)
    (fun q _ => n - (intOf q).toNat)
  case atStart => exact ⟨0, Nat.zero_le _, rfl, rfl⟩
  case round =>
    obtain ⟨k, hk, rfl, rfl⟩ := hrel
    by_cases hlt : k < n
    · obtain ⟨b, off, x, rfl, hbl, hx, c0, c1, c2⟩ := atT hr hlt
      have hk0 : (0 : Int) ≤ (k : Int) := by omega
      have hk1 : (k : Int) < (n : Int) := by omega
      obtain ⟨v, hv⟩ : ∃ v, (x.pa.toList == s.toList) = v := ⟨_, rfl⟩
      cases v with
      | true =>
        go_wp2
        go_ret
        exact ⟨_, rfl, .inr ⟨k, rfl, hlt⟩, rfl⟩
      | false =>
        go_wp2
        go_roundw
        case rel => exact ⟨k + 1, by omega, by go_num, by first | rfl | trivial⟩
        case measure => simp [intOf]; omega
    · obtain rfl : k = n := by omega
      go_wp2
      go_ret
      exact ⟨_, rfl, .inl rfl, rfl⟩

set_option maxHeartbeats 400000 in
theorem l5Home_any (a : Option Addr) (n c : Nat) (xs : List TV) (s : ByteArray) (w : World) (hr : RdR eltT w a n xs) (hn : n ≤ 4611686018427387904) (hs : s.size ≤ 1073741824) :
    Calls Try.prog 50 #[.slice a n c, .string s] w fun e w' => ∃ b, e = .returned (.bool b) ∧ w' = w := by
  go_enter Try.func50, Try.ntmps50
  go_wp2_with fail
  with_reducible refine (l5Parent_any s w hs).mono ?_
  rintro e w1 ⟨t, rfl, ht, hw⟩
  subst hw
  have K := l5At_any a n c xs t w1 hr hn
  go_wp2_with fail
  with_reducible refine K.mono ?_
  rintro e w2 ⟨r, rfl, hrr, hw⟩
  subst hw
  obtain ⟨v, hv⟩ : ∃ v, t.toList.isEmpty = v := ⟨_, rfl⟩
  have hv2 : (t.toList == []) = v := by rw [← hv]; cases t.toList <;> rfl
  clear K
  rcases hrr with rfl | ⟨k, rfl, hkn⟩
  · cases v with
    | true =>
      go_wp2
      go_ret
      exact ⟨_, rfl, rfl⟩
    | false =>
      go_wp2
      go_ret
      exact ⟨_, rfl, rfl⟩
  · obtain ⟨b, off, x, rfl, hbl, hx, c0, c1, c2⟩ := atT hr hkn
    have hk0 : (0 : Int) ≤ (k : Int) := by omega
    have hk1 : (k : Int) < (n : Int) := by omega
    have hkd : decide ((0 : Int) ≤ (k : Int)) = true := by simp
    cases v with
    | true =>
      go_wp2
      go_ret
      exact ⟨_, rfl, rfl⟩
    | false =>
      go_wp2
      go_ret
      exact ⟨_, rfl, rfl⟩

set_option maxHeartbeats 400000 in
theorem l5Item_any (x : TV) (w : World) (hr : RdI w x.ad x.zs.length x.zs) (hp : x.pa.size ≤ 1073741824) (hz : x.zs.length ≤ 1048576) :
    Calls Try.prog 52 #[.agg #[.string x.pa, .bool x.dr, .slice x.ad x.zs.length x.cp]] w (AnyB w) := by
  obtain ⟨n, hn⟩ : ∃ n, x.zs.length = n := ⟨_, rfl⟩
  have HR := Lib.hid hr
  rw [hn] at hz ⊢
  obtain ⟨hHl, q0, q1, q2⟩ := boxT w (.string x.pa) (.bool x.dr) (.slice x.ad n x.cp) 62
  have hb0 : Below w.heap.size w (w.alloc (.cells #[.string x.pa, .bool x.dr, .slice x.ad n x.cp] 62)) := (Below.refl _ _).alloc (Nat.le_refl _) _
  clear hr
  go_enter Try.func52, Try.ntmps52
  go_wp2
  generalize w.alloc (.cells #[.string x.pa, .bool x.dr, .slice x.ad n x.cp] 62) = W1 at hHl q0 q1 q2 hb0 ⊢
  go_loopw [3] (fun q wr => ∃ k : Nat, k ≤ n ∧ q = .int .i64 k ∧ Below W1.heap.size W1 wr)
    (fun q _ => n - (intOf q).toNat)
  case atStart => exact ⟨0, Nat.zero_le _, rfl, Below.refl _ _⟩
  case round =>
    obtain ⟨k, hk, rfl, hb⟩ := hrel
    have q0' := (hb.cell (p := ⟨w.heap.size, 0, none⟩) hHl).trans q0
    have q1' := (hb.cell (p := ⟨w.heap.size, 1, none⟩) hHl).trans q1
    have q2' := (hb.cell (p := ⟨w.heap.size, 2, none⟩) hHl).trans q2
    have hbb := hb0.trans (hb.mono hb0.size)
    by_cases hlt : k < n
    · have hrr := HR.out.below hbb
      rw [hn] at hrr
      have hk0 : (0 : Int) ≤ (k : Int) := by omega
      have hk1 : (k : Int) < (n : Int) := by omega
      obtain ⟨dr, hdr⟩ : ∃ dr, x.dr = dr := ⟨_, rfl⟩
      rw [hdr] at q1'
      clear hdr
      cases dr with
      | true =>
        go_wp2
        go_ret
        exact ⟨_, rfl, hbb⟩
      | false =>
        obtain ⟨b, off, hbo, hbl, hcellA⟩ := hrr.2 k hlt
        have hcell := hcellA k hlt
        clear hcellA
        rw [hbo] at q2'
        obtain ⟨y, hy⟩ : ∃ y, x.zs.getD k 0 = y := ⟨_, rfl⟩
        rw [hy] at hcell
        have K := l6In_any y 1 99 wr
        obtain ⟨v, hv⟩ : ∃ v, inB y 1 99 = v := ⟨_, rfl⟩
        rw [hv] at K
        clear hv hy hrr hbo
        go_wp2_with fail
        with_reducible refine K.mono ?_
        rintro e w2 ⟨rfl, hw⟩
        subst hw
        clear K
        cases v with
        | true =>
          go_wp2
          go_roundw
          case rel => exact ⟨k + 1, by omega, by go_num, hb⟩
          case measure => simp [intOf]; omega
        | false =>
          go_wp2
          go_ret
          exact ⟨_, rfl, hbb⟩
    · obtain rfl : k = n := by omega
      have K := specPathValid_any x.pa wr hp
      obtain ⟨v, hv⟩ : ∃ v, pathV (bts x.pa) = v := ⟨_, rfl⟩
      rw [hv] at K
      clear hv
      go_wp2_with fail
      with_reducible refine K.mono ?_
      rintro e w2 ⟨rfl, hb2⟩
      have hbb2 := hbb.trans (hb2.mono hbb.size)
      have q2'' := (hb2.cell (p := ⟨w.heap.size, 2, none⟩) (Nat.lt_of_lt_of_le hHl hb.size)).trans q2'
      clear q0' q1' q2' K hb2
      cases v with
      | true =>
        go_wp2
        go_ret
        exact ⟨_, rfl, hbb2⟩
      | false =>
        go_wp2
        go_ret
        exact ⟨_, rfl, hbb2⟩

/-- An item was copied. -/
def RetT1 (w : World) (x : TV) (e : Ending) (w' : World) : Prop :=
  ∃ a c, e = .returned (.agg #[.string x.pa, .bool x.dr, .slice a x.zs.length c]) ∧ OwnI w' w.heap.size a c x.zs ∧ Below w.heap.size w w'

theorem heapT (w w1 : World) (o0 o1 o2 : Obj) (g : Nat) (hg : (((w.alloc o0).alloc o1).alloc o2).grownBy w1 (some g)) (h2 : w.heap.size + 2 ≤ g) :
    w1.heap[w.heap.size]? = some o0 ∧ w1.heap[w.heap.size + 1]? = some o1 ∧ w.heap.size + 3 ≤ w1.heap.size ∧ Below w.heap.size w w1 := by
  have s1 : (w.alloc o0).heap.size = w.heap.size + 1 := by simp
  have s2 : ((w.alloc o0).alloc o1).heap.size = w.heap.size + 2 := by simp
  have s3 : (((w.alloc o0).alloc o1).alloc o2).heap.size = w.heap.size + 3 := by simp
  have hz := hg.size
  rw [s3] at hz
  refine ⟨?_, ?_, hz, ((((Below.refl _ _).alloc (Nat.le_refl _) _).alloc (by omega) _).alloc (by omega) _).grown hg (by omega) (fun r hr => by injection hr with hr; omega)⟩
  · rw [hg.block _ (by omega) (fun e => by injection e with e; omega), heap_alloc_old, heap_alloc_old, heap_alloc_new]
    · omega
    · omega
  · rw [hg.block _ (by omega) (fun e => by injection e with e; omega), heap_alloc_old, ← s1, heap_alloc_new]
    omega

theorem OwnI.set_belowT {w : World} {B : Nat} {a : Option Addr} {c : Nat} {zs : List Int} (h : OwnI w B a c zs) {p : Addr} (hp : p.block < B) (u : Value) : OwnI (w.setCell p u) B a c zs := ⟨h.1, ownsRow_setCell_below h.2 hp u⟩

theorem RdI.cells0 {w w' : World} {a : Option Addr} {n : Nat} {zs : List Int} (h : RdI w a n zs) (hb : Below w.heap.size w w') (h0 : 0 < n) : ∃ ad, a = some ad ∧ ∀ j u, (zs.map (Value.int .i64))[j]? = some u → w'.cell? (ad.add j) = some u := by
  obtain ⟨b, off, rfl, hlt, hc⟩ := h.2 0 h0
  refine ⟨_, rfl, fun j u hj => ?_⟩
  have hjn : j < zs.length := by have := (List.getElem?_eq_some_iff.1 hj).1; simpa using this
  rw [getElem?_ints zs j hjn] at hj
  injection hj with hj
  subst hj
  rw [Addr.add_lit, hb.cell (p := ⟨b, off + j, none⟩) hlt]
  exact hc j (by have := h.1; omega)

end Go.Proofs.Ytdjpaibjelfhnaa
