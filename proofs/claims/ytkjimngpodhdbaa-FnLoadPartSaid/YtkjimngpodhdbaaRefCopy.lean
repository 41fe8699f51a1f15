/- Contracts of l3Like, l3Free, l3Copy. -/
import Derived.Test.YtkjimngpodhdbaaGet
import Derived.Test.YtkjimngpodhdbaaOwnH
import Derived.Test.YtkjimngpodhdbaaStoreGet
import Derived.Maps.AppendAt
namespace Go.Proofs.Ytkjimngpodhdbaa
open Go.RowKit
set_option linter.unusedVariables false

/-- 'append(out, xs...)', out a slice of the call's own: where the new slice lies is said too. -/
theorem wp_appRA {α : Type} (E : Elt α) {ops : Array Oper} {rest : List Oper} {o : Oper} {act : Act} {Q : Exit → Act → World → Prop} (hgd : o.guard = none) (s x : Operand)
    (ho : o.op = .call { callee := .builtin .append, args := #[s, x], argTypes := #[E.sl, E.sl] })
    {W : World} {B : Nat} {a0 : Option Addr} {c0 L : Nat} {zs : List α} (hL : zs.length = L) (hs : act.eval s = .slice a0 L c0) (hO : OwnR E W B a0 c0 zs)
    (ad : Addr) (m c : Nat) (news : List α) (hx : act.eval x = .slice (some ad) m c) (hm : news.length = m)
    (hnews : ∀ j u, (E.flat news)[j]? = some u → W.cell? (ad.add j) = some u) (hlen : L + m ≤ 1099511627776) (hB : B ≤ W.heap.size)
    (h : ∀ a' c' w', OwnR E w' B a' c' (zs ++ news) → W.grownBy w' (Value.slice a0 L c0).ownBlock → ((Value.slice a' (L + m) c').ownBlock = (Value.slice a0 L c0).ownBlock ∨ (Value.slice a' (L + m) c').ownBlock = some W.heap.size) → wpList Try.prog ops Q rest (act.put o.dst (.slice a' (L + m) c')) w') :
    wpList Try.prog ops Q (o :: rest) act W := by
  subst hL
  obtain ⟨i0, hi, hz0, hz1, hz2⟩ := info_parts E.info
  refine wpList_append_own_at W hgd s x E.sl ho B E.ty i0 E.z E.m E.bytes E.under hi hz0 hz1 hz2 E.zcells E.pos _ zs.length _ hs hO ad m c (E.flat news) hx (by rw [E.flat_length, hm]) hnews
    (E.flat_one _) (by unfold maxLen; omega) (Nat.le_trans (Nat.mul_le_mul hlen E.small) (by decide)) hB ?_
  intro v' w' hown hg _ hloc
  obtain ⟨a', c', rfl, _⟩ := own_formR hown
  refine h a' c' w' ?_ hg hloc
  unfold OwnR
  rw [E.flat_append, List.length_append, hm]; exact hown

theorem newHV_at (W : World) (N : Nat) (hN : W.heap.size = N) (y : HV) : ∀ j u, (eltH.flat [y])[j]? = some u → (W.alloc (.cells #[.int .i64 y.id, .slice y.ad y.zs.length y.cp, .int .i64 y.us] 47)).cell? ((⟨N, 0, none⟩ : Addr).add j) = some u := by
  subst hN
  exact newR eltH W y _ rfl

/-- A list of blocks, each with a list of the call's own. -/
structure OwnJ (w : World) (B : Nat) (a : Option Addr) (c : Nat) (xs : List HV) : Prop where
  row : OwnR eltH w B a c xs
  ins : ∀ x ∈ xs, OwnI w B x.ad x.cp x.zs

theorem OwnJ.below {w w' : World} {B : Nat} {a : Option Addr} {c : Nat} {xs : List HV} (h : OwnJ w B a c xs) (hb : Below w.heap.size w w') : OwnJ w' B a c xs := ⟨h.row.below hb, fun x hx => (h.ins x hx).below hb⟩
theorem OwnJ.mono {w : World} {B B' : Nat} {a : Option Addr} {c : Nat} {xs : List HV} (h : OwnJ w B a c xs) (hB : B' ≤ B) : OwnJ w B' a c xs := ⟨h.row.mono hB, fun x hx => (h.ins x hx).mono hB⟩
theorem OwnJ.alloc {w : World} {B : Nat} {a : Option Addr} {c : Nat} {xs : List HV} (h : OwnJ w B a c xs) (o : Obj) : OwnJ (w.alloc o) B a c xs := ⟨h.row.alloc o, fun x hx => (h.ins x hx).alloc o⟩
theorem OwnJ.inn {w : World} {B : Nat} {a : Option Addr} {c : Nat} {xs : List HV} (h : OwnJ w B a c xs) : InH w xs := fun x hx => (h.ins x hx).rd
theorem OwnJ.empty {w : World} {B : Nat} (hB : B ≤ w.heap.size) : OwnJ (w.alloc (.cells #[] 47)) B (some ⟨w.heap.size, 0, none⟩) 0 [] := ⟨OwnR.empty eltH hB, by intro x hx; cases hx⟩
theorem OwnH.toJ {w : World} {B : Nat} {a : Option Addr} {c : Nat} {xs : List HV} (h : OwnH w B a c xs) : OwnJ w B a c xs := ⟨h.row, h.ins⟩

/-- A block that is no list of ints, and not the row's own, has been written. -/
theorem OwnJ.other {w w' : World} {B g : Nat} {a : Option Addr} {c L : Nat} {xs : List HV} (h : OwnJ w B a c xs) (hL : xs.length = L) (hg : w.grownBy w' (some g)) (hk : ∀ cs fz, w.heap[g]? ≠ some (.cells cs 3 fz)) (hne : (Value.slice a L c).ownBlock ≠ some g) : OwnJ w' B a c xs := by
  subst hL
  refine ⟨h.row.apart hg (fun k h1 r h2 e => hne (by rw [h1, h2, e])), fun x hx => (h.ins x hx).apartI hg (fun k h1 r h2 e => ?_)⟩
  obtain ⟨cs, fz, h3⟩ := (h.ins x hx).kindI k h1
  injection h2 with h2
  rw [e, ← h2] at h3
  exact hk cs fz h3

theorem OwnJ.push {w w' : World} {B : Nat} {a a' : Option Addr} {c c' L : Nat} {xs : List HV} {x : HV} {o : Obj} (h : OwnJ w B a c xs) (hL : xs.length = L) (hx : OwnI w B x.ad x.cp x.zs)
    (hg : (w.alloc o).grownBy w' (Value.slice a L c).ownBlock) (hr : OwnR eltH w' B a' c' (xs ++ [x])) : OwnJ w' B a' c' (xs ++ [x]) := by
  have h1 := h.alloc o
  refine ⟨hr, fun y hy => ?_⟩
  rcases List.mem_append.1 hy with hy | hy
  · exact (h1.ins y hy).kindKept h1.row eltH_ty hL hg
  · rw [List.mem_singleton] at hy
    subst hy
    exact (hx.alloc o).kindKept h1.row eltH_ty hL hg

set_option maxHeartbeats 400000 in
theorem l3Like_any (a : Option Addr) (n c : Nat) (xs : List HV) (a' : Option Addr) (n' c' : Nat) (bz : List Int) (w : World) (hr : RdR eltH w a n xs) (hin : InH w xs) (hs : ∀ x ∈ xs, x.zs.length ≤ 4611686018427387904) (hn : n ≤ 4611686018427387904) (hb' : RdI w a' n' bz) (hn' : n' ≤ 4611686018427387904) :
    Calls Try.prog 52 #[.slice a n c, .slice a' n' c'] w fun e w' => ∃ r : Int, e = .returned (.int .i64 r) ∧ (r = -1 ∨ ∃ k : Nat, r = k ∧ k < n) ∧ Below w.heap.size w w' := by
  have hl := Lib.hid hr.1
  have HI := Lib.hid hin
  have HS := Lib.hid hs
  clear hin hs
  go_enter Try.func52, Try.ntmps52
  go_wp2
  go_loopw [5] (fun q wr => ∃ k : Nat, k ≤ n ∧ q = .int .i64 k ∧ Below w.heap.size w wr)
    (fun q _ => n - (intOf q).toNat)
  case atStart => exact ⟨0, Nat.zero_le _, rfl, Below.refl _ _⟩
  case round =>
    obtain ⟨k, hk, rfl, hb⟩ := hrel
    by_cases hlt : k < n
    · obtain ⟨b, off, x, rfl, hbl, hx, c0, c1, c2⟩ := atH (hr.below hb) hlt
      have hk0 : (0 : Int) ≤ (k : Int) := by omega
      have hk1 : (k : Int) < (n : Int) := by omega
      have K := l2Same_any x.ad a' x.zs.length n' x.cp c' x.zs bz wr ((HI.out x (List.mem_of_getElem? hx)).below hb) (hb'.below hb) (HS.out x (List.mem_of_getElem? hx)) hn'
      obtain ⟨v, hv⟩ : ∃ v, eqI x.zs bz = v := ⟨_, rfl⟩
      rw [hv] at K
      clear hv hx
      go_wp2_with fail
      with_reducible refine K.mono ?_
      rintro e w2 ⟨rfl, q, rfl⟩
      have hb2 := below_drewNH hb q
      generalize wr.drewN q = w2 at hb2 ⊢
      cases v with
      | true =>
        go_wp2
        go_ret
        exact ⟨_, rfl, .inr ⟨k, rfl, hlt⟩, hb2⟩
      | false =>
        go_wp2
        go_roundw
        case rel => exact ⟨k + 1, by omega, by go_num, hb2⟩
        case measure => simp [intOf]; omega
    · obtain rfl : k = n := by omega
      go_wp2
      go_ret
      exact ⟨_, rfl, .inl rfl, hb⟩

/-- How many blocks have an id from i on. -/
def fromI (xs : List HV) (i : Int) : Nat := (xs.filter fun x => decide (i ≤ x.id)).length

theorem fromI_le (xs : List HV) (i : Int) : fromI xs i ≤ xs.length := List.length_filter_le _ _

theorem fromI_lt {xs : List HV} {i : Int} (h : ∃ x ∈ xs, x.id = i) : fromI xs (i + 1) < fromI xs i := by
  unfold fromI
  induction xs with
  | nil => obtain ⟨x, hx, _⟩ := h; cases hx
  | cons y ys ih =>
    have hmono : ∀ zs : List HV, (zs.filter fun x => decide (i + 1 ≤ x.id)).length ≤ (zs.filter fun x => decide (i ≤ x.id)).length := by
      intro zs
      induction zs with
      | nil => simp
      | cons z zs ihz =>
        simp only [List.filter_cons]
        by_cases h1 : i + 1 ≤ z.id
        · have h2 : i ≤ z.id := by omega
          simp [h1, h2]; exact ihz
        · by_cases h2 : i ≤ z.id
          · simp [h1, h2]; exact Nat.le_succ_of_le ihz
          · simp [h1, h2]; exact ihz
    simp only [List.filter_cons]
    by_cases hy : y.id = i
    · have h1 : ¬ i + 1 ≤ y.id := by omega
      have h2 : i ≤ y.id := by omega
      simp [h1, h2]
      have := hmono ys
      omega
    · have h' : ∃ x ∈ ys, x.id = i := by
        obtain ⟨x, hx, hxi⟩ := h
        rcases List.mem_cons.1 hx with rfl | hx
        · exact absurd hxi hy
        · exact ⟨x, hx, hxi⟩
      have := ih h'
      by_cases h1 : i + 1 ≤ y.id
      · have h2 : i ≤ y.id := by omega
        simp [h1, h2]; omega
      · by_cases h2 : i ≤ y.id
        · omega
        · simp [h1, h2]; omega

set_option maxHeartbeats 400000 in
theorem l3Free_any (a : Option Addr) (n c : Nat) (xs : List HV) (w : World) (hr : RdR eltH w a n xs) (hn : n ≤ 1048576) :
    Calls Try.prog 53 #[.slice a n c] w fun e w' => ∃ r : Int, e = .returned (.int .i64 r) ∧ 1 ≤ r ∧ r ≤ n + 1 ∧ Below w.heap.size w w' := by
  have hl := Lib.hid hr.1
  go_enter Try.func53, Try.ntmps53
  go_wp2
  go_loopw [3] (fun q wr => ∃ i : Int, q = .int .i64 i ∧ 1 ≤ i ∧ i ≤ n + 1 ∧ Hid (i + fromI xs i ≤ n + 1) ∧ Below w.heap.size w wr)
    (fun q _ => fromI xs (intOf q))
  case atStart => exact ⟨1, rfl, by omega, by omega, Lib.hid (by have := fromI_le xs 1; have := hl.out; omega), Below.refl _ _⟩
  case round =>
    obtain ⟨i, rfl, hi1, hi2, hsum, hb⟩ := hrel
    go_wp2_with fail
    with_reducible refine (l3At_any a n c xs i wr (hr.below hb) (by omega)).mono ?_
    rintro e w1 ⟨r, rfl, hA, m, rfl⟩
    have hb1 := below_drewNH hb m
    have hA := Lib.hid hA
    generalize wr.drewN m = w1 at hb1 ⊢
    rcases hA.out with ⟨rfl, h1⟩ | ⟨p, rfl, hx, h1⟩
    · clear h1
      go_wp2
      go_ret
      exact ⟨i, rfl, hi1, hi2, hb1⟩
    · obtain ⟨x, hx, hxi⟩ := hx
      have hlt := fromI_lt (xs := xs) (i := i) ⟨x, List.mem_of_getElem? hx, hxi⟩
      have hd : decide ((0 : Int) ≤ (p : Int)) = true := by simp
      have HS : Hid (i + 1 + fromI xs (i + 1) ≤ n + 1) := Lib.hid (by have := hsum.out; omega)
      have hi3 : i + 1 ≤ n + 1 := by have := HS.out; omega
      have HLT := Lib.hid hlt
      clear h1 hx hxi hlt
      go_wp2
      go_roundw
      case rel => exact ⟨i + 1, by go_num, by omega, hi3, HS, hb1⟩
      case measure => simp only [intOf]; exact HLT.out

/-- What a round of l3Copy leaves. -/
structure CopyS (w W : World) (G : Nat) (a : Option Addr) (c : Nat) (ys : List HV) (x : HV) (a5 : Option Addr) (c5 N : Nat) : Prop where
  own : OwnJ W w.heap.size a c ys
  new : OwnI W w.heap.size a5 c5 x.zs
  bel : Below w.heap.size w W
  size : W.heap.size = N

theorem copyStep {w wr w5 : World} {a a5 : Option Addr} {c c5 : Nat} {ys : List HV} {x : HV} (hJ : OwnJ wr w.heap.size a c ys) (hb : Below w.heap.size w wr)
    (hg : ((wr.alloc (.cells #[.int .i64 x.id, .slice x.ad x.zs.length x.cp, .int .i64 x.us] 47)).alloc (.cells #[] 3)).grownBy w5 (some (wr.heap.size + 1)))
    (hO : OwnI w5 (wr.heap.size + 1) a5 c5 x.zs) :
    (w5.cell? ⟨wr.heap.size, 0, none⟩ = some (.int .i64 x.id) ∧ w5.cell? ⟨wr.heap.size, 1, none⟩ = some (.slice x.ad x.zs.length x.cp) ∧ w5.cell? ⟨wr.heap.size, 2, none⟩ = some (.int .i64 x.us) ∧ w5.frozen? ⟨wr.heap.size, 1, none⟩ = false) ∧
    CopyS w (w5.setCell ⟨wr.heap.size, 1, none⟩ (.slice a5 x.zs.length c5)) wr.heap.size a c ys x a5 c5 w5.heap.size := by
  obtain ⟨hHl, q0, q1, q2⟩ := one_boxH wr (.int .i64 x.id) (.slice x.ad x.zs.length x.cp) (.int .i64 x.us) 47
  have hbox : w5.heap[wr.heap.size]? = some (.cells #[.int .i64 x.id, .slice x.ad x.zs.length x.cp, .int .i64 x.us] 47 (0, 0)) := by
    rw [hg.block wr.heap.size (by simp; omega) (by intro e; injection e with e; omega), heap_alloc_old, heap_alloc_new]
    simp
  have c0 := cell_of_row w5 wr.heap.size 0 _ _ (0, 0) hbox
  have c1 := cell_of_row w5 wr.heap.size 1 _ _ (0, 0) hbox
  have c2 := cell_of_row w5 wr.heap.size 2 _ _ (0, 0) hbox
  have f1 := frozen_of_row w5 wr.heap.size 1 _ _ hbox
  have hbw : Below wr.heap.size wr w5 := (((Below.refl _ _).alloc (Nat.le_refl _) _).alloc (by simp) _).grown hg (by simp; omega) (by intro r hr; injection hr with hr; omega)
  have hb5 := hbw.setCell (Nat.le_refl wr.heap.size) (.slice a5 x.zs.length c5) (p := ⟨wr.heap.size, 1, none⟩)
  refine ⟨⟨c0, c1, c2, f1⟩, ⟨hJ.below hb5, ?_, hb.trans (hb5.mono hb.size), by simp⟩⟩
  have := hO.set_below (p := ⟨wr.heap.size, 1, none⟩) (by show wr.heap.size < wr.heap.size + 1; omega) (.slice a5 x.zs.length c5)
  exact this.mono (by have := hb.size; omega)

/-- A store was copied. -/
def RetJ (w : World) (xs : List HV) (e : Ending) (w' : World) : Prop :=
  ∃ ys a c, e = .returned (.slice a xs.length c) ∧ ys.length = xs.length ∧ valsH ys = valsH xs ∧ OwnJ w' w.heap.size a c ys ∧ Below w.heap.size w w'

theorem own_empty1 (wr : World) (o : Obj) : OwnI ((wr.alloc o).alloc (.cells #[] 3)) (wr.heap.size + 1) (some ⟨wr.heap.size + 1, 0, none⟩) 0 [] := by
  have := OwnI.empty (w := wr.alloc o) (B := wr.heap.size + 1) (by simp)
  simpa using this

set_option maxHeartbeats 1000000 in
theorem l3Copy_any (a : Option Addr) (n c : Nat) (xs : List HV) (w : World) (hr : RdR eltH w a n xs) (hin : InH w xs) (hs : ∀ x ∈ xs, 1 ≤ x.zs.length ∧ x.zs.length ≤ 1048576) (hwf : ∀ x ∈ xs, WfI x.zs) (hn : n ≤ 1048576) :
    Calls Try.prog 49 #[.slice a n c] w (RetJ w xs) := by
  have hl := Lib.hid hr.1
  have HI := Lib.hid hin
  have HS := Lib.hid hs
  have HW := Lib.hid hwf
  clear hin hs hwf
  go_enter Try.func49, Try.ntmps49
  go_wp2
  have hJ0 : OwnJ (w.alloc (.cells #[] 47)) w.heap.size (some ⟨w.heap.size, 0, none⟩) 0 [] := OwnJ.empty (Nat.le_refl _)
  have hb0 : Below w.heap.size w (w.alloc (.cells #[] 47)) := (Below.refl _ _).alloc (Nat.le_refl _) _
  go_loopw [3, 4] (fun v q wr => ∃ k : Nat, k ≤ n ∧ q = .int .i64 k ∧ ∃ ys a c, v = .slice a k c ∧ Hid (ys.length = k) ∧ Hid (valsH ys = valsH (xs.take k)) ∧ OwnJ wr w.heap.size a c ys ∧ Below w.heap.size w wr)
    (fun _ q _ => n - (intOf q).toNat)
  case atStart => exact ⟨0, Nat.zero_le _, rfl, [], _, _, rfl, Lib.hid rfl, Lib.hid rfl, hJ0, hb0⟩
  case round =>
    clear hJ0 hb0
    obtain ⟨k, hk, rfl, ys, a1, c1, rfl, HL, HV1, hJ, hb⟩ := hrel
    by_cases hlt : k < n
    · obtain ⟨b, off, x, rfl, hbl, hx, d0, d1, d2⟩ := atH (hr.below hb) hlt
      have hsx := HS.out x (List.mem_of_getElem? hx)
      have HX := Lib.hid hx
      obtain ⟨hHl, q0, q1, q2⟩ := one_boxH wr (.int .i64 x.id) (.slice x.ad x.zs.length x.cp) (.int .i64 x.us) 47
      have hbA : Below wr.heap.size wr ((wr.alloc (.cells #[.int .i64 x.id, .slice x.ad x.zs.length x.cp, .int .i64 x.us] 47)).alloc (.cells #[] 3)) := ((Below.refl _ _).alloc (Nat.le_refl _) _).alloc (by simp) _
      obtain ⟨ad, hadx, hcl⟩ := ((HI.out x (List.mem_of_getElem? hx)).below hb).cellsAt hsx.1 hbA
      have HC := Lib.hid hcl
      have HWx := Lib.hid (HW.out x (List.mem_of_getElem? hx))
      have hE := own_empty1 wr (.cells #[.int .i64 x.id, .slice x.ad x.zs.length x.cp, .int .i64 x.us] 47)
      have hk0 : (0 : Int) ≤ (k : Int) := by omega
      have hk1 : (k : Int) < (n : Int) := by omega
      have HAD := Lib.hid hadx
      have r1 := (World.cell?_alloc_lt (wr.alloc (.cells #[.int .i64 x.id, .slice x.ad x.zs.length x.cp, .int .i64 x.us] 47)) (.cells #[] 3) ⟨wr.heap.size, 1, none⟩ hHl).trans q1
      have hbsz := hb.size
      clear hx hadx hcl hbA
      go_wp2_with (at_builtin; first
        | (refine wp_app rfl _ _ rfl rfl hE ad x.zs.length x.cp x.zs (by rw [← HAD.out]; rfl) rfl HC.out HWx.out (by simp; omega) (by simp) ?_; intro a5 c5 w5 hO5 hG5; obtain ⟨⟨p0, p1, p2, f1⟩, hS⟩ := copyStep (x := x) hJ hb hG5 hO5)
        | (refine wp_appR eltH rfl _ _ rfl HL.out rfl (hS.own.row.alloc _) ⟨w5.heap.size, 0, none⟩ 1 1 [⟨x.id, a5, c5, x.zs, x.us⟩] rfl rfl (newHV_at _ _ hS.size ⟨x.id, a5, c5, x.zs, x.us⟩) (by omega) (by have := hS.bel.size; simp at this ⊢; omega) ?_; intro a6 c6 w6 hR6 hG6))
      have hJ6 := hS.own.push (x := ⟨x.id, a5, c5, x.zs, x.us⟩) HL.out hS.new hG6 hR6
      have hb6 : Below w.heap.size w w6 := (hS.bel.alloc hS.bel.size _).grown hG6 (by have := hS.bel.size; simp at this ⊢; omega) (fun r hr => (hS.own.row.lt r (by rw [HL.out]; exact hr)).1)
      have HL6 : Hid ((ys ++ [(⟨x.id, a5, c5, x.zs, x.us⟩ : HV)]).length = k + 1) := Lib.hid (by rw [List.length_append, HL.out]; rfl)
      have HV6 := Lib.hid (vals_snoc (y := ⟨x.id, a5, c5, x.zs, x.us⟩) HV1.out HX.out rfl)
      clear hR6 hG6 hS hJ hb p0 p1 p2 f1 hO5 hG5 q0 q1 q2 r1 hE
      go_roundw
      case rel => exact ⟨k + 1, by omega, by go_num, _, a6, c6, rfl, HL6, HV6, hJ6, hb6⟩
      case measure => simp [intOf]; omega
    · obtain rfl : k = n := by omega
      have HF : Hid (valsH ys = valsH xs) := Lib.hid (by have := HV1.out; rwa [List.take_of_length_le (by have := hl.out; omega)] at this)
      go_wp2
      go_ret
      exact ⟨ys, a1, c1, by rw [hl.out]; rfl, by rw [HL.out, hl.out], HF.out, hJ, hb⟩

end Go.Proofs.Ytkjimngpodhdbaa
