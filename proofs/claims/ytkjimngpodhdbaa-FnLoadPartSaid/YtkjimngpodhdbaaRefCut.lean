/- Lists of lists of ints; contract of l4Cut. -/
import Derived.Test.YtkjimngpodhdbaaRefPut
namespace Go.Proofs.Ytkjimngpodhdbaa
open Go.RowKit
set_option linter.unusedVariables false

/-- A list among lists: where it lies, and what it reads as. -/
structure LV where
  ad : Option Addr
  cp : Nat
  zs : List Int

def encL (x : LV) : List Value := [.slice x.ad x.zs.length x.cp]

theorem encL_one (x : LV) : ∀ v ∈ encL x, v.oneCell' = true := by
  intro v hv
  simp only [encL, List.mem_cons, List.mem_nil_iff, or_false] at hv
  rcases hv with rfl; rfl

def eltL : Elt LV where
  ty := 32
  sl := 71
  m := 1
  bytes := 24
  z := .slice none 0 0
  enc := encL
  pos := by decide
  len := fun x => rfl
  one := encL_one
  under := Try.underlying71
  info := by kernel_rfl
  zcells := by kernel_rfl
  small := by decide

theorem eltL_ty : eltL.ty ≠ 3 := by decide

theorem atL {w : World} {a : Option Addr} {n : Nat} {xs : List LV} (h : RdR eltL w a n xs) {i : Nat} (hi : i < n) :
    ∃ b off x, a = some ⟨b, off, none⟩ ∧ b < w.heap.size ∧ xs[i]? = some x ∧ w.cell? ⟨b, off + i, none⟩ = some (.slice x.ad x.zs.length x.cp) := by
  obtain ⟨b, off, x, rfl, hl, hx, hc⟩ := h.at_ hi
  have := hc 0 _ rfl
  refine ⟨b, off, x, rfl, hl, hx, ?_⟩
  rwa [show off + i * eltL.m + 0 = off + i by show off + i * 1 + 0 = off + i; omega] at this

theorem newL (W : World) (N : Nat) (hN : W.heap.size = N) (y : LV) : ∀ j u, (eltL.flat [y])[j]? = some u → (W.alloc (.cells #[.slice y.ad y.zs.length y.cp] 32)).cell? ((⟨N, 0, none⟩ : Addr).add j) = some u := by
  subst hN
  exact newR eltL W y _ rfl

/-- Lists of the call's own. -/
structure OwnL (w : World) (B : Nat) (a : Option Addr) (c : Nat) (xs : List LV) : Prop where
  row : OwnR eltL w B a c xs
  ins : ∀ x ∈ xs, OwnI w B x.ad x.cp x.zs

theorem OwnL.below {w w' : World} {B : Nat} {a : Option Addr} {c : Nat} {xs : List LV} (h : OwnL w B a c xs) (hb : Below w.heap.size w w') : OwnL w' B a c xs := ⟨h.row.below hb, fun x hx => (h.ins x hx).below hb⟩
theorem OwnL.alloc {w : World} {B : Nat} {a : Option Addr} {c : Nat} {xs : List LV} (h : OwnL w B a c xs) (o : Obj) : OwnL (w.alloc o) B a c xs := ⟨h.row.alloc o, fun x hx => (h.ins x hx).alloc o⟩

theorem OwnL.push {w w' : World} {B : Nat} {a a' : Option Addr} {c c' L : Nat} {xs : List LV} {x : LV} {o : Obj} (h : OwnL w B a c xs) (hL : xs.length = L) (hx : OwnI w B x.ad x.cp x.zs)
    (hg : (w.alloc o).grownBy w' (Value.slice a L c).ownBlock) (hr : OwnR eltL w' B a' c' (xs ++ [x])) : OwnL w' B a' c' (xs ++ [x]) := by
  have h1 := h.alloc o
  refine ⟨hr, fun y hy => ?_⟩
  rcases List.mem_append.1 hy with hy | hy
  · exact (h1.ins y hy).kindKept h1.row eltL_ty hL hg
  · rw [List.mem_singleton] at hy
    subst hy
    exact (hx.alloc o).kindKept h1.row eltL_ty hL hg

/-- Lists were cut out of one. -/
def RetCut (w : World) (e : Ending) (w' : World) : Prop :=
  ∃ ls a c, e = .returned (.slice a ls.length c) ∧ ls.length ≤ 64 ∧ (∀ l ∈ ls, l.zs.length ≤ 8) ∧ OwnL w' w.heap.size a c ls ∧ Below w.heap.size w w'

/-- The cells of a part. -/
theorem RdI.part {w w' : World} {b off : Nat} {zs : List Int} (h : RdI w (some ⟨b, off, none⟩) zs.length zs) (hb : Below w.heap.size w w') (f m : Nat) (hf : f + m ≤ zs.length) (hm : 1 ≤ m) :
    ∀ j u, (((zs.drop f).take m).map (Value.int .i64))[j]? = some u → w'.cell? ((⟨b, off + f, none⟩ : Addr).add j) = some u := by
  intro j u hj
  have hjm : j < m := by
    have := (List.getElem?_eq_some_iff.1 hj).1
    simp at this
    omega
  obtain ⟨b', off', e, hlt, hc⟩ := h.2 0 (by omega)
  injection e with e
  injection e with e1 e2
  subst e1 e2
  rw [List.getElem?_map, List.getElem?_take_of_lt hjm, List.getElem?_drop, List.getElem?_eq_getElem (by omega : f + j < zs.length)] at hj
  simp only [Option.map_some, Option.some.injEq] at hj
  subst hj
  rw [Addr.add_lit, hb.cell (p := ⟨b, off + f + j, none⟩) hlt, show off + f + j = off + (f + j) by omega, hc (f + j) (by omega)]
  simp [List.getD, List.getElem?_eq_getElem (by omega : f + j < zs.length)]

theorem WfI.part {zs : List Int} (h : WfI zs) (f m : Nat) : WfI ((zs.drop f).take m) := fun z hz => h z (List.mem_of_mem_drop (List.mem_of_mem_take hz))

set_option maxHeartbeats 1000000 in
theorem l4Cut_any (a : Option Addr) (c : Nat) (bz : List Int) (w : World) (hr : RdI w a bz.length bz) (hwf : WfI bz) (hn : bz.length ≤ 64) (hc : bz.length ≤ c) (hc2 : c ≤ maxLen) :
    Calls Try.prog 50 #[.slice a bz.length c] w (RetCut w) := by
  unfold maxLen at hc2
  have HW := Lib.hid hwf
  obtain ⟨n, hnn⟩ : ∃ n, bz.length = n := ⟨_, rfl⟩
  have HN := Lib.hid hnn
  have HR := Lib.hid hr
  rw [hnn] at hn hc ⊢
  clear hwf hr hnn
  go_enter Try.func50, Try.ntmps50
  go_wp2
  have hO0 : OwnL (w.alloc (.cells #[] 32)) w.heap.size (some ⟨w.heap.size, 0, none⟩) 0 [] := ⟨OwnR.empty eltL (Nat.le_refl _), by intro x hx; cases hx⟩
  have hb0 : Below w.heap.size w (w.alloc (.cells #[] 32)) := (Below.refl _ _).alloc (Nat.le_refl _) _
  go_loopw [3, 4] (fun v q wr => ∃ k : Nat, 8 * k ≤ n + 8 ∧ q = .int .i64 (8 * k : Nat) ∧ ∃ ls a c, v = .slice a k c ∧ Hid (ls.length = k) ∧ Hid (∀ l ∈ ls, l.zs.length ≤ 8) ∧ OwnL wr w.heap.size a c ls ∧ Below w.heap.size w wr)
    (fun _ q _ => n + 8 - (intOf q).toNat)
  case atStart => exact ⟨0, by omega, rfl, [], _, _, rfl, Lib.hid rfl, Lib.hid (by intro l hl; cases hl), hO0, hb0⟩
  case round =>
    clear hO0 hb0
    obtain ⟨k, hk, rfl, ls, a1, c1, rfl, HL, H8, hO, hb⟩ := hrel
    obtain ⟨f, hf⟩ : ∃ f, 8 * k = f := ⟨_, rfl⟩
    rw [hf]
    by_cases hlt : f < n
    · obtain ⟨b, off, hboff, hbl, _⟩ := HR.out.2 0 (by have := HN.out; omega)
      subst hboff
      by_cases hA : f + 8 ≤ n
      · have hAI : (f : Int) + 8 ≤ (n : Int) := by omega
        have hAc : (f : Int) + 8 ≤ (c : Int) := by omega
        have hAt : ((f : Int) + 8).toNat - f = 8 := by omega
        have hE := OwnI.empty (w := wr) (B := wr.heap.size) (Nat.le_refl _)
        have HC := Lib.hid (HR.out.part (hb.alloc hb.size (.cells #[] 3)) f (8) (by have := HN.out; omega) (by omega))
        have HWP := Lib.hid (HW.out.part f (8))
        have HPL := Lib.hid (show ((bz.drop f).take (8)).length = 8 by rw [List.length_take, List.length_drop]; have := HN.out; omega)
        have hk0 : (0 : Int) ≤ (f : Int) := by omega
        have hk1 : (f : Int) < (n : Int) := by omega
        have hbsz := hb.size
        go_wp2_with (at_builtin; first
          | (refine wp_app rfl _ _ rfl rfl hE ⟨b, off + f, none⟩ (8) (c - f) ((bz.drop f).take (8)) rfl HPL.out HC.out HWP.out (by simp <;> omega) (by simp) ?_; intro a5 c5 w5 hO5 hG5; have hb5 : Below wr.heap.size wr w5 := ((Below.refl _ _).alloc (Nat.le_refl _) _).grown hG5 (by simp) (by intro r hr; simp [Value.ownBlock] at hr; omega); have hOL5 := hO.below hb5; rw [List.nil_append, HPL.out]; rw [List.nil_append] at hO5)
          | (refine wp_appR eltL rfl _ _ rfl HL.out rfl (hOL5.row.alloc _) ⟨w5.heap.size, 0, none⟩ 1 1 [⟨a5, c5, (bz.drop f).take (8)⟩] rfl rfl (by have := newL w5 _ rfl ⟨a5, c5, (bz.drop f).take (8)⟩; rwa [show (⟨a5, c5, (bz.drop f).take (8)⟩ : LV).zs.length = 8 from HPL.out] at this) (by omega) (by have := hb5.size; simp; omega) ?_; intro a6 c6 w6 hR6 hG6))
        have hO6 := hOL5.push (x := ⟨a5, c5, (bz.drop f).take (8)⟩) HL.out (hO5.mono hb.size) hG6 hR6
        have hb6 := ((hb.trans (hb5.mono hb.size)).alloc (by have := hb5.size; omega) (.cells #[.slice a5 (8) c5] 32)).grown hG6 (by have := hb5.size; simp; omega) (fun r hr => (hOL5.row.lt r (by rw [HL.out]; exact hr)).1)
        have HL6 : Hid ((ls ++ [(⟨a5, c5, (bz.drop f).take (8)⟩ : LV)]).length = k + 1) := Lib.hid (by rw [List.length_append, HL.out]; rfl)
        have H86 : Hid (∀ l ∈ ls ++ [(⟨a5, c5, (bz.drop f).take (8)⟩ : LV)], l.zs.length ≤ 8) := Lib.hid (by
          intro l hl
          rcases List.mem_append.1 hl with hl | hl
          · exact H8.out l hl
          · rw [List.mem_singleton] at hl
            subst hl
            show ((bz.drop f).take (8)).length ≤ 8
            rw [HPL.out]; omega)
        clear hO5 hG5 hOL5 hR6 hG6 hb5 hO hb hE
        have hf8 : (8 * (k + 1 : Nat) : Nat) = f + 8 := by omega
        go_roundw
        case rel => exact ⟨k + 1, by omega, by rw [hf8]; go_num, _, a6, c6, rfl, HL6, H86, hO6, hb6⟩
        case measure => simp [intOf]; omega
      · have hAI : ¬ (f : Int) + 8 ≤ (n : Int) := by omega
        have hAc : (n : Int) ≤ (c : Int) := by omega
        have hAl : (f : Int) ≤ (n : Int) := by omega
        have hE := OwnI.empty (w := wr) (B := wr.heap.size) (Nat.le_refl _)
        have HC := Lib.hid (HR.out.part (hb.alloc hb.size (.cells #[] 3)) f (n - f) (by have := HN.out; omega) (by omega))
        have HWP := Lib.hid (HW.out.part f (n - f))
        have HPL := Lib.hid (show ((bz.drop f).take (n - f)).length = n - f by rw [List.length_take, List.length_drop]; have := HN.out; omega)
        have hk0 : (0 : Int) ≤ (f : Int) := by omega
        have hk1 : (f : Int) < (n : Int) := by omega
        have hbsz := hb.size
        go_wp2_with (at_builtin; first
          | (refine wp_app rfl _ _ rfl rfl hE ⟨b, off + f, none⟩ (n - f) (c - f) ((bz.drop f).take (n - f)) rfl HPL.out HC.out HWP.out (by simp <;> omega) (by simp) ?_; intro a5 c5 w5 hO5 hG5; have hb5 : Below wr.heap.size wr w5 := ((Below.refl _ _).alloc (Nat.le_refl _) _).grown hG5 (by simp) (by intro r hr; simp [Value.ownBlock] at hr; omega); have hOL5 := hO.below hb5; rw [List.nil_append, HPL.out]; rw [List.nil_append] at hO5)
          | (refine wp_appR eltL rfl _ _ rfl HL.out rfl (hOL5.row.alloc _) ⟨w5.heap.size, 0, none⟩ 1 1 [⟨a5, c5, (bz.drop f).take (n - f)⟩] rfl rfl (by have := newL w5 _ rfl ⟨a5, c5, (bz.drop f).take (n - f)⟩; rwa [show (⟨a5, c5, (bz.drop f).take (n - f)⟩ : LV).zs.length = n - f from HPL.out] at this) (by omega) (by have := hb5.size; simp; omega) ?_; intro a6 c6 w6 hR6 hG6))
        have hO6 := hOL5.push (x := ⟨a5, c5, (bz.drop f).take (n - f)⟩) HL.out (hO5.mono hb.size) hG6 hR6
        have hb6 := ((hb.trans (hb5.mono hb.size)).alloc (by have := hb5.size; omega) (.cells #[.slice a5 (n - f) c5] 32)).grown hG6 (by have := hb5.size; simp; omega) (fun r hr => (hOL5.row.lt r (by rw [HL.out]; exact hr)).1)
        have HL6 : Hid ((ls ++ [(⟨a5, c5, (bz.drop f).take (n - f)⟩ : LV)]).length = k + 1) := Lib.hid (by rw [List.length_append, HL.out]; rfl)
        have H86 : Hid (∀ l ∈ ls ++ [(⟨a5, c5, (bz.drop f).take (n - f)⟩ : LV)], l.zs.length ≤ 8) := Lib.hid (by
          intro l hl
          rcases List.mem_append.1 hl with hl | hl
          · exact H8.out l hl
          · rw [List.mem_singleton] at hl
            subst hl
            show ((bz.drop f).take (n - f)).length ≤ 8
            rw [HPL.out]; omega)
        clear hO5 hG5 hOL5 hR6 hG6 hb5 hO hb hE
        have hf8 : (8 * (k + 1 : Nat) : Nat) = f + 8 := by omega
        go_roundw
        case rel => exact ⟨k + 1, by omega, by rw [hf8]; go_num, _, a6, c6, rfl, HL6, H86, hO6, hb6⟩
        case measure => simp [intOf]; omega
    · go_wp2
      go_ret
      exact ⟨ls, a1, c1, by rw [HL.out]; rfl, by rw [HL.out]; omega, H8.out, hO, hb⟩

end Go.Proofs.Ytkjimngpodhdbaa
