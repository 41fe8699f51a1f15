/- Trees of the call's own; weak contracts of l13Same, l5All. -/
import Derived.Test.YtdjpaibjelfhnaaTree2
namespace Go.Proofs.Ytdjpaibjelfhnaa
open Go.RowKit
set_option linter.unusedVariables false

theorem eltT_ty : eltT.ty ≠ 3 := by decide

theorem OwnI.kindKept {α : Type} {E : Elt α} {w w' : World} {B B' : Nat} {a a' : Option Addr} {c c' : Nat} {zs : List Int} {xs : List α} {L : Nat} (h : OwnI w B a c zs) (hr : OwnR E w B' a' c' xs) (hE : E.ty ≠ 3) (hL : xs.length = L)
    (hg : w.grownBy w' (Value.slice a' L c').ownBlock) : OwnI w' B a c zs := by
  subst hL
  refine h.apartI hg (fun k hk r hr' e => ?_)
  subst e
  obtain ⟨cs, fz, h1⟩ := h.kindI k hk
  obtain ⟨cs', fz', h2⟩ := hr.kindR k hr'
  rw [h1] at h2
  injection h2 with h2
  injection h2 with _ h2
  exact hE h2.symm

theorem OwnI.blkI {w : World} {B : Nat} {a : Option Addr} {c : Nat} {zs : List Int} (h : OwnI w B a c zs) : ∀ k, (Value.slice a zs.length c).ownBlock = some k → B ≤ k ∧ k < w.heap.size := fun k hk => World.ownsRow.lt h.2 k hk

/-- A tree of the call's own. -/
structure OwnT (w : World) (B : Nat) (a : Option Addr) (c : Nat) (xs : List TV) : Prop where
  row : OwnR eltT w B a c xs
  ins : ∀ x ∈ xs, OwnI w B x.ad x.cp x.zs
  sm : ∀ x ∈ xs, x.pa.size ≤ 1000 ∧ x.zs.length ≤ 1000

theorem OwnT.below {w w' : World} {B : Nat} {a : Option Addr} {c : Nat} {xs : List TV} (h : OwnT w B a c xs) (hb : Below w.heap.size w w') : OwnT w' B a c xs := ⟨h.row.below hb, fun x hx => (h.ins x hx).below hb, h.sm⟩
theorem OwnT.mono {w : World} {B B' : Nat} {a : Option Addr} {c : Nat} {xs : List TV} (h : OwnT w B a c xs) (hB : B' ≤ B) : OwnT w B' a c xs := ⟨h.row.mono hB, fun x hx => (h.ins x hx).mono hB, h.sm⟩
theorem OwnT.alloc {w : World} {B : Nat} {a : Option Addr} {c : Nat} {xs : List TV} (h : OwnT w B a c xs) (o : Obj) : OwnT (w.alloc o) B a c xs := ⟨h.row.alloc o, fun x hx => (h.ins x hx).alloc o, h.sm⟩
theorem OwnT.grown {w w' : World} {B g : Nat} {a : Option Addr} {c : Nat} {xs : List TV} (h : OwnT w B a c xs) (hg : w.grownBy w' (some g)) (hB : g < B) : OwnT w' B a c xs := ⟨h.row.grown hg hB, fun x hx => (h.ins x hx).grown hg hB, h.sm⟩
theorem OwnT.empty {w : World} {B : Nat} (hB : B ≤ w.heap.size) : OwnT (w.alloc (.cells #[] 62)) B (some ⟨w.heap.size, 0, none⟩) 0 [] := ⟨OwnR.empty eltT hB, (by intro x hx; cases hx), (by intro x hx; cases hx)⟩
theorem OwnT.rd {w : World} {B : Nat} {a : Option Addr} {c n : Nat} {xs : List TV} (h : OwnT w B a c xs) (hn : xs.length = n) : RdR eltT w a n xs := hn ▸ h.row.rd

theorem OwnT.push {w w' : World} {B : Nat} {a a' : Option Addr} {c c' L : Nat} {xs : List TV} {x : TV} {o : Obj} (h : OwnT w B a c xs) (hL : xs.length = L) (hx : OwnI w B x.ad x.cp x.zs) (hs : x.pa.size ≤ 1000 ∧ x.zs.length ≤ 1000)
    (hg : (w.alloc o).grownBy w' (Value.slice a L c).ownBlock) (hr : OwnR eltT w' B a' c' (xs ++ [x])) : OwnT w' B a' c' (xs ++ [x]) := by
  have h1 := h.alloc o
  refine ⟨hr, fun y hy => ?_, fun y hy => ?_⟩
  · rcases List.mem_append.1 hy with hy | hy
    · exact (h1.ins y hy).kindKept h1.row eltT_ty hL hg
    · rw [List.mem_singleton] at hy
      subst hy
      exact (hx.alloc o).kindKept h1.row eltT_ty hL hg
  · rcases List.mem_append.1 hy with hy | hy
    · exact h.sm y hy
    · rw [List.mem_singleton] at hy
      subst hy; exact hs

theorem newT (W : World) (N : Nat) (hN : W.heap.size = N) (y : TV) : ∀ j u, (eltT.flat [y])[j]? = some u → (W.alloc (.cells #[.string y.pa, .bool y.dr, .slice y.ad y.zs.length y.cp] 62)).cell? ((⟨N, 0, none⟩ : Addr).add j) = some u := by
  subst hN
  exact newR eltT W y _ rfl

set_option maxHeartbeats 400000 in
theorem l13Same_any (x y : TV) (w : World) (hx : RdI w x.ad x.zs.length x.zs) (hy : RdI w y.ad y.zs.length y.zs) (hxs : x.zs.length ≤ 1000) (hys : y.zs.length ≤ 1000) :
    Calls Try.prog 49 #[.agg #[.string x.pa, .bool x.dr, .slice x.ad x.zs.length x.cp], .agg #[.string y.pa, .bool y.dr, .slice y.ad y.zs.length y.cp]] w (AnyB w) := by
  obtain ⟨hH1, p0, p1, p2⟩ := boxT w (.string x.pa) (.bool x.dr) (.slice x.ad x.zs.length x.cp) 62
  obtain ⟨xp, xd, xa, xc, xz⟩ := x
  obtain ⟨yp, yd, ya, yc, yz⟩ := y
  simp only at hx hy hxs hys ⊢
  have hb : Below w.heap.size w ((w.alloc (.cells #[.string xp, .bool xd, .slice xa xz.length xc] 62)).alloc (.cells #[.string yp, .bool yd, .slice ya yz.length yc] 62)) := ((Below.refl _ _).alloc (Nat.le_refl _) _).alloc (by simp) _
  have K := l2Same_any xa ya xz.length yz.length xc yc xz yz _ (hx.below hb) (hy.below hb) (by omega) (by omega)
  obtain ⟨v, hv⟩ : ∃ v, eqI xz yz = v := ⟨_, rfl⟩
  rw [hv] at K
  clear hv p0 p1 p2 hH1
  obtain ⟨v1, hv1⟩ : ∃ v1, (xp.toList == yp.toList) = v1 := ⟨_, rfl⟩
  obtain ⟨v2, hv2⟩ : ∃ v2, (xd == yd) = v2 := ⟨_, rfl⟩
  cases v1 with
  | false =>
    go_enter Try.func49, Try.ntmps49
    go_wp2
    go_ret
    exact ⟨_, rfl, hb⟩
  | true =>
    cases v2 with
    | false =>
      go_enter Try.func49, Try.ntmps49
      go_wp2
      go_ret
      exact ⟨_, rfl, hb⟩
    | true =>
      go_enter Try.func49, Try.ntmps49
      go_wp2_with fail
      with_reducible refine K.mono ?_
      rintro e w2 ⟨rfl, q, rfl⟩
      go_wp2
      go_ret
      exact ⟨_, rfl, below_drewNT hb q⟩

/-- A tree was copied. -/
def RetTs (w : World) (n : Nat) (e : Ending) (w' : World) : Prop :=
  ∃ ys a c, e = .returned (.slice a n c) ∧ ys.length = n ∧ OwnT w' w.heap.size a c ys ∧ Below w.heap.size w w'

set_option maxHeartbeats 1000000 in
theorem l5All_any (a : Option Addr) (n c : Nat) (xs : List TV) (B : Nat) (w : World) (hr : RdR eltT w a n xs) (hin : ∀ x ∈ xs, OwnI w B x.ad x.cp x.zs) (hs : ∀ x ∈ xs, x.pa.size ≤ 1000 ∧ x.zs.length ≤ 1000) (hn : n ≤ 1048576) :
    Calls Try.prog 45 #[.slice a n c] w (RetTs w n) := by
  have hl := Lib.hid hr.1
  have HI := Lib.hid hin
  have HS := Lib.hid hs
  clear hin hs
  go_enter Try.func45, Try.ntmps45
  go_wp2
  have hJ0 : OwnT (w.alloc (.cells #[] 62)) w.heap.size (some ⟨w.heap.size, 0, none⟩) 0 [] := OwnT.empty (Nat.le_refl _)
  have hb0 : Below w.heap.size w (w.alloc (.cells #[] 62)) := (Below.refl _ _).alloc (Nat.le_refl _) _
  go_loopw [3, 4] (fun v q wr => ∃ k : Nat, k ≤ n ∧ q = .int .i64 k ∧ ∃ ys a c, v = .slice a k c ∧ Hid (ys.length = k) ∧ OwnT wr w.heap.size a c ys ∧ Below w.heap.size w wr)
    (fun _ q _ => n - (intOf q).toNat)
  case atStart => exact ⟨0, Nat.zero_le _, rfl, [], _, _, rfl, Lib.hid rfl, hJ0, hb0⟩
  case round =>
    clear hJ0 hb0
    obtain ⟨k, hk, rfl, ys, a1, c1, rfl, HL, hJ, hb⟩ := hrel
    by_cases hlt : k < n
    · obtain ⟨b, off, x, rfl, hbl, hx, d0, d1, d2⟩ := atT (hr.below hb) hlt
      have hsx := HS.out x (List.mem_of_getElem? hx)
      have K := l5Copy_any x B wr ((HI.out x (List.mem_of_getElem? hx)).below hb) (by omega)
      have hk0 : (0 : Int) ≤ (k : Int) := by omega
      have hk1 : (k : Int) < (n : Int) := by omega
      clear hx
      go_wp2_with fail
      with_reducible refine K.mono ?_
      rintro e w2 ⟨a5, c5, rfl, hO5, hb5⟩
      have hJ2 := hJ.below hb5
      have hb2 := hb.trans (hb5.mono hb.size)
      have hO2 := hO5.mono hb.size
      clear K hJ hO5 hb5 d0 d1 d2 hb
      go_wp2_with (at_builtin; refine wp_appR eltT rfl _ _ rfl HL.out rfl (hJ2.row.alloc _) ⟨w2.heap.size, 0, none⟩ 1 1 [⟨x.pa, x.dr, a5, c5, x.zs⟩] rfl rfl (newT _ _ rfl ⟨x.pa, x.dr, a5, c5, x.zs⟩) (by omega) (by have := hb2.size; simp; omega) ?_; intro a6 c6 w6 hR6 hG6)
      have hJ6 := hJ2.push (x := ⟨x.pa, x.dr, a5, c5, x.zs⟩) HL.out hO2 hsx hG6 hR6
      have hb6 : Below w.heap.size w w6 := (hb2.alloc hb2.size _).grown hG6 (by have := hb2.size; simp; omega) (fun r hr => (hJ2.row.lt r (by rw [HL.out]; exact hr)).1)
      have HL6 : Hid ((ys ++ [(⟨x.pa, x.dr, a5, c5, x.zs⟩ : TV)]).length = k + 1) := Lib.hid (by rw [List.length_append, HL.out]; rfl)
      clear hR6 hG6 hJ2 hb2 hO2
      go_roundw
      case rel => exact ⟨k + 1, by omega, by go_num, _, a6, c6, rfl, HL6, hJ6, hb6⟩
      case measure => simp [intOf]; omega
    · obtain rfl : k = n := by omega
      go_wp2
      go_ret
      exact ⟨ys, a1, c1, rfl, HL.out, hJ, hb⟩

end Go.Proofs.Ytdjpaibjelfhnaa
