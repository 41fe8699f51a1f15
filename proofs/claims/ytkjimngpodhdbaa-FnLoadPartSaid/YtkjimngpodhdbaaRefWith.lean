/- Contract of l3With. -/
import Derived.Test.YtkjimngpodhdbaaRefCopy
namespace Go.Proofs.Ytkjimngpodhdbaa
open Go.RowKit
set_option linter.unusedVariables false

/-- The state of l3With's loop. -/
structure WS (w W : World) (P M H : Nat) (x : HV) (ao : Option Addr) (co : Nat) (olds : List HV) (a : Option Addr) (c L : Nat) (zs : List HV) : Prop where
  len : zs.length = L
  row : OwnR eltH W P a c zs
  loc : ∀ k, (Value.slice a L c).ownBlock = some k → k = P ∨ M ≤ k
  ins : ∀ z ∈ zs, OwnI W w.heap.size z.ad z.cp z.zs
  box : W.heap[H]? = some (.cells #[.int .i64 x.id, .slice x.ad x.zs.length x.cp, .int .i64 x.us] 47 (0, 0))
  hH : P < H ∧ H < M
  xin : OwnI W w.heap.size x.ad x.cp x.zs
  old : OwnR eltH W P ao co olds
  oloc : ∀ k, (Value.slice ao olds.length co).ownBlock = some k → P < k ∧ k < M
  oin : ∀ z ∈ olds, OwnI W w.heap.size z.ad z.cp z.zs
  bel : Below w.heap.size w W
  hM : M ≤ W.heap.size
  hP : w.heap.size ≤ P

theorem WS.cells {w W : World} {P M H : Nat} {x : HV} {ao : Option Addr} {co : Nat} {olds : List HV} {a : Option Addr} {c L : Nat} {zs : List HV} (h : WS w W P M H x ao co olds a c L zs) :
    W.cell? ⟨H, 0, none⟩ = some (.int .i64 x.id) ∧ W.cell? ⟨H, 1, none⟩ = some (.slice x.ad x.zs.length x.cp) ∧ W.cell? ⟨H, 2, none⟩ = some (.int .i64 x.us) :=
  ⟨cell_of_row W H 0 _ _ (0, 0) h.box, cell_of_row W H 1 _ _ (0, 0) h.box, cell_of_row W H 2 _ _ (0, 0) h.box⟩

theorem WS.push {w W W' : World} {P M H : Nat} {x y : HV} {ao : Option Addr} {co : Nat} {olds : List HV} {a a' : Option Addr} {c c' L : Nat} {zs : List HV} {o : Obj} (h : WS w W P M H x ao co olds a c L zs)
    (hy : y = x ∨ y ∈ olds) (hg : (W.alloc o).grownBy W' (Value.slice a L c).ownBlock) (hr : OwnR eltH W' P a' c' (zs ++ [y])) (hloc : (Value.slice a' (L + 1) c').ownBlock = (Value.slice a L c).ownBlock ∨ (Value.slice a' (L + 1) c').ownBlock = some (W.alloc o).heap.size) :
    WS w W' P M H x ao co olds a' c' (L + 1) (zs ++ [y]) := by
  have hrow := fun r (hr : (Value.slice a L c).ownBlock = some r) => h.row.lt r (by rw [h.len]; exact hr)
  have keep : ∀ z : HV, OwnI W w.heap.size z.ad z.cp z.zs → OwnI W' w.heap.size z.ad z.cp z.zs := fun z hz => (hz.alloc o).kindKept (h.row.alloc o) eltH_ty h.len hg
  have hs : W.heap.size ≤ W'.heap.size := Nat.le_trans (by simp) hg.size
  refine ⟨by rw [List.length_append, h.len]; rfl, hr, ?_, ?_, ?_, h.hH, keep x h.xin, ?_, h.oloc, fun z hz => keep z (h.oin z hz), ?_, Nat.le_trans h.hM hs, h.hP⟩
  · intro k hk
    rcases hloc with h1 | h1
    · rw [h1] at hk; exact h.loc k hk
    · rw [h1] at hk
      injection hk with hk
      right
      have := h.hM
      simp at hk
      omega
  · intro z hz
    rcases List.mem_append.1 hz with hz | hz
    · exact keep z (h.ins z hz)
    · rw [List.mem_singleton] at hz
      subst hz
      rcases hy with rfl | hy
      · exact keep _ h.xin
      · exact keep _ (h.oin _ hy)
  · have hlt : H < W.heap.size := by have := h.hM; have := h.hH; omega
    rw [hg.block H (by simp; omega) (fun e => by rcases h.loc H e.symm with h1 | h1 <;> (have := h.hH; omega)), heap_alloc_old _ _ hlt]
    exact h.box
  · refine (h.old.alloc o).apart hg (fun k hk r hr e => ?_)
    subst e
    rcases h.loc k hr with h1 | h1 <;> (have := h.oloc k hk; omega)
  · exact (h.bel.alloc h.bel.size o).grown hg (by have := h.bel.size; simp; omega) (fun r hr => by have := (hrow r hr).1; have := h.hP; omega)

/-- A list of blocks was made out of an elder one and a block. -/
def RetW (w : World) (n : Nat) (e : Ending) (w' : World) : Prop :=
  ∃ ys a c, e = .returned (.slice a ys.length c) ∧ ys.length ≤ n + 1 ∧ (∀ y ∈ ys, y.zs.length ≤ 1048576) ∧ OwnJ w' w.heap.size a c ys ∧ Below w.heap.size w w'

theorem vals_len {xs ys : List HV} (h : valsH ys = valsH xs) {m : Nat} (hs : ∀ x ∈ xs, x.zs.length ≤ m) : ∀ y ∈ ys, y.zs.length ≤ m := by
  intro y hy
  have : y.val ∈ valsH ys := List.mem_map_of_mem hy
  rw [h] at this
  obtain ⟨x, hx, he⟩ := List.mem_map.1 this
  have hz : x.zs = y.zs := congrArg (fun p : Int × List Int × Int => p.2.1) he
  rw [← hz]; exact hs x hx

set_option maxHeartbeats 2000000 in
theorem l3With_any (a : Option Addr) (n c : Nat) (xs : List HV) (a' : Option Addr) (c' : Nat) (bz : List Int) (w : World) (hr : RdR eltH w a n xs) (hin : InH w xs) (hs : ∀ x ∈ xs, 1 ≤ x.zs.length ∧ x.zs.length ≤ 1048576) (hwf : ∀ x ∈ xs, WfI x.zs) (hn : n ≤ 1048576)
    (hb' : RdI w a' bz.length bz) (hbw : WfI bz) (hb1 : 1 ≤ bz.length ∧ bz.length ≤ 1048576) :
    Calls Try.prog 54 #[.slice a n c, .slice a' bz.length c'] w (RetW w n) := by
  have hl := Lib.hid hr.1
  have HI := Lib.hid hin
  have HS := Lib.hid hs
  have HW := Lib.hid hwf
  have HBW := Lib.hid hbw
  clear hin hs hwf hbw
  go_enter Try.func54, Try.ntmps54
  go_wp2_with fail
  with_reducible refine (l3Free_any a n c xs w hr hn).mono ?_
  rintro e w1 ⟨id, rfl, hid1, hid2, hbA⟩
  have hE := own_empty1 w1 (.cells #[] 47)
  have hbB : Below w.heap.size w ((w1.alloc (.cells #[] 47)).alloc (.cells #[] 3)) := (hbA.alloc hbA.size _).alloc (by have := hbA.size; simp; omega) _
  obtain ⟨ad, hadx, hcl⟩ := hb'.cellsAt hb1.1 hbB
  subst hadx
  have HC := Lib.hid hcl
  have hbl1 := hb1.1
  have hbl2 := hb1.2
  clear hcl
  go_wp2_with (at_builtin; refine wp_app rfl _ _ rfl rfl hE ad bz.length c' bz rfl rfl HC.out HBW.out (by simp; omega) (by simp) ?_; intro a5 c5 w5 hO5 hG5)
  -- the block of its own
  have hsz5 : w1.heap.size + 2 ≤ w5.heap.size := Nat.le_trans (by simp) hG5.size
  have hbox : (w5.alloc (.cells #[.int .i64 id, .slice a5 bz.length c5, .int .i64 1] 47)).heap[w5.heap.size]? = some (.cells #[.int .i64 id, .slice a5 bz.length c5, .int .i64 1] 47 (0, 0)) := heap_alloc_new w5 _
  have hb5 : Below w.heap.size w w5 := hbB.grown hG5 (by have := hbA.size; simp; omega) (fun r hr => by simp [Value.ownBlock] at hr; have := hbA.size; omega)
  have hb6 := hb5.alloc hb5.size (.cells #[.int .i64 id, .slice a5 bz.length c5, .int .i64 1] 47)
  rw [List.nil_append] at hO5
  have hO6 := (hO5.mono (show w.heap.size ≤ _ by have := hbA.size; omega)).alloc (.cells #[.int .i64 id, .slice a5 bz.length c5, .int .i64 1] 47)
  have hR6 : OwnR eltH (w5.alloc (.cells #[.int .i64 id, .slice a5 bz.length c5, .int .i64 1] 47)) w1.heap.size (some ⟨w1.heap.size, 0, none⟩) 0 [] := by
    have h1 : OwnR eltH (w1.alloc (.cells #[] 47)) w1.heap.size (some ⟨w1.heap.size, 0, none⟩) 0 [] := OwnR.empty eltH (Nat.le_refl _)
    have h2 := (h1.alloc (.cells #[] 3)).apart hG5 (fun k hk r hr e => by simp [Value.ownBlock] at hk hr; omega)
    exact h2.alloc _
  obtain ⟨P, hP⟩ : ∃ P, w1.heap.size = P := ⟨_, rfl⟩
  obtain ⟨H, hH⟩ : ∃ H, w5.heap.size = H := ⟨_, rfl⟩
  have hwP : w.heap.size ≤ P := by have := hbA.size; omega
  have hPH : P < H := by omega
  have hH6 : H < (w5.alloc (.cells #[.int .i64 id, .slice a5 bz.length c5, .int .i64 1] 47)).heap.size := by simp; omega
  rw [hP] at hR6
  rw [hH] at hbox
  try rw [hP]
  try rw [hH]
  generalize w5.alloc (.cells #[.int .i64 id, .slice a5 bz.length c5, .int .i64 1] 47) = w6 at hbox hb6 hO6 hR6 hH6 ⊢
  clear hE hbB HC hO5 hG5 hb5 hsz5 hbA
  have K := l3Copy_any a n c xs w6 (hr.below hb6) (fun x hx => (HI.out x hx).below hb6) HS.out HW.out hn
  go_wp2_with fail
  with_reducible refine K.mono ?_
  rintro e w7 ⟨olds, ao, co, rfl, hol, hov, hJ, hb67⟩
  rw [hl.out] at hol ⊢
  have hb7 := hb6.trans (hb67.mono hb6.size)
  have hx7 := hO6.below hb67
  have hbox7 : w7.heap[H]? = some (.cells #[.int .i64 id, .slice a5 bz.length c5, .int .i64 1] 47 (0, 0)) := (hb67.block H hH6).trans hbox
  have HOS := Lib.hid (vals_len hov (fun x hx => (HS.out x hx).2))
  have hW0 : WS w w7 P w7.heap.size H ⟨id, a5, c5, bz, 1⟩ ao co olds (some ⟨P, 0, none⟩) 0 0 [] := by
    refine ⟨rfl, hR6.below hb67, fun k hk => by simp [Value.ownBlock] at hk; exact .inl hk.symm, (by intro z hz; cases hz), hbox7, ⟨hPH, Nat.lt_of_lt_of_le hH6 hb67.size⟩, hx7, hJ.row.mono (by omega), fun k hk => ?_, fun z hz => (hJ.ins z hz).mono hb6.size, hb7, Nat.le_refl _, hwP⟩
    have := hJ.row.lt k hk
    omega
  have HOL := Lib.hid hol
  have HOLD := Lib.hid (fun (z : HV) (hz : z ∈ olds) => hz)
  generalize hMM : w7.heap.size = M at hW0
  clear hMM hb6 hb67 hO6 hR6 hx7 hbox7 hbox hJ hov hol hb7 hH6 K hr hb'
  go_wp2_with fail
  go_loopw [6, 7, 10] (fun v d i W => ∃ k : Nat, k ≤ n ∧ i = .int .i64 k ∧ ∃ db : Bool, d = .bool db ∧ ∃ zs a c L, v = .slice a L c ∧ L ≤ k + 1 ∧ Hid (L ≤ k + (if db then 1 else 0)) ∧ Hid (∀ z ∈ zs, z.zs.length ≤ 1048576) ∧ WS w W P M H ⟨id, a5, c5, bz, 1⟩ ao co olds a c L zs)
    (fun _ _ i _ => n - (intOf i).toNat)
  case atStart => exact ⟨0, Nat.zero_le _, rfl, false, rfl, [], _, _, 0, rfl, by omega, Lib.hid (by simp), Lib.hid (by intro z hz; cases hz), hW0⟩
  case round =>
    clear hW0
    obtain ⟨k, hk, rfl, db, rfl, zs, a1, c1, L, rfl, hL1, hL, hzl, hS⟩ := hrel
    by_cases hlt : k < n
    · obtain ⟨go, rfl, hPg, hgo⟩ := hS.old.head (by rw [HOL.out]; omega)
      obtain ⟨y, hy⟩ : ∃ y, olds[k]? = some y := ⟨_, List.getElem?_eq_getElem (by rw [HOL.out]; omega)⟩
      obtain ⟨d0, d1, d2⟩ := (cellsH hS.old hy).1
      have HC := Lib.hid (fun (W : World) (a : Option Addr) (c L : Nat) (zs : List HV) (h : WS w W P M H ⟨id, a5, c5, bz, 1⟩ (some ⟨go, 0, none⟩) co olds a c L zs) => (cellsH h.old hy).1)
      have HY := Lib.hid (List.mem_of_getElem? hy)
      have hylen := HOS.out y HY.out
      have hk0 : (0 : Int) ≤ (k : Int) := by omega
      have hk1 : (k : Int) < (n : Int) := by omega
      clear hy
      cases db with
      | true =>
        go_wp2_with (at_builtin; refine wp_appRA eltH rfl _ _ rfl hS.len rfl (hS.row.alloc _) ⟨wr.heap.size, 0, none⟩ 1 1 [y] rfl rfl (newHV_at wr _ rfl y) (by omega) (by have := hS.hM; have := hS.hH; simp; omega) ?_; intro a8 c8 w8 hR8 hG8 hloc8)
        clear d0 d1 d2
        have hS8 := hS.push (y := y) (.inr HY.out) hG8 hR8 hloc8
        have HZ8 : Hid (∀ z ∈ zs ++ [y], z.zs.length ≤ 1048576) := Lib.hid (by
          intro z hz
          rcases List.mem_append.1 hz with hz | hz
          · exact hzl.out z hz
          · rw [List.mem_singleton] at hz; subst hz; exact hylen)
        have HK8 : Hid (L + 1 ≤ k + 1 + (if true = true then 1 else 0)) := Lib.hid (by have := hL.out; simp at this ⊢; omega)
        have HM8 : L + 1 ≤ k + 1 + 1 := by have := hL.out; simp at this; omega
        clear hR8 hG8 hloc8 hS
        go_roundw
        case rel => exact ⟨k + 1, by omega, by go_num, true, rfl, _, a8, c8, L + 1, rfl, HM8, HK8, HZ8, hS8⟩
        case measure => simp [intOf]; omega
      | false =>
        by_cases hgt : id < y.id
        · have dgt : decide (id < y.id) = true := by simpa using hgt
          obtain ⟨b0, b1, b2⟩ := hS.cells
          go_wp2_with (at_builtin; first
            | (refine wp_appRA eltH rfl _ _ rfl hS.len rfl (hS.row.alloc _) ⟨wr.heap.size, 0, none⟩ 1 1 [(⟨id, a5, c5, bz, 1⟩ : HV)] rfl rfl (newHV_at wr _ rfl (⟨id, a5, c5, bz, 1⟩ : HV)) (by omega) (by have := hS.hM; have := hS.hH; simp; omega) ?_; intro a7 c7 w7 hR7 hG7 hloc7; have hS7 := hS.push (y := ⟨id, a5, c5, bz, 1⟩) (.inl rfl) hG7 hR7 hloc7; have e0 := (HC.out _ _ _ _ _ hS7).1; have e1 := (HC.out _ _ _ _ _ hS7).2.1; have e2 := (HC.out _ _ _ _ _ hS7).2.2)
            | (refine wp_appRA eltH rfl _ _ rfl hS7.len rfl (hS7.row.alloc _) ⟨w7.heap.size, 0, none⟩ 1 1 [y] rfl rfl (newHV_at w7 _ rfl y) (by omega) (by have := hS7.hM; have := hS7.hH; simp; omega) ?_; intro a8 c8 w8 hR8 hG8 hloc8))
          have HZ7 : Hid (∀ z ∈ zs ++ [(⟨id, a5, c5, bz, 1⟩ : HV)], z.zs.length ≤ 1048576) := Lib.hid (by
            intro z hz
            rcases List.mem_append.1 hz with hz | hz
            · exact hzl.out z hz
            · rw [List.mem_singleton] at hz; subst hz; exact hbl2)
          clear d0 d1 d2 e0 e1 e2 b0 b1 b2 hR7 hG7 hloc7 hS
          have hS8 := hS7.push (y := y) (.inr HY.out) hG8 hR8 hloc8
          have HZ8 : Hid (∀ z ∈ (zs ++ [(⟨id, a5, c5, bz, 1⟩ : HV)]) ++ [y], z.zs.length ≤ 1048576) := Lib.hid (by
            intro z hz
            rcases List.mem_append.1 hz with hz | hz
            · exact HZ7.out z hz
            · rw [List.mem_singleton] at hz; subst hz; exact hylen)
          have HK8 : Hid ((L + 1) + 1 ≤ k + 1 + (if true = true then 1 else 0)) := Lib.hid (by have := hL.out; simp at this ⊢; omega)
          have HM8 : (L + 1) + 1 ≤ k + 1 + 1 := by have := hL.out; simp at this; omega
          clear hR8 hG8 hloc8 hS7
          go_roundw
          case rel => exact ⟨k + 1, by omega, by go_num, true, rfl, _, a8, c8, (L + 1) + 1, rfl, HM8, HK8, HZ8, hS8⟩
          case measure => simp [intOf]; omega
        · have dgt : decide (id < y.id) = false := by simpa using hgt
          go_wp2_with (at_builtin; refine wp_appRA eltH rfl _ _ rfl hS.len rfl (hS.row.alloc _) ⟨wr.heap.size, 0, none⟩ 1 1 [y] rfl rfl (newHV_at wr _ rfl y) (by omega) (by have := hS.hM; have := hS.hH; simp; omega) ?_; intro a8 c8 w8 hR8 hG8 hloc8)
          clear d0 d1 d2
          have hS8 := hS.push (y := y) (.inr HY.out) hG8 hR8 hloc8
          have HZ8 : Hid (∀ z ∈ zs ++ [y], z.zs.length ≤ 1048576) := Lib.hid (by
            intro z hz
            rcases List.mem_append.1 hz with hz | hz
            · exact hzl.out z hz
            · rw [List.mem_singleton] at hz; subst hz; exact hylen)
          have HK8 : Hid (L + 1 ≤ k + 1 + (if false = true then 1 else 0)) := Lib.hid (by have := hL.out; simp at this ⊢; omega)
          have HM8 : L + 1 ≤ k + 1 + 1 := by have := hL.out; simp at this; omega
          clear hR8 hG8 hloc8 hS
          go_roundw
          case rel => exact ⟨k + 1, by omega, by go_num, false, rfl, _, a8, c8, L + 1, rfl, HM8, HK8, HZ8, hS8⟩
          case measure => simp [intOf]; omega
    · obtain rfl : k = n := by omega
      cases db with
      | true =>
        have hJ : OwnJ wr w.heap.size a1 c1 zs := ⟨hS.row.mono hwP, hS.ins⟩
        have hb := hS.bel
        have hlen := Lib.hid hS.len
        clear hS
        go_wp2
        go_ret
        exact ⟨zs, a1, c1, by rw [hlen.out]; rfl, by rw [hlen.out]; omega, hzl.out, hJ, hb⟩
      | false =>
        obtain ⟨b0, b1, b2⟩ := hS.cells
        go_wp2_with (at_builtin; refine wp_appRA eltH rfl _ _ rfl hS.len rfl (hS.row.alloc _) ⟨wr.heap.size, 0, none⟩ 1 1 [(⟨id, a5, c5, bz, 1⟩ : HV)] rfl rfl (newHV_at wr _ rfl (⟨id, a5, c5, bz, 1⟩ : HV)) (by omega) (by have := hS.hM; have := hS.hH; simp; omega) ?_; intro a7 c7 w7 hR7 hG7 hloc7)
        have hS7 := hS.push (y := ⟨id, a5, c5, bz, 1⟩) (.inl rfl) hG7 hR7 hloc7
        have hJ : OwnJ w7 w.heap.size a7 c7 (zs ++ [(⟨id, a5, c5, bz, 1⟩ : HV)]) := ⟨hS7.row.mono hwP, hS7.ins⟩
        have hb := hS7.bel
        have hlen := Lib.hid hS7.len
        have HM7 : Hid (L + 1 ≤ k + 1) := Lib.hid (by have := hL.out; simp at this; omega)
        clear hS hS7 hR7 hG7 hloc7 b0 b1 b2
        go_ret
        refine ⟨_, a7, c7, by rw [hlen.out]; rfl, by rw [hlen.out]; exact HM7.out, ?_, hJ, hb⟩
        intro z hz
        rcases List.mem_append.1 hz with hz | hz
        · exact hzl.out z hz
        · rw [List.mem_singleton] at hz; subst hz; exact hbl2

end Go.Proofs.Ytkjimngpodhdbaa
