/- Contract of FileStore. -/
import Derived.Test.YtkjimngpodhdbaaRefCut
namespace Go.Proofs.Ytkjimngpodhdbaa
open Go.RowKit
set_option linter.unusedVariables false

/-- 'append(out, xs...)', out a slice of ints of the call's own: where the new slice lies is said too. -/
theorem wp_appIA {ops : Array Oper} {rest : List Oper} {o : Oper} {act : Act} {Q : Exit → Act → World → Prop} (hgd : o.guard = none) (s x : Operand)
    (ho : o.op = .call { callee := .builtin .append, args := #[s, x], argTypes := #[32, 32] })
    {W : World} {B : Nat} {a0 : Option Addr} {c0 L : Nat} {zs : List Int} (hL : zs.length = L) (hs : act.eval s = .slice a0 L c0) (hO : OwnI W B a0 c0 zs)
    (ad : Addr) (m c : Nat) (news : List Int) (hx : act.eval x = .slice (some ad) m c) (hm : news.length = m)
    (hnews : ∀ j u, (news.map (Value.int .i64))[j]? = some u → W.cell? (ad.add j) = some u) (hwf : WfI news) (hlen : L + m ≤ 1099511627776) (hB : B ≤ W.heap.size)
    (h : ∀ a' c' w', OwnI w' B a' c' (zs ++ news) → W.grownBy w' (Value.slice a0 L c0).ownBlock → ((Value.slice a' (L + m) c').ownBlock = (Value.slice a0 L c0).ownBlock ∨ (Value.slice a' (L + m) c').ownBlock = some W.heap.size) → wpList Try.prog ops Q rest (act.put o.dst (.slice a' (L + m) c')) w') :
    wpList Try.prog ops Q (o :: rest) act W := by
  subst hL
  obtain ⟨i0, hi, hz0, hz1, hz2⟩ := info_parts info_int
  refine wpList_append_own_at W hgd s x 32 ho B 3 i0 (.int .i64 0) 1 8 Try.underlying32 hi hz0 hz1 hz2 rfl (by decide) _ zs.length _ hs hO.2 ad m c (news.map (Value.int .i64)) hx (by simp [hm]) hnews
    (ints_oneCell _ _) (by unfold maxLen; omega) (by omega) hB ?_
  intro v' w' hown hg _ hloc
  obtain ⟨a', c', rfl, _⟩ := own_form hown
  refine h a' c' w' ⟨fun z hz => ?_, ?_⟩ hg hloc
  · rcases List.mem_append.1 hz with h | h
    · exact hO.1 z h
    · exact hwf z h
  · rw [show (zs ++ news).length = zs.length + m by simp [hm], List.map_append]; exact hown

theorem OwnR.intKept {α : Type} {E : Elt α} {w w' : World} {B B' : Nat} {a a' : Option Addr} {c c' L : Nat} {xs : List α} {zs : List Int} (h : OwnR E w B a c xs) (hE : E.ty ≠ 3) (hi : OwnI w B' a' c' zs) (hL : zs.length = L)
    (hg : w.grownBy w' (Value.slice a' L c').ownBlock) : OwnR E w' B a c xs := by
  subst hL
  refine h.apart hg (fun k hk r hr e => ?_)
  subst e
  obtain ⟨cs, fz, h1⟩ := h.kindR k hk
  obtain ⟨cs', fz', h2⟩ := hi.kindI k hr
  rw [h1] at h2
  injection h2 with h2
  injection h2 with _ h2
  exact hE h2

/-- The state of FileStore's loop. -/
structure FS (w W : World) (P M : Nat) (al : Option Addr) (cl : Nat) (ls : List LV) (a : Option Addr) (c : Nat) (ys : List HV) (ai : Option Addr) (ci L : Nat) (is : List Int) : Prop where
  len : is.length = L
  own : OwnJ W w.heap.size a c ys
  ids : OwnI W w.heap.size ai ci is
  loc : ∀ k, (Value.slice ai L ci).ownBlock = some k → k = P ∨ M ≤ k
  blk : OwnR eltL W w.heap.size al cl ls
  bin : ∀ l ∈ ls, OwnI W (P + 1) l.ad l.cp l.zs
  blo : ∀ l ∈ ls, ∀ k, (Value.slice l.ad l.zs.length l.cp).ownBlock = some k → k < M
  bel : Below w.heap.size w W
  hM : M ≤ W.heap.size
  hP : w.heap.size ≤ P

theorem FS.below {w W W' : World} {P M : Nat} {al : Option Addr} {cl : Nat} {ls : List LV} {a : Option Addr} {c : Nat} {ys : List HV} {ai : Option Addr} {ci L : Nat} {is : List Int} (h : FS w W P M al cl ls a c ys ai ci L is) (hb : Below W.heap.size W W') :
    FS w W' P M al cl ls a c ys ai ci L is :=
  ⟨h.len, h.own.below hb, h.ids.below hb, h.loc, h.blk.below hb, fun l hl => (h.bin l hl).below hb, h.blo, h.bel.trans (hb.mono h.bel.size), Nat.le_trans h.hM hb.size, h.hP⟩

theorem FS.push {w W W5 W6 : World} {P M : Nat} {al : Option Addr} {cl : Nat} {ls : List LV} {a ax : Option Addr} {c cx : Nat} {ys xs : List HV} {ai a6 : Option Addr} {ci c6 L : Nat} {is : List Int} {id : Int} {o : Obj}
    (h : FS w W P M al cl ls a c ys ai ci L is) (hb : Below W.heap.size W W5) (hx : OwnJ W5 W.heap.size ax cx xs) (hg : (W5.alloc o).grownBy W6 (Value.slice ai L ci).ownBlock) (ho : OwnI W6 w.heap.size a6 c6 (is ++ [id]))
    (hloc : (Value.slice a6 (L + 1) c6).ownBlock = (Value.slice ai L ci).ownBlock ∨ (Value.slice a6 (L + 1) c6).ownBlock = some (W5.alloc o).heap.size) :
    FS w W6 P M al cl ls ax cx xs a6 c6 (L + 1) (is ++ [id]) := by
  have h5 := h.below hb
  have hrow := fun r (hr : (Value.slice ai L ci).ownBlock = some r) => h.ids.blk r (by rw [h.len]; exact hr)
  have hs : W5.heap.size ≤ W6.heap.size := Nat.le_trans (by simp) hg.size
  refine ⟨by rw [List.length_append, h.len]; rfl, ?_, ho, ?_, ?_, ?_, h.blo, ?_, Nat.le_trans h5.hM hs, h.hP⟩
  · refine ⟨?_, fun z hz => ?_⟩
    · exact ((hx.row.mono h.bel.size).alloc o).intKept (by decide) (h5.ids.alloc o) h.len hg
    · refine (((hx.ins z hz).alloc o).apartI hg (fun k hk r hr e => ?_)).mono h.bel.size
      have h1 := ((hx.ins z hz).blk k hk).1
      have h2 := (hrow r hr).2
      omega
  · intro k hk
    rcases hloc with h1 | h1
    · rw [h1] at hk; exact h.loc k hk
    · rw [h1] at hk
      injection hk with hk
      right
      have := h5.hM
      simp at hk
      omega
  · exact (h5.blk.alloc o).intKept eltL_ty (h5.ids.alloc o) h.len hg
  · intro l hl
    refine ((h5.bin l hl).alloc o).apartI hg (fun k hk r hr e => ?_)
    have h1 := ((h5.bin l hl).blk k hk).1
    have h2 := h.blo l hl k hk
    rcases h.loc r hr with h3 | h3 <;> omega
  · exact (h5.bel.alloc h5.bel.size o).grown hg (by have := h5.bel.size; simp; omega) (fun r hr => (hrow r hr).1)

/-- A file was stored, or not. -/
def RetFS (w : World) (e : Ending) (w' : World) : Prop :=
  ∃ ys a c is a' c' ok, e = .returned (.tuple #[.slice a ys.length c, .slice a' is.length c', .bool ok]) ∧ storeV (valsH ys) = true ∧ is.length ≤ 64 ∧ OwnJ w' w.heap.size a c ys ∧ OwnI w' w.heap.size a' c' is ∧ Below w.heap.size w w'

theorem RetFS.no (w w' : World) (hb : Below w.heap.size w w') : RetFS w (.returned (.tuple #[.slice (some ⟨w'.heap.size, 0, none⟩) 0 0, .slice (some ⟨w'.heap.size + 1, 0, none⟩) 0 0, .bool false])) ((w'.alloc (.cells #[] 47)).alloc (.cells #[] 3)) :=
  ⟨[], _, _, [], _, _, false, rfl, by decide, by simp, (OwnJ.empty hb.size).alloc _, (own_empty1 w' _).mono (by have := hb.size; omega), (hb.alloc hb.size _).alloc (by have := hb.size; simp; omega) _⟩

set_option maxHeartbeats 1000000 in
theorem FileStore_any (a : Option Addr) (n c : Nat) (xs : List HV) (a' : Option Addr) (c' : Nat) (bz : List Int) (w : World) (hr : RdR eltH w a n xs) (hin : InH w xs) (hs : ∀ x ∈ xs, x.zs.length ≤ 4611686018427387904) (hn : n ≤ 4611686018427387904)
    (hb' : RdI w a' bz.length bz) (hbw : WfI bz) (hbl : bz.length ≤ 64) (hbc : bz.length ≤ c') (hbc2 : c' ≤ maxLen) :
    Calls Try.prog 40 #[.slice a n c, .slice a' bz.length c'] w (RetFS w) := by
  have hl := Lib.hid hr.1
  have K := specStoreValid_any a n c xs w hr hin hs hn
  cases hv : storeV (valsH xs) with
  | false =>
    rw [hv] at K
    clear hv
    go_enter Try.func40, Try.ntmps40
    go_wp2_with fail
    with_reducible refine K.mono ?_
    rintro e w1 ⟨rfl, hb⟩
    go_wp2
    go_ret3
    exact RetFS.no w w1 hb
  | true =>
    rw [hv] at K
    obtain ⟨hn16, hs1, hwf, hs8, hids⟩ := store_valid hv
    rw [hr.1] at hn16
    have HV1 := Lib.hid hv
    have HS1 := Lib.hid hs1
    have HWF := Lib.hid hwf
    have HS8 := Lib.hid hs8
    have HBW := Lib.hid hbw
    clear hv hs1 hwf hs8 hids hbw
    go_enter Try.func40, Try.ntmps40
    go_wp2_with fail
    with_reducible refine K.mono ?_
    rintro e w1 ⟨rfl, hb1⟩
    have K2 := still_of (specFileValid_any a' bz.length c' bz w1 (hb'.below hb1) (by omega))
    clear K
    obtain ⟨v, hfv⟩ : ∃ v, fileV bz = v := ⟨_, rfl⟩
    rw [hfv] at K2
    clear hfv
    go_wp2_with fail
    with_reducible refine K2.mono ?_
    rintro e w2 ⟨rfl, hw⟩
    subst hw
    have hb2 := hb1
    clear K2 hb1
    cases v with
    | false =>
      go_wp2
      go_ret3
      exact RetFS.no w w2 hb2
    | true =>
      have K := l3Copy_any a n c xs w2 (hr.below hb2) (hin.below hb2) HS1.out HWF.out (by omega)
      go_wp2_with fail
      with_reducible refine K.mono ?_
      rintro e w3 ⟨ys, a3, c3, rfl, hyl, hyv, hJ3, hb23⟩
      rw [hl.out] at hyl ⊢
      have hb3 := hb2.trans (hb23.mono hb2.size)
      have hJ3 := hJ3.mono hb2.size
      have hY0 : Hid (storeV (valsH ys) = true) := Lib.hid (by rw [hyv]; exact HV1.out)
      have HYL := Lib.hid hyl
      clear K hb23 hyv hyl hb2
      have hb4 := hb3.alloc hb3.size (.cells #[] 3)
      have K := l4Cut_any a' c' bz (w3.alloc (.cells #[] 3)) (hb'.below hb4) HBW.out hbl hbc hbc2
      go_wp2_with fail
      with_reducible refine K.mono ?_
      rintro e w5 ⟨ls, al, cl, rfl, hll, hl8, hO5, hb45⟩
      have hF0 : FS w w5 w3.heap.size w5.heap.size al cl ls a3 c3 ys (some ⟨w3.heap.size, 0, none⟩) 0 0 [] := by
        refine ⟨rfl, (hJ3.alloc _).below hb45, ((OwnI.empty (w := w3) (Nat.le_refl _)).below hb45).mono hb3.size, fun k hk => by simp [Value.ownBlock] at hk; exact .inl hk.symm, hO5.row.mono hb4.size, fun l hl => (hO5.ins l hl).mono (by simp), fun l hl k hk => ((hO5.ins l hl).blk k hk).2, hb4.trans (hb45.mono hb4.size), Nat.le_refl _, hb3.size⟩
      obtain ⟨m, hm⟩ : ∃ m, ls.length = m := ⟨_, rfl⟩
      rw [hm] at hll ⊢
      have HM := Lib.hid hm
      have H8 := Lib.hid hl8
      have HYN : Hid (ys.length ≤ 16) := Lib.hid (store_valid hY0.out).1
      obtain ⟨P, hP⟩ : ∃ P, w3.heap.size = P := ⟨_, rfl⟩
      obtain ⟨M, hMM⟩ : ∃ M, w5.heap.size = M := ⟨_, rfl⟩
      rw [hP, hMM] at hF0
      rw [hP]
      clear hP hMM hm hl8 hO5 hb45 hb4 hb3 hJ3 K
      go_wp2_with fail
      go_loopw [7, 8, 10] (fun v d i W => ∃ k : Nat, k ≤ m ∧ i = .int .i64 k ∧ ∃ ys a c N is ai ci, v = .slice a N c ∧ d = .slice ai k ci ∧ Hid (ys.length = N) ∧ Hid (storeV (valsH ys) = true) ∧ FS w W P M al cl ls a c ys ai ci k is)
        (fun _ _ i _ => m - (intOf i).toNat)
      case atStart => exact ⟨0, Nat.zero_le _, rfl, ys, _, _, n, [], _, _, rfl, rfl, HYL, hY0, hF0⟩
      case round =>
        clear hF0
        obtain ⟨k, hk, rfl, ys, a1, c1, N, is, ai, ci, rfl, rfl, HN, HV2, hS⟩ := hrel
        by_cases hlt : k < m
        · have hrd := hS.blk.rd
          rw [HM.out] at hrd
          obtain ⟨b, off, l, rfl, hbl2, hlx, d0⟩ := atL hrd hlt
          have hlm := List.mem_of_getElem? hlx
          have hl8 := H8.out l hlm
          have hrdl := (hS.bin l hlm).rd
          have hk0 : (0 : Int) ≤ (k : Int) := by omega
          have hk1 : (k : Int) < (m : Int) := by omega
          have hst := store_valid HV2.out
          have hnl : ys.length = N := HN.out
          have K := StorePut_any a1 N c1 ys l.ad l.cp l.zs wr (by have := hS.own.row.rd; rwa [HN.out] at this) hS.own.inn (fun x hx => by have := hst.2.2.2.1 x hx; omega) (by have := hst.1; omega) hrdl (by omega)
          clear hlx hrdl hrd hst hnl
          go_wp2_with fail
          with_reducible refine K.mono ?_
          rintro e w6 ⟨zs, a6, c6, id, ok, rfl, hvz, hid0, hid1, hJ6, hb6⟩
          obtain ⟨L, hL⟩ : ∃ L, zs.length = L := ⟨_, rfl⟩
          rw [hL]
          have HL := Lib.hid hL
          have HVZ := Lib.hid hvz
          clear K hL hvz d0
          cases ok with
          | false =>
            have hbb := hS.bel.trans (hb6.mono hS.bel.size)
            go_wp2
            go_ret3
            exact RetFS.no w w6 hbb
          | true =>
            have hI6 := hS.ids.below hb6
            have hlen := Lib.hid hS.len
            have hbsz := hS.bel.size
            go_wp2_with (at_builtin; refine wp_appIA rfl _ _ rfl hlen.out rfl (hI6.alloc _) ⟨w6.heap.size, 0, none⟩ 1 1 [id] rfl rfl (cell_one_new _ _ _) (wf_one (by omega) (by omega)) (by omega) (by have := hb6.size; simp; omega) ?_; intro a7 c7 w7 hI7 hG7 hloc7)
            have hS7 := hS.push hb6 hJ6 hG7 hI7 hloc7
            clear hS hb6 hJ6 hI6 hI7 hG7 hloc7
            go_roundw
            case rel => exact ⟨k + 1, by omega, by go_num, zs, a6, c6, L, _, a7, c7, rfl, rfl, HL, HVZ, hS7⟩
            case measure => simp [intOf]; omega
        · obtain rfl : k = m := by omega
          have HI := Lib.hid hS.len
          have hJ := hS.own
          have hI := hS.ids
          have hb := hS.bel
          clear hS
          go_wp2
          go_ret3
          exact ⟨ys, a1, c1, is, ai, ci, true, by rw [HN.out, HI.out]; rfl, HV2.out, by rw [HI.out]; omega, hJ, hI, hb⟩

end Go.Proofs.Ytkjimngpodhdbaa
