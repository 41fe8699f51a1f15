import Derived.Test.YtajheicheefpeaaM9
import Derived.Test.YtajheicheefpeaaM10
import Derived.Test.YtajheicheefpeaaM5
/- A damaged block is found: in plain words. -/
namespace Go.Proofs.Ytajheicheefpeaa
open Go.Proofs
set_option linter.unusedSimpArgs false
set_option linter.unusedVariables false

theorem fold_ne : ∀ (r : List Int) (s t : Int), (s - t) % 9973 ≠ 0 → (r.foldl (fun s b => (263 * s + b) % 9973) s - r.foldl (fun s b => (263 * s + b) % 9973) t) % 9973 ≠ 0 := by
  intro r
  induction r with
  | nil => intro s t h; exact h
  | cons b r ih =>
    intro s t h
    simp only [List.foldl_cons]
    exact ih _ _ (by omega)

theorem sumL_ne {z z' : Int} (r : List Int) (h : (z - z') % 9973 ≠ 0) : sumL (z :: r) ≠ sumL (z' :: r) := by
  intro e
  unfold sumL at e
  simp only [List.foldl_cons] at e
  exact fold_ne r _ _ (show ((263 * 7 + z) % 9973 - (263 * 7 + z') % 9973) % 9973 ≠ 0 by omega) (by rw [e]; simp)

theorem range_one {c : Nat → Int} {k : Nat} : ∀ {n : Nat}, k < n → (List.range n).filterMap (fun j => if j = k then some (c j) else none) = [c k] := by
  have none_ : ∀ n, n ≤ k → (List.range n).filterMap (fun j => if j = k then some (c j) else none) = [] := by
    intro n hn
    rw [List.filterMap_eq_nil_iff]
    intro j hj
    have := List.mem_range.1 hj
    rw [if_neg (by omega)]
  intro n
  induction n with
  | zero => intro h; omega
  | succ n ih =>
    intro h
    rw [List.range_succ, List.filterMap_append]
    by_cases hk : k < n
    · rw [ih hk]
      simp [show ¬ n = k by omega]
    · obtain rfl : k = n := by omega
      rw [none_ k (Nat.le_refl _)]
      simp

theorem fm_congr {f g : Nat → Option Int} : ∀ (l : List Nat), (∀ j ∈ l, f j = g j) → l.filterMap f = l.filterMap g
  | [], _ => rfl
  | j :: l, h => by
    rw [List.filterMap_cons, List.filterMap_cons, h j (by simp), fm_congr l fun i hi => h i (by simp [hi])]

theorem checksV_sums {xs : List HV} (hv : storeV (valsH xs) = true) : checksV (sumsL (valsH xs)) = true := by
  have hlen : (sumsL (valsH xs)).length = xs.length := by simp [sumsL, valsH]
  have h16 : xs.length ≤ 16 := by have := store_len hv; rwa [valsH_len] at this
  have hord := (chain_pairwise befH_trans (storeV_iff.1 hv).1).2.2
  have hget : ∀ k (hk : k < xs.length), (sumsL (valsH xs)).getD k (0, 0) = (xs[k].id, sumL xs[k].zs) := by
    intro k hk
    have := valsH_get (List.getElem?_eq_getElem hk)
    simp [sumsL, List.getD, List.getElem?_map, this, HV.val]
  have key : ∀ m k l, k + m = xs.length → (∀ hk : k < xs.length, l < xs[k].id) → okFrom l ((sumsL (valsH xs)).drop k) = true := by
    intro m
    induction m with
    | zero =>
      intro k l h _
      rw [List.drop_eq_nil_of_le (by omega)]; rfl
    | succ m ih =>
      intro k l h hl
      have hk : k < xs.length := by omega
      have hx : xs[k]? = some xs[k] := List.getElem?_eq_getElem hk
      have hid := (store_ids hv hx).1
      have hsb := sumL_bd xs[k].zs
      rw [okFrom_drop (by omega), hget k hk]
      have h1 := hl hk
      have hrest := ih (k + 1) xs[k].id (by omega) (fun hk1 => by
        have := (List.pairwise_iff_getElem.1 hord) k (k + 1) (by rw [valsH_len]; exact hk) (by rw [valsH_len]; exact hk1) (by omega)
        simpa [befH, valsH, HV.val] using this)
      rw [hrest]
      simp
      omega
  unfold checksV
  rw [hlen]
  have := key xs.length 0 0 (by omega) (fun hk => by have := (store_ids hv (List.getElem?_eq_getElem hk)).1; omega)
  simp only [List.drop_zero] at this
  rw [this]
  simp
  omega

theorem badR_damage {xs ys : List HV} {k : Nat} {x : HV} {ad : Option Addr} {cp : Nat} {bs : List Int} (hv : storeV (valsH xs) = true) (hx : xs[k]? = some x) (hys : ys = xs.set k ⟨x.id, ad, cp, bs, x.us⟩) (hy : storeV (valsH ys) = true) (hne : sumL bs ≠ sumL x.zs) :
    badR (valsH ys) (sumsL (valsH xs)) = [x.id] := by
  have hk : k < xs.length := (List.getElem?_eq_some_iff.1 hx).1
  have hlen : (sumsL (valsH xs)).length = xs.length := by simp [sumsL, valsH]
  have hgetx : ∀ (j : Nat) (y : HV), xs[j]? = some y → (sumsL (valsH xs)).getD j (0, 0) = (y.id, sumL y.zs) := by
    intro j y hj
    have := valsH_get hj
    simp [sumsL, List.getD, List.getElem?_map, this, HV.val]
  have hat : ∀ (j : Nat) (y : HV), ys[j]? = some y → atV (valsH ys) y.id = some y.val := by
    intro j y hj
    refine atV_some (valsH_get hj) rfl fun i u hi hu => ?_
    have hjl := (List.getElem?_eq_some_iff.1 hj).1
    have hil : i < ys.length := by omega
    have hyi : ys[i]? = some ys[i] := List.getElem?_eq_getElem hil
    have e := valsH_get hyi
    rw [hu] at e
    injection e with e
    subst e
    exact (store_ids hy hj).2 i _ hi hyi
  have hbl : ∀ (j : Nat) (y : HV), ys[j]? = some y → blockSum y.zs = sumL y.zs := by
    intro j y hj
    have hb := (store_ok hy (valsH_get hj)).2.1
    simp [blockSum, show blockV y.zs = true from hb]
  have flag : ∀ j, j < xs.length → ((sumsL (valsH xs)).map (badC (valsH ys))).getD j false = decide (j = k) := by
    intro j hj
    have hxj : xs[j]? = some xs[j] := List.getElem?_eq_getElem hj
    have e1 : (sumsL (valsH xs))[j]? = some (xs[j].id, sumL xs[j].zs) := by
      have := valsH_get hxj
      simp [sumsL, List.getElem?_map, this, HV.val]
    have e2 : ((sumsL (valsH xs)).map (badC (valsH ys))).getD j false = badC (valsH ys) (xs[j].id, sumL xs[j].zs) := by
      simp [List.getD, List.getElem?_map, e1]
    rw [e2]
    by_cases hjk : j = k
    · subst hjk
      have hyk : ys[j]? = some ⟨x.id, ad, cp, bs, x.us⟩ := by rw [hys]; simp [hk]
      have hxx : xs[j] = x := by rw [hxj] at hx; injection hx
      have h1 := hat j _ hyk
      have h2 := hbl j _ hyk
      simp only at h1 h2
      rw [hxx]
      unfold badC
      rw [h1]
      simp [HV.val, h2, hne]
    · have hyj : ys[j]? = some xs[j] := by rw [hys, List.getElem?_set_ne (by omega)]; exact hxj
      have h1 := hat j _ hyj
      have h2 := hbl j _ hyj
      unfold badC
      rw [h1]
      simp [HV.val, h2, hjk]
  rw [badR_good hy (checksV_sums hv), hlen]
  unfold badI
  have e : (List.range xs.length).filterMap (fun j => if ((sumsL (valsH xs)).map (badC (valsH ys))).getD j false then some ((sumsL (valsH xs)).getD j (0, 0)).1 else none) = (List.range xs.length).filterMap (fun j => if j = k then some ((sumsL (valsH xs)).getD j (0, 0)).1 else none) := by
    refine fm_congr _ fun j hj => ?_
    rw [flag j (List.mem_range.1 hj)]
    by_cases h : j = k <;> simp [h]
  rw [e, range_one hk, hgetx k x hx]
end Go.Proofs.Ytajheicheefpeaa

/- FnChecksDamage: the pieces that lay the damage, alone. -/
namespace Go.Proofs.Ytajheicheefpeaa
open Go.Proofs
open Go.Conc Go.RowKit
set_option linter.unusedSimpArgs false
set_option linter.unusedVariables false

noncomputable def body5 : Code := Try.f5.body.getD .skip
noncomputable def t5_9 : Code := match body5 with | .seq _ (.seq _ (.seq _ (.seq _ (.seq _ (.seq _ (.seq _ x)))))) => x | _ => .skip
noncomputable def c5_9 : Code := match t5_9 with | .seq x _ => x | _ => .skip
noncomputable def c5_10 : Code := match t5_9 with | .seq _ (.seq x _) => x | _ => .skip
noncomputable def c5_11 : Code := match t5_9 with | .seq _ (.seq _ (.seq x _)) => x | _ => .skip
noncomputable def c5_14 : Code := match t5_9 with | .seq _ (.seq _ (.seq _ (.seq x _))) => x | _ => .skip

theorem BT.ofG {w w' : World} {row : Option Nat} (h : w.grownBy w' row) (hr : ∀ k, row = some k → w.heap.size ≤ k) : BT w w' := ⟨h.os, h.output, h.size, fun b hb => h.block b hb (fun e => by have := hr b e.symm; omega)⟩
theorem GT.untape {row : Option Nat} {w w' : World} {τ : TapeT} {d : Nat} (h : GT (Go.Proofs.Ytajheicheefpeaa.onT w τ d) w' row) : GT w w' row := ⟨h.os, rfl, h.output, h.size, h.block⟩
theorem GT.ofG {w w' : World} {row : Option Nat} (h : w.grownBy w' row) : GT w w' row := ⟨h.os, rfl, h.output, h.size, h.block⟩

theorem RdR.flatH {w : World} {b off n : Nat} {xs : List HV} (h : RdR eltH w (some ⟨b, off, none⟩) n xs) : ∀ j u, (eltH.flat xs)[j]? = some u → w.cell? ((⟨b, off, none⟩ : Addr).add j) = some u := by
  intro j u hj
  have hlen : (eltH.flat xs).length = xs.length * 3 := eltH.flat_length xs
  have hjl : j < xs.length * 3 := by rw [← hlen]; exact (List.getElem?_eq_some_iff.1 hj).1
  have hi : j / 3 < xs.length := by omega
  have hx : xs[j / 3]? = some xs[j / 3] := List.getElem?_eq_getElem hi
  obtain ⟨b', off', he, hlt, hc⟩ := h.2 (j / 3) (by rw [← h.1]; exact hi)
  injection he with he
  injection he with h1 h2
  subst h1 h2
  have hk : j % 3 < (eltH.enc xs[j / 3]).length := by rw [eltH.len]; exact Nat.mod_lt _ (by decide)
  have hu : (eltH.enc xs[j / 3])[j % 3]? = some (eltH.enc xs[j / 3])[j % 3] := List.getElem?_eq_getElem hk
  have hf := eltH.flat_get xs (j / 3) (j % 3) _ _ hx hu
  have e : j / 3 * eltH.m + j % 3 = j := by show j / 3 * 3 + j % 3 = j; omega
  rw [e, hj] at hf
  injection hf with hf
  have := hc (j / 3) _ hx (j % 3) _ hu
  rw [← hf] at this
  have e2 : off + j / 3 * eltH.m + j % 3 = off + j := by show off + j / 3 * 3 + j % 3 = off + j; omega
  rw [e2] at this
  rw [Addr.add_lit]; exact this

theorem RdI.cellsI {w : World} {b off n : Nat} {zs : List Int} (h : RdI w (some ⟨b, off, none⟩) n zs) : ∀ j u, (zs.map (Value.int .i64))[j]? = some u → w.cell? ((⟨b, off, none⟩ : Addr).add j) = some u := by
  intro j u hj
  have hjl : j < zs.length := by have := (List.getElem?_eq_some_iff.1 hj).1; simpa using this
  obtain ⟨b', off', he, hlt, hc⟩ := h.2 j (by rw [← h.1]; exact hjl)
  injection he with he
  injection he with h1 h2
  subst h1 h2
  have := hc j (by rw [← h.1]; exact hjl)
  rw [getElem?_ints zs j hjl] at hj
  injection hj with hj
  rw [← hj, Addr.add_lit]
  exact this

section
variable {a la xa ba : Option Addr} {nl lc xc k m bc g B : Nat} {xs : List HV} {zs : List Int} {w0 : World}

def Q5_9 (la : Option Addr) (nl lc : Nat) (xs : List HV) (A : Value → Option Addr → Nat → Array Value) (w0 : World) (b : Bool) (T : Array Value) (w' : World) : Prop :=
  b = false ∧ BT w0 w' ∧ ∃ v xa xc, T = A v xa xc ∧ OwnR eltH w' w0.heap.size xa xc xs

set_option maxRecDepth 100000 in
set_option maxHeartbeats 1000000 in
theorem copy5_wp {s0 s1 s2 s3 s4 s6 s7 s8 s9 s10 s11 s12 s13 s14 s15 s16 s17 s18 s19 s20 s21 s22 s23 s24 s25 s26 s27 s28 s29 s30 s31 s32 s33 s34 s35 s36 s37 s38 s39 s40 s41 s42 s43 s44 s45 s46 s47 s48 s49 s50 s51 s52 s53 s54 s55 s56 s57 s58 s59 s60 s61 s62 s63 s64 s65 s66 s67 s68 s69 s70 s71 s72 s73 s74 s75 s76 s77 s78 s79 s80 s81 s82 s83 s84 s85 s86 s87 s88 s89 s90 s91 s92 s93 s94 s95 s96 s97 s98 s99 s100 s101 s102 s103 s104 s105 : Value} (hr : RdR eltH w0 la nl xs) (h0 : 0 < nl) (hn : nl ≤ 1048576) :
    c5_9.wp Try.prog (QW (Q5_9 la nl lc xs (fun v xa xc => #[s0, s1, s2, s3, s4, .slice la nl lc, s6, s7, s8, s9, s10, .slice xa nl xc, s12, s13, s14, s15, s16, s17, s18, s19, s20, s21, s22, s23, s24, s25, s26, s27, s28, s29, s30, s31, s32, s33, s34, s35, s36, s37, s38, s39, s40, s41, s42, s43, s44, s45, s46, s47, s48, s49, s50, s51, s52, s53, s54, s55, s56, s57, s58, s59, s60, s61, s62, s63, v, .slice la nl lc, .slice xa nl xc, s67, s68, s69, s70, s71, s72, s73, s74, s75, s76, s77, s78, s79, s80, s81, s82, s83, s84, s85, s86, s87, s88, s89, s90, s91, s92, s93, s94, s95, s96, s97, s98, s99, s100, s101, s102, s103, s104, s105]) w0)) ⟨#[s0, s1, s2, s3, s4, .slice la nl lc, s6, s7, s8, s9, s10, s11, s12, s13, s14, s15, s16, s17, s18, s19, s20, s21, s22, s23, s24, s25, s26, s27, s28, s29, s30, s31, s32, s33, s34, s35, s36, s37, s38, s39, s40, s41, s42, s43, s44, s45, s46, s47, s48, s49, s50, s51, s52, s53, s54, s55, s56, s57, s58, s59, s60, s61, s62, s63, s64, s65, s66, s67, s68, s69, s70, s71, s72, s73, s74, s75, s76, s77, s78, s79, s80, s81, s82, s83, s84, s85, s86, s87, s88, s89, s90, s91, s92, s93, s94, s95, s96, s97, s98, s99, s100, s101, s102, s103, s104, s105], []⟩ w0 := by
  obtain ⟨b, off, rfl, hlt, _⟩ := hr.2 0 h0
  have HF := Lib.hid (fun j u hj => (World.cell?_alloc_lt w0 (.cells #[] 45) _ (by rw [Addr.add_lit]; exact hlt)).trans (hr.flatH j u hj) : ∀ j u, (eltH.flat xs)[j]? = some u → (w0.alloc (.cells #[] 45)).cell? ((⟨b, off, none⟩ : Addr).add j) = some u)
  have hb0 : Below w0.heap.size w0 (w0.alloc (.cells #[] 45)) := (Below.refl _ _).alloc (Nat.le_refl _) _
  have hO0 : OwnR eltH (w0.alloc (.cells #[] 45)) w0.heap.size (some ⟨w0.heap.size, 0, none⟩) 0 [] := OwnR.empty eltH (Nat.le_refl _)
  have hl := Lib.hid hr.1
  clear hr
  simp only [c5_9, t5_9, body5, Try.f5, Option.getD_some]
  go_wp2_with (at_builtin; go_must (refine wp_appR eltH rfl _ _ rfl (show ([] : List HV).length = 0 from rfl) rfl hO0 ⟨b, off, none⟩ nl _ xs rfl hl.out HF.out (by omega) (by simp) ?_); intro a2 c2 w2 hO2 hG2)
  have hb2 := hb0.grown hG2 (by simp) (fun r hr => (World.ownsRow.lt hO0 r hr).1)
  exact ⟨rfl, rfl, BT.of hb2, _, a2, c2, rfl, hO2⟩

def Q5_10 (zs : List Int) (A : Value → Value → Value → Value → Option Addr → Nat → Array Value) (w0 : World) (b : Bool) (T : Array Value) (w' : World) : Prop :=
  b = false ∧ BT w0 w' ∧ ∃ v0 v1 v2 v3 ba bc, T = A v0 v1 v2 v3 ba bc ∧ OwnI w' w0.heap.size ba bc zs

set_option maxRecDepth 100000 in
set_option maxHeartbeats 1000000 in
theorem take5_wp {s0 s1 s2 s3 s4 s6 s7 s8 s9 s11 s12 s13 s14 s15 s16 s17 s18 s19 s20 s21 s22 s23 s24 s25 s26 s27 s28 s29 s30 s31 s32 s33 s34 s35 s36 s37 s38 s39 s40 s41 s42 s43 s44 s45 s46 s47 s48 s49 s50 s51 s52 s53 s54 s55 s56 s57 s58 s59 s60 s61 s62 s63 s64 s65 s66 s67 s68 s69 s70 s71 s72 s73 s74 s75 s76 s77 s78 s79 s80 s81 s82 s83 s84 s85 s86 s87 s88 s89 s90 s91 s92 s93 s94 s95 s96 s97 s98 s99 s100 s101 s102 s103 s104 s105 : Value} {x : HV} (hr : RdR eltH w0 la nl xs) (hi : InH w0 xs) (hk : k < nl) (hn : nl ≤ 1048576) (hx : xs[k]? = some x) (hm : x.zs.length = m) (h0 : 0 < m) (hm2 : m ≤ 8) (hwf : WfI x.zs) :
    c5_10.wp Try.prog (QW (Q5_10 x.zs (fun v0 v1 v2 v3 ba bc => #[s0, s1, s2, s3, s4, .slice la nl lc, s6, s7, s8, s9, .int .i64 k, s11, .slice ba m bc, s13, s14, s15, s16, s17, s18, s19, s20, s21, s22, s23, s24, s25, s26, s27, s28, s29, s30, s31, s32, s33, s34, s35, s36, s37, s38, s39, s40, s41, s42, s43, s44, s45, s46, s47, s48, s49, s50, s51, s52, s53, s54, s55, s56, s57, s58, s59, s60, s61, s62, s63, s64, s65, s66, v0, .slice la nl lc, .int .i64 k, v1, v2, v3, .slice ba m bc, s74, s75, s76, s77, s78, s79, s80, s81, s82, s83, s84, s85, s86, s87, s88, s89, s90, s91, s92, s93, s94, s95, s96, s97, s98, s99, s100, s101, s102, s103, s104, s105]) w0)) ⟨#[s0, s1, s2, s3, s4, .slice la nl lc, s6, s7, s8, s9, .int .i64 k, s11, s12, s13, s14, s15, s16, s17, s18, s19, s20, s21, s22, s23, s24, s25, s26, s27, s28, s29, s30, s31, s32, s33, s34, s35, s36, s37, s38, s39, s40, s41, s42, s43, s44, s45, s46, s47, s48, s49, s50, s51, s52, s53, s54, s55, s56, s57, s58, s59, s60, s61, s62, s63, s64, s65, s66, s67, s68, s69, s70, s71, s72, s73, s74, s75, s76, s77, s78, s79, s80, s81, s82, s83, s84, s85, s86, s87, s88, s89, s90, s91, s92, s93, s94, s95, s96, s97, s98, s99, s100, s101, s102, s103, s104, s105], []⟩ w0 := by
  obtain ⟨b, off, x', rfl, hbl, hx', c0, c1, c2⟩ := atH hr hk
  rw [hx] at hx'
  injection hx' with hx'
  subst hx'
  have hri := hi x (List.mem_of_getElem? hx)
  obtain ⟨ad, hri, had⟩ : ∃ ad, RdI w0 ad x.zs.length x.zs ∧ x.ad = ad := ⟨_, hri, rfl⟩
  rw [hm] at hri
  obtain ⟨zb, zo, rfl, hzl, _⟩ := hri.2 0 h0
  rw [had, hm] at c1
  have HF := Lib.hid (fun j u hj => (World.cell?_alloc_lt w0 (.cells #[] 3) _ (by rw [Addr.add_lit]; exact hzl)).trans (hri.cellsI j u hj) : ∀ j u, (x.zs.map (Value.int .i64))[j]? = some u → (w0.alloc (.cells #[] 3)).cell? ((⟨zb, zo, none⟩ : Addr).add j) = some u)
  have hb0 : Below w0.heap.size w0 (w0.alloc (.cells #[] 3)) := (Below.refl _ _).alloc (Nat.le_refl _) _
  have hO0 : OwnI (w0.alloc (.cells #[] 3)) w0.heap.size (some ⟨w0.heap.size, 0, none⟩) 0 [] := OwnI.empty (Nat.le_refl _)
  have d1 : (w0.alloc (.cells #[] 3)).cell? ⟨b, off + k * 3 + 1, none⟩ = some (.slice (some ⟨zb, zo, none⟩) m x.cp) := (World.cell?_alloc_lt w0 _ ⟨b, off + k * 3 + 1, none⟩ hbl).trans c1
  have hbl2 : b < (w0.alloc (.cells #[] 3)).heap.size := by simp; omega
  have hM := Lib.hid hm
  have HW := Lib.hid hwf
  have hk0 : (0 : Int) ≤ (k : Int) := by omega
  have hk1 : (k : Int) < (nl : Int) := by omega
  clear hr hi hx hri had hm c0 c2 c1 hwf
  simp only [c5_10, t5_9, body5, Try.f5, Option.getD_some]
  go_wp2_with (at_builtin; go_must (refine wp_app rfl _ _ rfl rfl hO0 ⟨zb, zo, none⟩ m _ x.zs rfl hM.out HF.out HW.out (by simp; omega) (by simp) ?_); intro a2 c2 w2 hO2 hG2)
  have hb2 := hb0.grown hG2 (by simp) (fun r hr => (hO0.2.lt r hr).1)
  have hM' := hM.out
  clear hM
  subst hM'
  exact ⟨rfl, rfl, BT.of hb2, _, _, _, _, a2, c2, rfl, hO2⟩

def Q5_11 (g : Nat) (zs : List Int) (B bc : Nat) (A : Value → Value → Value → Value → Value → Value → Value → Value → Value → Value → Value → Value → Array Value) (w0 : World) (b : Bool) (T : Array Value) (w' : World) : Prop :=
  b = false ∧ GT w0 w' (some g) ∧ ∃ u74 u75 u76 u77 u78 u79 u80 u81 u82 u83 u84 u85, T = A u74 u75 u76 u77 u78 u79 u80 u81 u82 u83 u84 u85 ∧ OwnI w' B (some ⟨g, 0, none⟩) bc zs

/-- What is laid in its place. -/
def dent (z : Int) : Int := if z = 255 then 254 else z + 1

set_option maxRecDepth 100000 in
set_option maxHeartbeats 1000000 in
theorem dent5_wp {s0 s1 s2 s3 s4 s5 s6 s7 s8 s9 s10 s11 s13 s14 s15 s16 s17 s18 s19 s20 s21 s22 s23 s24 s25 s26 s27 s28 s29 s30 s31 s32 s33 s34 s35 s36 s37 s38 s39 s40 s41 s42 s43 s44 s45 s46 s47 s48 s49 s50 s51 s52 s53 s54 s55 s56 s57 s58 s59 s60 s61 s62 s63 s64 s65 s66 s67 s68 s69 s70 s71 s72 s73 s74 s75 s76 s77 s78 s79 s80 s81 s82 s83 s84 s85 s86 s87 s88 s89 s90 s91 s92 s93 s94 s95 s96 s97 s98 s99 s100 s101 s102 s103 s104 s105 : Value} {z : Int} {r : List Int} (hO : OwnI w0 B (some ⟨g, 0, none⟩) bc (z :: r)) (hm : (z :: r).length = m) (hz0 : 0 ≤ z) (hz1 : z ≤ 255) :
    c5_11.wp Try.prog (QW (Q5_11 g (dent z :: r) B bc (fun u74 u75 u76 u77 u78 u79 u80 u81 u82 u83 u84 u85 => #[s0, s1, s2, s3, s4, s5, s6, s7, s8, s9, s10, s11, .slice (some ⟨g, 0, none⟩) m bc, s13, s14, s15, s16, s17, s18, s19, s20, s21, s22, s23, s24, s25, s26, s27, s28, s29, s30, s31, s32, s33, s34, s35, s36, s37, s38, s39, s40, s41, s42, s43, s44, s45, s46, s47, s48, s49, s50, s51, s52, s53, s54, s55, s56, s57, s58, s59, s60, s61, s62, s63, s64, s65, s66, s67, s68, s69, s70, s71, s72, s73, u74, u75, u76, u77, u78, u79, u80, u81, u82, u83, u84, u85, s86, s87, s88, s89, s90, s91, s92, s93, s94, s95, s96, s97, s98, s99, s100, s101, s102, s103, s104, s105]) w0)) ⟨#[s0, s1, s2, s3, s4, s5, s6, s7, s8, s9, s10, s11, .slice (some ⟨g, 0, none⟩) m bc, s13, s14, s15, s16, s17, s18, s19, s20, s21, s22, s23, s24, s25, s26, s27, s28, s29, s30, s31, s32, s33, s34, s35, s36, s37, s38, s39, s40, s41, s42, s43, s44, s45, s46, s47, s48, s49, s50, s51, s52, s53, s54, s55, s56, s57, s58, s59, s60, s61, s62, s63, s64, s65, s66, s67, s68, s69, s70, s71, s72, s73, s74, s75, s76, s77, s78, s79, s80, s81, s82, s83, s84, s85, s86, s87, s88, s89, s90, s91, s92, s93, s94, s95, s96, s97, s98, s99, s100, s101, s102, s103, s104, s105], []⟩ w0 := by
  have hrd := hO.rd
  obtain ⟨b', off', he, hgl, hc⟩ := hrd.2 0 (by simp)
  injection he with he
  injection he with h1 h2
  subst h1 h2
  have c0 := hc 0 (by simp)
  simp only [Nat.zero_add, List.getD_cons_zero] at c0
  have hfz : w0.frozen? ⟨g, 0, none⟩ = false := by
    exact World.ownsRow.frozenAt hO.2 0
  have hm0 : 0 < m := by rw [← hm]; simp
  have hm1 : (0 : Int) < (m : Int) := by omega
  have s1 := Lib.hid (hO.set 0 254 (by omega) (by omega))
  have s2 := Lib.hid (hO.set 0 (z + 1) (by omega) (by omega))
  clear hrd hc hO hm
  simp only [c5_11, t5_9, body5, Try.f5, Option.getD_some]
  by_cases h : z = 255
  · have t1 : (z == 255) = true := by simp [h]
    have hd := Lib.hid (show dent z = 254 by simp [dent, h])
    clear h
    go_wp2
    exact ⟨rfl, rfl, GT.ofG s1.out.2, _, _, _, _, _, _, _, _, _, _, _, _, rfl, by rw [hd.out]; exact s1.out.1⟩
  · have t1 : (z == 255) = false := by simp [h]
    have hd := Lib.hid (show dent z = z + 1 by simp [dent, h])
    have ew : IntKind.i64.wrap (z + 1) = z + 1 := IntWalk.i64_in _ (by omega)
    clear h
    go_wp2
    exact ⟨rfl, rfl, GT.ofG s2.out.2, _, _, _, _, _, _, _, _, _, _, _, _, rfl, by rw [hd.out]; exact s2.out.1⟩

def Q5_14 (g : Nat) (ys : List HV) (B xc : Nat) (A : Value → Value → Value → Value → Value → Array Value) (w0 : World) (b : Bool) (T : Array Value) (w' : World) : Prop :=
  b = false ∧ GT w0 w' (some g) ∧ ∃ u86 u87 u88 u89 u90, T = A u86 u87 u88 u89 u90 ∧ OwnR eltH w' B (some ⟨g, 0, none⟩) xc ys

set_option maxRecDepth 100000 in
set_option maxHeartbeats 1000000 in
theorem lay5_wp {s0 s1 s2 s3 s4 s5 s6 s7 s8 s9 s13 s14 s15 s16 s17 s18 s19 s20 s21 s22 s23 s24 s25 s26 s27 s28 s29 s30 s31 s32 s33 s34 s35 s36 s37 s38 s39 s40 s41 s42 s43 s44 s45 s46 s47 s48 s49 s50 s51 s52 s53 s54 s55 s56 s57 s58 s59 s60 s61 s62 s63 s64 s65 s66 s67 s68 s69 s70 s71 s72 s73 s74 s75 s76 s77 s78 s79 s80 s81 s82 s83 s84 s85 s86 s87 s88 s89 s90 s91 s92 s93 s94 s95 s96 s97 s98 s99 s100 s101 s102 s103 s104 s105 : Value} {x : HV} {bs : List Int} (hO : OwnR eltH w0 B (some ⟨g, 0, none⟩) xc xs) (hl : xs.length = nl) (hk : k < nl) (hx : xs[k]? = some x) (hb : bs.length = m) (hm : x.zs.length = m) :
    c5_14.wp Try.prog (QW (Q5_14 g (xs.set k ⟨x.id, ba, bc, bs, x.us⟩) B xc (fun u86 u87 u88 u89 u90 => #[s0, s1, s2, s3, s4, s5, s6, s7, s8, s9, .int .i64 k, .slice (some ⟨g, 0, none⟩) nl xc, .slice ba m bc, s13, s14, s15, s16, s17, s18, s19, s20, s21, s22, s23, s24, s25, s26, s27, s28, s29, s30, s31, s32, s33, s34, s35, s36, s37, s38, s39, s40, s41, s42, s43, s44, s45, s46, s47, s48, s49, s50, s51, s52, s53, s54, s55, s56, s57, s58, s59, s60, s61, s62, s63, s64, s65, s66, s67, s68, s69, s70, s71, s72, s73, s74, s75, s76, s77, s78, s79, s80, s81, s82, s83, s84, s85, u86, u87, u88, u89, u90, s91, s92, s93, s94, s95, s96, s97, s98, s99, s100, s101, s102, s103, s104, s105]) w0)) ⟨#[s0, s1, s2, s3, s4, s5, s6, s7, s8, s9, .int .i64 k, .slice (some ⟨g, 0, none⟩) nl xc, .slice ba m bc, s13, s14, s15, s16, s17, s18, s19, s20, s21, s22, s23, s24, s25, s26, s27, s28, s29, s30, s31, s32, s33, s34, s35, s36, s37, s38, s39, s40, s41, s42, s43, s44, s45, s46, s47, s48, s49, s50, s51, s52, s53, s54, s55, s56, s57, s58, s59, s60, s61, s62, s63, s64, s65, s66, s67, s68, s69, s70, s71, s72, s73, s74, s75, s76, s77, s78, s79, s80, s81, s82, s83, s84, s85, s86, s87, s88, s89, s90, s91, s92, s93, s94, s95, s96, s97, s98, s99, s100, s101, s102, s103, s104, s105], []⟩ w0 := by
  obtain ⟨⟨c0, c1, c2⟩, f0, f1, f2⟩ := cellsH hO hx
  have hgl : g < w0.heap.size := World.block_lt_of_cell? _ _ c0
  have s1 := Lib.hid (hO.set1 k x ⟨x.id, ba, bc, bs, x.us⟩ hx 1 (.slice ba m bc) (by decide) (by rw [← hb]; rfl))
  have hk0 : (0 : Int) ≤ (k : Int) := by omega
  have hk1 : (k : Int) < (nl : Int) := by omega
  rw [hm] at c1
  clear hO hx hl c0 c2 f0 f2 hb hm
  simp only [c5_14, t5_9, body5, Try.f5, Option.getD_some]
  go_wp2
  exact ⟨rfl, rfl, GT.ofG s1.out.2, _, _, _, _, _, rfl, s1.out.1⟩
end
end Go.Proofs.Ytajheicheefpeaa

/- A call with any results; a region that draws its order, beside leavers. -/
namespace Go.Proofs.Ytajheicheefpeaa
open Go.Conc
set_option linter.unusedSimpArgs false
set_option linter.unusedVariables false

section
variable {P : Program} {main : Bool} {R : World → World → Prop} {D : World → World → Array Event → Prop} {Stop : Goroutine → World → Prop} {n : Nat} {cs : List Frame} {k : List Item} {w : World}
/-- Back to the frame beneath, with what it answers. -/
theorem gt_leaveN (T : Terms R D) {f : FuncId} {fn : Func} {res : Array Value → Value} {a : Act} {todo : List Item} {b₀ : Frame} {a₀ : Act} {ops : Array Oper} {i : Nat} {rest : List Nat} (hd : a.defers = []) (hf : P.funcs[f]? = some fn) (hres : ∀ T w, (results fn T).run P w = .ok (res T) w ∧ (results fn T).events P w #[] = #[])
    (h : Goes P main R D Stop n (G (b₀.at (a₀.put ((ops[i]?).bind (·.dst)) (res a.tmps)) (.inRegion ops rest :: k)) cs) w) : Goes P main R D Stop (n + 1) (G { (base f).at a todo with mode := .returning } (b₀.at a₀ (.inRegion ops (i :: rest) :: k) :: cs)) w :=
  Goes.step rfl fun w₁ h₁ => by
    rw [stepG_leave (b := base f) rfl hd hf (hres a.tmps w₁).1 (hres a.tmps w₁).2, Frame.finish_at]
    exact ⟨T.idle _, Goes.rely T.trans h h₁⟩
end

section
variable {P : Program} {K : Kit P} {F : Bks} {p : Nat} {Post : Value → World → Prop} {b : Frame} {a : Act} {ops : Array Oper} {i : Nat} {rest : List Nat} {o : Oper} {f : FuncId} {fn : Func} {c : Code} {t : Tmp} {args : Array Operand} {ats : Array TypeId} {k : List Item} {cs : List Frame} {w w0 : World}

theorem ok_callN (hB : Bodies K) {vs : Array Value} {R : Value → World → Prop} (hRt : ∀ v w τ d, R v w → R v (onT w τ d)) (ho : ops[i]? = some o) (hwt : Region.wanted o (yielded ops a.tmps) = true) (hkb : b.kind ≠ .early)
    (hop : o.op = .call { callee := .value (.func f), args := args, argTypes := ats }) (hf : P.funcs[f]? = some fn) (hname : (fn.name == "runtime.NumGoroutine") = false) (hb : fn.body = some c) {res : Array Value → Value} (hres : ∀ T w, (results fn T).run P w = .ok (res T) w ∧ (results fn T).events P w #[] = #[]) (hfk : okCode K true [] c = true) (hargs : args.map a.eval = vs)
    (hn : NoPend w0) (hS : Sim F w0 w) (h : ∀ τ d, Calls P f vs (onT w0 τ d) fun e w' => ∃ v, e = .returned v ∧ R v w')
    (hN : ∀ (v : Value) (w0' w' : World), R v w0' → Sim F w0' w' → w.heap.size ≤ w'.heap.size → Stay w w' → Ok P F p Post (G (b.at (a.put o.dst v) (.inRegion ops rest :: k)) cs) w') :
    Ok P F p Post (G (b.at a (.inRegion ops (i :: rest) :: k)) cs) w := by
  have T : Terms AtRel (DB F) := termsB
  rw [← hargs] at h
  refine ok_goes (Stop := Ok P F p Post) (fun _ _ h => h) (n := 1) ?_
  refine gt_enter T ho hwt hkb hop hf hname hb ?_
  refine Goes.stop fun w₁ r₁ => ?_
  obtain ⟨d₁, rfl⟩ := r₁
  let Q : FuncId → Bool → Array Value → World → Prop := fun n _ T' w' => n = f ∧ R (res T') w'
  let g : TF := ⟨f, args.map a.eval ++ Array.replicate (fn.ntmps - (args.map a.eval).size) undef, [.code c], false⟩
  have hok : StkOk K true [g] := ⟨by simp [g, okItems, okItem, idsOf, hfk], ⟨fn, hf⟩, fun _ => rfl⟩
  have hl : Lone (P := P) Q [g] w0 := by
    intro τ d
    obtain ⟨e, w', fr, ⟨v, rfl, hR⟩, hc, hfn, hlv⟩ := h τ d [catchF P]
    obtain ⟨hm, hd, hkd, fn', hf', hr'⟩ := hlv
    have ee : Frame.enter P f (args.map a.eval) .normal = g.fr [] := by simp [Frame.enter, g, TF.fr, hf, hb]
    rw [ee] at hc
    obtain ⟨N, hN⟩ := hc
    obtain ⟨n, f', h1, h2, h3, h4⟩ := run_sent K hB N [g] (onT w0 τ d) (by simp) hok hn fr w' hN hm
    refine ⟨n, _, w', h1, ?_⟩
    have hv : v = res fr.tmps := by
      rw [hfn, hf] at hf'
      injection hf' with hf'
      subst hf'
      rw [(hres _ _).1] at hr'
      injection hr' with hr' _
      exact hr'.symm
    have hq : Q f'.fn f'.ret f'.tmps w' := ⟨h3.trans hfn, by rw [h4, ← hv]; exact hR⟩
    rcases h2 with h2 | h2
    · exact .inl ⟨by simp [TF.fr, h2], hq⟩
    · by_cases hret : f'.ret = true
      · exact .inl ⟨by simp [TF.fr, hret], hq⟩
      · have hret : f'.ret = false := by simpa using hret
        exact .inr ⟨by simp [TF.fr, hret], by simp [TF.fr, h2], hq⟩
  have hwin := win_of_lone K true Q hB (fun n b T w τ d h => ⟨h.1, hRt _ _ τ d h.2⟩) (by simp) hok hn hl
  refine ok_win (p := p) (Post := Post) (k := []) (cs := b.at a (.inRegion ops (i :: rest) :: k) :: cs) hwin (by simp) (show Sim F w0 (w.at d₁) from ⟨hS.size, hS.same, hS.blank, hS.os, hS.output⟩) (fun f' w0' w' hfl hq hS' ht hz hst => ?_)
  obtain ⟨fn', T', todo, rt⟩ := f'
  obtain ⟨rfl, hR⟩ := hq
  have key : ∀ todo' : List Item, Ok P F p Post (G { (base fn').at ⟨T', []⟩ todo' with mode := .returning } (b.at a (.inRegion ops (i :: rest) :: k) :: cs)) w' := by
    intro todo'
    refine ok_goes (Stop := Ok P F p Post) (fun _ _ h => h) (n := 1) (gt_leaveN T rfl hf hres ?_)
    refine Goes.stop fun w₃ r₃ => ?_
    obtain ⟨d₃, rfl⟩ := r₃
    rw [ho]
    exact hN _ w0' (w'.at d₃) hR ⟨hS'.size, hS'.same, hS'.blank, hS'.os, hS'.output⟩ hz ⟨hst.size, hst.pend, hst.map, hst.back⟩
  cases rt with
  | true => exact key (todo ++ [])
  | false =>
    obtain rfl : todo = [] := hfl.resolve_left (by simp)
    show Ok P F p Post (G ((base fn').at ⟨T', []⟩ []) (b.at a (.inRegion ops (i :: rest) :: k) :: cs)) w'
    refine ok_goes (Stop := Ok P F p Post) (fun _ _ h => h) (n := 1) ?_
    refine gt_fin T ?_
    refine Goes.stop fun w₃ r₃ => ?_
    obtain ⟨d₃, rfl⟩ := r₃
    refine ok_goes (Stop := Ok P F p Post) (fun _ _ h => h) (n := 1) (gt_leaveN T rfl hf hres ?_)
    refine Goes.stop fun w₄ r₄ => ?_
    obtain ⟨d₄, rfl⟩ := r₄
    rw [ho]
    exact hN _ w0' ((w'.at d₃).at d₄) hR ⟨hS'.size, hS'.same, hS'.blank, hS'.os, hS'.output⟩ hz ⟨hst.size, hst.pend, hst.map, hst.back⟩
end

section
variable {P : Program} {Post : Value → World → Prop} {b : Frame} {k : List Item} {cs : List Frame} {ops : Array Oper} {md : Region.Mode}

theorem inv_ok (I : Array Bool → Bks → Nat → Act → World → Prop) (hsz : ∀ l F p a w, I l F p a w → l.size = ops.size)
    (hstep : ∀ l F p a w i rest, I l F p a w → i ∈ Region.ready md ops l → (∀ F' p' a' w', I (l.setIfInBounds i true) F' p' a' w' → Ok P F' p' Post (G (b.at a' (.inRegion ops rest :: k)) cs) w') → Ok P F p Post (G (b.at a (.inRegion ops (i :: rest) :: k)) cs) w)
    (hdone : ∀ l F p a w, I l F p a w → Region.ready md ops l = [] → Ok P F p Post (G (b.at a (.inRegion ops [] :: k)) cs) w) :
    ∀ (fuel t : Nat) (l : Array Bool) (F : Bks) (p : Nat) (a : Act) (w : World), I l F p a w → left l.toList ≤ fuel → Ok P F p Post (G (b.at a (.inRegion ops (Region.linearise.go md ops fuel t l []) :: k)) cs) w := by
  intro fuel
  induction fuel with
  | zero =>
    intro t l F p a w h hl
    have hr : Region.ready md ops l = [] := by
      apply List.eq_nil_iff_forall_not_mem.2
      intro i hi
      have := ready_false hi (hsz l F p a w h)
      exact left_zero l.toList i (by omega) (by simpa using this)
    simpa [Region.linearise.go] using hdone l F p a w h hr
  | succ fuel ih =>
    intro t l F p a w h hl
    simp only [Region.linearise.go]
    change Ok P F p Post (G (b.at a (.inRegion ops (match (Region.ready md ops l)[t % (Region.ready md ops l).length]? with
      | some i => Region.linearise.go md ops fuel (t / (Region.ready md ops l).length) (l.setIfInBounds i true) [i]
      | none => [].reverse) :: k)) cs) w
    cases hi : (Region.ready md ops l)[t % (Region.ready md ops l).length]? with
    | none =>
      have hnil : Region.ready md ops l = [] := by
        cases hr : Region.ready md ops l with
        | nil => rfl
        | cons x xs =>
          rw [hr] at hi
          have hlt : t % (x :: xs).length < (x :: xs).length := Nat.mod_lt _ (by simp)
          simp at hi
          simp at hlt
          omega
      exact by simpa using hdone l F p a w h hnil
    | some i =>
      simp only []
      rw [linearise_go_acc, List.reverse_singleton, List.singleton_append]
      have hm := List.mem_of_getElem? hi
      have hf := ready_false hm (hsz l F p a w h)
      refine hstep l F p a w i _ h hm fun F' p' a' w' x => ih _ _ F' p' a' w' x ?_
      have := left_set l.toList i (by simpa using hf)
      rw [Array.toList_setIfInBounds]
      omega

/-- The region that asks the tape for its order. -/
theorem ok_draw {F : Bks} {p : Nat} {id : Nat} {a : Act} {w : World} (hm : P.follows .mixedOrders = true) (I : Array Bool → Bks → Nat → Act → World → Prop) (hsz : ∀ l F p a w, I l F p a w → l.size = ops.size)
    (hstep : ∀ l F p a w i rest, I l F p a w → i ∈ Region.ready .any ops l → (∀ F' p' a' w', I (l.setIfInBounds i true) F' p' a' w' → Ok P F' p' Post (G (b.at a' (.inRegion ops rest :: k)) cs) w') → Ok P F p Post (G (b.at a (.inRegion ops (i :: rest) :: k)) cs) w)
    (hdone : ∀ l F p a w, I l F p a w → Region.ready .any ops l = [] → Ok P F p Post (G (b.at a (.inRegion ops [] :: k)) cs) w)
    (h0 : ∀ d, I (Array.replicate ops.size false) F p a (w.at d)) : Ok P F p Post (G (b.at a (.code (.region id ops true) :: k)) cs) w := by
  refine ok_goes (Stop := Ok P F p Post) (fun _ _ h => h) (n := 1) (Goes.step rfl fun w₁ h₁ => ?_)
  rw [stepG_region_draw]
  obtain ⟨d, rfl⟩ := h₁
  refine ⟨⟨Nat.le_refl _, by simp⟩, Goes.stop fun w₂ h₂ => ?_⟩
  obtain ⟨d₂, rfl⟩ := h₂
  simp only [Region.schedule, hm, Bool.true_or, if_true]
  exact inv_ok I hsz hstep hdone ops.size _ _ F p a _ (h0 d₂) (by
    refine Nat.le_trans (List.countP_le_length) ?_
    simp)
end
end Go.Proofs.Ytajheicheefpeaa

/- The last region of FnChecksDamage, whatever its order. -/
namespace Go.Proofs.Ytajheicheefpeaa
open Go.Proofs
open Go.Conc Go.RowKit
open Go.ConcR (KK wgBlock WgAt stA smA DC0)
open Go.Conc.Lib Go.ConcR.Gen Go.ConcN.Gen
set_option linter.unusedSimpArgs false
set_option linter.unusedVariables false

noncomputable def c5_15 : Code := match t5_9 with | .seq _ (.seq _ (.seq _ (.seq _ x))) => x | _ => .skip

/-- What an operation yields. -/
def val15 (la oa xa : Option Addr) (nl lc oc xc k lb lo : Nat) (id : Int) (sv : Bool) : Nat → Value
  | 0 => .slice xa nl xc
  | 1 => .bool sv
  | 2 => .bool (!sv)
  | 3 => .bool (!sv)
  | 4 => if sv then .slice xa nl xc else undef
  | 5 => if sv then .slice oa nl oc else undef
  | 7 => if sv then .slice la nl lc else undef
  | 8 => if sv then .int .i64 k else undef
  | 9 => if sv then .pointer (some ⟨lb, lo + k * 3, none⟩) else undef
  | 10 => if sv then .pointer (some ⟨lb, lo + k * 3, none⟩) else undef
  | 11 => if sv then .int .i64 id else undef
  | 13 => if sv then .bool true else undef
  | 14 => .bool true
  | 15 => .bool true
  | _ => undef

/-- The world between the operations. -/
structure WF5 (v5 vv W : World) (F : Bks) (p : Nat) (vc w : World) : Prop where
  sim : Sim F vc w
  bt : BT v5 vc
  bv : BT vv vc
  stay : Stay W w
  low : ∀ b, F b → b < w.heap.size
  old : ∀ b, b < W.heap.size → ¬ F b
  pos : 0 < p
  few : p ≤ 17

theorem WF5.at {v5 vv W : World} {F : Bks} {p : Nat} {vc w : World} (h : WF5 v5 vv W F p vc w) (d : Nat) : WF5 v5 vv W F p vc (w.at d) := ⟨h.sim.atD d, h.bt, h.bv, ⟨h.stay.size, h.stay.pend, h.stay.map, h.stay.back⟩, h.low, h.old, h.pos, h.few⟩

/-- What has come up. -/
def X15 (la oa xa : Option Addr) (nl lc oc xc k lb lo : Nat) (id : Int) (sv : Bool) (l : Array Bool) (xs : Nat → Value) (vc : World) : Prop :=
  (∀ j, j < 16 → j ≠ 6 → j ≠ 12 → l.getD j false = true → xs j = val15 la oa xa nl lc oc xc k lb lo id sv j) ∧
  (sv = true → l.getD 6 false = true → ∃ a' c', xs 6 = .slice a' 1 c' ∧ RdI vc a' 1 [id]) ∧ (sv = true → l.getD 12 false = true → ∃ B, xs 12 = .slice (some ⟨B, 0, none⟩) 1 1 ∧ RdI vc (some ⟨B, 0, none⟩) 1 [id])

def I15 (la oa xa : Option Addr) (nl lc oc xc k lb lo : Nat) (id : Int) (sv : Bool) (s0 s1 s2 s3 s7 s8 s9 s12 s13 s14 s15 s16 s17 s18 s19 s20 s21 s22 s23 s24 s25 s26 s27 s28 s29 s30 s31 s32 s33 s34 s35 s36 s37 s38 s39 s40 s41 s42 s43 s44 s45 s46 s47 s48 s49 s50 s51 s52 s53 s54 s55 s56 s57 s58 s59 s60 s61 s62 s63 s64 s65 s66 s67 s68 s69 s70 s71 s72 s73 s74 s75 s76 s77 s78 s79 s80 s81 s82 s83 s84 s85 s86 s87 s88 s89 s90 : Value) (v5 vv W : World) (l : Array Bool) (F : Bks) (p : Nat) (a : Act) (w : World) : Prop :=
  l.size = 16 ∧ ∃ (xs : Nat → Value) (vc : World), a = ⟨#[s0, s1, s2, s3, xs 15, .slice la nl lc, .slice oa nl oc, s7, s8, s9, .int .i64 k, .slice xa nl xc, s12, s13, s14, s15, s16, s17, s18, s19, s20, s21, s22, s23, s24, s25, s26, s27, s28, s29, s30, s31, s32, s33, s34, s35, s36, s37, s38, s39, s40, s41, s42, s43, s44, s45, s46, s47, s48, s49, s50, s51, s52, s53, s54, s55, s56, s57, s58, s59, s60, s61, s62, s63, s64, s65, s66, s67, s68, s69, s70, s71, s72, s73, s74, s75, s76, s77, s78, s79, s80, s81, s82, s83, s84, s85, s86, s87, s88, s89, s90, xs 0, xs 1, xs 2, xs 3, xs 4, xs 5, xs 6, xs 7, xs 8, xs 9, xs 10, xs 11, xs 12, xs 13, xs 14], []⟩ ∧ X15 la oa xa nl lc oc xc k lb lo id sv l xs vc ∧ WF5 v5 vv W F p vc w ∧ (l.getD 6 false = false → p = 1)

theorem RdI.bt {w w' : World} {a : Option Addr} {n : Nat} {zs : List Int} (h : RdI w a n zs) (hb : BT w w') : RdI w' a n zs := by
  have h := h.below hb.below; exact h

set_option maxRecDepth 100000 in
set_option maxHeartbeats 1000000 in
theorem I15.put {la oa xa : Option Addr} {nl lc oc xc k lb lo : Nat} {id : Int} {sv : Bool} {s0 s1 s2 s3 s7 s8 s9 s12 s13 s14 s15 s16 s17 s18 s19 s20 s21 s22 s23 s24 s25 s26 s27 s28 s29 s30 s31 s32 s33 s34 s35 s36 s37 s38 s39 s40 s41 s42 s43 s44 s45 s46 s47 s48 s49 s50 s51 s52 s53 s54 s55 s56 s57 s58 s59 s60 s61 s62 s63 s64 s65 s66 s67 s68 s69 s70 s71 s72 s73 s74 s75 s76 s77 s78 s79 s80 s81 s82 s83 s84 s85 s86 s87 s88 s89 s90 : Value} {v5 vv W : World} {l : Array Bool} {xs : Nat → Value} {vc vc' : World} {F : Bks} {p : Nat} {w : World} (hsz : l.size = 16) (hx : X15 la oa xa nl lc oc xc k lb lo id sv l xs vc) (hb : BT vc vc') (hw : WF5 v5 vv W F p vc' w) {j : Nat} (hj : j < 16) {v : Value}
    (hv : j ≠ 6 → j ≠ 12 → v = val15 la oa xa nl lc oc xc k lb lo id sv j) (h6 : j = 6 → sv = true → ∃ a' c', v = .slice a' 1 c' ∧ RdI vc' a' 1 [id]) (h12 : j = 12 → sv = true → ∃ B, v = .slice (some ⟨B, 0, none⟩) 1 1 ∧ RdI vc' (some ⟨B, 0, none⟩) 1 [id]) (hp1 : j ≠ 6 → l.getD 6 false = false → p = 1) :
    I15 la oa xa nl lc oc xc k lb lo id sv s0 s1 s2 s3 s7 s8 s9 s12 s13 s14 s15 s16 s17 s18 s19 s20 s21 s22 s23 s24 s25 s26 s27 s28 s29 s30 s31 s32 s33 s34 s35 s36 s37 s38 s39 s40 s41 s42 s43 s44 s45 s46 s47 s48 s49 s50 s51 s52 s53 s54 s55 s56 s57 s58 s59 s60 s61 s62 s63 s64 s65 s66 s67 s68 s69 s70 s71 s72 s73 s74 s75 s76 s77 s78 s79 s80 s81 s82 s83 s84 s85 s86 s87 s88 s89 s90 v5 vv W (l.setIfInBounds j true) F p ((⟨#[s0, s1, s2, s3, xs 15, .slice la nl lc, .slice oa nl oc, s7, s8, s9, .int .i64 k, .slice xa nl xc, s12, s13, s14, s15, s16, s17, s18, s19, s20, s21, s22, s23, s24, s25, s26, s27, s28, s29, s30, s31, s32, s33, s34, s35, s36, s37, s38, s39, s40, s41, s42, s43, s44, s45, s46, s47, s48, s49, s50, s51, s52, s53, s54, s55, s56, s57, s58, s59, s60, s61, s62, s63, s64, s65, s66, s67, s68, s69, s70, s71, s72, s73, s74, s75, s76, s77, s78, s79, s80, s81, s82, s83, s84, s85, s86, s87, s88, s89, s90, xs 0, xs 1, xs 2, xs 3, xs 4, xs 5, xs 6, xs 7, xs 8, xs 9, xs 10, xs 11, xs 12, xs 13, xs 14], []⟩ : Act).put (some (if j = 15 then 4 else 91 + j)) v) w := by
  obtain ⟨x1, x2, x3⟩ := hx
  refine ⟨by simp [hsz], fun i => if i = j then v else xs i, vc', ?_, ⟨fun i hi h6' h12' hl => ?_, fun hs hl => ?_, fun hs hl => ?_⟩, hw, fun hl => ?_⟩
  · have : j = 0 ∨ j = 1 ∨ j = 2 ∨ j = 3 ∨ j = 4 ∨ j = 5 ∨ j = 6 ∨ j = 7 ∨ j = 8 ∨ j = 9 ∨ j = 10 ∨ j = 11 ∨ j = 12 ∨ j = 13 ∨ j = 14 ∨ j = 15 := by omega
    clear x1 x2 x3 hv h6 h12 hb hw hsz
    rcases this with rfl | rfl | rfl | rfl | rfl | rfl | rfl | rfl | rfl | rfl | rfl | rfl | rfl | rfl | rfl | rfl <;> rfl
  · by_cases e : i = j
    · subst e; simp [hv h6' h12']
    · simp only [if_neg e]
      exact x1 i hi h6' h12' (getD_set_of e hl)
  · by_cases e : 6 = j
    · subst e
      simpa using h6 rfl hs
    · simp only [if_neg e]
      obtain ⟨a', c', q1, q2⟩ := x2 hs (getD_set_of e hl)
      exact ⟨a', c', q1, q2.bt hb⟩
  · by_cases e : 12 = j
    · subst e
      simpa using h12 rfl hs
    · simp only [if_neg e]
      obtain ⟨B, q1, q2⟩ := x3 hs (getD_set_of e hl)
      exact ⟨B, q1, q2.bt hb⟩
  · by_cases e : j = 6
    · subst e
      rw [getD_set_same (by omega)] at hl
      cases hl
    · refine hp1 e ?_
      cases h : l.getD 6 false with
      | false => rfl
      | true => rw [getD_set_up h] at hl; cases hl

set_option maxRecDepth 100000 in
set_option maxHeartbeats 4000000 in
theorem reg15_ok {la oa xa : Option Addr} {nl lc oc xc k lb lo : Nat} {id : Int} {sv : Bool} {s4 s0 s1 s2 s3 s7 s8 s9 s12 s13 s14 s15 s16 s17 s18 s19 s20 s21 s22 s23 s24 s25 s26 s27 s28 s29 s30 s31 s32 s33 s34 s35 s36 s37 s38 s39 s40 s41 s42 s43 s44 s45 s46 s47 s48 s49 s50 s51 s52 s53 s54 s55 s56 s57 s58 s59 s60 s61 s62 s63 s64 s65 s66 s67 s68 s69 s70 s71 s72 s73 s74 s75 s76 s77 s78 s79 s80 s81 s82 s83 s84 s85 s86 s87 s88 s89 s90 s91 s92 s93 s94 s95 s96 s97 s98 s99 s100 s101 s102 s103 s104 s105 : Value} {v5 vv W w : World} {ys : List HV} {LL : List (Int × Int)} (hS0 : Sim (fun _ => False) vv W) (hW : WF5 v5 vv W (fun _ => False) 1 v5 w)
    (hX : RdR eltH v5 xa nl ys) (hXi : InH v5 ys) (hX8 : ∀ y ∈ ys, y.zs.length ≤ 8) (hcap : nl ≤ xc ∧ xc ≤ 9223372036854775807) (hn16 : nl ≤ 1048576) (hO : RdX v5 oa nl LL) (hwf : WfX LL) (hla : la = some ⟨lb, lo, none⟩) (hkn : k < nl)
    (hid : v5.cell? ⟨lb, lo + k * 3, none⟩ = some (.int .i64 id)) (hidb : -9223372036854775808 ≤ id ∧ id ≤ 9223372036854775807) (hsv : storeV (valsH ys) = sv) (hbad : sv = true → badR (valsH ys) LL = [id]) :
    Ok Try.prog (fun _ => False) 1 (PostL W) (G ((base 5).at ⟨#[s0, s1, s2, s3, s4, .slice la nl lc, .slice oa nl oc, s7, s8, s9, .int .i64 k, .slice xa nl xc, s12, s13, s14, s15, s16, s17, s18, s19, s20, s21, s22, s23, s24, s25, s26, s27, s28, s29, s30, s31, s32, s33, s34, s35, s36, s37, s38, s39, s40, s41, s42, s43, s44, s45, s46, s47, s48, s49, s50, s51, s52, s53, s54, s55, s56, s57, s58, s59, s60, s61, s62, s63, s64, s65, s66, s67, s68, s69, s70, s71, s72, s73, s74, s75, s76, s77, s78, s79, s80, s81, s82, s83, s84, s85, s86, s87, s88, s89, s90, s91, s92, s93, s94, s95, s96, s97, s98, s99, s100, s101, s102, s103, s104, s105], []⟩ [.code c5_15]) []) w := by
  have T : ∀ {F : Bks}, Terms AtRel (DB F) := termsB
  have hk : (base 5).kind ≠ .early := by decide
  have hk0 : (0 : Int) ≤ (k : Int) := by omega
  have hk1 : (k : Int) < (nl : Int) := by omega
  have HX := Lib.hid hX
  have HXi := Lib.hid hXi
  have HX8 := Lib.hid hX8
  have HO := Lib.hid hO
  have HID := Lib.hid hid
  have HSV := Lib.hid hsv
  have HBAD := Lib.hid hbad
  subst hla
  clear hX hXi hX8 hO hid hsv hbad
  simp only [c5_15, t5_9, body5, Try.f5, Option.getD_some]
  refine ok_goes (Stop := Ok Try.prog _ _ (PostL W)) (fun _ _ h => h) (n := 1) (gt_seq T ?_)
  refine Goes.stop fun w₁ r₁ => ?_
  obtain ⟨d₁, rfl⟩ := r₁
  refine ok_draw (by first | kernel_rfl | rfl) (I15 (some ⟨lb, lo, none⟩) oa xa nl lc oc xc k lb lo id sv s0 s1 s2 s3 s7 s8 s9 s12 s13 s14 s15 s16 s17 s18 s19 s20 s21 s22 s23 s24 s25 s26 s27 s28 s29 s30 s31 s32 s33 s34 s35 s36 s37 s38 s39 s40 s41 s42 s43 s44 s45 s46 s47 s48 s49 s50 s51 s52 s53 s54 s55 s56 s57 s58 s59 s60 s61 s62 s63 s64 s65 s66 s67 s68 s69 s70 s71 s72 s73 s74 s75 s76 s77 s78 s79 s80 s81 s82 s83 s84 s85 s86 s87 s88 s89 s90 v5 vv W) (fun l F p a w h => h.1) ?_ ?_ ?_
  · intro l F p a w i rest h hi hnext
    obtain ⟨hsz, xs, vc, rfl, hx, hw, hone⟩ := h
    obtain ⟨hl, o, ho, hafter⟩ := mem_ready.1 hi
    have hi16 : i < 16 := by have := (Array.getElem?_eq_some_iff.1 ho).1; simpa using this
    have : i = 0 ∨ i = 1 ∨ i = 2 ∨ i = 3 ∨ i = 4 ∨ i = 5 ∨ i = 6 ∨ i = 7 ∨ i = 8 ∨ i = 9 ∨ i = 10 ∨ i = 11 ∨ i = 12 ∨ i = 13 ∨ i = 14 ∨ i = 15 := by omega
    have X := Lib.hid hx
    replace hafter := Lib.hid hafter
    replace hnext := Lib.hid hnext
    replace hone := Lib.hid hone
    clear hi hi16 hx
    replace hl := Lib.hid hl
    rcases this with rfl | rfl | rfl | rfl | rfl | rfl | rfl | rfl | rfl | rfl | rfl | rfl | rfl | rfl | rfl | rfl
    · obtain rfl := Option.some.inj ho
      refine ok_goes (Stop := Ok Try.prog F p (PostL W)) (fun _ _ h => h) (n := 1) ?_
      refine gt_val T (.slice xa nl xc) rfl rfl hk (fun w₂ r₂ => ?_) ?_
      · refine ⟨run_of fun K hK => ?_, ?_⟩
        · go_simp; exact hK
        · rw [listed_nil (by simp [go_sem, *])]; exact T.idle _
      refine Goes.stop fun w₁ r₁ => ?_
      obtain ⟨d, rfl⟩ := r₁
      exact hnext.out F p _ _ (I15.put (j := 0) (v := .slice xa nl xc) hsz X.out ⟨rfl, rfl, Nat.le_refl _, fun _ _ => rfl⟩ (hw.at d) (by omega) (fun _ _ => rfl) (fun h => by omega) (fun h => by omega) (fun _ => hone.out))
    · obtain rfl := Option.some.inj ho
      have x0 := X.out.1 0 (by omega) (by omega) (by omega) (hafter.out ⟨0, .data⟩ (by simp) rfl)
      simp only [val15, if_true, Bool.false_eq_true, if_false, Bool.not_true, Bool.not_false] at x0
      have q0 : BT v5 vc := hw.bt
      refine ok_call (K := kitC) bodiesC (R := fun v w' => v = .bool sv ∧ BT vc w') (fun v w τ d h => ⟨h.1, h.2.tape _ _⟩) rfl rfl hk rfl Try.func26 rfl rfl rfl (by kernel_rfl) (show _ = #[.slice xa nl xc] by simp [Act.eval, x0]) hw.sim.noPend hw.sim (fun τ d => ?_) (fun v' v1 W1 hR S1 hz1 st1 => ?_)
      · exact (by have h := implStoreValid_any xa nl xc ys (onT vc τ d) (HX.out.bt (q0.tape _ _)) (HXi.out.bt (q0.tape _ _)) (fun y hy => by have := HX8.out y hy; omega) hcap.1 hcap.2; rw [HSV.out] at h; exact h : Calls Try.prog _ _ _ (RetB (onT vc τ d) (.bool sv))).mono fun e w' h => ⟨_, h.1, rfl, (BT.of h.2).untape⟩
      obtain ⟨rfl, hb⟩ := hR
      exact hnext.out F p _ _ (I15.put (j := 1) (v := .bool sv) hsz X.out hb ⟨S1, hw.bt.trans hb, hw.bv.trans hb, hw.stay.trans st1, fun b h => Nat.lt_of_lt_of_le (hw.low b h) hz1, hw.old, hw.pos, hw.few⟩ (by omega) (fun _ _ => rfl) (fun h => by omega) (fun h => by omega) (fun _ => hone.out))
    · obtain rfl := Option.some.inj ho
      have x1 := X.out.1 1 (by omega) (by omega) (by omega) (hafter.out ⟨1, .data⟩ (by simp) rfl)
      simp only [val15, if_true, Bool.false_eq_true, if_false, Bool.not_true, Bool.not_false] at x1
      refine ok_goes (Stop := Ok Try.prog F p (PostL W)) (fun _ _ h => h) (n := 1) ?_
      refine gt_val T (.bool (!sv)) rfl (by simp [Region.wanted, yielded, *]) hk (fun w₂ r₂ => ?_) ?_
      · refine ⟨run_of fun K hK => ?_, ?_⟩
        · go_simp; exact hK
        · rw [listed_nil (by simp [go_sem, *])]; exact T.idle _
      refine Goes.stop fun w₁ r₁ => ?_
      obtain ⟨d, rfl⟩ := r₁
      exact hnext.out F p _ _ (I15.put (j := 2) (v := .bool (!sv)) hsz X.out ⟨rfl, rfl, Nat.le_refl _, fun _ _ => rfl⟩ (hw.at d) (by omega) (fun _ _ => rfl) (fun h => by omega) (fun h => by omega) (fun _ => hone.out))
    · obtain rfl := Option.some.inj ho
      have x2 := X.out.1 2 (by omega) (by omega) (by omega) (hafter.out ⟨2, .data⟩ (by simp) rfl)
      simp only [val15, if_true, Bool.false_eq_true, if_false, Bool.not_true, Bool.not_false] at x2
      refine ok_goes (Stop := Ok Try.prog F p (PostL W)) (fun _ _ h => h) (n := 1) ?_
      refine gt_val T (.bool (!sv)) rfl (by simp [Region.wanted, yielded, *]) hk (fun w₂ r₂ => ?_) ?_
      · refine ⟨run_of fun K hK => ?_, ?_⟩
        · go_simp; exact hK
        · rw [listed_nil (by simp [go_sem, *])]; exact T.idle _
      refine Goes.stop fun w₁ r₁ => ?_
      obtain ⟨d, rfl⟩ := r₁
      exact hnext.out F p _ _ (I15.put (j := 3) (v := .bool (!sv)) hsz X.out ⟨rfl, rfl, Nat.le_refl _, fun _ _ => rfl⟩ (hw.at d) (by omega) (fun _ _ => rfl) (fun h => by omega) (fun h => by omega) (fun _ => hone.out))
    · obtain rfl := Option.some.inj ho
      cases sv with
      | false =>
        have x3 := X.out.1 3 (by omega) (by omega) (by omega) (hafter.out ⟨3, .guard⟩ (by simp) rfl)
        simp only [val15, if_true, Bool.false_eq_true, if_false, Bool.not_true, Bool.not_false] at x3
        refine ok_goes (Stop := Ok Try.prog F p (PostL W)) (fun _ _ h => h) (n := 1) ?_
        refine gt_not T rfl (by simp [Region.wanted, yielded, *]) ?_
        refine Goes.stop fun w₁ r₁ => ?_
        obtain ⟨d, rfl⟩ := r₁
        exact hnext.out F p _ _ (I15.put (j := 4) (v := undef) hsz X.out ⟨rfl, rfl, Nat.le_refl _, fun _ _ => rfl⟩ (hw.at d) (by omega) (fun _ _ => rfl) (fun h => by omega) (fun h => by omega) (fun _ => hone.out))
      | true =>
        have x3 := X.out.1 3 (by omega) (by omega) (by omega) (hafter.out ⟨3, .guard⟩ (by simp) rfl)
        simp only [val15, if_true, Bool.false_eq_true, if_false, Bool.not_true, Bool.not_false] at x3
        refine ok_goes (Stop := Ok Try.prog F p (PostL W)) (fun _ _ h => h) (n := 1) ?_
        refine gt_val T (.slice xa nl xc) rfl (by simp [Region.wanted, yielded, *]) hk (fun w₂ r₂ => ?_) ?_
        · refine ⟨run_of fun K hK => ?_, ?_⟩
          · go_simp; exact hK
          · rw [listed_nil (by simp [go_sem, *])]; exact T.idle _
        refine Goes.stop fun w₁ r₁ => ?_
        obtain ⟨d, rfl⟩ := r₁
        exact hnext.out F p _ _ (I15.put (j := 4) (v := .slice xa nl xc) hsz X.out ⟨rfl, rfl, Nat.le_refl _, fun _ _ => rfl⟩ (hw.at d) (by omega) (fun _ _ => rfl) (fun h => by omega) (fun h => by omega) (fun _ => hone.out))
    · obtain rfl := Option.some.inj ho
      cases sv with
      | false =>
        have x3 := X.out.1 3 (by omega) (by omega) (by omega) (hafter.out ⟨3, .guard⟩ (by simp) rfl)
        simp only [val15, if_true, Bool.false_eq_true, if_false, Bool.not_true, Bool.not_false] at x3
        refine ok_goes (Stop := Ok Try.prog F p (PostL W)) (fun _ _ h => h) (n := 1) ?_
        refine gt_not T rfl (by simp [Region.wanted, yielded, *]) ?_
        refine Goes.stop fun w₁ r₁ => ?_
        obtain ⟨d, rfl⟩ := r₁
        exact hnext.out F p _ _ (I15.put (j := 5) (v := undef) hsz X.out ⟨rfl, rfl, Nat.le_refl _, fun _ _ => rfl⟩ (hw.at d) (by omega) (fun _ _ => rfl) (fun h => by omega) (fun h => by omega) (fun _ => hone.out))
      | true =>
        have x3 := X.out.1 3 (by omega) (by omega) (by omega) (hafter.out ⟨3, .guard⟩ (by simp) rfl)
        simp only [val15, if_true, Bool.false_eq_true, if_false, Bool.not_true, Bool.not_false] at x3
        refine ok_goes (Stop := Ok Try.prog F p (PostL W)) (fun _ _ h => h) (n := 1) ?_
        refine gt_val T (.slice oa nl oc) rfl (by simp [Region.wanted, yielded, *]) hk (fun w₂ r₂ => ?_) ?_
        · refine ⟨run_of fun K hK => ?_, ?_⟩
          · go_simp; exact hK
          · rw [listed_nil (by simp [go_sem, *])]; exact T.idle _
        refine Goes.stop fun w₁ r₁ => ?_
        obtain ⟨d, rfl⟩ := r₁
        exact hnext.out F p _ _ (I15.put (j := 5) (v := .slice oa nl oc) hsz X.out ⟨rfl, rfl, Nat.le_refl _, fun _ _ => rfl⟩ (hw.at d) (by omega) (fun _ _ => rfl) (fun h => by omega) (fun h => by omega) (fun _ => hone.out))
    · obtain rfl := Option.some.inj ho
      cases sv with
      | false =>
        have x3 := X.out.1 3 (by omega) (by omega) (by omega) (hafter.out ⟨3, .guard⟩ (by simp) rfl)
        simp only [val15, if_true, Bool.false_eq_true, if_false, Bool.not_true, Bool.not_false] at x3
        refine ok_goes (Stop := Ok Try.prog F p (PostL W)) (fun _ _ h => h) (n := 1) ?_
        refine gt_not T rfl (by simp [Region.wanted, yielded, *]) ?_
        refine Goes.stop fun w₁ r₁ => ?_
        obtain ⟨d, rfl⟩ := r₁
        exact hnext.out F p _ _ (I15.put (j := 6) (v := undef) hsz X.out ⟨rfl, rfl, Nat.le_refl _, fun _ _ => rfl⟩ (hw.at d) (by omega) (fun h h' => by omega) (fun _ h => by cases h) (fun _ h => by cases h) (fun h => absurd rfl h))
      | true =>
        have x4 := X.out.1 4 (by omega) (by omega) (by omega) (hafter.out ⟨4, .data⟩ (by simp) rfl)
        simp only [val15, if_true, Bool.false_eq_true, if_false, Bool.not_true, Bool.not_false] at x4
        have x5 := X.out.1 5 (by omega) (by omega) (by omega) (hafter.out ⟨5, .data⟩ (by simp) rfl)
        simp only [val15, if_true, Bool.false_eq_true, if_false, Bool.not_true, Bool.not_false] at x5
        have x3 := X.out.1 3 (by omega) (by omega) (by omega) (hafter.out ⟨3, .guard⟩ (by simp) rfl)
        simp only [val15, if_true, Bool.false_eq_true, if_false, Bool.not_true, Bool.not_false] at x3
        have q0 : BT v5 vc := hw.bt
        refine ok_checksBad (w0 := vc) (la := xa) (ka := oa) (nl := nl) (lc := xc) (n := nl) (cc := oc) (xs := ys) (chks := LL) rfl (by simp [Region.wanted, yielded, *]) hk rfl (by simp [Act.eval, x4, x5]) hw.pos (by have := hw.few; omega) hw.sim hw.low (HX.out.bt q0) (HXi.out.bt q0) (fun y hy => by have := HX8.out y hy; omega) hcap.1 hcap.2 (HO.out.bt q0) hwf (by omega) ?_
        intro F' p' v1 W1 ra rc S1 hF1 hb1 hO1 hp1 hp2 hFF1 st1
        rw [HBAD.out rfl] at hO1 ⊢
        have hb := BT.of hb1
        have hp0 := hw.pos
        have hpo := hone.out (by have h := hl.out; simp only [Array.getD_eq_getD_getElem?] at h ⊢; cases hx6 : l[6]? with | none => rfl | some b => rw [hx6] at h; simpa using h)
        exact hnext.out F' p' _ _ (I15.put (j := 6) (v := .slice ra 1 rc) hsz X.out hb ⟨S1, hw.bt.trans hb, hw.bv.trans hb, hw.stay.trans st1, hF1, fun b hb' h => hw.old b hb' ((hFF1 b (Nat.lt_of_lt_of_le hb' hw.stay.size)).1 h), by omega, by omega⟩ (by omega) (fun h h' => by omega) (fun _ _ => ⟨ra, rc, rfl, hO1.rd⟩) (fun h => by omega) (fun h => absurd rfl h))
    · obtain rfl := Option.some.inj ho
      cases sv with
      | false =>
        have x3 := X.out.1 3 (by omega) (by omega) (by omega) (hafter.out ⟨3, .guard⟩ (by simp) rfl)
        simp only [val15, if_true, Bool.false_eq_true, if_false, Bool.not_true, Bool.not_false] at x3
        refine ok_goes (Stop := Ok Try.prog F p (PostL W)) (fun _ _ h => h) (n := 1) ?_
        refine gt_not T rfl (by simp [Region.wanted, yielded, *]) ?_
        refine Goes.stop fun w₁ r₁ => ?_
        obtain ⟨d, rfl⟩ := r₁
        exact hnext.out F p _ _ (I15.put (j := 7) (v := undef) hsz X.out ⟨rfl, rfl, Nat.le_refl _, fun _ _ => rfl⟩ (hw.at d) (by omega) (fun _ _ => rfl) (fun h => by omega) (fun h => by omega) (fun _ => hone.out))
      | true =>
        have x3 := X.out.1 3 (by omega) (by omega) (by omega) (hafter.out ⟨3, .guard⟩ (by simp) rfl)
        simp only [val15, if_true, Bool.false_eq_true, if_false, Bool.not_true, Bool.not_false] at x3
        refine ok_goes (Stop := Ok Try.prog F p (PostL W)) (fun _ _ h => h) (n := 1) ?_
        refine gt_val T (.slice (some ⟨lb, lo, none⟩) nl lc) rfl (by simp [Region.wanted, yielded, *]) hk (fun w₂ r₂ => ?_) ?_
        · refine ⟨run_of fun K hK => ?_, ?_⟩
          · go_simp; exact hK
          · rw [listed_nil (by simp [go_sem, *])]; exact T.idle _
        refine Goes.stop fun w₁ r₁ => ?_
        obtain ⟨d, rfl⟩ := r₁
        exact hnext.out F p _ _ (I15.put (j := 7) (v := .slice (some ⟨lb, lo, none⟩) nl lc) hsz X.out ⟨rfl, rfl, Nat.le_refl _, fun _ _ => rfl⟩ (hw.at d) (by omega) (fun _ _ => rfl) (fun h => by omega) (fun h => by omega) (fun _ => hone.out))
    · obtain rfl := Option.some.inj ho
      cases sv with
      | false =>
        have x3 := X.out.1 3 (by omega) (by omega) (by omega) (hafter.out ⟨3, .guard⟩ (by simp) rfl)
        simp only [val15, if_true, Bool.false_eq_true, if_false, Bool.not_true, Bool.not_false] at x3
        refine ok_goes (Stop := Ok Try.prog F p (PostL W)) (fun _ _ h => h) (n := 1) ?_
        refine gt_not T rfl (by simp [Region.wanted, yielded, *]) ?_
        refine Goes.stop fun w₁ r₁ => ?_
        obtain ⟨d, rfl⟩ := r₁
        exact hnext.out F p _ _ (I15.put (j := 8) (v := undef) hsz X.out ⟨rfl, rfl, Nat.le_refl _, fun _ _ => rfl⟩ (hw.at d) (by omega) (fun _ _ => rfl) (fun h => by omega) (fun h => by omega) (fun _ => hone.out))
      | true =>
        have x3 := X.out.1 3 (by omega) (by omega) (by omega) (hafter.out ⟨3, .guard⟩ (by simp) rfl)
        simp only [val15, if_true, Bool.false_eq_true, if_false, Bool.not_true, Bool.not_false] at x3
        refine ok_goes (Stop := Ok Try.prog F p (PostL W)) (fun _ _ h => h) (n := 1) ?_
        refine gt_val T (.int .i64 k) rfl (by simp [Region.wanted, yielded, *]) hk (fun w₂ r₂ => ?_) ?_
        · refine ⟨run_of fun K hK => ?_, ?_⟩
          · go_simp; exact hK
          · rw [listed_nil (by simp [go_sem, *])]; exact T.idle _
        refine Goes.stop fun w₁ r₁ => ?_
        obtain ⟨d, rfl⟩ := r₁
        exact hnext.out F p _ _ (I15.put (j := 8) (v := .int .i64 k) hsz X.out ⟨rfl, rfl, Nat.le_refl _, fun _ _ => rfl⟩ (hw.at d) (by omega) (fun _ _ => rfl) (fun h => by omega) (fun h => by omega) (fun _ => hone.out))
    · obtain rfl := Option.some.inj ho
      cases sv with
      | false =>
        have x3 := X.out.1 3 (by omega) (by omega) (by omega) (hafter.out ⟨3, .guard⟩ (by simp) rfl)
        simp only [val15, if_true, Bool.false_eq_true, if_false, Bool.not_true, Bool.not_false] at x3
        refine ok_goes (Stop := Ok Try.prog F p (PostL W)) (fun _ _ h => h) (n := 1) ?_
        refine gt_not T rfl (by simp [Region.wanted, yielded, *]) ?_
        refine Goes.stop fun w₁ r₁ => ?_
        obtain ⟨d, rfl⟩ := r₁
        exact hnext.out F p _ _ (I15.put (j := 9) (v := undef) hsz X.out ⟨rfl, rfl, Nat.le_refl _, fun _ _ => rfl⟩ (hw.at d) (by omega) (fun _ _ => rfl) (fun h => by omega) (fun h => by omega) (fun _ => hone.out))
      | true =>
        have x7 := X.out.1 7 (by omega) (by omega) (by omega) (hafter.out ⟨7, .data⟩ (by simp) rfl)
        simp only [val15, if_true, Bool.false_eq_true, if_false, Bool.not_true, Bool.not_false] at x7
        have x8 := X.out.1 8 (by omega) (by omega) (by omega) (hafter.out ⟨8, .data⟩ (by simp) rfl)
        simp only [val15, if_true, Bool.false_eq_true, if_false, Bool.not_true, Bool.not_false] at x8
        have x3 := X.out.1 3 (by omega) (by omega) (by omega) (hafter.out ⟨3, .guard⟩ (by simp) rfl)
        simp only [val15, if_true, Bool.false_eq_true, if_false, Bool.not_true, Bool.not_false] at x3
        refine ok_goes (Stop := Ok Try.prog F p (PostL W)) (fun _ _ h => h) (n := 1) ?_
        refine gt_val T (.pointer (some ⟨lb, lo + k * 3, none⟩)) rfl (by simp [Region.wanted, yielded, *]) hk (fun w₂ r₂ => ?_) ?_
        · refine ⟨run_of fun K hK => ?_, ?_⟩
          · go_simp; exact hK
          · rw [listed_nil (by simp [go_sem, *])]; exact T.idle _
        refine Goes.stop fun w₁ r₁ => ?_
        obtain ⟨d, rfl⟩ := r₁
        exact hnext.out F p _ _ (I15.put (j := 9) (v := .pointer (some ⟨lb, lo + k * 3, none⟩)) hsz X.out ⟨rfl, rfl, Nat.le_refl _, fun _ _ => rfl⟩ (hw.at d) (by omega) (fun _ _ => rfl) (fun h => by omega) (fun h => by omega) (fun _ => hone.out))
    · obtain rfl := Option.some.inj ho
      cases sv with
      | false =>
        have x3 := X.out.1 3 (by omega) (by omega) (by omega) (hafter.out ⟨3, .guard⟩ (by simp) rfl)
        simp only [val15, if_true, Bool.false_eq_true, if_false, Bool.not_true, Bool.not_false] at x3
        refine ok_goes (Stop := Ok Try.prog F p (PostL W)) (fun _ _ h => h) (n := 1) ?_
        refine gt_not T rfl (by simp [Region.wanted, yielded, *]) ?_
        refine Goes.stop fun w₁ r₁ => ?_
        obtain ⟨d, rfl⟩ := r₁
        exact hnext.out F p _ _ (I15.put (j := 10) (v := undef) hsz X.out ⟨rfl, rfl, Nat.le_refl _, fun _ _ => rfl⟩ (hw.at d) (by omega) (fun _ _ => rfl) (fun h => by omega) (fun h => by omega) (fun _ => hone.out))
      | true =>
        have x9 := X.out.1 9 (by omega) (by omega) (by omega) (hafter.out ⟨9, .data⟩ (by simp) rfl)
        simp only [val15, if_true, Bool.false_eq_true, if_false, Bool.not_true, Bool.not_false] at x9
        have x3 := X.out.1 3 (by omega) (by omega) (by omega) (hafter.out ⟨3, .guard⟩ (by simp) rfl)
        simp only [val15, if_true, Bool.false_eq_true, if_false, Bool.not_true, Bool.not_false] at x3
        refine ok_goes (Stop := Ok Try.prog F p (PostL W)) (fun _ _ h => h) (n := 1) ?_
        refine gt_val T (.pointer (some ⟨lb, lo + k * 3, none⟩)) rfl (by simp [Region.wanted, yielded, *]) hk (fun w₂ r₂ => ?_) ?_
        · refine ⟨run_of fun K hK => ?_, ?_⟩
          · go_simp; exact hK
          · rw [listed_nil (by simp [go_sem, *])]; exact T.idle _
        refine Goes.stop fun w₁ r₁ => ?_
        obtain ⟨d, rfl⟩ := r₁
        exact hnext.out F p _ _ (I15.put (j := 10) (v := .pointer (some ⟨lb, lo + k * 3, none⟩)) hsz X.out ⟨rfl, rfl, Nat.le_refl _, fun _ _ => rfl⟩ (hw.at d) (by omega) (fun _ _ => rfl) (fun h => by omega) (fun h => by omega) (fun _ => hone.out))
    · obtain rfl := Option.some.inj ho
      cases sv with
      | false =>
        have x3 := X.out.1 3 (by omega) (by omega) (by omega) (hafter.out ⟨3, .guard⟩ (by simp) rfl)
        simp only [val15, if_true, Bool.false_eq_true, if_false, Bool.not_true, Bool.not_false] at x3
        refine ok_goes (Stop := Ok Try.prog F p (PostL W)) (fun _ _ h => h) (n := 1) ?_
        refine gt_not T rfl (by simp [Region.wanted, yielded, *]) ?_
        refine Goes.stop fun w₁ r₁ => ?_
        obtain ⟨d, rfl⟩ := r₁
        exact hnext.out F p _ _ (I15.put (j := 11) (v := undef) hsz X.out ⟨rfl, rfl, Nat.le_refl _, fun _ _ => rfl⟩ (hw.at d) (by omega) (fun _ _ => rfl) (fun h => by omega) (fun h => by omega) (fun _ => hone.out))
      | true =>
        have x10 := X.out.1 10 (by omega) (by omega) (by omega) (hafter.out ⟨10, .data⟩ (by simp) rfl)
        simp only [val15, if_true, Bool.false_eq_true, if_false, Bool.not_true, Bool.not_false] at x10
        have x3 := X.out.1 3 (by omega) (by omega) (by omega) (hafter.out ⟨3, .guard⟩ (by simp) rfl)
        simp only [val15, if_true, Bool.false_eq_true, if_false, Bool.not_true, Bool.not_false] at x3
        have hc := hw.sim.cell ((hw.bt.below.cell (p := ⟨lb, lo + k * 3, none⟩) (by have h := HID.out; have := World.block_lt_of_cell? _ _ h; exact this)).trans HID.out)
        refine ok_goes (Stop := Ok Try.prog F p (PostL W)) (fun _ _ h => h) (n := 1) ?_
        refine gt_val T (.int .i64 id) rfl (by simp [Region.wanted, yielded, *]) hk (fun w₂ r₂ => ?_) ?_
        · obtain ⟨d₂, rfl⟩ := r₂
          have hv : (w.at d₂).cell? ⟨lb, lo + k * 3, none⟩ = some (.int .i64 id) := hc.1
          refine ⟨run_of fun K hK => ?_, Nat.le_refl _, fun e he => ?_⟩
          · go_simp; exact hK
          · have hm := mem_listed he
            simp [go_sem, *] at hm
            subst hm
            exact .inl ⟨_, rfl, hc.2.2, hc.2.1, rfl⟩
        refine Goes.stop fun w₁ r₁ => ?_
        obtain ⟨d, rfl⟩ := r₁
        exact hnext.out F p _ _ (I15.put (j := 11) (v := .int .i64 id) hsz X.out ⟨rfl, rfl, Nat.le_refl _, fun _ _ => rfl⟩ (hw.at d) (by omega) (fun _ _ => rfl) (fun h => by omega) (fun h => by omega) (fun _ => hone.out))
    · obtain rfl := Option.some.inj ho
      cases sv with
      | false =>
        have x3 := X.out.1 3 (by omega) (by omega) (by omega) (hafter.out ⟨3, .guard⟩ (by simp) rfl)
        simp only [val15, if_true, Bool.false_eq_true, if_false, Bool.not_true, Bool.not_false] at x3
        refine ok_goes (Stop := Ok Try.prog F p (PostL W)) (fun _ _ h => h) (n := 1) ?_
        refine gt_not T rfl (by simp [Region.wanted, yielded, *]) ?_
        refine Goes.stop fun w₁ r₁ => ?_
        obtain ⟨d, rfl⟩ := r₁
        exact hnext.out F p _ _ (I15.put (j := 12) (v := undef) hsz X.out ⟨rfl, rfl, Nat.le_refl _, fun _ _ => rfl⟩ (hw.at d) (by omega) (fun h h' => by omega) (fun _ h => by cases h) (fun _ h => by cases h) (fun _ => hone.out))
      | true =>
        have x11 := X.out.1 11 (by omega) (by omega) (by omega) (hafter.out ⟨11, .data⟩ (by simp) rfl)
        simp only [val15, if_true, Bool.false_eq_true, if_false, Bool.not_true, Bool.not_false] at x11
        have x3 := X.out.1 3 (by omega) (by omega) (by omega) (hafter.out ⟨3, .guard⟩ (by simp) rfl)
        simp only [val15, if_true, Bool.false_eq_true, if_false, Bool.not_true, Bool.not_false] at x3
        refine ok_goes (Stop := Ok Try.prog F p (PostL W)) (fun _ _ h => h) (n := 1) ?_
        refine gt_new T rfl (by simp [Region.wanted, yielded, *]) hk (fun w₂ r₂ => ?_)
        obtain ⟨d₂, rfl⟩ := r₂
        refine ⟨.slice (some ⟨(w.at d₂).heap.size, 0, none⟩) 1 1, (w.at d₂).alloc (.cells #[.int .i64 id] 3), run_of fun K hK => ?_, ?_, ?_⟩
        · go_simp; exact hK
        · rw [listed_nil (by simp [go_sem, *])]; exact db_alloc _
        · refine Goes.stop fun w₁ r₁ => ?_
          obtain ⟨d, rfl⟩ := r₁
          have S1 : Sim F (vc.alloc (.cells #[.int .i64 id] 3)) (((w.at d₂).alloc (.cells #[.int .i64 id] 3)).at d) := by
            have h := Sim.push (hw.sim) (o := .cells #[.int .i64 id] 3) rfl
            exact ⟨h.size, h.same, h.blank, h.os, h.output⟩
          have hb : BT vc (vc.alloc (.cells #[.int .i64 id] 3)) := ⟨rfl, rfl, by simp, fun b hb => Below.heap_alloc _ _ _ hb⟩
          have st1 : Stay w (((w.at d₂).alloc (.cells #[.int .i64 id] 3)).at d) := by
            have h := Stay.push w (.cells #[.int .i64 id] 3)
            exact ⟨h.size, h.pend, h.map, h.back⟩
          have hze : (w.at d₂).heap.size = vc.heap.size := hw.sim.size.symm
          have hz1 : w.heap.size ≤ (((w.at d₂).alloc (.cells #[.int .i64 id] 3)).at d).heap.size := st1.size
          have hr : RdI (vc.alloc (.cells #[.int .i64 id] 3)) (some ⟨vc.heap.size, 0, none⟩) 1 [id] := (OwnI.lit vc [id] (fun z hz => by simp at hz; subst hz; exact hidb) (by simp)).rd
          rw [hze]
          exact hnext.out F p _ _ (I15.put (j := 12) (v := .slice (some ⟨vc.heap.size, 0, none⟩) 1 1) hsz X.out hb ⟨S1, hw.bt.trans hb, hw.bv.trans hb, hw.stay.trans st1, fun b h => Nat.lt_of_lt_of_le (hw.low b h) hz1, hw.old, hw.pos, hw.few⟩ (by omega) (fun h h' => by omega) (fun h => by omega) (fun _ _ => ⟨_, rfl, hr⟩) (fun _ => hone.out))
    · obtain rfl := Option.some.inj ho
      cases sv with
      | false =>
        have x3 := X.out.1 3 (by omega) (by omega) (by omega) (hafter.out ⟨3, .guard⟩ (by simp) rfl)
        simp only [val15, if_true, Bool.false_eq_true, if_false, Bool.not_true, Bool.not_false] at x3
        refine ok_goes (Stop := Ok Try.prog F p (PostL W)) (fun _ _ h => h) (n := 1) ?_
        refine gt_not T rfl (by simp [Region.wanted, yielded, *]) ?_
        refine Goes.stop fun w₁ r₁ => ?_
        obtain ⟨d, rfl⟩ := r₁
        exact hnext.out F p _ _ (I15.put (j := 13) (v := undef) hsz X.out ⟨rfl, rfl, Nat.le_refl _, fun _ _ => rfl⟩ (hw.at d) (by omega) (fun _ _ => rfl) (fun h => by omega) (fun h => by omega) (fun _ => hone.out))
      | true =>
        have x3 := X.out.1 3 (by omega) (by omega) (by omega) (hafter.out ⟨3, .guard⟩ (by simp) rfl)
        simp only [val15, if_true, Bool.false_eq_true, if_false, Bool.not_true, Bool.not_false] at x3
        obtain ⟨a6, c6, x6, r6⟩ := X.out.2.1 rfl (hafter.out ⟨6, .data⟩ (by simp) rfl)
        obtain ⟨B12, x12, r12⟩ := X.out.2.2 rfl (hafter.out ⟨12, .data⟩ (by simp) rfl)
        refine ok_call (K := kitC) bodiesC (R := fun v w' => v = .bool true ∧ BT vc w') (fun v w τ d h => ⟨h.1, h.2.tape _ _⟩) rfl (by simp [Region.wanted, yielded, *]) hk rfl Try.func27 rfl rfl rfl (by kernel_rfl) (show _ = #[.slice a6 1 c6, .slice (some ⟨B12, 0, none⟩) 1 1] by simp [Act.eval, x6, x12]) hw.sim.noPend hw.sim (fun τ d => ?_) (fun v' v1 W1 hR S1 hz1 st1 => ?_)
        · exact (by have h := sameInts_any a6 (some ⟨B12, 0, none⟩) 1 1 c6 1 [id] [id] (onT vc τ d) r6 r12 (by omega) (by omega); rw [show eqI [id] [id] = true by simp [eqI]] at h; exact h : Calls Try.prog _ _ _ (RetQ (onT vc τ d) (.bool true))).mono fun e w' h => ⟨_, h.1, rfl, by obtain ⟨m, hm⟩ := h.2; subst hm; exact ⟨rfl, rfl, Nat.le_refl _, fun _ _ => rfl⟩⟩
        obtain ⟨rfl, hb⟩ := hR
        exact hnext.out F p _ _ (I15.put (j := 13) (v := .bool true) hsz X.out hb ⟨S1, hw.bt.trans hb, hw.bv.trans hb, hw.stay.trans st1, fun b h => Nat.lt_of_lt_of_le (hw.low b h) hz1, hw.old, hw.pos, hw.few⟩ (by omega) (fun _ _ => rfl) (fun h => by omega) (fun h => by omega) (fun _ => hone.out))
    · obtain rfl := Option.some.inj ho
      cases sv with
      | false =>
        have x3 := X.out.1 3 (by omega) (by omega) (by omega) (hafter.out ⟨3, .data⟩ (by simp) rfl)
        simp only [val15, if_true, Bool.false_eq_true, if_false, Bool.not_true, Bool.not_false] at x3
        have x13 := X.out.1 13 (by omega) (by omega) (by omega) (hafter.out ⟨13, .data⟩ (by simp) rfl)
        simp only [val15, if_true, Bool.false_eq_true, if_false, Bool.not_true, Bool.not_false] at x13
        refine ok_goes (Stop := Ok Try.prog F p (PostL W)) (fun _ _ h => h) (n := 1) ?_
        refine gt_val T (.bool true) rfl rfl hk (fun w₂ r₂ => ?_) ?_
        · refine ⟨run_of fun K hK => ?_, ?_⟩
          · go_simp; exact hK
          · rw [listed_nil (by simp [go_sem, *])]; exact T.idle _
        refine Goes.stop fun w₁ r₁ => ?_
        obtain ⟨d, rfl⟩ := r₁
        exact hnext.out F p _ _ (I15.put (j := 14) (v := .bool true) hsz X.out ⟨rfl, rfl, Nat.le_refl _, fun _ _ => rfl⟩ (hw.at d) (by omega) (fun _ _ => rfl) (fun h => by omega) (fun h => by omega) (fun _ => hone.out))
      | true =>
        have x3 := X.out.1 3 (by omega) (by omega) (by omega) (hafter.out ⟨3, .data⟩ (by simp) rfl)
        simp only [val15, if_true, Bool.false_eq_true, if_false, Bool.not_true, Bool.not_false] at x3
        have x13 := X.out.1 13 (by omega) (by omega) (by omega) (hafter.out ⟨13, .data⟩ (by simp) rfl)
        simp only [val15, if_true, Bool.false_eq_true, if_false, Bool.not_true, Bool.not_false] at x13
        refine ok_goes (Stop := Ok Try.prog F p (PostL W)) (fun _ _ h => h) (n := 1) ?_
        refine gt_val T (.bool true) rfl rfl hk (fun w₂ r₂ => ?_) ?_
        · refine ⟨run_of fun K hK => ?_, ?_⟩
          · go_simp; exact hK
          · rw [listed_nil (by simp [go_sem, *])]; exact T.idle _
        refine Goes.stop fun w₁ r₁ => ?_
        obtain ⟨d, rfl⟩ := r₁
        exact hnext.out F p _ _ (I15.put (j := 14) (v := .bool true) hsz X.out ⟨rfl, rfl, Nat.le_refl _, fun _ _ => rfl⟩ (hw.at d) (by omega) (fun _ _ => rfl) (fun h => by omega) (fun h => by omega) (fun _ => hone.out))
    · obtain rfl := Option.some.inj ho
      have x14 := X.out.1 14 (by omega) (by omega) (by omega) (hafter.out ⟨14, .data⟩ (by simp) rfl)
      simp only [val15, if_true, Bool.false_eq_true, if_false, Bool.not_true, Bool.not_false] at x14
      refine ok_goes (Stop := Ok Try.prog F p (PostL W)) (fun _ _ h => h) (n := 1) ?_
      refine gt_val T (.bool true) rfl rfl hk (fun w₂ r₂ => ?_) ?_
      · refine ⟨run_of fun K hK => ?_, ?_⟩
        · go_simp; exact hK
        · rw [listed_nil (by simp [go_sem, *])]; exact T.idle _
      refine Goes.stop fun w₁ r₁ => ?_
      obtain ⟨d, rfl⟩ := r₁
      exact hnext.out F p _ _ (I15.put (j := 15) (v := .bool true) hsz X.out ⟨rfl, rfl, Nat.le_refl _, fun _ _ => rfl⟩ (hw.at d) (by omega) (fun _ _ => rfl) (fun h => by omega) (fun h => by omega) (fun _ => hone.out))
  · intro l F p a w h hr
    obtain ⟨hsz, xs, vc, rfl, hx, hw, _⟩ := h
    have h15 := hx.1 15 (by omega) (by omega) (by omega) (ready_nil (fun i o ho e he => ?_) hsz hr 15 (by simp))
    · simp only [val15] at h15
      refine ok_goes (Stop := Ok Try.prog F p (PostL W)) (fun _ _ h => h) (n := 2) ?_
      refine gt_end T ?_
      refine gt_ret T ?_
      refine Goes.stop fun w₁ r₁ => ?_
      obtain ⟨d, rfl⟩ := r₁
      exact ok_done Try.func5 rfl (by kernel_rfl) (bt_final hS0 (hw.at d).sim hw.bv (hw.at d).stay hw.old) (by rw [show _ = xs 15 from rfl]; exact h15)
    · have hi16 : i < 16 := by have := (Array.getElem?_eq_some_iff.1 ho).1; simpa using this
      have : i = 0 ∨ i = 1 ∨ i = 2 ∨ i = 3 ∨ i = 4 ∨ i = 5 ∨ i = 6 ∨ i = 7 ∨ i = 8 ∨ i = 9 ∨ i = 10 ∨ i = 11 ∨ i = 12 ∨ i = 13 ∨ i = 14 ∨ i = 15 := by omega
      rcases this with rfl | rfl | rfl | rfl | rfl | rfl | rfl | rfl | rfl | rfl | rfl | rfl | rfl | rfl | rfl | rfl <;> obtain rfl := Option.some.inj ho <;> simp at he <;> (repeat' (rcases he with rfl | he)) <;> simp
  · intro d
    have hno : ∀ i, (Array.replicate 16 false).getD i false = true → False := fun i h => by rw [getD_rep] at h; cases h
    exact ⟨by simp, (fun i => match i with | 0 => s91 | 1 => s92 | 2 => s93 | 3 => s94 | 4 => s95 | 5 => s96 | 6 => s97 | 7 => s98 | 8 => s99 | 9 => s100 | 10 => s101 | 11 => s102 | 12 => s103 | 13 => s104 | 14 => s105 | 15 => s4 | _ => undef), v5, rfl, ⟨fun i _ _ _ hl => (hno _ hl).elim, fun _ hl => (hno _ hl).elim, fun _ hl => (hno _ hl).elim⟩, (hW.at _).at d, fun _ => rfl⟩
end Go.Proofs.Ytajheicheefpeaa

/- Two bools are compared: nothing is listed. -/
namespace Go.Proofs.Ytajheicheefpeaa
open Go.Conc
set_option maxRecDepth 100000 in
theorem ev_eqB (t u : Bool) (w : World) (es : Array Event) : Sem.events Try.prog (binOp .eql 4 (.bool t) (.bool u)) w es = es := by
  cases t <;> cases u <;> first | rfl | simp [binOp, Op.equal, go_sem]
set_option maxRecDepth 100000 in
theorem ev_neB (t u : Bool) (w : World) (es : Array Event) : Sem.events Try.prog (binOp .neq 4 (.bool t) (.bool u)) w es = es := by
  cases t <;> cases u <;> first | rfl | simp [binOp, Op.equal, go_sem]
end Go.Proofs.Ytajheicheefpeaa

/- The run of FnChecksDamage. -/
namespace Go.Proofs.Ytajheicheefpeaa
open Go.Proofs
open Go.Conc Go.RowKit
open Go.ConcR (KK wgBlock WgAt stA smA DC0)
open Go.Conc.Lib Go.ConcR.Gen Go.ConcN.Gen
set_option linter.unusedSimpArgs false
set_option linter.unusedVariables false

theorem B0 {vc : World} (τ : TapeT) (d : Nat) : BT vc (onT vc τ d) := ⟨rfl, rfl, Nat.le_refl _, fun _ _ => rfl⟩
theorem checksR_le {xs : List HV} {LL : List (Int × Int)} {bb : Bool} (h : checksR (valsH xs) = (LL, bb)) (hx : xs.length ≤ 16) : LL.length ≤ 16 := by
  unfold checksR at h
  split at h
  · have e : sumsL (valsH xs) = LL := congrArg Prod.fst h
    rw [← e]; simpa [sumsL, valsH] using hx
  · have e : ([] : List (Int × Int)) = LL := congrArg Prod.fst h
    rw [← e]; simp
theorem GT.ownR {row : Option Nat} {w w' : World} (hg : GT w w' row) {α : Type} {E : Elt α} {B : Nat} {a : Option Addr} {c : Nat} {xs : List α} (h : OwnR E w B a c xs) (hne : ∀ k, (Value.slice a xs.length c).ownBlock = some k → ∀ r, row = some r → k ≠ r) : OwnR E w' B a c xs := by
  have h' : OwnR E (Go.Proofs.Ytajheicheefpeaa.onT w' w.tape w'.drawn) B a c xs := OwnR.apart h hg hne
  exact h'
theorem cons_of {zs : List Int} (h : 0 < zs.length) : ∃ z r, zs = z :: r := by
  cases zs with
  | nil => simp at h
  | cons z r => exact ⟨z, r, rfl⟩
theorem ownBlock_some {g n c q : Nat} (h : (Value.slice (some ⟨g, 0, none⟩) n c).ownBlock = some q) : q = g := by
  simp [Value.ownBlock] at h
  omega
theorem allB_wf {zs : List Int} (h : allB zs = true) : WfI zs := by
  intro z hz
  have := List.all_eq_true.1 h z hz
  simp only [inB, Bool.and_eq_true, decide_eq_true_eq] at this
  omega
theorem OwnR.bt {α : Type} {E : Elt α} {w w' : World} {B : Nat} {a : Option Addr} {c : Nat} {xs : List α} (h : OwnR E w B a c xs) (hb : BT w w') : OwnR E w' B a c xs := by
  have h := h.below hb.below; exact h

set_option maxRecDepth 100000 in
set_option maxHeartbeats 3000000 in
theorem fnChecksDamage_ok {a a1 : Option Addr} {n c n1 c1 : Nat} {W : World} (hr : RdC W a n) (hc : n ≤ c) :
    Ok Try.prog (fun _ => False) 1 (PostL W) (G ((base 5).at ⟨#[.slice a n c, .slice a1 n1 c1, undef, undef, undef, undef, undef, undef, undef, undef, undef, undef, undef, undef, undef, undef, undef, undef, undef, undef, undef, undef, undef, undef, undef, undef, undef, undef, undef, undef, undef, undef, undef, undef, undef, undef, undef, undef, undef, undef, undef, undef, undef, undef, undef, undef, undef, undef, undef, undef, undef, undef, undef, undef, undef, undef, undef, undef, undef, undef, undef, undef, undef, undef, undef, undef, undef, undef, undef, undef, undef, undef, undef, undef, undef, undef, undef, undef, undef, undef, undef, undef, undef, undef, undef, undef, undef, undef, undef, undef, undef, undef, undef, undef, undef, undef, undef, undef, undef, undef, undef, undef, undef, undef, undef, undef], []⟩ [.code body5]) []) W := by
  have T : Terms AtRel (DB fun _ => False) := termsB
  have hk : (base 5).kind ≠ .early := by decide
  obtain ⟨vv, hS0, hNP, _, _⟩ := sim_make (fun _ => False) W (fun b h => h.elim)
  have hr0 : RdC vv a n := empty_rdc hS0 hr
  obtain ⟨vc, hvc⟩ : ∃ v, v = vv := ⟨_, rfl⟩
  have S : Sim (fun _ => False) vc W := by rw [hvc]; exact hS0
  have B : BT vv vc := by rw [hvc]; exact ⟨rfl, rfl, Nat.le_refl _, fun _ _ => rfl⟩
  have st : Stay W W := Stay.refl W
  clear hvc
  have evE := ev_eqB
  have evN := ev_neB
  simp only [body5, Try.f5, Option.getD_some]
  refine ok_goes (Stop := Ok Try.prog _ _ (PostL W)) (fun _ _ h => h) (n := 60) ?_
  repeat (first
    | (with_reducible refine gt_seq T ?_)
    | (with_reducible refine gt_end T ?_)
    | ((with_reducible refine gt_reg T ?_); simp only [List.size_toArray, List.length_cons, List.length_nil, Nat.reduceAdd, Nat.zero_add, List.range, List.range.loop])
    | (with_reducible refine gt_skip T ?_)
    | ((with_reducible refine gt_cond T false ?_ ?_); (focus (exact rfl)); simp only [if_true, if_false, Bool.false_eq_true, ↓reduceIte, Bool.true_eq_false])
    | ((with_reducible refine gt_cond T true ?_ ?_); (focus (exact rfl)); simp only [if_true, if_false, Bool.false_eq_true, ↓reduceIte, Bool.true_eq_false]))
  refine gt_val T (.bool false) rfl rfl hk (fun w₂ r₂ => ?_) ?_
  · refine ⟨run_of fun K hK => ?_, ?_⟩
    · go_simp; exact hK
    · rw [listed_nil (by simp [go_sem, *])]; exact T.idle _
  walk_nrm
  repeat (first
    | (with_reducible refine gt_seq T ?_)
    | (with_reducible refine gt_end T ?_)
    | ((with_reducible refine gt_reg T ?_); simp only [List.size_toArray, List.length_cons, List.length_nil, Nat.reduceAdd, Nat.zero_add, List.range, List.range.loop])
    | (with_reducible refine gt_skip T ?_)
    | ((with_reducible refine gt_cond T false ?_ ?_); (focus (exact rfl)); simp only [if_true, if_false, Bool.false_eq_true, ↓reduceIte, Bool.true_eq_false])
    | ((with_reducible refine gt_cond T true ?_ ?_); (focus (exact rfl)); simp only [if_true, if_false, Bool.false_eq_true, ↓reduceIte, Bool.true_eq_false]))
  refine gt_val T (.slice a n c) rfl rfl hk (fun w₂ r₂ => ?_) ?_
  · refine ⟨run_of fun K hK => ?_, ?_⟩
    · go_simp; exact hK
    · rw [listed_nil (by simp [go_sem, *])]; exact T.idle _
  walk_nrm
  refine gt_val T (.int .i64 n) rfl rfl hk (fun w₂ r₂ => ?_) ?_
  · refine ⟨run_of fun K hK => ?_, ?_⟩
    · go_simp; exact hK
    · rw [listed_nil (by simp [go_sem, *])]; exact T.idle _
  walk_nrm
  by_cases hn : n ≤ 1048576
  rotate_left
  · have t1 : (1048576 : Int) < (n : Int) := by omega
    refine gt_val T (.bool true) rfl rfl hk (fun w₂ r₂ => ?_) ?_
    · refine ⟨run_of fun K hK => ?_, ?_⟩
      · go_simp; exact hK
      · rw [listed_nil (by simp [go_sem, *])]; exact T.idle _
    walk_nrm
    refine gt_val T (.bool true) rfl rfl hk (fun w₂ r₂ => ?_) ?_
    · refine ⟨run_of fun K hK => ?_, ?_⟩
      · go_simp; exact hK
      · rw [listed_nil (by simp [go_sem, *])]; exact T.idle _
    walk_nrm
    refine gt_not T rfl rfl ?_
    walk_nrm
    refine gt_not T rfl rfl ?_
    walk_nrm
    refine gt_not T rfl rfl ?_
    walk_nrm
    refine gt_val T (.bool true) rfl rfl hk (fun w₂ r₂ => ?_) ?_
    · refine ⟨run_of fun K hK => ?_, ?_⟩
      · go_simp; exact hK
      · rw [listed_nil (by simp [go_sem, *])]; exact T.idle _
    walk_nrm
    repeat (first
      | (with_reducible refine gt_seq T ?_)
      | (with_reducible refine gt_end T ?_)
      | ((with_reducible refine gt_reg T ?_); simp only [List.size_toArray, List.length_cons, List.length_nil, Nat.reduceAdd, Nat.zero_add, List.range, List.range.loop])
      | (with_reducible refine gt_skip T ?_)
      | ((with_reducible refine gt_cond T false ?_ ?_); (focus (exact rfl)); simp only [if_true, if_false, Bool.false_eq_true, ↓reduceIte, Bool.true_eq_false])
      | ((with_reducible refine gt_cond T true ?_ ?_); (focus (exact rfl)); simp only [if_true, if_false, Bool.false_eq_true, ↓reduceIte, Bool.true_eq_false]))
    refine gt_val T (.bool true) rfl rfl hk (fun w₂ r₂ => ?_) ?_
    · refine ⟨run_of fun K hK => ?_, ?_⟩
      · go_simp; exact hK
      · rw [listed_nil (by simp [go_sem, *])]; exact T.idle _
    walk_nrm
    repeat (first
      | (with_reducible refine gt_seq T ?_)
      | (with_reducible refine gt_end T ?_)
      | ((with_reducible refine gt_reg T ?_); simp only [List.size_toArray, List.length_cons, List.length_nil, Nat.reduceAdd, Nat.zero_add, List.range, List.range.loop])
      | (with_reducible refine gt_skip T ?_)
      | ((with_reducible refine gt_cond T false ?_ ?_); (focus (exact rfl)); simp only [if_true, if_false, Bool.false_eq_true, ↓reduceIte, Bool.true_eq_false])
      | ((with_reducible refine gt_cond T true ?_ ?_); (focus (exact rfl)); simp only [if_true, if_false, Bool.false_eq_true, ↓reduceIte, Bool.true_eq_false]))
    refine gt_ret T ?_
    refine Goes.stop fun w₁ r₁ => ?_
    obtain ⟨d₁, rfl⟩ := r₁
    exact ok_done Try.func5 rfl (by kernel_rfl) (bt_final hS0 (S.atD d₁) B ⟨st.size, st.pend, st.map, st.back⟩ (fun b _ h => h)) rfl
  have t1 : ¬ (1048576 : Int) < (n : Int) := by omega
  refine gt_val T (.bool false) rfl rfl hk (fun w₂ r₂ => ?_) ?_
  · refine ⟨run_of fun K hK => ?_, ?_⟩
    · go_simp; exact hK
    · rw [listed_nil (by simp [go_sem, *])]; exact T.idle _
  walk_nrm
  refine gt_val T (.bool false) rfl rfl hk (fun w₂ r₂ => ?_) ?_
  · refine ⟨run_of fun K hK => ?_, ?_⟩
    · go_simp; exact hK
    · rw [listed_nil (by simp [go_sem, *])]; exact T.idle _
  walk_nrm
  refine gt_val T (.slice a1 n1 c1) rfl rfl hk (fun w₂ r₂ => ?_) ?_
  · refine ⟨run_of fun K hK => ?_, ?_⟩
    · go_simp; exact hK
    · rw [listed_nil (by simp [go_sem, *])]; exact T.idle _
  walk_nrm
  refine gt_val T (.int .i64 n1) rfl rfl hk (fun w₂ r₂ => ?_) ?_
  · refine ⟨run_of fun K hK => ?_, ?_⟩
    · go_simp; exact hK
    · rw [listed_nil (by simp [go_sem, *])]; exact T.idle _
  walk_nrm
  by_cases hn1 : n1 ≤ 1048576
  rotate_left
  · have t2 : (1048576 : Int) < (n1 : Int) := by omega
    refine gt_val T (.bool true) rfl rfl hk (fun w₂ r₂ => ?_) ?_
    · refine ⟨run_of fun K hK => ?_, ?_⟩
      · go_simp; exact hK
      · rw [listed_nil (by simp [go_sem, *])]; exact T.idle _
    walk_nrm
    refine gt_val T (.bool true) rfl rfl hk (fun w₂ r₂ => ?_) ?_
    · refine ⟨run_of fun K hK => ?_, ?_⟩
      · go_simp; exact hK
      · rw [listed_nil (by simp [go_sem, *])]; exact T.idle _
    walk_nrm
    repeat (first
      | (with_reducible refine gt_seq T ?_)
      | (with_reducible refine gt_end T ?_)
      | ((with_reducible refine gt_reg T ?_); simp only [List.size_toArray, List.length_cons, List.length_nil, Nat.reduceAdd, Nat.zero_add, List.range, List.range.loop])
      | (with_reducible refine gt_skip T ?_)
      | ((with_reducible refine gt_cond T false ?_ ?_); (focus (exact rfl)); simp only [if_true, if_false, Bool.false_eq_true, ↓reduceIte, Bool.true_eq_false])
      | ((with_reducible refine gt_cond T true ?_ ?_); (focus (exact rfl)); simp only [if_true, if_false, Bool.false_eq_true, ↓reduceIte, Bool.true_eq_false]))
    refine gt_val T (.bool true) rfl rfl hk (fun w₂ r₂ => ?_) ?_
    · refine ⟨run_of fun K hK => ?_, ?_⟩
      · go_simp; exact hK
      · rw [listed_nil (by simp [go_sem, *])]; exact T.idle _
    walk_nrm
    repeat (first
      | (with_reducible refine gt_seq T ?_)
      | (with_reducible refine gt_end T ?_)
      | ((with_reducible refine gt_reg T ?_); simp only [List.size_toArray, List.length_cons, List.length_nil, Nat.reduceAdd, Nat.zero_add, List.range, List.range.loop])
      | (with_reducible refine gt_skip T ?_)
      | ((with_reducible refine gt_cond T false ?_ ?_); (focus (exact rfl)); simp only [if_true, if_false, Bool.false_eq_true, ↓reduceIte, Bool.true_eq_false])
      | ((with_reducible refine gt_cond T true ?_ ?_); (focus (exact rfl)); simp only [if_true, if_false, Bool.false_eq_true, ↓reduceIte, Bool.true_eq_false]))
    refine gt_ret T ?_
    refine Goes.stop fun w₁ r₁ => ?_
    obtain ⟨d₁, rfl⟩ := r₁
    exact ok_done Try.func5 rfl (by kernel_rfl) (bt_final hS0 (S.atD d₁) B ⟨st.size, st.pend, st.map, st.back⟩ (fun b _ h => h)) rfl
  have t2 : ¬ (1048576 : Int) < (n1 : Int) := by omega
  refine gt_val T (.bool false) rfl rfl hk (fun w₂ r₂ => ?_) ?_
  · refine ⟨run_of fun K hK => ?_, ?_⟩
    · go_simp; exact hK
    · rw [listed_nil (by simp [go_sem, *])]; exact T.idle _
  walk_nrm
  refine gt_val T (.bool false) rfl rfl hk (fun w₂ r₂ => ?_) ?_
  · refine ⟨run_of fun K hK => ?_, ?_⟩
    · go_simp; exact hK
    · rw [listed_nil (by simp [go_sem, *])]; exact T.idle _
  walk_nrm
  repeat (first
    | (with_reducible refine gt_seq T ?_)
    | (with_reducible refine gt_end T ?_)
    | ((with_reducible refine gt_reg T ?_); simp only [List.size_toArray, List.length_cons, List.length_nil, Nat.reduceAdd, Nat.zero_add, List.range, List.range.loop])
    | (with_reducible refine gt_skip T ?_)
    | ((with_reducible refine gt_cond T false ?_ ?_); (focus (exact rfl)); simp only [if_true, if_false, Bool.false_eq_true, ↓reduceIte, Bool.true_eq_false])
    | ((with_reducible refine gt_cond T true ?_ ?_); (focus (exact rfl)); simp only [if_true, if_false, Bool.false_eq_true, ↓reduceIte, Bool.true_eq_false]))
  refine gt_val T (.slice a n c) rfl rfl hk (fun w₂ r₂ => ?_) ?_
  · refine ⟨run_of fun K hK => ?_, ?_⟩
    · go_simp; exact hK
    · rw [listed_nil (by simp [go_sem, *])]; exact T.idle _
  walk_nrm
  refine Goes.stop fun w₁ r₁ => ?_
  obtain ⟨d₁, rfl⟩ := r₁
  refine ok_call (K := kitC) bodiesC (R := fun v w' => ∃ (xs : List HV) (la : Option Addr) (nl lc : Nat), v = .slice la nl lc ∧ nl = xs.length ∧ nl ≤ 16 ∧ (∀ x ∈ xs, x.zs.length ≤ 8) ∧ OwnR eltH w' vc.heap.size la lc xs ∧ InH w' xs ∧ BT vc w') (fun v w τ d ⟨xs, la, nl, lc, h1, h2, h3, h4, h5, h6, h7⟩ => ⟨xs, la, nl, lc, h1, h2, h3, h4, h5, h6, h7.tape _ _⟩) rfl rfl hk rfl Try.func24 rfl rfl rfl (by kernel_rfl) (by simp [Act.eval]; rfl) S.noPend (S.atD d₁) (fun τ d => ?_) (fun v' vc Wc hR S' _ st' => ?_)
  · exact (DrawChecksOf_any a n c (onT vc τ d) (by have h := RdC.below hr0 (B.tape τ d).below; exact h) hc hn).mono fun e w' ⟨xs, la, lc, h1, h2, h3, h4, h5, h6⟩ => ⟨_, h1, xs, la, xs.length, lc, rfl, rfl, h2, h3, h4, h5, (BT.of h6).untape⟩
  obtain ⟨xs, la, nl, lc, rfl, hnl, hx16, hx8, hO3, hi, hb⟩ := hR
  replace S := S'
  replace st := st.trans st'.atD
  replace B := B.trans hb
  clear hb
  have hx : RdR eltH vc la nl xs := by rw [hnl]; exact hO3.rd
  have hcap := hO3.cap
  rw [← hnl] at hcap
  unfold maxLen at hcap
  replace hnl := Lib.hid hnl
  have hx8b := Lib.hid hx8
  have hs8 : ∀ x ∈ xs, x.zs.length ≤ 4611686018427387904 := fun x hx => by have := hx8 x hx; omega
  obtain ⟨LL, hLL⟩ : ∃ LL, (checksR (valsH xs)).1 = LL := ⟨_, rfl⟩
  obtain ⟨bb, hbb⟩ : ∃ bb, (checksR (valsH xs)).2 = bb := ⟨_, rfl⟩
  have hR7 : Hid (checksR (valsH xs) = (LL, bb)) := Lib.hid (by rw [← hLL, ← hbb])
  clear hLL hbb hO3
  clear S' st'
  refine ok_goes (Stop := Ok Try.prog _ _ (PostL W)) (fun _ _ h => h) (n := 60) ?_
  walk_nrm
  refine gt_val T (.slice la nl lc) rfl rfl hk (fun w₂ r₂ => ?_) ?_
  · refine ⟨run_of fun K hK => ?_, ?_⟩
    · go_simp; exact hK
    · rw [listed_nil (by simp [go_sem, *])]; exact T.idle _
  walk_nrm
  repeat (first
    | (with_reducible refine gt_seq T ?_)
    | (with_reducible refine gt_end T ?_)
    | ((with_reducible refine gt_reg T ?_); simp only [List.size_toArray, List.length_cons, List.length_nil, Nat.reduceAdd, Nat.zero_add, List.range, List.range.loop])
    | (with_reducible refine gt_skip T ?_)
    | ((with_reducible refine gt_cond T false ?_ ?_); (focus (exact rfl)); simp only [if_true, if_false, Bool.false_eq_true, ↓reduceIte, Bool.true_eq_false])
    | ((with_reducible refine gt_cond T true ?_ ?_); (focus (exact rfl)); simp only [if_true, if_false, Bool.false_eq_true, ↓reduceIte, Bool.true_eq_false]))
  refine gt_val T (.slice la nl lc) rfl rfl hk (fun w₂ r₂ => ?_) ?_
  · refine ⟨run_of fun K hK => ?_, ?_⟩
    · go_simp; exact hK
    · rw [listed_nil (by simp [go_sem, *])]; exact T.idle _
  walk_nrm
  refine Goes.stop fun w₁ r₁ => ?_
  obtain ⟨d₁, rfl⟩ := r₁
  refine ok_callN (K := kitC) bodiesC (R := fun v w' => ∃ (oa : Option Addr) (ol oc : Nat), v = .tuple #[.slice oa ol oc, .bool bb] ∧ ol = LL.length ∧ OwnX w' vc.heap.size oa oc LL ∧ BT vc w') (fun v w τ d ⟨oa, ol, oc, h1, h2, h3, h4⟩ => ⟨oa, ol, oc, h1, h2, h3, h4.tape _ _⟩) rfl rfl hk rfl Try.func11 rfl rfl (fun T w => ⟨results_tmp2 (t := 2) (u := 3) rfl _ _ _, events_results_tmp2 rfl _ _⟩) (by kernel_rfl) (by simp [Act.eval]; rfl) S.noPend (S.atD d₁) (fun τ d => ?_) (fun v' vc Wc hR S' _ st' => ?_)
  · exact (by have h := implChecksOf_any la nl lc xs (onT vc τ d) (hx.bt (B0 _ _)) (hi.bt (B0 _ _)) hs8 hcap.1 (by omega); rw [hR7.out] at h; exact h : Calls Try.prog _ _ _ (RetC (onT vc τ d) (LL, bb))).mono fun e w' ⟨oa, oc, h1, h2, h3⟩ => ⟨_, h1, oa, _, oc, rfl, rfl, h2, (BT.of h3).untape⟩
  obtain ⟨oa, ol, oc, rfl, hol, hO4, hb⟩ := hR
  replace S := S'
  replace st := st.trans st'.atD
  replace B := B.trans hb
  replace hx := hx.bt hb
  replace hi := hi.bt hb
  clear hb
  have ho : RdX vc oa ol LL := by rw [hol]; exact hO4.rd
  have hwf : WfX LL := hO4.wf
  replace hol := Lib.hid hol
  clear hO4
  clear S' st'
  refine ok_goes (Stop := Ok Try.prog _ _ (PostL W)) (fun _ _ h => h) (n := 60) ?_
  walk_nrm
  refine gt_val T (.tuple #[.slice oa ol oc, .bool bb]) rfl rfl hk (fun w₂ r₂ => ?_) ?_
  · refine ⟨run_of fun K hK => ?_, ?_⟩
    · go_simp; exact hK
    · rw [listed_nil (by simp [go_sem, *])]; exact T.idle _
  walk_nrm
  refine gt_val T (.slice oa ol oc) rfl rfl hk (fun w₂ r₂ => ?_) ?_
  · refine ⟨run_of fun K hK => ?_, ?_⟩
    · go_simp; exact hK
    · rw [listed_nil (by simp [go_sem, *])]; exact T.idle _
  walk_nrm
  refine gt_val T (.bool bb) rfl rfl hk (fun w₂ r₂ => ?_) ?_
  · refine ⟨run_of fun K hK => ?_, ?_⟩
    · go_simp; exact hK
    · rw [listed_nil (by simp [go_sem, *])]; exact T.idle _
  walk_nrm
  refine gt_val T (.slice oa ol oc) rfl rfl hk (fun w₂ r₂ => ?_) ?_
  · refine ⟨run_of fun K hK => ?_, ?_⟩
    · go_simp; exact hK
    · rw [listed_nil (by simp [go_sem, *])]; exact T.idle _
  walk_nrm
  refine gt_val T (.bool bb) rfl rfl hk (fun w₂ r₂ => ?_) ?_
  · refine ⟨run_of fun K hK => ?_, ?_⟩
    · go_simp; exact hK
    · rw [listed_nil (by simp [go_sem, *])]; exact T.idle _
  walk_nrm
  repeat (first
    | (with_reducible refine gt_seq T ?_)
    | (with_reducible refine gt_end T ?_)
    | ((with_reducible refine gt_reg T ?_); simp only [List.size_toArray, List.length_cons, List.length_nil, Nat.reduceAdd, Nat.zero_add, List.range, List.range.loop])
    | (with_reducible refine gt_skip T ?_)
    | ((with_reducible refine gt_cond T false ?_ ?_); (focus (exact rfl)); simp only [if_true, if_false, Bool.false_eq_true, ↓reduceIte, Bool.true_eq_false])
    | ((with_reducible refine gt_cond T true ?_ ?_); (focus (exact rfl)); simp only [if_true, if_false, Bool.false_eq_true, ↓reduceIte, Bool.true_eq_false]))
  refine gt_val T (.slice la nl lc) rfl rfl hk (fun w₂ r₂ => ?_) ?_
  · refine ⟨run_of fun K hK => ?_, ?_⟩
    · go_simp; exact hK
    · rw [listed_nil (by simp [go_sem, *])]; exact T.idle _
  walk_nrm
  refine Goes.stop fun w₁ r₁ => ?_
  obtain ⟨d₁, rfl⟩ := r₁
  refine ok_callN (K := kitC) bodiesC (R := fun v w' => ∃ (oa : Option Addr) (ol oc : Nat), v = .tuple #[.slice oa ol oc, .bool bb] ∧ ol = LL.length ∧ OwnX w' vc.heap.size oa oc LL ∧ BT vc w') (fun v w τ d ⟨oa, ol, oc, h1, h2, h3, h4⟩ => ⟨oa, ol, oc, h1, h2, h3, h4.tape _ _⟩) rfl rfl hk rfl Try.func9 rfl rfl (fun T w => ⟨results_tmp2 (t := 2) (u := 3) rfl _ _ _, events_results_tmp2 rfl _ _⟩) (by kernel_rfl) (by simp [Act.eval]; rfl) S.noPend (S.atD d₁) (fun τ d => ?_) (fun v' vc Wc hR S' _ st' => ?_)
  · exact (by have h := specChecksOf_any la nl lc xs (onT vc τ d) (hx.bt (B0 _ _)) (hi.bt (B0 _ _)) hs8 (by omega); rw [hR7.out] at h; exact h : Calls Try.prog _ _ _ (RetC (onT vc τ d) (LL, bb))).mono fun e w' ⟨oa, oc, h1, h2, h3⟩ => ⟨_, h1, oa, _, oc, rfl, rfl, h2, (BT.of h3).untape⟩
  obtain ⟨wa, wl, wc, rfl, hwl, hO5, hb⟩ := hR
  replace S := S'
  replace st := st.trans st'.atD
  replace B := B.trans hb
  replace hx := hx.bt hb
  replace hi := hi.bt hb
  replace ho := ho.bt hb
  clear hb
  have hww : wl = ol := by rw [hwl, hol.out]
  subst hww
  have hw' : RdX vc wa wl LL := by rw [hwl]; exact hO5.rd
  replace hwl := Lib.hid hwl
  clear hO5
  clear S' st'
  refine ok_goes (Stop := Ok Try.prog _ _ (PostL W)) (fun _ _ h => h) (n := 60) ?_
  walk_nrm
  have hol16 : wl ≤ 16 := by rw [hwl.out]; exact checksR_le hR7.out (by have := hnl.out; omega)
  refine gt_val T (.tuple #[.slice wa wl wc, .bool bb]) rfl rfl hk (fun w₂ r₂ => ?_) ?_
  · refine ⟨run_of fun K hK => ?_, ?_⟩
    · go_simp; exact hK
    · rw [listed_nil (by simp [go_sem, *])]; exact T.idle _
  walk_nrm
  refine gt_val T (.slice wa wl wc) rfl rfl hk (fun w₂ r₂ => ?_) ?_
  · refine ⟨run_of fun K hK => ?_, ?_⟩
    · go_simp; exact hK
    · rw [listed_nil (by simp [go_sem, *])]; exact T.idle _
  walk_nrm
  refine gt_val T (.bool bb) rfl rfl hk (fun w₂ r₂ => ?_) ?_
  · refine ⟨run_of fun K hK => ?_, ?_⟩
    · go_simp; exact hK
    · rw [listed_nil (by simp [go_sem, *])]; exact T.idle _
  walk_nrm
  refine gt_val T (.slice wa wl wc) rfl rfl hk (fun w₂ r₂ => ?_) ?_
  · refine ⟨run_of fun K hK => ?_, ?_⟩
    · go_simp; exact hK
    · rw [listed_nil (by simp [go_sem, *])]; exact T.idle _
  walk_nrm
  refine gt_val T (.bool bb) rfl rfl hk (fun w₂ r₂ => ?_) ?_
  · refine ⟨run_of fun K hK => ?_, ?_⟩
    · go_simp; exact hK
    · rw [listed_nil (by simp [go_sem, *])]; exact T.idle _
  walk_nrm
  repeat (first
    | (with_reducible refine gt_seq T ?_)
    | (with_reducible refine gt_end T ?_)
    | ((with_reducible refine gt_reg T ?_); simp only [List.size_toArray, List.length_cons, List.length_nil, Nat.reduceAdd, Nat.zero_add, List.range, List.range.loop])
    | (with_reducible refine gt_skip T ?_)
    | ((with_reducible refine gt_cond T false ?_ ?_); (focus (exact rfl)); simp only [if_true, if_false, Bool.false_eq_true, ↓reduceIte, Bool.true_eq_false])
    | ((with_reducible refine gt_cond T true ?_ ?_); (focus (exact rfl)); simp only [if_true, if_false, Bool.false_eq_true, ↓reduceIte, Bool.true_eq_false]))
  have bq : (bb != bb) = false := by simp
  have bq2 : (bb == bb) = true := by simp
  refine gt_val T (.bool bb) rfl rfl hk (fun w₂ r₂ => ?_) ?_
  · refine ⟨run_of fun K hK => ?_, ?_⟩
    · go_simp; exact hK
    · rw [listed_nil (by simp [go_sem, *])]; exact T.idle _
  walk_nrm
  refine gt_val T (.bool bb) rfl rfl hk (fun w₂ r₂ => ?_) ?_
  · refine ⟨run_of fun K hK => ?_, ?_⟩
    · go_simp; exact hK
    · rw [listed_nil (by simp [go_sem, *])]; exact T.idle _
  walk_nrm
  refine gt_val T (.bool false) rfl rfl hk (fun w₂ r₂ => ?_) ?_
  · refine ⟨run_of fun K hK => ?_, ?_⟩
    · go_simp; exact hK
    · rw [listed_nil (by simp [go_sem, *])]; exact T.idle _
  walk_nrm
  refine gt_val T (.bool false) rfl rfl hk (fun w₂ r₂ => ?_) ?_
  · refine ⟨run_of fun K hK => ?_, ?_⟩
    · go_simp; exact hK
    · rw [listed_nil (by simp [go_sem, *])]; exact T.idle _
  walk_nrm
  refine gt_val T (.slice oa wl oc) rfl rfl hk (fun w₂ r₂ => ?_) ?_
  · refine ⟨run_of fun K hK => ?_, ?_⟩
    · go_simp; exact hK
    · rw [listed_nil (by simp [go_sem, *])]; exact T.idle _
  walk_nrm
  refine gt_val T (.slice wa wl wc) rfl rfl hk (fun w₂ r₂ => ?_) ?_
  · refine ⟨run_of fun K hK => ?_, ?_⟩
    · go_simp; exact hK
    · rw [listed_nil (by simp [go_sem, *])]; exact T.idle _
  walk_nrm
  refine Goes.stop fun w₁ r₁ => ?_
  obtain ⟨d₁, rfl⟩ := r₁
  refine ok_call (K := kitC) bodiesC (R := fun v w' => v = .bool true ∧ BT vc w') (fun v w τ d h => ⟨h.1, h.2.tape _ _⟩) rfl rfl hk rfl Try.func25 rfl rfl rfl (by kernel_rfl) (by simp [Act.eval]; rfl) S.noPend (S.atD d₁) (fun τ d => ?_) (fun v' vc Wc hR S' _ st' => ?_)
  · exact (by have h := sameChecks_any oa wa wl wl oc wc LL LL (onT vc τ d) (ho.bt (B0 _ _)) (hw'.bt (B0 _ _)) hwf hwf (by omega) (by omega); rw [show eqX LL LL = true by simp [eqX]] at h; exact h : Calls Try.prog _ _ _ (RetQ (onT vc τ d) (.bool true))).mono fun e w' h => ⟨_, h.1, rfl, by obtain ⟨m, hm⟩ := h.2; subst hm; exact ⟨rfl, rfl, Nat.le_refl _, fun _ _ => rfl⟩⟩
  obtain ⟨rfl, hb⟩ := hR
  replace S := S'
  replace st := st.trans st'.atD
  replace B := B.trans hb
  replace hx := hx.bt hb
  replace hi := hi.bt hb
  replace ho := ho.bt hb
  replace hw' := hw'.bt hb
  clear hb
  clear S' st'
  refine ok_goes (Stop := Ok Try.prog _ _ (PostL W)) (fun _ _ h => h) (n := 60) ?_
  walk_nrm
  refine gt_val T (.bool false) rfl rfl hk (fun w₂ r₂ => ?_) ?_
  · refine ⟨run_of fun K hK => ?_, ?_⟩
    · go_simp; exact hK
    · rw [listed_nil (by simp [go_sem, *])]; exact T.idle _
  walk_nrm
  refine gt_val T (.bool false) rfl rfl hk (fun w₂ r₂ => ?_) ?_
  · refine ⟨run_of fun K hK => ?_, ?_⟩
    · go_simp; exact hK
    · rw [listed_nil (by simp [go_sem, *])]; exact T.idle _
  walk_nrm
  refine gt_val T (.bool false) rfl rfl hk (fun w₂ r₂ => ?_) ?_
  · refine ⟨run_of fun K hK => ?_, ?_⟩
    · go_simp; exact hK
    · rw [listed_nil (by simp [go_sem, *])]; exact T.idle _
  walk_nrm
  refine gt_val T (.bool bb) rfl rfl hk (fun w₂ r₂ => ?_) ?_
  · refine ⟨run_of fun K hK => ?_, ?_⟩
    · go_simp; exact hK
    · rw [listed_nil (by simp [go_sem, *])]; exact T.idle _
  walk_nrm
  cases bb with
  | false =>
    refine gt_val T (.bool true) rfl rfl hk (fun w₂ r₂ => ?_) ?_
    · refine ⟨run_of fun K hK => ?_, ?_⟩
      · go_simp; exact hK
      · rw [listed_nil (by simp [go_sem, *])]; exact T.idle _
    walk_nrm
    refine gt_val T (.bool true) rfl rfl hk (fun w₂ r₂ => ?_) ?_
    · refine ⟨run_of fun K hK => ?_, ?_⟩
      · go_simp; exact hK
      · rw [listed_nil (by simp [go_sem, *])]; exact T.idle _
    walk_nrm
    refine gt_val T (.bool true) rfl rfl hk (fun w₂ r₂ => ?_) ?_
    · refine ⟨run_of fun K hK => ?_, ?_⟩
      · go_simp; exact hK
      · rw [listed_nil (by simp [go_sem, *])]; exact T.idle _
    walk_nrm
    refine gt_not T rfl rfl ?_
    walk_nrm
    refine gt_not T rfl rfl ?_
    walk_nrm
    refine gt_not T rfl rfl ?_
    walk_nrm
    refine gt_val T (.bool true) rfl rfl hk (fun w₂ r₂ => ?_) ?_
    · refine ⟨run_of fun K hK => ?_, ?_⟩
      · go_simp; exact hK
      · rw [listed_nil (by simp [go_sem, *])]; exact T.idle _
    walk_nrm
    repeat (first
      | (with_reducible refine gt_seq T ?_)
      | (with_reducible refine gt_end T ?_)
      | ((with_reducible refine gt_reg T ?_); simp only [List.size_toArray, List.length_cons, List.length_nil, Nat.reduceAdd, Nat.zero_add, List.range, List.range.loop])
      | (with_reducible refine gt_skip T ?_)
      | ((with_reducible refine gt_cond T false ?_ ?_); (focus (exact rfl)); simp only [if_true, if_false, Bool.false_eq_true, ↓reduceIte, Bool.true_eq_false])
      | ((with_reducible refine gt_cond T true ?_ ?_); (focus (exact rfl)); simp only [if_true, if_false, Bool.false_eq_true, ↓reduceIte, Bool.true_eq_false]))
    refine gt_val T (.bool false) rfl rfl hk (fun w₂ r₂ => ?_) ?_
    · refine ⟨run_of fun K hK => ?_, ?_⟩
      · go_simp; exact hK
      · rw [listed_nil (by simp [go_sem, *])]; exact T.idle _
    walk_nrm
    refine gt_val T (.bool false) rfl rfl hk (fun w₂ r₂ => ?_) ?_
    · refine ⟨run_of fun K hK => ?_, ?_⟩
      · go_simp; exact hK
      · rw [listed_nil (by simp [go_sem, *])]; exact T.idle _
    walk_nrm
    refine gt_val T (.bool true) rfl rfl hk (fun w₂ r₂ => ?_) ?_
    · refine ⟨run_of fun K hK => ?_, ?_⟩
      · go_simp; exact hK
      · rw [listed_nil (by simp [go_sem, *])]; exact T.idle _
    walk_nrm
    refine gt_val T (.bool true) rfl rfl hk (fun w₂ r₂ => ?_) ?_
    · refine ⟨run_of fun K hK => ?_, ?_⟩
      · go_simp; exact hK
      · rw [listed_nil (by simp [go_sem, *])]; exact T.idle _
    walk_nrm
    refine gt_val T (.slice oa wl oc) rfl rfl hk (fun w₂ r₂ => ?_) ?_
    · refine ⟨run_of fun K hK => ?_, ?_⟩
      · go_simp; exact hK
      · rw [listed_nil (by simp [go_sem, *])]; exact T.idle _
    walk_nrm
    refine gt_val T (.slice wa wl wc) rfl rfl hk (fun w₂ r₂ => ?_) ?_
    · refine ⟨run_of fun K hK => ?_, ?_⟩
      · go_simp; exact hK
      · rw [listed_nil (by simp [go_sem, *])]; exact T.idle _
    walk_nrm
    refine Goes.stop fun w₁ r₁ => ?_
    obtain ⟨d₁, rfl⟩ := r₁
    refine ok_call (K := kitC) bodiesC (R := fun v w' => v = .bool true ∧ BT vc w') (fun v w τ d h => ⟨h.1, h.2.tape _ _⟩) rfl rfl hk rfl Try.func25 rfl rfl rfl (by kernel_rfl) (by simp [Act.eval]; rfl) S.noPend (S.atD d₁) (fun τ d => ?_) (fun v' vc Wc hR S' _ st' => ?_)
    · exact (by have h := sameChecks_any oa wa wl wl oc wc LL LL (onT vc τ d) (ho.bt (B0 _ _)) (hw'.bt (B0 _ _)) hwf hwf (by omega) (by omega); rw [show eqX LL LL = true by simp [eqX]] at h; exact h : Calls Try.prog _ _ _ (RetQ (onT vc τ d) (.bool true))).mono fun e w' h => ⟨_, h.1, rfl, by obtain ⟨m, hm⟩ := h.2; subst hm; exact ⟨rfl, rfl, Nat.le_refl _, fun _ _ => rfl⟩⟩
    obtain ⟨rfl, hb⟩ := hR
    replace S := S'
    replace st := st.trans st'.atD
    replace B := B.trans hb
    replace hx := hx.bt hb
    replace hi := hi.bt hb
    replace ho := ho.bt hb
    replace hw' := hw'.bt hb
    clear hb
    clear S' st'
    refine ok_goes (Stop := Ok Try.prog _ _ (PostL W)) (fun _ _ h => h) (n := 60) ?_
    walk_nrm
    refine gt_val T (.bool true) rfl rfl hk (fun w₂ r₂ => ?_) ?_
    · refine ⟨run_of fun K hK => ?_, ?_⟩
      · go_simp; exact hK
      · rw [listed_nil (by simp [go_sem, *])]; exact T.idle _
    walk_nrm
    refine gt_val T (.bool true) rfl rfl hk (fun w₂ r₂ => ?_) ?_
    · refine ⟨run_of fun K hK => ?_, ?_⟩
      · go_simp; exact hK
      · rw [listed_nil (by simp [go_sem, *])]; exact T.idle _
    walk_nrm
    repeat (first
      | (with_reducible refine gt_seq T ?_)
      | (with_reducible refine gt_end T ?_)
      | ((with_reducible refine gt_reg T ?_); simp only [List.size_toArray, List.length_cons, List.length_nil, Nat.reduceAdd, Nat.zero_add, List.range, List.range.loop])
      | (with_reducible refine gt_skip T ?_)
      | ((with_reducible refine gt_cond T false ?_ ?_); (focus (exact rfl)); simp only [if_true, if_false, Bool.false_eq_true, ↓reduceIte, Bool.true_eq_false])
      | ((with_reducible refine gt_cond T true ?_ ?_); (focus (exact rfl)); simp only [if_true, if_false, Bool.false_eq_true, ↓reduceIte, Bool.true_eq_false]))
    refine gt_ret T ?_
    refine Goes.stop fun w₁ r₁ => ?_
    obtain ⟨d₁, rfl⟩ := r₁
    exact ok_done Try.func5 rfl (by kernel_rfl) (bt_final hS0 (S.atD d₁) B ⟨st.size, st.pend, st.map, st.back⟩ (fun b _ h => h)) rfl
  | true =>
    refine gt_val T (.bool false) rfl rfl hk (fun w₂ r₂ => ?_) ?_
    · refine ⟨run_of fun K hK => ?_, ?_⟩
      · go_simp; exact hK
      · rw [listed_nil (by simp [go_sem, *])]; exact T.idle _
    walk_nrm
    refine gt_val T (.bool false) rfl rfl hk (fun w₂ r₂ => ?_) ?_
    · refine ⟨run_of fun K hK => ?_, ?_⟩
      · go_simp; exact hK
      · rw [listed_nil (by simp [go_sem, *])]; exact T.idle _
    walk_nrm
    refine gt_val T (.bool false) rfl rfl hk (fun w₂ r₂ => ?_) ?_
    · refine ⟨run_of fun K hK => ?_, ?_⟩
      · go_simp; exact hK
      · rw [listed_nil (by simp [go_sem, *])]; exact T.idle _
    walk_nrm
    refine gt_val T (.slice la nl lc) rfl rfl hk (fun w₂ r₂ => ?_) ?_
    · refine ⟨run_of fun K hK => ?_, ?_⟩
      · go_simp; exact hK
      · rw [listed_nil (by simp [go_sem, *])]; exact T.idle _
    walk_nrm
    refine gt_val T (.int .i64 nl) rfl rfl hk (fun w₂ r₂ => ?_) ?_
    · refine ⟨run_of fun K hK => ?_, ?_⟩
      · go_simp; exact hK
      · rw [listed_nil (by simp [go_sem, *])]; exact T.idle _
    walk_nrm
    by_cases hz : nl = 0
    · have t3 : ((nl : Int) == 0) = true := by simp [hz]
      clear hz
      refine gt_val T (.bool true) rfl rfl hk (fun w₂ r₂ => ?_) ?_
      · refine ⟨run_of fun K hK => ?_, ?_⟩
        · go_simp; exact hK
        · rw [listed_nil (by simp [go_sem, *])]; exact T.idle _
      walk_nrm
      refine gt_val T (.bool true) rfl rfl hk (fun w₂ r₂ => ?_) ?_
      · refine ⟨run_of fun K hK => ?_, ?_⟩
        · go_simp; exact hK
        · rw [listed_nil (by simp [go_sem, *])]; exact T.idle _
      walk_nrm
      repeat (first
        | (with_reducible refine gt_seq T ?_)
        | (with_reducible refine gt_end T ?_)
        | ((with_reducible refine gt_reg T ?_); simp only [List.size_toArray, List.length_cons, List.length_nil, Nat.reduceAdd, Nat.zero_add, List.range, List.range.loop])
        | (with_reducible refine gt_skip T ?_)
        | ((with_reducible refine gt_cond T false ?_ ?_); (focus (exact rfl)); simp only [if_true, if_false, Bool.false_eq_true, ↓reduceIte, Bool.true_eq_false])
        | ((with_reducible refine gt_cond T true ?_ ?_); (focus (exact rfl)); simp only [if_true, if_false, Bool.false_eq_true, ↓reduceIte, Bool.true_eq_false]))
      refine gt_val T (.bool true) rfl rfl hk (fun w₂ r₂ => ?_) ?_
      · refine ⟨run_of fun K hK => ?_, ?_⟩
        · go_simp; exact hK
        · rw [listed_nil (by simp [go_sem, *])]; exact T.idle _
      walk_nrm
      refine gt_val T (.bool true) rfl rfl hk (fun w₂ r₂ => ?_) ?_
      · refine ⟨run_of fun K hK => ?_, ?_⟩
        · go_simp; exact hK
        · rw [listed_nil (by simp [go_sem, *])]; exact T.idle _
      walk_nrm
      refine gt_val T (.bool true) rfl rfl hk (fun w₂ r₂ => ?_) ?_
      · refine ⟨run_of fun K hK => ?_, ?_⟩
        · go_simp; exact hK
        · rw [listed_nil (by simp [go_sem, *])]; exact T.idle _
      walk_nrm
      refine gt_val T (.bool true) rfl rfl hk (fun w₂ r₂ => ?_) ?_
      · refine ⟨run_of fun K hK => ?_, ?_⟩
        · go_simp; exact hK
        · rw [listed_nil (by simp [go_sem, *])]; exact T.idle _
      walk_nrm
      refine gt_val T (.slice oa wl oc) rfl rfl hk (fun w₂ r₂ => ?_) ?_
      · refine ⟨run_of fun K hK => ?_, ?_⟩
        · go_simp; exact hK
        · rw [listed_nil (by simp [go_sem, *])]; exact T.idle _
      walk_nrm
      refine gt_val T (.slice wa wl wc) rfl rfl hk (fun w₂ r₂ => ?_) ?_
      · refine ⟨run_of fun K hK => ?_, ?_⟩
        · go_simp; exact hK
        · rw [listed_nil (by simp [go_sem, *])]; exact T.idle _
      walk_nrm
      refine Goes.stop fun w₁ r₁ => ?_
      obtain ⟨d₁, rfl⟩ := r₁
      refine ok_call (K := kitC) bodiesC (R := fun v w' => v = .bool true ∧ BT vc w') (fun v w τ d h => ⟨h.1, h.2.tape _ _⟩) rfl rfl hk rfl Try.func25 rfl rfl rfl (by kernel_rfl) (by simp [Act.eval]; rfl) S.noPend (S.atD d₁) (fun τ d => ?_) (fun v' vc Wc hR S' _ st' => ?_)
      · exact (by have h := sameChecks_any oa wa wl wl oc wc LL LL (onT vc τ d) (ho.bt (B0 _ _)) (hw'.bt (B0 _ _)) hwf hwf (by omega) (by omega); rw [show eqX LL LL = true by simp [eqX]] at h; exact h : Calls Try.prog _ _ _ (RetQ (onT vc τ d) (.bool true))).mono fun e w' h => ⟨_, h.1, rfl, by obtain ⟨m, hm⟩ := h.2; subst hm; exact ⟨rfl, rfl, Nat.le_refl _, fun _ _ => rfl⟩⟩
      obtain ⟨rfl, hb⟩ := hR
      replace S := S'
      replace st := st.trans st'.atD
      replace B := B.trans hb
      replace hx := hx.bt hb
      replace hi := hi.bt hb
      replace ho := ho.bt hb
      replace hw' := hw'.bt hb
      clear hb
      clear S' st'
      refine ok_goes (Stop := Ok Try.prog _ _ (PostL W)) (fun _ _ h => h) (n := 60) ?_
      walk_nrm
      refine gt_val T (.bool true) rfl rfl hk (fun w₂ r₂ => ?_) ?_
      · refine ⟨run_of fun K hK => ?_, ?_⟩
        · go_simp; exact hK
        · rw [listed_nil (by simp [go_sem, *])]; exact T.idle _
      walk_nrm
      refine gt_val T (.bool true) rfl rfl hk (fun w₂ r₂ => ?_) ?_
      · refine ⟨run_of fun K hK => ?_, ?_⟩
        · go_simp; exact hK
        · rw [listed_nil (by simp [go_sem, *])]; exact T.idle _
      walk_nrm
      repeat (first
        | (with_reducible refine gt_seq T ?_)
        | (with_reducible refine gt_end T ?_)
        | ((with_reducible refine gt_reg T ?_); simp only [List.size_toArray, List.length_cons, List.length_nil, Nat.reduceAdd, Nat.zero_add, List.range, List.range.loop])
        | (with_reducible refine gt_skip T ?_)
        | ((with_reducible refine gt_cond T false ?_ ?_); (focus (exact rfl)); simp only [if_true, if_false, Bool.false_eq_true, ↓reduceIte, Bool.true_eq_false])
        | ((with_reducible refine gt_cond T true ?_ ?_); (focus (exact rfl)); simp only [if_true, if_false, Bool.false_eq_true, ↓reduceIte, Bool.true_eq_false]))
      refine gt_ret T ?_
      refine Goes.stop fun w₁ r₁ => ?_
      obtain ⟨d₁, rfl⟩ := r₁
      exact ok_done Try.func5 rfl (by kernel_rfl) (bt_final hS0 (S.atD d₁) B ⟨st.size, st.pend, st.map, st.back⟩ (fun b _ h => h)) rfl
    have t3 : ((nl : Int) == 0) = false := by simp [hz]
    have hnz : 0 < nl := by omega
    have hnz2 : ¬ (nl : Int) = 0 := by omega
    refine gt_val T (.bool false) rfl rfl hk (fun w₂ r₂ => ?_) ?_
    · refine ⟨run_of fun K hK => ?_, ?_⟩
      · go_simp; exact hK
      · rw [listed_nil (by simp [go_sem, *])]; exact T.idle _
    walk_nrm
    refine gt_val T (.bool false) rfl rfl hk (fun w₂ r₂ => ?_) ?_
    · refine ⟨run_of fun K hK => ?_, ?_⟩
      · go_simp; exact hK
      · rw [listed_nil (by simp [go_sem, *])]; exact T.idle _
    walk_nrm
    repeat (first
      | (with_reducible refine gt_seq T ?_)
      | (with_reducible refine gt_end T ?_)
      | ((with_reducible refine gt_reg T ?_); simp only [List.size_toArray, List.length_cons, List.length_nil, Nat.reduceAdd, Nat.zero_add, List.range, List.range.loop])
      | (with_reducible refine gt_skip T ?_)
      | ((with_reducible refine gt_cond T false ?_ ?_); (focus (exact rfl)); simp only [if_true, if_false, Bool.false_eq_true, ↓reduceIte, Bool.true_eq_false])
      | ((with_reducible refine gt_cond T true ?_ ?_); (focus (exact rfl)); simp only [if_true, if_false, Bool.false_eq_true, ↓reduceIte, Bool.true_eq_false]))
    obtain ⟨hv, hL⟩ : storeV (valsH xs) = true ∧ LL = sumsL (valsH xs) := by
      have hR := hR7.out
      unfold checksR at hR
      split at hR
      · rename_i h
        exact ⟨h, (congrArg Prod.fst hR).symm⟩
      · cases congrArg Prod.snd hR
    have hll : LL.length = xs.length := by rw [hL]; simp [sumsL, valsH]
    obtain rfl : wl = nl := by have := hwl.out; have := hnl.out; omega
    obtain ⟨k, hkd⟩ : ∃ k, n1 % wl = k := ⟨_, rfl⟩
    have hkl : k < wl := by rw [← hkd]; exact Nat.mod_lt _ hnz
    have hkx : k < xs.length := by rw [← hnl.out]; exact hkl
    have ht : (n1 : Int).tmod (wl : Int) = (k : Int) := by rw [← hkd, Int.tmod_eq_emod_of_nonneg (by omega)]; rfl
    have hwk : IntKind.i64.wrap (k : Int) = (k : Int) := IntWalk.i64_in _ (by omega)
    replace hv := Lib.hid hv
    replace hL := Lib.hid hL
    replace hll := Lib.hid hll
    clear hkd
    refine gt_val T (.slice a1 n1 c1) rfl rfl hk (fun w₂ r₂ => ?_) ?_
    · refine ⟨run_of fun K hK => ?_, ?_⟩
      · go_simp; exact hK
      · rw [listed_nil (by simp [go_sem, *])]; exact T.idle _
    walk_nrm
    refine gt_val T (.int .i64 n1) rfl rfl hk (fun w₂ r₂ => ?_) ?_
    · refine ⟨run_of fun K hK => ?_, ?_⟩
      · go_simp; exact hK
      · rw [listed_nil (by simp [go_sem, *])]; exact T.idle _
    walk_nrm
    refine gt_val T (.slice la wl lc) rfl rfl hk (fun w₂ r₂ => ?_) ?_
    · refine ⟨run_of fun K hK => ?_, ?_⟩
      · go_simp; exact hK
      · rw [listed_nil (by simp [go_sem, *])]; exact T.idle _
    walk_nrm
    refine gt_val T (.int .i64 wl) rfl rfl hk (fun w₂ r₂ => ?_) ?_
    · refine ⟨run_of fun K hK => ?_, ?_⟩
      · go_simp; exact hK
      · rw [listed_nil (by simp [go_sem, *])]; exact T.idle _
    walk_nrm
    refine gt_val T (.int .i64 k) rfl rfl hk (fun w₂ r₂ => ?_) ?_
    · refine ⟨run_of fun K hK => ?_, ?_⟩
      · go_simp; exact hK
      · rw [listed_nil (by simp [go_sem, *])]; exact T.idle _
    walk_nrm
    refine gt_val T (.int .i64 k) rfl rfl hk (fun w₂ r₂ => ?_) ?_
    · refine ⟨run_of fun K hK => ?_, ?_⟩
      · go_simp; exact hK
      · rw [listed_nil (by simp [go_sem, *])]; exact T.idle _
    walk_nrm
    have hxk : xs[k]? = some xs[k] := List.getElem?_eq_getElem hkx
    have hbv := (store_ids hv.out hxk).1.2.2
    obtain ⟨hall, hb1, hb8⟩ := blockV_parts hbv
    generalize hxx : xs[k] = x at hxk hbv hall hb1 hb8
    clear hxx
    obtain ⟨v8, hv8⟩ : ∃ v, v = vc := ⟨_, rfl⟩
    have hx8 : RdR eltH v8 la wl xs := by rw [hv8]; exact hx
    have hi8 : InH v8 xs := by rw [hv8]; exact hi
    have ho8 : RdX v8 oa wl LL := by rw [hv8]; exact ho
    have B8 : BT v8 vc := by rw [hv8]; exact ⟨rfl, rfl, Nat.le_refl _, fun _ _ => rfl⟩
    have hv8v : vv.heap.size ≤ v8.heap.size := by rw [hv8]; exact B.size
    have hz8 : v8.heap.size = vc.heap.size := by rw [hv8]
    clear hv8 hx hi ho hw'
    refine gt_end T ?_
    refine gt_seq T ?_
    refine Goes.stop fun w₁ r₁ => ?_
    obtain ⟨d₁, rfl⟩ := r₁
    refine ok_code (K := kitC) bodiesC (ret := false) (Q := Q5_9 la wl lc xs _ vc) (fun b T w τ d h => ⟨h.1, h.2.1.tape _ _, h.2.2⟩) (by kernel_rfl) ⟨_, Try.func5⟩ S.noPend (S.atD d₁) (fun τ d => wp_mono (copy5_wp (la := la) (nl := wl) (lc := lc) (xs := xs) (w0 := onT vc τ d) (hx8.bt (B8.tape _ _)) hnz (by omega)) fun e a w hq => qw_mono (fun b T w h => ⟨h.1, h.2.1.untape, h.2.2⟩) hq) (fun T' vc Wc hR S' _ hz' st' => ?_) (fun T' todo w0' w' hq _ _ _ _ => by cases hq.1)
    obtain ⟨_, hb, v9, xa, xc, hT, hX⟩ := hR
    replace S := S'
    replace st := st.trans st'.atD
    obtain ⟨g9, rfl, hg9, hg9l⟩ := hX.head (by have := hnl.out; omega)
    have hg9v : v8.heap.size ≤ g9 := by omega
    replace B := B.trans hb
    replace B8 := B8.trans hb
    clear hb hg9 hz8
    clear S' st'
    subst hT
    dsimp only
    refine ok_goes (Stop := Ok Try.prog _ _ (PostL W)) (fun _ _ h => h) (n := 60) ?_
    obtain ⟨m, hm⟩ : ∃ m, x.zs.length = m := ⟨_, rfl⟩
    have hm0 : 0 < m := by omega
    refine gt_seq T ?_
    refine Goes.stop fun w₁ r₁ => ?_
    obtain ⟨d₁, rfl⟩ := r₁
    refine ok_code (K := kitC) bodiesC (ret := false) (Q := Q5_10 x.zs _ vc) (fun b T w τ d h => ⟨h.1, h.2.1.tape _ _, h.2.2⟩) (by kernel_rfl) ⟨_, Try.func5⟩ S.noPend (S.atD d₁) (fun τ d => wp_mono (take5_wp (la := la) (nl := wl) (lc := lc) (k := k) (m := m) (xs := xs) (w0 := onT vc τ d) (hx8.bt (B8.tape _ _)) (fun x hx => (hi8.bt (B8.tape _ _)) x hx) hkl (by omega) hxk hm hm0 (by omega) (allB_wf hall)) fun e a w hq => qw_mono (fun b T w h => ⟨h.1, h.2.1.untape, h.2.2⟩) hq) (fun T' vc Wc hR S' _ hz' st' => ?_) (fun T' todo w0' w' hq _ _ _ _ => by cases hq.1)
    obtain ⟨_, hb, v0, v1, v2, v3, ba, bc, hT, hB⟩ := hR
    replace S := S'
    replace st := st.trans st'.atD
    obtain ⟨gb, rfl, hgb, hgbl⟩ := hB.head (by omega)
    have hgg : g9 < gb := by omega
    have hgbv : v8.heap.size ≤ gb := by omega
    replace B := B.trans hb
    replace B8 := B8.trans hb
    replace hX := hX.bt hb
    clear hb hgb hg9l
    clear S' st'
    subst hT
    dsimp only
    refine ok_goes (Stop := Ok Try.prog _ _ (PostL W)) (fun _ _ h => h) (n := 60) ?_
    obtain ⟨z, r, hzr⟩ := cons_of (zs := x.zs) (by omega)
    have hz255 : 0 ≤ z ∧ z ≤ 255 := by have h := hall; rw [hzr] at h; simp [allB, inB] at h; omega
    rw [hzr] at hB
    refine gt_seq T ?_
    refine Goes.stop fun w₁ r₁ => ?_
    obtain ⟨d₁, rfl⟩ := r₁
    refine ok_code (K := kitC) bodiesC (ret := false) (Q := Q5_11 gb (dent z :: r) _ bc _ vc) (fun b T w τ d h => ⟨h.1, h.2.1.onT _ _, h.2.2⟩) (by kernel_rfl) ⟨_, Try.func5⟩ S.noPend (S.atD d₁) (fun τ d => wp_mono (dent5_wp (m := m) (g := gb) (w0 := onT vc τ d) hB (by rw [← hzr]; exact hm) hz255.1 hz255.2) fun e a w hq => qw_mono (fun b T w h => ⟨h.1, h.2.1.untape, h.2.2⟩) hq) (fun T' vc Wc hR S' _ hz' st' => ?_) (fun T' todo w0' w' hq _ _ _ _ => by cases hq.1)
    obtain ⟨_, hg, u74, u75, u76, u77, u78, u79, u80, u81, u82, u83, u84, u85, hT, hD⟩ := hR
    replace S := S'
    replace st := st.trans st'.atD
    replace B := hg.bt B (fun k hk => by injection hk with hk; omega)
    replace B8 := hg.bt B8 (fun k hk => by injection hk with hk; omega)
    replace hX := hg.ownR hX (fun q hq r hr e => by have h9 := ownBlock_some hq; injection hr with hr; omega)
    clear hg hB
    clear S' st'
    subst hT
    dsimp only
    refine ok_goes (Stop := Ok Try.prog _ _ (PostL W)) (fun _ _ h => h) (n := 60) ?_
    refine gt_seq T ?_
    refine Goes.stop fun w₁ r₁ => ?_
    obtain ⟨d₁, rfl⟩ := r₁
    refine ok_code (K := kitC) bodiesC (ret := false) (Q := Q5_14 g9 (xs.set k ⟨x.id, some ⟨gb, 0, none⟩, bc, dent z :: r, x.us⟩) _ xc _ vc) (fun b T w τ d h => ⟨h.1, h.2.1.onT _ _, h.2.2⟩) (by kernel_rfl) ⟨_, Try.func5⟩ S.noPend (S.atD d₁) (fun τ d => wp_mono (lay5_wp (m := m) (g := g9) (w0 := onT vc τ d) hX hnl.out.symm hkl hxk (by rw [← hm, hzr]; rfl) hm) fun e a w hq => qw_mono (fun b T w h => ⟨h.1, h.2.1.untape, h.2.2⟩) hq) (fun T' vc Wc hR S' _ hz' st' => ?_) (fun T' todo w0' w' hq _ _ _ _ => by cases hq.1)
    obtain ⟨_, hg, u86, u87, u88, u89, u90, hT, hY⟩ := hR
    replace S := S'
    replace st := st.trans st'.atD
    replace B := hg.bt B (fun k hk => by injection hk with hk; omega)
    replace B8 := hg.bt B8 (fun k hk => by injection hk with hk; omega)
    replace hD := hg.ownI hD (fun q hq r hr e => by have h9 := ownBlock_some hq; injection hr with hr; omega)
    clear hg hX
    clear S' st'
    subst hT
    dsimp only
    refine ok_goes (Stop := Ok Try.prog _ _ (PostL W)) (fun _ _ h => h) (n := 60) ?_
    refine Goes.stop fun w₁ r₁ => ?_
    obtain ⟨d₁, rfl⟩ := r₁
    obtain ⟨ys, hys⟩ : ∃ ys, xs.set k ⟨x.id, some ⟨gb, 0, none⟩, bc, dent z :: r, x.us⟩ = ys := ⟨_, rfl⟩
    rw [hys] at hY
    have hyl : ys.length = wl := by rw [← hys, List.length_set]; exact hnl.out.symm
    have hyc := hY.cap
    rw [hyl] at hyc
    unfold maxLen at hyc
    obtain ⟨lb, lo, x2, rfl, hlb, hx2, c0, _, _⟩ := atH (hx8.bt B8) hkl
    rw [hxk] at hx2
    injection hx2 with hx2
    subst hx2
    have hid := (store_ids hv.out hxk).1
    refine reg15_ok (lb := lb) (lo := lo) (id := x.id) (sv := storeV (valsH ys)) (v5 := vc) (vv := vv) (W := W) (ys := ys) (LL := LL) hS0 ⟨S.atD d₁, ⟨rfl, rfl, Nat.le_refl _, fun _ _ => rfl⟩, B, ⟨st.size, st.pend, st.map, st.back⟩, fun b h => h.elim, fun b _ h => h, by omega, by omega⟩ (by have h := hY.rd; rw [hyl] at h; exact h) (fun y hy => ?_) (fun y hy => ?_) hyc (by omega) (ho8.bt B8) hwf rfl hkl c0 (by omega) rfl (fun hsv => ?_)
    · rw [← hys] at hy
      rcases List.mem_or_eq_of_mem_set hy with h | rfl
      · exact (hi8.bt B8) y h
      · exact hD.rd
    · rw [← hys] at hy
      rcases List.mem_or_eq_of_mem_set hy with h | rfl
      · exact hx8b.out y h
      · show (dent z :: r).length ≤ 8; have : (z :: r).length = m := by rw [← hzr]; exact hm
        simp at this ⊢; omega
    · rw [hL.out]
      exact badR_damage hv.out hxk hys.symm hsv (by rw [hzr]; exact sumL_ne r (by unfold dent; split <;> omega))

theorem enter5 (v u : Value) : Frame.enter Try.prog 5 #[v, u] .normal = (base 5).at ⟨#[v, u, undef, undef, undef, undef, undef, undef, undef, undef, undef, undef, undef, undef, undef, undef, undef, undef, undef, undef, undef, undef, undef, undef, undef, undef, undef, undef, undef, undef, undef, undef, undef, undef, undef, undef, undef, undef, undef, undef, undef, undef, undef, undef, undef, undef, undef, undef, undef, undef, undef, undef, undef, undef, undef, undef, undef, undef, undef, undef, undef, undef, undef, undef, undef, undef, undef, undef, undef, undef, undef, undef, undef, undef, undef, undef, undef, undef, undef, undef, undef, undef, undef, undef, undef, undef, undef, undef, undef, undef, undef, undef, undef, undef, undef, undef, undef, undef, undef, undef, undef, undef, undef, undef, undef, undef], []⟩ [.code body5] := by
  simp [Frame.enter, Try.func5, Try.f5, body5, base, Frame.at, Array.replicate_succ]

theorem fnChecksDamage_ends {a a1 : Option Addr} {n c n1 c1 : Nat} {W : World} (hr : RdC W a n) (hc : n ≤ c) (hr1 : RdC W a1 n1) (hc1 : n1 ≤ c1) : Ends Try.prog (PostL W) (solo (G (Frame.enter Try.prog 5 #[.slice a n c, .slice a1 n1 c1] .normal) []) W) #[] := by
  rw [solo_eq_crowd, enter5]
  exact fnChecksDamage_ok hr hc #[_] none #[] (fun _ => 0) rfl rfl (leavers_one _ _) (trc_nil _)

end Go.Proofs.Ytajheicheefpeaa
