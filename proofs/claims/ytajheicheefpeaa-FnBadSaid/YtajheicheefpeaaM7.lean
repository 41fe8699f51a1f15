import Derived.Test.YtajheicheefpeaaM5
/- The starter goes through Wait. -/
namespace Go.Proofs.Ytajheicheefpeaa
open Go.Proofs
open Go.Conc Go.ConcN Go.RowKit Go.Conc.Lib Go.ConcR.Gen Go.ConcN.Gen
open Go.ConcR (KK wgBlock WgAt stA smA rd wr mk Payload Aside2 DC0)
set_option linter.unusedSimpArgs false
set_option linter.unusedVariables false
set_option linter.unusedSectionVars false
variable [Payload] {L : WgLink}

/-- THE ANCHOR: at the head of Wait's loop. -/
def AnchW (L : WgLink) (F : Act → Bks → Bks → World → Prop) (Wg : Nat) (b₀ : Frame) (l₀ : List Item) (cs : List Frame) (A O : Bks) (g : Goroutine) (w : World) : Prop :=
  ∃ (a : Act) (T : Array Value), g = G ((base L.wait).at ⟨T, []⟩ [.code (L7 L), .inLoop (L7 L), .inBlock 0]) (b₀.at a l₀ :: cs) ∧ T.size = 84 ∧ T[0]? = some (.pointer (some ⟨Wg, 0, none⟩)) ∧ F a A O w ∧ WgLive L.tWg Wg w

/-- Behind Wait. -/
def RetW (L : WgLink) (F : Act → Bks → Bks → World → Prop) (Wg : Nat) (b₀ : Frame) (d : Option Tmp) (l₀ : List Item) (cs : List Frame) (A O : Bks) (g : Goroutine) (w : World) : Prop :=
  ∃ a : Act, g = G (b₀.at (a.put d (.tuple #[])) l₀) cs ∧ F a A O w ∧ WgLive L.tWg Wg w

section
variable {Wg : Nat} {A O : Bks} {F : Act → Bks → Bks → World → Prop}
  {b₀ : Frame} {ops₀ : Array Oper} {i₀ : Nat} {rest₀ : List Nat} {k₀ : List Item} {cs : List Frame}

theorem anchW_running : ∀ A O g w, (AnchW L F Wg b₀ (.inRegion ops₀ (i₀ :: rest₀) :: k₀) cs) A O g w → g.status = .running := fun A O g w ⟨_, _, h, _⟩ => by rw [h]; rfl

set_option maxRecDepth 100000 in
set_option maxHeartbeats 4000000 in
/-- FROM Wait's ENTRY TO THE LOOP's HEAD. -/
theorem waitStart {P : Program} (H : WgLib P L) {a : Act} (hF2 : ∀ w w', RS L.tWg Wg A w w' → F a A O w → F a A O w') (w : World) (hF : F a A O w ∧ WgLive L.tWg Wg w) :
    Goes P true (RS L.tWg Wg A) DC0 (AtKd P L.tWg Wg (AnchW L F Wg b₀ (.inRegion ops₀ (i₀ :: rest₀) :: k₀) cs) A O) 3
      (G ((base L.wait).at ⟨#[.pointer (some ⟨Wg, 0, none⟩), undef, undef, undef, undef, undef, undef, undef, undef, undef, undef, undef, undef, undef, undef, undef, undef, undef, undef, undef, undef, undef, undef, undef, undef, undef, undef, undef, undef, undef, undef, undef, undef, undef, undef, undef, undef, undef, undef, undef, undef, undef, undef, undef, undef, undef, undef, undef, undef, undef, undef, undef, undef, undef, undef, undef, undef, undef, undef, undef, undef, undef, undef, undef, undef, undef, undef, undef, undef, undef, undef, undef, undef, undef, undef, undef, undef, undef, undef, undef, undef, undef, undef, undef], []⟩ [.code (body_wait L)]) (b₀.at a (.inRegion ops₀ (i₀ :: rest₀) :: k₀) :: cs)) w := by
  lib_facts
  simp only [body_wait, waitFn, Option.getD_some]
  repeat (first
    | (with_reducible refine g_seq ?_)
    | (with_reducible refine g_end ?_)
    | ((with_reducible refine g_reg ?_); simp only [List.size_toArray, List.length_cons, List.length_nil, Nat.reduceAdd, Nat.zero_add, List.range, List.range.loop])
    | (with_reducible refine g_skip ?_)
    | (with_reducible refine g_ret ?_)
    | (with_reducible refine g_block ?_)
    | (with_reducible refine g_loop ?_)
    | (with_reducible refine g_inBlock ?_)
    | (with_reducible refine g_inLoop ?_)
    | ((with_reducible refine g_cond (t := false) ?_ ?_); (focus (exact rfl)); simp only [if_true, if_false, Bool.false_eq_true, ↓reduceIte, Bool.true_eq_false])
    | ((with_reducible refine g_cond (t := true) ?_ ?_); (focus (exact rfl)); simp only [if_true, if_false, Bool.false_eq_true, ↓reduceIte, Bool.true_eq_false])
    | (u_skip (fk_rely hF2) hF)
    | (u_op (fk_rely hF2) hF))
  refine Goes.stop (fun w₁ h₁ => ?_)
  replace hF := fk_rely hF2 hF h₁
  clear h₁
  refine ⟨rfl, _, stepG_mark0 .disable (by simp) rfl rfl (by k_ne) rfl H.f_disable (x_disable_n L) (x_disable_b L) (x_disable_x L) (x_disable_f L), 3, goes_dq0 ?_⟩
  walk_nrm
  u_c stepG_region_end (fk_rely hF2) hF
  u_c stepG_block (fk_rely hF2) hF
  u_c stepG_loop (fk_rely hF2) hF
  exact Goes.stop (fun w₂ h₂ => ⟨a, _, rfl, by simp, by simp, fk_rely hF2 hF h₂⟩)

set_option maxRecDepth 100000 in
set_option maxHeartbeats 16000000 in
/-- FROM THE LOOP's HEAD. -/
theorem waitRound {P : Program} (H : WgLib P L) (hF2 : ∀ a w w', RS L.tWg Wg A w w' → F a A O w → F a A O w') (hF3 : ∀ a w x v, x.block = Wg → F a A O w → F a A O (w.setCell x v))
    (g : Goroutine) (w : World) (h : (AnchW L F Wg b₀ (.inRegion ops₀ (i₀ :: rest₀) :: k₀) cs) A O g w) : ∃ m, Goes P true (RS L.tWg Wg A) (DQ Wg) (AtW1 P L.tWg Wg (RetW L F Wg b₀ ((ops₀[i₀]?).bind (·.dst)) (.inRegion ops₀ rest₀ :: k₀) cs) (AnchW L F Wg b₀ (.inRegion ops₀ (i₀ :: rest₀) :: k₀) cs) A O) m g w := by
  lib_facts
  obtain ⟨a, T, rfl, hT84, t0, hF⟩ := h
  replace hF2 := hF2 a
  replace hF3 := hF3 a
  obtain ⟨v0, v1, v2, v3, v4, v5, v6, v7, v8, v9, v10, v11, v12, v13, v14, v15, v16, v17, v18, v19, v20, v21, v22, v23, v24, v25, v26, v27, v28, v29, v30, v31, v32, v33, v34, v35, v36, v37, v38, v39, v40, v41, v42, v43, v44, v45, v46, v47, v48, v49, v50, v51, v52, v53, v54, v55, v56, v57, v58, v59, v60, v61, v62, v63, v64, v65, v66, v67, v68, v69, v70, v71, v72, v73, v74, v75, v76, v77, v78, v79, v80, v81, v82, v83, rfl⟩ := array84 T hT84
  simp only [List.getElem?_toArray, List.getElem?_cons_zero, Option.some.injEq] at t0
  subst t0
  refine ⟨40, goes_dq0 ?_⟩
  simp only [L7, body_wait, waitFn, Option.getD_some]
  repeat (first
    | (with_reducible refine g_seq ?_)
    | (with_reducible refine g_end ?_)
    | ((with_reducible refine g_reg ?_); simp only [List.size_toArray, List.length_cons, List.length_nil, Nat.reduceAdd, Nat.zero_add, List.range, List.range.loop])
    | (with_reducible refine g_skip ?_)
    | (with_reducible refine g_ret ?_)
    | (with_reducible refine g_block ?_)
    | (with_reducible refine g_loop ?_)
    | (with_reducible refine g_inBlock ?_)
    | (with_reducible refine g_inLoop ?_)
    | ((with_reducible refine g_cond (t := false) ?_ ?_); (focus (exact rfl)); simp only [if_true, if_false, Bool.false_eq_true, ↓reduceIte, Bool.true_eq_false])
    | ((with_reducible refine g_cond (t := true) ?_ ?_); (focus (exact rfl)); simp only [if_true, if_false, Bool.false_eq_true, ↓reduceIte, Bool.true_eq_false])
    | (u_call H.f_uLoad (nm_uLoad L) uLoadFn (fk_rely hF2) hF)
    | (u_skip (fk_rely hF2) hF)
    | (u_op (fk_rely hF2) hF))
  refine Goes.stop (fun w₁ h₁ => ?_)
  replace hF := fk_rely hF2 hF h₁
  clear h₁
  refine ⟨rfl, fun v hv hw => ?_⟩
  rcases Nat.eq_zero_or_pos v with rfl | hvp
  · -- THE LOAD READS 0: THE JOIN IS SEEN
    replace hw : WgAt L.tWg Wg w₁ 0 0 := by simpa using hw
    refine ⟨_, stepG_load_atomic (v := 0) rfl rfl (by k_ne) rfl H.f_loadU64 (x_loadU64_n L) (x_loadU64_b L) (x_loadU64_x L) .u64 (x_loadU64_f L) rfl hw.cellSt, fun _ => ⟨80, goes_dq0 ?_⟩, fun h => absurd rfl h⟩
    clear hw
    walk_nrm
    repeat (first
      | (with_reducible refine g_seq ?_)
      | (with_reducible refine g_end ?_)
      | ((with_reducible refine g_reg ?_); simp only [List.size_toArray, List.length_cons, List.length_nil, Nat.reduceAdd, Nat.zero_add, List.range, List.range.loop])
      | (with_reducible refine g_skip ?_)
      | (with_reducible refine g_ret ?_)
      | (with_reducible refine g_block ?_)
      | (with_reducible refine g_loop ?_)
      | (with_reducible refine g_inBlock ?_)
      | (with_reducible refine g_inLoop ?_)
      | ((with_reducible refine g_cond (t := false) ?_ ?_); (focus (exact rfl)); simp only [if_true, if_false, Bool.false_eq_true, ↓reduceIte, Bool.true_eq_false])
      | ((with_reducible refine g_cond (t := true) ?_ ?_); (focus (exact rfl)); simp only [if_true, if_false, Bool.false_eq_true, ↓reduceIte, Bool.true_eq_false])
      | (u_skip (fk_rely hF2) hF)
      | (u_op (fk_rely hF2) hF))
    u_leave1 H.f_uLoad (fk_rely hF2) hF
    repeat (first
      | (with_reducible refine g_seq ?_)
      | (with_reducible refine g_end ?_)
      | ((with_reducible refine g_reg ?_); simp only [List.size_toArray, List.length_cons, List.length_nil, Nat.reduceAdd, Nat.zero_add, List.range, List.range.loop])
      | (with_reducible refine g_skip ?_)
      | (with_reducible refine g_ret ?_)
      | (with_reducible refine g_block ?_)
      | (with_reducible refine g_loop ?_)
      | (with_reducible refine g_inBlock ?_)
      | (with_reducible refine g_inLoop ?_)
      | ((with_reducible refine g_cond (t := false) ?_ ?_); (focus (exact rfl)); simp only [if_true, if_false, Bool.false_eq_true, ↓reduceIte, Bool.true_eq_false])
      | ((with_reducible refine g_cond (t := true) ?_ ?_); (focus (exact rfl)); simp only [if_true, if_false, Bool.false_eq_true, ↓reduceIte, Bool.true_eq_false])
      | (u_skip (fk_rely hF2) hF)
      | (u_op (fk_rely hF2) hF))
    refine Goes.stop (fun w₅ h₅ => ?_)
    replace hF := fk_rely hF2 hF h₅
    clear h₅
    refine ⟨rfl, _, stepG_mark0 .enable (by simp) rfl rfl (by k_ne) rfl H.f_enable (x_enable_n L) (x_enable_b L) (x_enable_x L) (x_enable_f L), 40, goes_dq0 ?_⟩
    walk_nrm
    repeat (first
      | (with_reducible refine g_seq ?_)
      | (with_reducible refine g_end ?_)
      | ((with_reducible refine g_reg ?_); simp only [List.size_toArray, List.length_cons, List.length_nil, Nat.reduceAdd, Nat.zero_add, List.range, List.range.loop])
      | (with_reducible refine g_skip ?_)
      | (with_reducible refine g_ret ?_)
      | (with_reducible refine g_block ?_)
      | (with_reducible refine g_loop ?_)
      | (with_reducible refine g_inBlock ?_)
      | (with_reducible refine g_inLoop ?_)
      | ((with_reducible refine g_cond (t := false) ?_ ?_); (focus (exact rfl)); simp only [if_true, if_false, Bool.false_eq_true, ↓reduceIte, Bool.true_eq_false])
      | ((with_reducible refine g_cond (t := true) ?_ ?_); (focus (exact rfl)); simp only [if_true, if_false, Bool.false_eq_true, ↓reduceIte, Bool.true_eq_false])
      | (u_skip (fk_rely hF2) hF)
      | (u_op (fk_rely hF2) hF))
    u_conv H.underlying_tWgP H.room_tWg (WgLive.cell0 hF.2).choose_spec (fk_rely hF2) hF
    refine Goes.stop (fun w₆ h₆ => ?_)
    replace hF := fk_rely hF2 hF h₆
    clear h₆
    refine ⟨rfl, _, stepG_markAt .acquire (by simp) rfl rfl (by k_ne) rfl H.f_acquire (x_acquire_n L) (x_acquire_b L) (x_acquire_x L) (x_acquire_f L) (by simp [Act.eval, stA]), 40, goes_dq0 ?_⟩
    walk_nrm
    repeat (first
      | (with_reducible refine g_seq ?_)
      | (with_reducible refine g_end ?_)
      | ((with_reducible refine g_reg ?_); simp only [List.size_toArray, List.length_cons, List.length_nil, Nat.reduceAdd, Nat.zero_add, List.range, List.range.loop])
      | (with_reducible refine g_skip ?_)
      | (with_reducible refine g_ret ?_)
      | (with_reducible refine g_block ?_)
      | (with_reducible refine g_loop ?_)
      | (with_reducible refine g_inBlock ?_)
      | (with_reducible refine g_inLoop ?_)
      | ((with_reducible refine g_cond (t := false) ?_ ?_); (focus (exact rfl)); simp only [if_true, if_false, Bool.false_eq_true, ↓reduceIte, Bool.true_eq_false])
      | ((with_reducible refine g_cond (t := true) ?_ ?_); (focus (exact rfl)); simp only [if_true, if_false, Bool.false_eq_true, ↓reduceIte, Bool.true_eq_false])
      | (u_skip (fk_rely hF2) hF)
      | (u_op (fk_rely hF2) hF))
    u_in (fk_rely hF2) hF
    refine goes_leave0 (b := base L.wait) rfl rfl H.f_wait rfl ?_
    refine ⟨by u_nil, ?_⟩
    refine Goes.stop (fun w₇ h₇ => ?_)
    replace hF := fk_rely hF2 hF h₇
    exact ⟨rfl, a, rfl, hF⟩
  · -- THE LOAD READS v * 2^32, v > 0
    obtain ⟨S, hS⟩ : ∃ S : Int, (v : Int) * KK = S := ⟨_, rfl⟩
    have a1 : S / 4294967296 = (v : Int) := by rw [← hS]; simp only [KK]; omega
    have b1 : bits .and .u64 S 2147483648 = 0 := by rw [← hS]; have := st_flag v 0 (by omega) (by omega); simpa [KK] using this
    have b2 : bits .and .u64 S 2147483647 = 0 := by rw [← hS]; have := st_waiters v 0 (by omega) (by omega); simpa [KK] using this
    have c1 : IntKind.i32.wrap (v : Int) = (v : Int) := by rw [IntKind.wrap_i32]; omega
    have w1 : IntKind.u64.wrap (S + 1) = S + 1 := by rw [IntKind.wrap_u64, ← hS]; simp only [KK]; omega
    have q3 : decide ((v : Int) < 0) = false := decide_eq_false (by omega)
    have q4 : decide (0 < (v : Int)) = true := decide_eq_true (by omega)
    have q5 : ((v : Int) == 0) = false := by simp; omega
    have q6 : decide ((v : Int) = 0) = false := decide_eq_false (by omega)
    rw [hS] at hw
    refine ⟨_, stepG_load_atomic (v := S) rfl rfl (by k_ne) rfl H.f_loadU64 (x_loadU64_n L) (x_loadU64_b L) (x_loadU64_x L) .u64 (x_loadU64_f L) rfl hw.cellSt, fun h0 => absurd h0 (by omega), fun _ => ⟨90, goes_dq0 ?_⟩⟩
    clear hw
    walk_nrm
    repeat (first
      | (with_reducible refine g_seq ?_)
      | (with_reducible refine g_end ?_)
      | ((with_reducible refine g_reg ?_); simp only [List.size_toArray, List.length_cons, List.length_nil, Nat.reduceAdd, Nat.zero_add, List.range, List.range.loop])
      | (with_reducible refine g_skip ?_)
      | (with_reducible refine g_ret ?_)
      | (with_reducible refine g_block ?_)
      | (with_reducible refine g_loop ?_)
      | (with_reducible refine g_inBlock ?_)
      | (with_reducible refine g_inLoop ?_)
      | ((with_reducible refine g_cond (t := false) ?_ ?_); (focus (exact rfl)); simp only [if_true, if_false, Bool.false_eq_true, ↓reduceIte, Bool.true_eq_false])
      | ((with_reducible refine g_cond (t := true) ?_ ?_); (focus (exact rfl)); simp only [if_true, if_false, Bool.false_eq_true, ↓reduceIte, Bool.true_eq_false])
      | (u_skip (fk_rely hF2) hF)
      | (u_op (fk_rely hF2) hF))
    u_leave1 H.f_uLoad (fk_rely hF2) hF
    repeat (first
      | (with_reducible refine g_seq ?_)
      | (with_reducible refine g_end ?_)
      | ((with_reducible refine g_reg ?_); simp only [List.size_toArray, List.length_cons, List.length_nil, Nat.reduceAdd, Nat.zero_add, List.range, List.range.loop])
      | (with_reducible refine g_skip ?_)
      | (with_reducible refine g_ret ?_)
      | (with_reducible refine g_block ?_)
      | (with_reducible refine g_loop ?_)
      | (with_reducible refine g_inBlock ?_)
      | (with_reducible refine g_inLoop ?_)
      | ((with_reducible refine g_cond (t := false) ?_ ?_); (focus (exact rfl)); simp only [if_true, if_false, Bool.false_eq_true, ↓reduceIte, Bool.true_eq_false])
      | ((with_reducible refine g_cond (t := true) ?_ ?_); (focus (exact rfl)); simp only [if_true, if_false, Bool.false_eq_true, ↓reduceIte, Bool.true_eq_false])
      | (u_call H.f_uCas (nm_uCas L) uCasFn (fk_rely hF2) hF)
      | (u_skip (fk_rely hF2) hF)
      | (u_op (fk_rely hF2) hF))
    refine Goes.stop (fun w₂ h₂ => ?_)
    replace hF := fk_rely hF2 hF h₂
    clear h₂
    refine ⟨rfl, fun v' hv' hw => ⟨fun e => ?_, fun e => ?_⟩⟩
    · -- THE CompareAndSwap HITS: REGISTERED
      subst e
      rw [hS] at hw ⊢
      refine ⟨_, (stepG_cas_hit (v := S) (n := S + 1) rfl rfl (by k_ne) rfl H.f_casU64 (x_casU64_n L) (x_casU64_b L) (x_casU64_x L) .u64 (x_casU64_f L) rfl rfl rfl hw.cellSt (hw.thaw 0)).trans (by rfl), 60 + 60, goes_dq ?_⟩
      replace hF : F a A O (w₂.setCell (stA Wg) (.int .u64 (S + 1))) ∧ WgLive L.tWg Wg (w₂.setCell (stA Wg) (.int .u64 (S + 1))) := ⟨hF3 _ _ _ rfl hF.1, ⟨_, _, hw.setSt _⟩⟩
      clear hw
      walk_nrm
      repeat (first
        | (with_reducible refine g_seq ?_)
        | (with_reducible refine g_end ?_)
        | ((with_reducible refine g_reg ?_); simp only [List.size_toArray, List.length_cons, List.length_nil, Nat.reduceAdd, Nat.zero_add, List.range, List.range.loop])
        | (with_reducible refine g_skip ?_)
        | (with_reducible refine g_ret ?_)
        | (with_reducible refine g_block ?_)
        | (with_reducible refine g_loop ?_)
        | (with_reducible refine g_inBlock ?_)
        | (with_reducible refine g_inLoop ?_)
        | ((with_reducible refine g_cond (t := false) ?_ ?_); (focus (exact rfl)); simp only [if_true, if_false, Bool.false_eq_true, ↓reduceIte, Bool.true_eq_false])
        | ((with_reducible refine g_cond (t := true) ?_ ?_); (focus (exact rfl)); simp only [if_true, if_false, Bool.false_eq_true, ↓reduceIte, Bool.true_eq_false])
        | (u_skip (fk_rely hF2) hF)
        | (u_op (fk_rely hF2) hF))
      u_leave1 H.f_uCas (fk_rely hF2) hF
      repeat (first
        | (with_reducible refine g_seq ?_)
        | (with_reducible refine g_end ?_)
        | ((with_reducible refine g_reg ?_); simp only [List.size_toArray, List.length_cons, List.length_nil, Nat.reduceAdd, Nat.zero_add, List.range, List.range.loop])
        | (with_reducible refine g_skip ?_)
        | (with_reducible refine g_ret ?_)
        | (with_reducible refine g_block ?_)
        | (with_reducible refine g_loop ?_)
        | (with_reducible refine g_inBlock ?_)
        | (with_reducible refine g_inLoop ?_)
        | ((with_reducible refine g_cond (t := false) ?_ ?_); (focus (exact rfl)); simp only [if_true, if_false, Bool.false_eq_true, ↓reduceIte, Bool.true_eq_false])
        | ((with_reducible refine g_cond (t := true) ?_ ?_); (focus (exact rfl)); simp only [if_true, if_false, Bool.false_eq_true, ↓reduceIte, Bool.true_eq_false])
        | (u_skip (fk_rely hF2) hF)
        | (u_op (fk_rely hF2) hF))
      u_conv H.underlying_tPU32 H.room_tU32 (WgLive.cell1 hF.2).choose_spec (fk_rely hF2) hF
      refine Goes.stop (fun w₃ h₃ => ?_)
      replace hF := fk_rely hF2 hF h₃
      clear h₃
      refine Goes.step rfl (fun w₄ h₄ => ?_)
      replace hF := fk_rely hF2 hF h₄
      clear h₄
      rw [stepG_markAt .write (by simp) rfl rfl (by k_ne) rfl H.f_raceWrite (x_raceWrite_n L) (x_raceWrite_b L) (x_raceWrite_x L) (x_raceWrite_f L) (ad := ⟨Wg, 1, none⟩) (by simp [Act.eval] <;> rfl)]
      simp only [goes_go]
      refine ⟨⟨rfl, fun e he => .inr (by simpa [smA] using he)⟩, goes_dq0 ?_⟩
      walk_nrm
      repeat (first
        | (with_reducible refine g_seq ?_)
        | (with_reducible refine g_end ?_)
        | ((with_reducible refine g_reg ?_); simp only [List.size_toArray, List.length_cons, List.length_nil, Nat.reduceAdd, Nat.zero_add, List.range, List.range.loop])
        | (with_reducible refine g_skip ?_)
        | (with_reducible refine g_ret ?_)
        | (with_reducible refine g_block ?_)
        | (with_reducible refine g_loop ?_)
        | (with_reducible refine g_inBlock ?_)
        | (with_reducible refine g_inLoop ?_)
        | ((with_reducible refine g_cond (t := false) ?_ ?_); (focus (exact rfl)); simp only [if_true, if_false, Bool.false_eq_true, ↓reduceIte, Bool.true_eq_false])
        | ((with_reducible refine g_cond (t := true) ?_ ?_); (focus (exact rfl)); simp only [if_true, if_false, Bool.false_eq_true, ↓reduceIte, Bool.true_eq_false])
        | (u_skip (fk_rely hF2) hF)
        | (u_op (fk_rely hF2) hF))
      refine Goes.stop (fun w₃ h₃ => ?_)
      replace hF := fk_rely hF2 hF h₃
      clear h₃
      refine ⟨rfl, rfl, fun ⟨st, hw⟩ => stepG_semacquire_wait rfl rfl rfl H.f_semacquire (x_semacquire_n L) (x_semacquire_b L) (x_semacquire_x L) (x_semacquire_f L) (by simp [Act.eval, smA]) hw.cellSm, fun hf => ?_⟩
      refine ⟨_, (stepG_semacquire (n := 1) rfl rfl (by k_ne) rfl H.f_semacquire (x_semacquire_n L) (x_semacquire_b L) (x_semacquire_x L) (x_semacquire_f L) (by simp [Act.eval, smA]) hf.cellSm (by k_ne) (hf.thaw 1)).trans (by rfl), 60, goes_dq0 ?_⟩
      replace hF : F a A O (w₃.setCell (smA Wg) (.int .u32 0)) ∧ WgLive L.tWg Wg (w₃.setCell (smA Wg) (.int .u32 0)) := ⟨hF3 _ _ _ rfl hF.1, ⟨_, _, hf.setSm 0⟩⟩
      clear hf
      walk_nrm
      repeat (first
        | (with_reducible refine g_seq ?_)
        | (with_reducible refine g_end ?_)
        | ((with_reducible refine g_reg ?_); simp only [List.size_toArray, List.length_cons, List.length_nil, Nat.reduceAdd, Nat.zero_add, List.range, List.range.loop])
        | (with_reducible refine g_skip ?_)
        | (with_reducible refine g_ret ?_)
        | (with_reducible refine g_block ?_)
        | (with_reducible refine g_loop ?_)
        | (with_reducible refine g_inBlock ?_)
        | (with_reducible refine g_inLoop ?_)
        | ((with_reducible refine g_cond (t := false) ?_ ?_); (focus (exact rfl)); simp only [if_true, if_false, Bool.false_eq_true, ↓reduceIte, Bool.true_eq_false])
        | ((with_reducible refine g_cond (t := true) ?_ ?_); (focus (exact rfl)); simp only [if_true, if_false, Bool.false_eq_true, ↓reduceIte, Bool.true_eq_false])
        | (u_call H.f_uLoad (nm_uLoad L) uLoadFn (fk_rely hF2) hF)
        | (u_skip (fk_rely hF2) hF)
        | (u_op (fk_rely hF2) hF))
      refine Goes.stop (fun w₄ h₄ => ?_)
      replace hF := fk_rely hF2 hF h₄
      clear h₄
      refine ⟨rfl, fun hw => ⟨_, stepG_load_atomic (v := 0) rfl rfl (by k_ne) rfl H.f_loadU64 (x_loadU64_n L) (x_loadU64_b L) (x_loadU64_x L) .u64 (x_loadU64_f L) rfl hw.cellSt, 60, goes_dq0 ?_⟩⟩
      clear hw
      walk_nrm
      repeat (first
        | (with_reducible refine g_seq ?_)
        | (with_reducible refine g_end ?_)
        | ((with_reducible refine g_reg ?_); simp only [List.size_toArray, List.length_cons, List.length_nil, Nat.reduceAdd, Nat.zero_add, List.range, List.range.loop])
        | (with_reducible refine g_skip ?_)
        | (with_reducible refine g_ret ?_)
        | (with_reducible refine g_block ?_)
        | (with_reducible refine g_loop ?_)
        | (with_reducible refine g_inBlock ?_)
        | (with_reducible refine g_inLoop ?_)
        | ((with_reducible refine g_cond (t := false) ?_ ?_); (focus (exact rfl)); simp only [if_true, if_false, Bool.false_eq_true, ↓reduceIte, Bool.true_eq_false])
        | ((with_reducible refine g_cond (t := true) ?_ ?_); (focus (exact rfl)); simp only [if_true, if_false, Bool.false_eq_true, ↓reduceIte, Bool.true_eq_false])
        | (u_skip (fk_rely hF2) hF)
        | (u_op (fk_rely hF2) hF))
      u_leave1 H.f_uLoad (fk_rely hF2) hF
      repeat (first
        | (with_reducible refine g_seq ?_)
        | (with_reducible refine g_end ?_)
        | ((with_reducible refine g_reg ?_); simp only [List.size_toArray, List.length_cons, List.length_nil, Nat.reduceAdd, Nat.zero_add, List.range, List.range.loop])
        | (with_reducible refine g_skip ?_)
        | (with_reducible refine g_ret ?_)
        | (with_reducible refine g_block ?_)
        | (with_reducible refine g_loop ?_)
        | (with_reducible refine g_inBlock ?_)
        | (with_reducible refine g_inLoop ?_)
        | ((with_reducible refine g_cond (t := false) ?_ ?_); (focus (exact rfl)); simp only [if_true, if_false, Bool.false_eq_true, ↓reduceIte, Bool.true_eq_false])
        | ((with_reducible refine g_cond (t := true) ?_ ?_); (focus (exact rfl)); simp only [if_true, if_false, Bool.false_eq_true, ↓reduceIte, Bool.true_eq_false])
        | (u_skip (fk_rely hF2) hF)
        | (u_op (fk_rely hF2) hF))
      refine Goes.stop (fun w₅ h₅ => ?_)
      replace hF := fk_rely hF2 hF h₅
      clear h₅
      refine ⟨rfl, _, stepG_mark0 .enable (by simp) rfl rfl (by k_ne) rfl H.f_enable (x_enable_n L) (x_enable_b L) (x_enable_x L) (x_enable_f L), 40, goes_dq0 ?_⟩
      walk_nrm
      repeat (first
        | (with_reducible refine g_seq ?_)
        | (with_reducible refine g_end ?_)
        | ((with_reducible refine g_reg ?_); simp only [List.size_toArray, List.length_cons, List.length_nil, Nat.reduceAdd, Nat.zero_add, List.range, List.range.loop])
        | (with_reducible refine g_skip ?_)
        | (with_reducible refine g_ret ?_)
        | (with_reducible refine g_block ?_)
        | (with_reducible refine g_loop ?_)
        | (with_reducible refine g_inBlock ?_)
        | (with_reducible refine g_inLoop ?_)
        | ((with_reducible refine g_cond (t := false) ?_ ?_); (focus (exact rfl)); simp only [if_true, if_false, Bool.false_eq_true, ↓reduceIte, Bool.true_eq_false])
        | ((with_reducible refine g_cond (t := true) ?_ ?_); (focus (exact rfl)); simp only [if_true, if_false, Bool.false_eq_true, ↓reduceIte, Bool.true_eq_false])
        | (u_skip (fk_rely hF2) hF)
        | (u_op (fk_rely hF2) hF))
      u_conv H.underlying_tWgP H.room_tWg (WgLive.cell0 hF.2).choose_spec (fk_rely hF2) hF
      refine Goes.stop (fun w₆ h₆ => ?_)
      replace hF := fk_rely hF2 hF h₆
      clear h₆
      refine ⟨rfl, _, stepG_markAt .acquire (by simp) rfl rfl (by k_ne) rfl H.f_acquire (x_acquire_n L) (x_acquire_b L) (x_acquire_x L) (x_acquire_f L) (by simp [Act.eval, stA]), 40, goes_dq0 ?_⟩
      walk_nrm
      repeat (first
        | (with_reducible refine g_seq ?_)
        | (with_reducible refine g_end ?_)
        | ((with_reducible refine g_reg ?_); simp only [List.size_toArray, List.length_cons, List.length_nil, Nat.reduceAdd, Nat.zero_add, List.range, List.range.loop])
        | (with_reducible refine g_skip ?_)
        | (with_reducible refine g_ret ?_)
        | (with_reducible refine g_block ?_)
        | (with_reducible refine g_loop ?_)
        | (with_reducible refine g_inBlock ?_)
        | (with_reducible refine g_inLoop ?_)
        | ((with_reducible refine g_cond (t := false) ?_ ?_); (focus (exact rfl)); simp only [if_true, if_false, Bool.false_eq_true, ↓reduceIte, Bool.true_eq_false])
        | ((with_reducible refine g_cond (t := true) ?_ ?_); (focus (exact rfl)); simp only [if_true, if_false, Bool.false_eq_true, ↓reduceIte, Bool.true_eq_false])
        | (u_skip (fk_rely hF2) hF)
        | (u_op (fk_rely hF2) hF))
      u_in (fk_rely hF2) hF
      refine goes_leave0 (b := base L.wait) rfl rfl H.f_wait rfl ?_
      refine ⟨by u_nil, ?_⟩
      refine Goes.stop (fun w₇ h₇ => ?_)
      replace hF := fk_rely hF2 hF h₇
      exact ⟨rfl, a, rfl, hF⟩
    · -- IT MISSES: BACK TO THE LOOP's HEAD
      refine ⟨_, stepG_cas_miss (v := (v' : Int) * KK) (old := S) (n := S + 1) rfl rfl (by k_ne) rfl H.f_casU64 (x_casU64_n L) (x_casU64_b L) (x_casU64_x L) .u64 (x_casU64_f L) rfl rfl rfl hw.cellSt (hw.thaw 0) (by rw [← hS]; simp only [KK]; omega), 14, goes_dq0 ?_⟩
      clear hw
      walk_nrm
      u_op (fk_rely hF2) hF
      u_c stepG_region_end (fk_rely hF2) hF
      u_c stepG_ret' (fk_rely hF2) hF
      u_leave1 H.f_uCas (fk_rely hF2) hF
      u_c stepG_region_end (fk_rely hF2) hF
      u_cond false (fk_rely hF2) hF
      u_c stepG_skip (fk_rely hF2) hF
      u_c stepG_inBlock (fk_rely hF2) hF
      u_c stepG_inLoop (fk_rely hF2) hF
      refine Goes.stop (fun w₃ h₃ => ?_)
      replace hF := fk_rely hF2 hF h₃
      exact ⟨a, _, rfl, by simp, by simp, hF⟩
end
end Go.Proofs.Ytajheicheefpeaa
