import Derived.Test.YtajheicheefpeaaM5
/- The starter goes through Add(1). -/
namespace Go.Proofs.Ytajheicheefpeaa
open Go.Proofs
open Go.Conc Go.ConcN Go.RowKit Go.Conc.Lib Go.ConcR.Gen Go.ConcN.Gen
open Go.ConcR (KK wgBlock WgAt stA smA rd wr mk Payload Aside2 DC0)
set_option linter.unusedSimpArgs false
set_option linter.unusedVariables false
set_option linter.unusedSectionVars false
variable [Payload] {L : WgLink}

section
variable {Wg C n i : Nat} {A O : Bks} {val : Nat → Value} {Next : Bks → Bks → Goroutine → World → Prop} {F : World → Prop}
  {b₀ : Frame} {a₀ : Act} {ops₀ : Array Oper} {i₀ : Nat} {rest₀ : List Nat} {k₀ : List Item} {cs : List Frame} {mT : Nat}

theorem priv_goes {P : Program} {main : Bool} {ty : TypeId} {Stop : Bks → Bks → Goroutine → World → Prop} {m n : Nat} {g : Goroutine} {w : World} (h : Goes P main (RS ty Wg A) DC0 (fun g w => Priv P main (RS ty Wg) GK Stop m A O g w) n g w) : Priv P main (RS ty Wg) GK Stop (m + n) A O g w :=
  Priv.of_goes (Dg := DC0) (fun w w' es h => by obtain ⟨rfl, rfl⟩ := h; exact GK.none (by simp)) (fun _ w => RS.refl w) (fun _ _ h => h) h

set_option maxRecDepth 100000 in
set_option maxHeartbeats 16000000 in
theorem addPos {P : Program} (H : WgLib P L) (hF2 : ∀ w w', RS L.tWg Wg A w w' → F w → F w') (hF3 : ∀ w v, F w → F (w.setCell (stA Wg) v))
    (hT : ∀ w, F w → WgLive L.tWg Wg w → Priv P true (RS L.tWg Wg) GK (AtGo P L.tWg Wg C n val i Next) mT A O (G (b₀.at (a₀.put ((ops₀[i₀]?).bind (·.dst)) (.tuple #[])) (.inRegion ops₀ rest₀ :: k₀)) cs) w)
    (w : World) (hF : F w ∧ WgLive L.tWg Wg w) :
    Goes P true (RS L.tWg Wg A) DC0 (AtKdS P L.tWg Wg C n val i Next A O) 12
      (G ((base L.add).at ⟨#[.pointer (some ⟨Wg, 0, none⟩), .int .i64 1, undef, undef, undef, undef, undef, undef, undef, undef, undef, undef, undef, undef, undef, undef, undef, undef, undef, undef, undef, undef, undef, undef, undef, undef, undef, undef, undef, undef, undef, undef, undef, undef, undef, undef, undef, undef, undef, undef, undef, undef, undef, undef, undef, undef, undef, undef, undef, undef, undef, undef, undef, undef, undef, undef, undef, undef, undef, undef, undef, undef, undef, undef, undef, undef, undef, undef, undef, undef, undef, undef, undef, undef, undef, undef, undef, undef, undef, undef, undef, undef, undef, undef, undef, undef, undef, undef, undef, undef, undef, undef, undef, undef, undef, undef, undef, undef, undef, undef, undef, undef, undef, undef, undef, undef, undef, undef, undef, undef, undef, undef, undef, undef, undef, undef, undef], []⟩ [.code (body_add L)]) (b₀.at a₀ (.inRegion ops₀ (i₀ :: rest₀) :: k₀) :: cs)) w := by
  lib_facts
  simp only [body_add, addFn, Option.getD_some]
  repeat (first
    | (with_reducible refine g_seq ?_)
    | (with_reducible refine g_end ?_)
    | ((with_reducible refine g_reg ?_); simp only [List.size_toArray, List.length_cons, List.length_nil, Nat.reduceAdd, Nat.zero_add, List.range, List.range.loop])
    | (with_reducible refine g_skip ?_)
    | (with_reducible refine g_ret ?_)
    | (with_reducible refine g_block ?_)
    | (with_reducible refine g_loop ?_)
    | (with_reducible refine g_inBlock ?_)
    | (with_reducible refine g_inLoop ?_)
    | ((with_reducible refine g_cond (t := false) ?_ ?_); (focus (exact rfl)); simp only [if_true, if_false, Bool.false_eq_true, ↓reduceIte, Bool.true_eq_false])
    | ((with_reducible refine g_cond (t := true) ?_ ?_); (focus (exact rfl)); simp only [if_true, if_false, Bool.false_eq_true, ↓reduceIte, Bool.true_eq_false])
    | (u_skip (fk_rely hF2) hF)
    | (u_op (fk_rely hF2) hF))
  refine Goes.stop (fun w₁ h₁ => ?_)
  replace hF := fk_rely hF2 hF h₁
  clear h₁
  refine ⟨rfl, _, stepG_mark0 .disable (by simp) rfl rfl (by k_ne) rfl H.f_disable (x_disable_n L) (x_disable_b L) (x_disable_x L) (x_disable_f L), 60, goes_dq0 ?_⟩
  walk_nrm
  repeat (first
    | (with_reducible refine g_seq ?_)
    | (with_reducible refine g_end ?_)
    | ((with_reducible refine g_reg ?_); simp only [List.size_toArray, List.length_cons, List.length_nil, Nat.reduceAdd, Nat.zero_add, List.range, List.range.loop])
    | (with_reducible refine g_skip ?_)
    | (with_reducible refine g_ret ?_)
    | (with_reducible refine g_block ?_)
    | (with_reducible refine g_loop ?_)
    | (with_reducible refine g_inBlock ?_)
    | (with_reducible refine g_inLoop ?_)
    | ((with_reducible refine g_cond (t := false) ?_ ?_); (focus (exact rfl)); simp only [if_true, if_false, Bool.false_eq_true, ↓reduceIte, Bool.true_eq_false])
    | ((with_reducible refine g_cond (t := true) ?_ ?_); (focus (exact rfl)); simp only [if_true, if_false, Bool.false_eq_true, ↓reduceIte, Bool.true_eq_false])
    | (u_defer (fk_rely hF2) hF)
    | (u_bub (fk_rely hF2) hF)
    | (u_call H.f_uAdd (nm_uAdd L) uAddFn (fk_rely hF2) hF)
    | (u_skip (fk_rely hF2) hF)
    | (u_op (fk_rely hF2) hF))
  refine Goes.stop (fun w₂ h₂ => ?_)
  replace hF := fk_rely hF2 hF h₂
  clear h₂
  refine ⟨rfl, fun v hv hw => ?_⟩
  rcases Nat.eq_zero_or_pos v with rfl | hvp
  · -- THE COUNT IS NOW 1
    replace hw : WgAt L.tWg Wg w₂ 0 0 := by simpa using hw
    have z : (((0 : Nat) : Int) + 1) * KK = KK := by simp
    rw [z]
    have e0 : IntKind.u64.wrap (0 + 4294967296) = KK := by decide
    refine ⟨_, (stepG_add_atomic rfl rfl (by k_ne) rfl H.f_addU64 (x_addU64_n L) (x_addU64_b L) (x_addU64_x L) .u64 (x_addU64_f L) rfl rfl hw.cellSt (hw.thaw 0)).trans (by rw [e0]; rfl), 100 + 100, goes_dq ?_⟩
    replace hF : F (w₂.setCell (stA Wg) (.int .u64 KK)) ∧ WgLive L.tWg Wg (w₂.setCell (stA Wg) (.int .u64 KK)) := ⟨hF3 _ _ hF.1, ⟨_, _, hw.setSt _⟩⟩
    clear hw
    simp only [KK] at hF ⊢
    walk_nrm
    repeat (first
      | (with_reducible refine g_seq ?_)
      | (with_reducible refine g_end ?_)
      | ((with_reducible refine g_reg ?_); simp only [List.size_toArray, List.length_cons, List.length_nil, Nat.reduceAdd, Nat.zero_add, List.range, List.range.loop])
      | (with_reducible refine g_skip ?_)
      | (with_reducible refine g_ret ?_)
      | (with_reducible refine g_block ?_)
      | (with_reducible refine g_loop ?_)
      | (with_reducible refine g_inBlock ?_)
      | (with_reducible refine g_inLoop ?_)
      | ((with_reducible refine g_cond (t := false) ?_ ?_); (focus (exact rfl)); simp only [if_true, if_false, Bool.false_eq_true, ↓reduceIte, Bool.true_eq_false])
      | ((with_reducible refine g_cond (t := true) ?_ ?_); (focus (exact rfl)); simp only [if_true, if_false, Bool.false_eq_true, ↓reduceIte, Bool.true_eq_false])
      | (u_skip (fk_rely hF2) hF)
      | (u_op (fk_rely hF2) hF))
    u_leave1 H.f_uAdd (fk_rely hF2) hF
    repeat (first
      | (with_reducible refine g_seq ?_)
      | (with_reducible refine g_end ?_)
      | ((with_reducible refine g_reg ?_); simp only [List.size_toArray, List.length_cons, List.length_nil, Nat.reduceAdd, Nat.zero_add, List.range, List.range.loop])
      | (with_reducible refine g_skip ?_)
      | (with_reducible refine g_ret ?_)
      | (with_reducible refine g_block ?_)
      | (with_reducible refine g_loop ?_)
      | (with_reducible refine g_inBlock ?_)
      | (with_reducible refine g_inLoop ?_)
      | ((with_reducible refine g_cond (t := false) ?_ ?_); (focus (exact rfl)); simp only [if_true, if_false, Bool.false_eq_true, ↓reduceIte, Bool.true_eq_false])
      | ((with_reducible refine g_cond (t := true) ?_ ?_); (focus (exact rfl)); simp only [if_true, if_false, Bool.false_eq_true, ↓reduceIte, Bool.true_eq_false])
      | (u_skip (fk_rely hF2) hF)
      | (u_op (fk_rely hF2) hF))
    u_conv H.underlying_tPU32 H.room_tU32 (WgLive.cell1 hF.2).choose_spec (fk_rely hF2) hF
    refine Goes.stop (fun w₃ h₃ => ?_)
    replace hF := fk_rely hF2 hF h₃
    clear h₃
    refine Goes.step rfl (fun w₄ h₄ => ?_)
    replace hF := fk_rely hF2 hF h₄
    clear h₄
    rw [stepG_markAt .read (by simp) rfl rfl (by k_ne) rfl H.f_raceRead (x_raceRead_n L) (x_raceRead_b L) (x_raceRead_x L) (x_raceRead_f L) (ad := ⟨Wg, 1, none⟩) (by simp [Act.eval])]
    simp only [goes_go]
    refine ⟨⟨rfl, fun e he => .inl (by simpa [smA] using he)⟩, goes_dq0 ?_⟩
    walk_nrm
    repeat (first
      | (with_reducible refine g_seq ?_)
      | (with_reducible refine g_end ?_)
      | ((with_reducible refine g_reg ?_); simp only [List.size_toArray, List.length_cons, List.length_nil, Nat.reduceAdd, Nat.zero_add, List.range, List.range.loop])
      | (with_reducible refine g_skip ?_)
      | (with_reducible refine g_ret ?_)
      | (with_reducible refine g_block ?_)
      | (with_reducible refine g_loop ?_)
      | (with_reducible refine g_inBlock ?_)
      | (with_reducible refine g_inLoop ?_)
      | ((with_reducible refine g_cond (t := false) ?_ ?_); (focus (exact rfl)); simp only [if_true, if_false, Bool.false_eq_true, ↓reduceIte, Bool.true_eq_false])
      | ((with_reducible refine g_cond (t := true) ?_ ?_); (focus (exact rfl)); simp only [if_true, if_false, Bool.false_eq_true, ↓reduceIte, Bool.true_eq_false])
      | (u_skip (fk_rely hF2) hF)
      | (u_op (fk_rely hF2) hF))
    refine Goes.stop (fun w₃ h₃ => ?_)
    replace hF := fk_rely hF2 hF h₃
    clear h₃
    refine ⟨rfl, _, stepG_unwind_entry (v := .tuple #[]) (evs := #[mk .enable]) rfl H.f_enable (x_enable_n L) (x_enable_b L) (x_enable_x L) (x_enable_f L) (by simp [Extern.Race.none_]) (by simp [mk]) (by simp [mk]), mT + 1, priv_goes ?_⟩
    u_leave0 H.f_add (fk_rely hF2) hF
    refine Goes.stop (fun w₃ h₃ => ?_)
    replace hF := fk_rely hF2 hF h₃
    exact hT _ hF.1 hF.2
  · -- IT IS MORE
    obtain ⟨V, hV⟩ : ∃ V : Int, V = (v : Int) + 1 := ⟨_, rfl⟩
    obtain ⟨S, hS⟩ : ∃ S : Int, S = V * KK := ⟨_, rfl⟩
    have eS : IntKind.u64.wrap ((v : Int) * KK + 4294967296) = S := by rw [IntKind.wrap_u64, hS, hV]; simp only [KK]; omega
    rw [← hV, ← hS]
    have a1 : S / 4294967296 = V := by rw [hS]; simp only [KK]; omega
    have b1 : bits .and .u64 S 2147483648 = 0 := by rw [hS, hV]; have := st_flag (v + 1) 0 (by omega) (by omega); simpa [KK] using this
    have b2 : bits .and .u64 S 2147483647 = 0 := by rw [hS, hV]; have := st_waiters (v + 1) 0 (by omega) (by omega); simpa [KK] using this
    have c1 : IntKind.i32.wrap V = V := by rw [IntKind.wrap_i32]; omega
    have hV1 : 1 < V := by omega
    have hV2 : V < 2147483648 := by omega
    have q1 : (V == 1) = false := by simp; omega
    have q2 : decide (V = 1) = false := decide_eq_false (by omega)
    have q3 : decide (V < 0) = false := decide_eq_false (by omega)
    have q4 : decide (0 < V) = true := decide_eq_true (by omega)
    have q5 : (V == 0) = false := by simp; omega
    have q6 : decide (V = 0) = false := decide_eq_false (by omega)
    refine ⟨_, (stepG_add_atomic rfl rfl (by k_ne) rfl H.f_addU64 (x_addU64_n L) (x_addU64_b L) (x_addU64_x L) .u64 (x_addU64_f L) rfl rfl hw.cellSt (hw.thaw 0)).trans (by rw [eS]; rfl), 150, goes_dq0 ?_⟩
    replace hF : F (w₂.setCell (stA Wg) (.int .u64 S)) ∧ WgLive L.tWg Wg (w₂.setCell (stA Wg) (.int .u64 S)) := ⟨hF3 _ _ hF.1, ⟨_, _, hw.setSt _⟩⟩
    clear hw hS hV eS
    walk_nrm
    repeat (first
      | (with_reducible refine g_seq ?_)
      | (with_reducible refine g_end ?_)
      | ((with_reducible refine g_reg ?_); simp only [List.size_toArray, List.length_cons, List.length_nil, Nat.reduceAdd, Nat.zero_add, List.range, List.range.loop])
      | (with_reducible refine g_skip ?_)
      | (with_reducible refine g_ret ?_)
      | (with_reducible refine g_block ?_)
      | (with_reducible refine g_loop ?_)
      | (with_reducible refine g_inBlock ?_)
      | (with_reducible refine g_inLoop ?_)
      | ((with_reducible refine g_cond (t := false) ?_ ?_); (focus (exact rfl)); simp only [if_true, if_false, Bool.false_eq_true, ↓reduceIte, Bool.true_eq_false])
      | ((with_reducible refine g_cond (t := true) ?_ ?_); (focus (exact rfl)); simp only [if_true, if_false, Bool.false_eq_true, ↓reduceIte, Bool.true_eq_false])
      | (u_skip (fk_rely hF2) hF)
      | (u_op (fk_rely hF2) hF))
    u_leave1 H.f_uAdd (fk_rely hF2) hF
    repeat (first
      | (with_reducible refine g_seq ?_)
      | (with_reducible refine g_end ?_)
      | ((with_reducible refine g_reg ?_); simp only [List.size_toArray, List.length_cons, List.length_nil, Nat.reduceAdd, Nat.zero_add, List.range, List.range.loop])
      | (with_reducible refine g_skip ?_)
      | (with_reducible refine g_ret ?_)
      | (with_reducible refine g_block ?_)
      | (with_reducible refine g_loop ?_)
      | (with_reducible refine g_inBlock ?_)
      | (with_reducible refine g_inLoop ?_)
      | ((with_reducible refine g_cond (t := false) ?_ ?_); (focus (exact rfl)); simp only [if_true, if_false, Bool.false_eq_true, ↓reduceIte, Bool.true_eq_false])
      | ((with_reducible refine g_cond (t := true) ?_ ?_); (focus (exact rfl)); simp only [if_true, if_false, Bool.false_eq_true, ↓reduceIte, Bool.true_eq_false])
      | (u_skip (fk_rely hF2) hF)
      | (u_op (fk_rely hF2) hF))
    refine Goes.stop (fun w₃ h₃ => ?_)
    replace hF := fk_rely hF2 hF h₃
    clear h₃
    refine ⟨rfl, _, stepG_unwind_entry (v := .tuple #[]) (evs := #[mk .enable]) rfl H.f_enable (x_enable_n L) (x_enable_b L) (x_enable_x L) (x_enable_f L) (by simp [Extern.Race.none_]) (by simp [mk]) (by simp [mk]), mT + 1, priv_goes ?_⟩
    u_leave0 H.f_add (fk_rely hF2) hF
    refine Goes.stop (fun w₃ h₃ => ?_)
    replace hF := fk_rely hF2 hF h₃
    exact hT _ hF.1 hF.2
end
end Go.Proofs.Ytajheicheefpeaa
