import Derived.Test.YtajheicheefpeaaM3
import Derived.Conc.Fork3
import Derived.Test.YtajheicheefpeaaM2
import Derived.Conc.CompanyMem
/- A won game is played beside goroutines that only leave, over a trace that has a past. -/
namespace Go.Proofs.Ytajheicheefpeaa
open Go.Conc
open Go.ConcN (sumTo upd sumTo_upd upd_ne upd_same)
set_option linter.unusedSimpArgs false
set_option linter.unusedVariables false

/-- The cells of the blocks of F. -/
def ShF (F : Nat → Prop) : Loc → Prop := fun l => ∃ a, l = .cell a ∧ F a.block

/-- What is held of the trace between the pieces of goroutine 0's way: F: the blocks that nobody touches plainly; p: how many goroutines there are. -/
structure Trc (F : Nat → Prop) (B p : Nat) (t : Trace) : Prop where
  past : Past (ShF F) B t
  all : ∀ i a, touchAt t i = some a → Knows t 0 i ∨ ShF F a.loc
  quiet : Quiet (ShF F) t
  gsz : ∀ op ∈ t, op.g < p

section
variable {P : Program} {F : Nat → Prop} {B p : Nat} {t : Trace}

theorem evL_of {e : Event} (h : EvOk F B e) : EvL (ShF F) B e := by
  obtain ⟨loc, wr, sy⟩ := e
  rcases h with ⟨a, h1, h2, h3, h4⟩ | ⟨r, h1, h2, h3, h4⟩ | h
  · obtain rfl : loc = .cell a := h1
    refine ⟨fun x hx ⟨a', e, hF⟩ => ?_, by simp, by simp, h2⟩
    rw [ofEvent_cell0] at hx
    simp only [MemAct.touch?, Option.some.injEq] at hx
    subst hx
    cases e
    exact absurd hF h3
  · obtain rfl : loc = .obj r := h1
    refine ⟨fun x hx ⟨a', e, hF⟩ => ?_, by simp, by simp, ?_⟩
    · cases wr <;> cases sy <;> simp [MemAct.ofEvent, MemAct.touch?] at hx <;> subst hx <;> cases e
    · cases wr <;> cases sy <;> exact h2
  · obtain rfl : loc = .mark .noRoom := h
    refine ⟨fun x hx => by cases wr <;> cases sy <;> simp [MemAct.ofEvent, MemAct.touch?] at hx, by simp, by simp, ?_⟩
    cases wr <;> cases sy <;> trivial

theorem Trc.mono (h : Trc F B p t) {B' p' : Nat} (hB : B ≤ B') (hp : p ≤ p') : Trc F B' p' t := ⟨h.past.mono hB, h.all, h.quiet, fun op hop => Nat.lt_of_lt_of_le (h.gsz op hop) hp⟩

theorem touch_plain {e : Event} (h : EvOk F B e) {x : Touch} (hx : (MemAct.ofEvent e).touch? = some x) : ¬ ShF F x.loc := by
  obtain ⟨loc, wr, sy⟩ := e
  rintro ⟨a', e', hF⟩
  rcases h with ⟨a, h1, h2, h3, h4⟩ | ⟨r, h1, h2, h3, h4⟩ | h
  · obtain rfl : loc = .cell a := h1
    rw [ofEvent_cell0] at hx
    simp only [MemAct.touch?, Option.some.injEq] at hx
    subst hx
    cases e'
    exact absurd hF h3
  · obtain rfl : loc = .obj r := h1
    cases wr <;> cases sy <;> simp [MemAct.ofEvent, MemAct.touch?] at hx <;> subst hx <;> cases e'
  · obtain rfl : loc = .mark .noRoom := h
    cases wr <;> cases sy <;> simp [MemAct.ofEvent, MemAct.touch?] at hx

theorem Trc.own (h : Trc F B p t) (hp : 0 < p) {fn : FuncId} {pos : String} {es : Array Event} (hes : ∀ e ∈ es, EvOk F B e) : Trc F B p (t ++ MemOp.ofEvents 0 fn pos es) := by
  refine ⟨h.past.own fun e he => evL_of (hes e he), fun i a ha => ?_, h.quiet.app fun op hop x hx hs => ?_, fun op hop => ?_⟩
  · obtain ⟨x, hx, hxa⟩ := touch_of ha
    rcases getElem?_append_cases hx with ⟨_, hx'⟩ | ⟨_, hxu⟩
    · exact (h.all i a (by rw [touchAt_of hx']; exact hxa)).imp (·.app _) id
    · have := knows_own hx
      obtain ⟨e, _, rfl⟩ := Go.Conc.mem_ofEvents hxu
      exact .inl this
  · obtain ⟨e, he, rfl⟩ := Go.Conc.mem_ofEvents hop
    exact absurd hs (touch_plain (hes e he) hx)
  · rcases Array.mem_append.1 hop with hop | hop
    · exact h.gsz op hop
    · obtain ⟨e, _, rfl⟩ := Go.Conc.mem_ofEvents hop; exact hp

theorem Trc.mute (h : Trc F B p t) {g : Nat} (hg : g ≠ 0) (hgp : g < p) {fn : FuncId} {pos : String} {es : Array Event} (hm : ∀ e ∈ es, e.mute = true) : Trc F B p (t ++ MemOp.ofEvents g fn pos es) := by
  refine ⟨h.past.mute hg hm, fun i a ha => ?_, h.quiet.app fun op hop x hx hs => ?_, fun op hop => ?_⟩
  · obtain ⟨x, hx, hxa⟩ := touch_of ha
    rcases getElem?_append_cases hx with ⟨_, hx'⟩ | ⟨_, hxu⟩
    · exact (h.all i a (by rw [touchAt_of hx']; exact hxa)).imp (·.app _) id
    · obtain ⟨e, he, rfl⟩ := Go.Conc.mem_ofEvents hxu
      rw [touch_mute (hm e he)] at hxa
      cases hxa
  · obtain ⟨e, he, rfl⟩ := Go.Conc.mem_ofEvents hop
    rw [touch_mute (hm e he)] at hx
    cases hx
  · rcases Array.mem_append.1 hop with hop | hop
    · exact h.gsz op hop
    · obtain ⟨e, _, rfl⟩ := Go.Conc.mem_ofEvents hop; exact hgp

theorem trc_nil (B : Nat) : Trc (fun _ => False) B 1 #[] := by
  refine ⟨⟨past_nil.clean, fun i a ha => by simp [touchAt, Trace.act?] at ha, past_nil.over, past_nil.hears, by simp⟩, fun i a ha => by simp [touchAt, Trace.act?] at ha, fun i op x h => by simp at h, by simp⟩

theorem mkG_running {fr : Frame} {cs : List Frame} : (gg fr cs).status = .running := rfl

theorem frs_mkG {k : List Item} {cs : List Frame} {stk : List TF} (h : stk ≠ []) : (mkG (frs k cs stk)).status = .running := by
  cases stk with
  | nil => exact absurd rfl h
  | cons f r => rw [frs_cons]; rfl

/-- Who moves, where all but goroutine 0 only leave. -/
theorem frame_step {gs : Array Goroutine} {a : Goroutine} {w : World} {sl : Option (Nat × Nat)} {q : Nat → Nat} (h0 : gs[0]? = some a) (hrun : a.status = .running) (hL : Leavers P t gs q) (hT : Trc F w.heap.size gs.size t) :
    ∃ d sl', stepT P (crowd gs w sl) = runT P (crowd gs (w.at d) sl') 0 ∨
      ∃ gs' q' ops, stepT P (crowd gs w sl) = (.next (crowd gs' (w.at d) sl'), ops) ∧ gs'.size = gs.size ∧ gs'[0]? = some a ∧ Leavers P (t ++ ops) gs' q' ∧ Trc F w.heap.size gs'.size (t ++ ops) ∧ sumTo gs.size q' < sumTo gs.size q := by
  have haw : ∀ g ∈ gs, awake g := by
    intro g hg
    obtain ⟨i, hi⟩ := Array.mem_iff_getElem?.1 hg
    rcases Nat.eq_zero_or_pos i with rfl | hpos
    · rw [h0] at hi; cases hi; exact awake_of (.inl hrun)
    · exact awake_of ((hL.old i _ hpos hi).status.elim .inl fun x => .inr (.inr x))
  obtain ⟨i, g, d, sl', hi, hg, hst⟩ := crowd_pick (P := P) (w := w) (sl := sl) haw ⟨0, a, h0, hrun⟩
  refine ⟨d, sl', ?_⟩
  rcases Nat.eq_zero_or_pos i with rfl | hpos
  · exact .inl hst
  · right
    have hq := hL.old i g hpos hi
    have hi0 : (i == 0) = false := by simp; omega
    have hlt : i < gs.size := (Array.getElem?_eq_some_iff.1 hi).1
    cases hqi : q i with
    | zero => rw [hqi] at hq; rw [hq.1] at hg; cases hg
    | succ k =>
      rw [hqi] at hq
      rcases hq with ⟨hf, _⟩ | ⟨_, g', es, hm, hstp, hq'⟩
      · rw [hf] at hg; cases hg
      have hrunT := runT_crowd_go (P := P) (sl := sl') (i := i) hi (by rw [hi0]; exact hstp (w.at d))
      have hsum : sumTo gs.size (upd q i k) + (k + 1) = sumTo gs.size q + k := by
        have := sumTo_upd q k id hlt
        simpa [hqi] using this
      have hne : i ≠ 0 := by omega
      refine ⟨_, upd q i k, _, hst.trans hrunT, by simp, ?_, ⟨fun j x hj hx => ?_, fun j hj => ?_⟩, ?_, by omega⟩
      · rw [Array.getElem?_setIfInBounds_ne hne, Array.getElem?_map, h0]
        simp [woken_run hrun]
      · by_cases hji : i = j
        · subst hji
          rw [Array.getElem?_setIfInBounds_self_of_lt (by simpa using hlt)] at hx
          obtain rfl := Option.some.inj hx
          rw [upd_same, Deaf_own]
          exact hq'
        · rw [Array.getElem?_setIfInBounds_ne hji, Array.getElem?_map] at hx
          obtain ⟨y, hy, rfl⟩ := Option.map_eq_some_iff.1 hx
          have hqj := hL.old j y hj hy
          rw [woken_quitsD hqj, upd_ne q k (Ne.symm hji), Deaf_other t hji _ (fun op hop => by obtain ⟨e, _, rfl⟩ := Go.Conc.mem_ofEvents hop; rfl)]
          exact hqj
      · have hj' : gs.size ≤ j := by simpa using hj
        rw [Deaf_other t (g' := i) (by omega) _ (fun op hop => by obtain ⟨e, _, rfl⟩ := Go.Conc.mem_ofEvents hop; rfl)]
        exact hL.above j hj'
      · simp only [Array.size_setIfInBounds, Array.size_map]
        exact hT.mute hne hlt hm

/-- Goroutine 0's own step. -/
theorem frame_own {gs : Array Goroutine} {a a' : Goroutine} {w w' : World} {sl : Option (Nat × Nat)} {q : Nat → Nat} {es : Array Event} (h0 : gs[0]? = some a) (hL : Leavers P t gs q) (hT : Trc F w.heap.size gs.size t)
    (hs : stepG P true a w = .go a' w' es) (hz : w.heap.size ≤ w'.heap.size) (hes : ∀ e ∈ es, EvOk F w'.heap.size e) :
    ∃ gs' ops, runT P (crowd gs w sl) 0 = (.next (crowd gs' w' sl), ops) ∧ gs'.size = gs.size ∧ gs'[0]? = some a' ∧ Leavers P (t ++ ops) gs' q ∧ Trc F w'.heap.size gs'.size (t ++ ops) := by
  have hrunT := runT_crowd_go (P := P) (sl := sl) (i := 0) h0 (show stepG P (0 == 0) a w = _ from hs)
  have hlt : 0 < gs.size := (Array.getElem?_eq_some_iff.1 h0).1
  refine ⟨_, _, hrunT, by simp, by simp [hlt], ⟨fun j x hj hx => ?_, fun j hj => ?_⟩, ?_⟩
  · have hne : 0 ≠ j := by omega
    rw [Array.getElem?_setIfInBounds_ne hne, Array.getElem?_map] at hx
    obtain ⟨y, hy, rfl⟩ := Option.map_eq_some_iff.1 hx
    have hq := hL.old j y hj hy
    rw [woken_quitsD hq, Deaf_other t (by omega) _ (fun op hop => by obtain ⟨e, _, rfl⟩ := Go.Conc.mem_ofEvents hop; rfl)]
    exact hq
  · have hj' : gs.size ≤ j := by simpa using hj
    rw [Deaf_other t (g' := 0) (by omega) _ (fun op hop => by obtain ⟨e, _, rfl⟩ := Go.Conc.mem_ofEvents hop; rfl)]
    exact hL.above j hj'
  · simp only [Array.size_setIfInBounds, Array.size_map]
    exact (hT.mono hz (Nat.le_refl _)).own hlt hes

/-- ████ THE WON GAME, PLAYED BESIDE LEAVERS. ████ -/
theorem walk_win {K : Kit P} {ret : Bool} {Q : FuncId → Bool → Array Value → World → Prop} {k : List Item} {cs : List Frame} {stk : List TF} {w0 : World} (hw : Win K ret Q stk w0) :
    stk ≠ [] → ∀ (M : Nat) (gs : Array Goroutine) (w : World) (sl : Option (Nat × Nat)) (t : Trace) (q : Nat → Nat), sumTo gs.size q ≤ M → gs[0]? = some (mkG (frs k cs stk)) → Leavers P t gs q → Trc F w.heap.size gs.size t → Sim F w0 w →
      ∃ (N : Nat) (gs' : Array Goroutine) (f : TF) (w0' w' : World) (sl' : Option (Nat × Nat)) (t' : Trace) (q' : Nat → Nat),
        runNT P N (crowd gs w sl) t = (.next (crowd gs' w' sl'), t') ∧ gs'.size = gs.size ∧ gs'[0]? = some (mkG (frs k cs [f])) ∧ Floor ret f ∧ Q f.fn f.ret f.tmps w0' ∧ Sim F w0' w' ∧ w'.tape = w.tape ∧ w.heap.size ≤ w'.heap.size ∧ Stay w w' ∧ Leavers P t' gs' q' ∧ Trc F w'.heap.size gs'.size t' := by
  induction hw with
  | stop hf hq =>
    intro hne M gs w sl t q hM h0 hL hT hS
    exact ⟨0, gs, _, _, w, sl, t, q, rfl, rfl, h0, hf, hq, hS, rfl, Nat.le_refl _, .refl w, hL, hT⟩
  | @step stk w0 S V hok hgo hwin ih =>
    intro hne M
    induction M using Nat.strongRecOn with
    | _ M ihM =>
      intro gs w sl t q hM h0 hL hT hS
      obtain ⟨d, sl', hst | ⟨gs', q', ops, hst, h1, h2, h3, h4, h5⟩⟩ := frame_step (sl := sl) h0 (frs_mkG hne) hL hT
      · obtain ⟨hne', _, _, hn, hsim⟩ := hgo w.tape d
        obtain ⟨w', es, e1, e2, e3, e4, e5, ⟨_, e7⟩, e6⟩ := hsim k cs F (w.at d) ⟨hS.size, hS.same, hS.blank, hS.os, hS.output⟩ (fun _ _ => rfl)
        obtain ⟨gs', ops, g1, g2, g3, g4, g5⟩ := frame_own (w := w.at d) (sl := sl') h0 hL hT e1 e5 e6
        obtain ⟨N, gs'', f, w0', w'', sl'', t', q', r1, r2, r3, r4, r5, r6, r7, r8, r11, r9, r10⟩ := ih w.tape d hne' _ gs' w' sl' (t ++ ops) q (Nat.le_refl _) g3 g4 g5 e2
        exact ⟨N + 1, gs'', f, w0', w'', sl'', t', q', by simp only [runNT, hst, g1]; exact r1, r2.trans g2, r3, r4, r5, r6, r7.trans e3, Nat.le_trans e5 r8, (Stay.mk e7.size e7.pend e7.map e7.back : Stay w w').trans r11, r9, r10⟩
      · obtain ⟨N, gs'', f, w0', w'', sl'', t', q'', r1, r2, r3, r4, r5, r6, r7, r8, r11, r9, r10⟩ := ihM (sumTo gs.size q') (by omega) gs' (w.at d) sl' (t ++ ops) q' (by rw [h1]; exact Nat.le_refl _) h2 h3 h4 ⟨hS.size, hS.same, hS.blank, hS.os, hS.output⟩
        exact ⟨N + 1, gs'', f, w0', w'', sl'', t', q'', by simp only [runNT, hst]; exact r1, r2.trans h1, r3, r4, r5, r6, r7, r8, (Stay.mk r11.size r11.pend r11.map r11.back : Stay w w''), r9, r10⟩
end
end Go.Proofs.Ytajheicheefpeaa

/- What holds of the machine and the trace while a starter and its workers go. -/
namespace Go.Proofs.Ytajheicheefpeaa
open Go.Conc
open Go.ConcN (WgLive PayAt Has Full RW WSit AtR0 CTag WD CT Apart Ok0 OkW PermW RelBy AsideCell sumTo upd upd_ne upd_same get_map_set get_map_set_same norel_of Deaf_absent Deaf_still)
open Go.ConcR (KK wgBlock WgAt stA smA rd wr mk Payload DC0 Bk g_of_ofEvents loc_of_ofEvent ofEvent_loc_mark ofEvent_cell)
set_option linter.unusedSimpArgs false
set_option linter.unusedVariables false

/-- A place in a block of X. -/
def inBk (X : Bks) (l : Loc) : Prop := (∃ a, l = .cell a ∧ X a.block) ∨ (∃ r, l = .obj r ∧ X r)

theorem inBk_cell {X : Bks} {a : Addr} : inBk X (.cell a) ↔ X a.block := by
  refine ⟨fun h => ?_, fun h => .inl ⟨a, rfl, h⟩⟩
  rcases h with ⟨a', e, h⟩ | ⟨r, e, _⟩
  · cases e; exact h
  · cases e
theorem inBk_obj {X : Bks} {r : Nat} : inBk X (.obj r) ↔ X r := by
  refine ⟨fun h => ?_, fun h => .inr ⟨r, rfl, h⟩⟩
  rcases h with ⟨a', e, h⟩ | ⟨r, e, h⟩
  · cases e
  · cases e; exact h
theorem inBk_two {X Y : Bks} {l : Loc} (hx : inBk X l) (hy : inBk Y l) : ∃ b, X b ∧ Y b := by
  rcases hx with ⟨a, rfl, h⟩ | ⟨r, rfl, h⟩
  · exact ⟨_, h, inBk_cell.1 hy⟩
  · exact ⟨_, h, inBk_obj.1 hy⟩
theorem inBk.imp {X Y : Bks} {l : Loc} (h : inBk X l) (hXY : ∀ b, X b → Y b) : inBk Y l := Or.imp (fun ⟨a, e, x⟩ => ⟨a, e, hXY _ x⟩) (fun ⟨r, e, x⟩ => ⟨r, e, hXY _ x⟩) h

section
variable (A O : Nat → Bks) (C o : Nat)
/-- Goroutine k's own places, and those that it may read. o: how many goroutines beside the first there were before. -/
def OwnL (k : Nat) (l : Loc) : Prop := inBk (O k) l ∨ (o < k ∧ l = .cell ⟨C, k - (o + 1), none⟩)
def RdL (k : Nat) (l : Loc) : Prop := inBk (A k) l ∧ ¬ inBk (O k) l
end

/-- The group's block and those that nobody touches plainly. -/
def FW (F : Bks) (Wg : Nat) : Bks := fun b => F b ∨ b = Wg

/-- Whose blocks are whose. -/
structure Sets (F : Bks) (Wg C j B : Nat) (A O : Nat → Bks) : Prop where
  low : ∀ k b, A k b → b < B ∧ b ≠ C ∧ b ≠ Wg ∧ ¬ F b
  sub : ∀ k b, O k b → A k b
  dis : ∀ k k', k ≠ k' → ∀ b, O k b → ¬ A k' b
  fin : ∀ k, j < k → ∀ b, ¬ A k b
  hC : C < B ∧ C ≠ Wg ∧ ¬ F C
  hW : Wg < B ∧ ¬ F Wg
  hF : ∀ b, F b → b < B

section
variable {F : Bks} {Wg C j B o : Nat} {A O : Nat → Bks}

theorem Sets.apart (h : Sets F Wg C j B A O) : Apart (ShF (FW F Wg)) (OwnL O C o) (RdL A O) := by
  have hsh : ∀ k l, inBk (A k) l → ¬ ShF (FW F Wg) l := by
    rintro k l hl ⟨a, rfl, hF⟩
    have := h.low k _ (inBk_cell.1 hl)
    exact hF.elim this.2.2.2 this.2.2.1
  refine ⟨fun k k' l h1 h2 => ?_, fun k k' l h1 h2 => ?_, fun k l h1 => ?_, fun k l h1 => hsh k l h1.1⟩
  · rcases h1 with h1 | ⟨h1, e1⟩ <;> rcases h2 with h2 | ⟨h2, e2⟩
    · apply Classical.byContradiction
      intro hne
      obtain ⟨b, hb, hb'⟩ := inBk_two h1 h2
      exact h.dis k k' hne b hb (h.sub _ _ hb')
    · subst e2
      exact absurd rfl (h.low k _ (h.sub _ _ (inBk_cell.1 h1))).2.1
    · subst e1
      exact absurd rfl (h.low k' _ (h.sub _ _ (inBk_cell.1 h2))).2.1
    · subst e1
      injection e2 with e2
      injection e2 with _ e2
      omega
  · rcases h1 with h1 | ⟨h1, e1⟩
    · by_cases hk : k = k'
      · subst hk; exact h2.2 h1
      · obtain ⟨b, hb, hb'⟩ := inBk_two h1 h2.1
        exact h.dis k k' hk b hb hb'
    · subst e1
      exact absurd rfl (h.low k' _ (inBk_cell.1 h2.1)).2.1
  · rcases h1 with h1 | ⟨h1, e1⟩
    · exact hsh k l (h1.imp (h.sub k))
    · subst e1
      rintro ⟨a, e, hF⟩
      cases e
      exact hF.elim h.hC.2.2 h.hC.2.1
end

/-- Nobody has touched the place. -/
def Fresh (t : Trace) (l : Loc) : Prop := ∀ i a, touchAt t i = some a → a.loc ≠ l

theorem fresh_of_low {t : Trace} {B : Nat} (h : ∀ op ∈ t, op.act.low B) {X : Bks} (hX : ∀ b, X b → B ≤ b) {l : Loc} (hl : inBk X l) : Fresh t l := by
  intro i a ha e
  obtain ⟨x, hx, hxa⟩ := touch_of ha
  have hlow := h x (Array.mem_of_getElem? hx)
  obtain ⟨g, fn, pos, act⟩ := x
  rcases hl with ⟨ad, rfl, hb⟩ | ⟨r, rfl, hb⟩
  · have := hX _ hb
    cases act with
    | access ev => simp only [MemAct.touch?, Option.some.injEq] at hxa; subst hxa; simp only at e; simp only [MemAct.low, e, Loc.low] at hlow; omega
    | mark m =>
      cases m <;> simp only [MemAct.touch?, Option.some.injEq] at hxa <;> first | (cases hxa; done) | (subst hxa; simp only [Loc.cell.injEq] at e; subst e; simp only [MemAct.low] at hlow; omega)
    | _ => cases hxa
  · have := hX _ hb
    cases act with
    | access ev => simp only [MemAct.touch?, Option.some.injEq] at hxa; subst hxa; simp only at e; simp only [MemAct.low, e, Loc.low] at hlow; omega
    | mark m => cases m <;> simp only [MemAct.touch?, Option.some.injEq] at hxa <;> first | (cases hxa; done) | (subst hxa; cases e)
    | _ => cases hxa

theorem ct_regrow {Sh : Loc → Prop} {Own Rd Own' Rd' : Nat → Loc → Prop} {t : Trace} {j : Nat} (h : CT Sh Own Rd t j)
    (ho : ∀ k, 1 ≤ k → k ≤ j → ∀ l, Own' k l → Own k l ∨ Fresh t l) (hr : ∀ k, 1 ≤ k → k ≤ j → ∀ l, Rd' k l → Rd k l ∨ Fresh t l)
    (uo : ∀ k, 1 ≤ k → k ≤ j → ∀ l, Own k l → Own' k l) (ur : ∀ k, 1 ≤ k → k ≤ j → ∀ l, Rd k l → Own' k l ∨ Rd' k l) : CT Sh Own' Rd' t j := by
  refine ⟨h.quiet, fun k k1 kj l hl => ?_, fun k k1 kj l hl => ?_, fun l hs hl => h.free l hs fun k k1 kj => ⟨fun x => (hl k k1 kj).1 (uo k k1 kj l x), fun x => (ur k k1 kj l x).elim (hl k k1 kj).1 (hl k k1 kj).2⟩, fun l hs hl => h.mine l hs fun k k1 kj x => hl k k1 kj (uo k k1 kj l x), h.nr, h.gs⟩
  · rcases ho k k1 kj l hl with x | x
    · exact h.own k k1 kj l x
    · exact fun i a ha e => absurd e (x i a ha)
  · rcases hr k k1 kj l hl with x | x
    · exact h.rd k k1 kj l x
    · exact fun i a ha e _ => absurd e (x i a ha)

section
variable [Payload] (P : Program) (ty : TypeId) (Wg C n : Nat) (F : Bks) (o : Nat) (val : Nat → Value)

/-- WHAT HOLDS, WHOEVER STANDS WHERE. -/
structure Cm (j : Nat) (A O : Nat → Bks) (gs : Array Goroutine) (w : World) (t : Trace) (D : Nat → WD) (d0 : Nat) : Prop where
  size : gs.size = j + 1
  pos : o ≤ j
  wk : ∀ i, o ≤ i → i < j → ∃ g, gs[i + 1]? = some g ∧ WS P ty Wg C n (i - o) (val (i - o)) (A (i + 1)) (O (i + 1)) (D i).stage (D i).fuel (D i).deaf g w
  lv : ∀ i, i < o → ∃ g, gs[i + 1]? = some g ∧ (D i).stage = 1 ∧ QuitsD P (D i).fuel (D i).deaf g
  ct : CT (ShF (FW F Wg)) (OwnL O C o) (RdL A O) t j
  norel : NoRelease (stA Wg) t
  deaf0 : Deaf t 0 = d0
  deafW : ∀ i, i < j → Deaf t (i + 1) = (D i).deaf
  rel : ∀ i, o ≤ i → i < j → (D i).stage ≤ 6 → ∃ r, RelBy (stA Wg) t (i + 1) r
  has : ∀ i, o ≤ i → i < j → (D i).stage ≤ 6 → Has C (i - o) (val (i - o)) w
  pay : PayAt C n w
  sets : Sets F Wg C j w.heap.size A O
  low : ∀ op ∈ t, op.act.low w.heap.size
  oldK : ∀ i a g, touchAt t i = some a → t.g? i = some g → g ≠ 0 → g ≤ o → Knows t 0 i ∨ ShF (FW F Wg) a.loc
  oldH : ∀ i g, t.g? i = some g → g ≠ 0 → g ≤ o → t.counts i → ∃ q, t.g? q = some 0 ∧ HappensBefore t i q
  kind : ∀ i a g, touchAt t i = some a → t.g? i = some g → o < g → (a.kind = .plain ∧ a.loc.isMemory = true) ∨ ShF (FW F Wg) a.loc

end

section
variable {t u : Trace} {o : Nat} {Sh : Loc → Prop}
theorem oldK_app (h : ∀ i a g, touchAt t i = some a → t.g? i = some g → g ≠ 0 → g ≤ o → Knows t 0 i ∨ Sh a.loc) (hu : ∀ op ∈ u, op.g = 0 ∨ o < op.g ∨ op.act.touch? = none) :
    ∀ i a g, touchAt (t ++ u) i = some a → (t ++ u).g? i = some g → g ≠ 0 → g ≤ o → Knows (t ++ u) 0 i ∨ Sh a.loc := by
  intro i a g ha hg hne hgo
  obtain ⟨x, hx, hxa⟩ := touch_of ha
  have hgx : x.g = g := by simpa [Trace.g?, hx] using hg
  rcases getElem?_append_cases hx with ⟨hi, hx'⟩ | ⟨_, hxu⟩
  · exact (h i a g (by rw [touchAt_of hx']; exact hxa) (by simp [Trace.g?, hx', hgx]) hne hgo).imp (·.app u) id
  · rcases hu x hxu with h0 | h0 | h0
    · omega
    · omega
    · rw [h0] at hxa; cases hxa

theorem lt_of_g? {t : Trace} {i g : Nat} (h : t.g? i = some g) : i < t.size := by
  obtain ⟨z, hz, _⟩ := Option.map_eq_some_iff.1 h
  exact lt_size_of_getElem? hz

theorem oldH_app (h : ∀ i g, t.g? i = some g → g ≠ 0 → g ≤ o → t.counts i → ∃ q, t.g? q = some 0 ∧ HappensBefore t i q) (hu : ∀ op ∈ u, op.g = 0 ∨ o < op.g ∨ op.act.touch? = none) :
    ∀ i g, (t ++ u).g? i = some g → g ≠ 0 → g ≤ o → (t ++ u).counts i → ∃ q, (t ++ u).g? q = some 0 ∧ HappensBefore (t ++ u) i q := by
  intro i g hg hne hgo hc
  obtain ⟨x, hx, hxm⟩ := id hc
  obtain ⟨op, hop, hox⟩ := touch_of hx
  have hgx : op.g = g := by simpa [Trace.g?, hop] using hg
  rcases getElem?_append_cases hop with ⟨hi, hop'⟩ | ⟨_, hopu⟩
  · obtain ⟨q, hq, hb⟩ := h i g (by simp [Trace.g?, hop', hgx]) hne hgo ((counts_old hi).1 hc)
    exact ⟨q, by rw [g?_old (lt_of_g? hq)]; exact hq, hb_app u hb⟩
  · rcases hu op hopu with h0 | h0 | h0
    · omega
    · omega
    · rw [h0] at hox; cases hox

theorem kind_app (h : ∀ i a g, touchAt t i = some a → t.g? i = some g → o < g → (a.kind = .plain ∧ a.loc.isMemory = true) ∨ Sh a.loc)
    (hu : ∀ op ∈ u, ∀ x, op.act.touch? = some x → o < op.g → (x.kind = .plain ∧ x.loc.isMemory = true) ∨ Sh x.loc) :
    ∀ i a g, touchAt (t ++ u) i = some a → (t ++ u).g? i = some g → o < g → (a.kind = .plain ∧ a.loc.isMemory = true) ∨ Sh a.loc := by
  intro i a g ha hg hgo
  obtain ⟨x, hx, hxa⟩ := touch_of ha
  have hgx : x.g = g := by simpa [Trace.g?, hx] using hg
  rcases getElem?_append_cases hx with ⟨hi, hx'⟩ | ⟨_, hxu⟩
  · exact h i a g (by rw [touchAt_of hx']; exact hxa) (by simp [Trace.g?, hx', hgx]) hgo
  · exact hu x hxu a hxa (by omega)
end
end Go.Proofs.Ytajheicheefpeaa

/- How it is kept: a step of a worker's, of a leaver's, of the starter's, a go statement. -/
namespace Go.Proofs.Ytajheicheefpeaa
open Go.Conc
open Go.ConcN (WgLive PayAt Has Full RW WSit AtR0 CTag WD CT Apart Ok0 OkW PermW RelBy AsideCell sumTo upd upd_ne upd_same get_map_set get_map_set_same norel_of Deaf_absent Deaf_still)
open Go.ConcR (KK wgBlock WgAt stA smA rd wr mk Payload DC0 Bk g_of_ofEvents loc_of_ofEvent ofEvent_loc_mark ofEvent_cell)
set_option linter.unusedSimpArgs false
set_option linter.unusedVariables false

section
variable {F : Bks} {Wg C j B B' o : Nat} {A O : Nat → Bks} {t : Trace} {Sh : Loc → Prop}

theorem Sets.grow (h : Sets F Wg C j B A O) (hB : B ≤ B') {k : Nat} (hk : k ≤ j) {A' O' : Bks} (nA : ∀ b, A' b → A k b ∨ (B ≤ b ∧ b < B')) (nO : ∀ b, O' b → O k b ∨ (B ≤ b ∧ b < B')) (sub : (∀ b, O k b → A k b) → ∀ b, O' b → A' b) :
    Sets F Wg C j B' (upd A k A') (upd O k O') := by
  refine ⟨fun x b hb => ?_, fun x b hb => ?_, fun x y hxy b hb hb' => ?_, fun x hx b hb => ?_, ⟨Nat.lt_of_lt_of_le h.hC.1 hB, h.hC.2⟩, ⟨Nat.lt_of_lt_of_le h.hW.1 hB, h.hW.2⟩, fun b hb => Nat.lt_of_lt_of_le (h.hF b hb) hB⟩
  · by_cases e : x = k
    · subst e
      rw [upd_same] at hb
      rcases nA b hb with hb | ⟨h1, h2⟩
      · have := h.low x b hb; exact ⟨by omega, this.2⟩
      · have h3 := h.hC.1
        have h4 := h.hW.1
        exact ⟨h2, by omega, by omega, fun hf => by have := h.hF b hf; omega⟩
    · rw [upd_ne A _ e] at hb
      have := h.low x b hb; exact ⟨by omega, this.2⟩
  · by_cases e : x = k
    · subst e
      rw [upd_same] at hb ⊢
      exact sub (h.sub x) b hb
    · rw [upd_ne O _ e] at hb
      rw [upd_ne A _ e]
      exact h.sub x b hb
  · by_cases e : x = k
    · subst e
      rw [upd_same] at hb
      rw [upd_ne A _ (Ne.symm hxy)] at hb'
      rcases nO b hb with hb | ⟨h1, h2⟩
      · exact h.dis x y hxy b hb hb'
      · have := h.low y b hb'; omega
    · rw [upd_ne O _ e] at hb
      by_cases e' : y = k
      · subst e'
        rw [upd_same] at hb'
        rcases nA b hb' with hb' | ⟨h1, h2⟩
        · exact h.dis x y hxy b hb hb'
        · have := h.low x b (h.sub x b hb); omega
      · rw [upd_ne A _ e'] at hb'
        exact h.dis x y hxy b hb hb'
  · have e : x ≠ k := by omega
    rw [upd_ne A _ e] at hb
    exact h.fin x hx b hb

theorem inBk_split {X Y : Bks} {l : Loc} (h : inBk X l) (hXY : ∀ b, X b → Y b ∨ (B ≤ b ∧ b < B')) : inBk Y l ∨ inBk (fun b => B ≤ b) l := by
  rcases h with ⟨a, rfl, h⟩ | ⟨r, rfl, h⟩
  · exact (hXY _ h).imp inBk_cell.2 (fun x => inBk_cell.2 x.1)
  · exact (hXY _ h).imp inBk_obj.2 (fun x => inBk_obj.2 x.1)

theorem ct_grow (h : CT Sh (OwnL O C o) (RdL A O) t j) (hl : ∀ op ∈ t, op.act.low B) {k : Nat} {A' O' : Bks} (nA : ∀ b, A' b → A k b ∨ (B ≤ b ∧ b < B')) (nO : ∀ b, O' b → O k b ∨ (B ≤ b ∧ b < B')) (uA : ∀ b, A k b → A' b) (uO : ∀ b, O k b → O' b) :
    CT Sh (OwnL (upd O k O') C o) (RdL (upd A k A') (upd O k O')) t j := by
  have fr : ∀ l, inBk (fun b => B ≤ b) l → Fresh t l := fun l hx => fresh_of_low hl (fun b hb => hb) hx
  refine ct_regrow h (fun x _ _ l hx => ?_) (fun x _ _ l hx => ?_) (fun x _ _ l hx => ?_) (fun x _ _ l hx => ?_)
  · by_cases e : x = k
    · subst e
      rcases hx with hx | hx
      · rw [upd_same] at hx
        exact (inBk_split hx nO).imp .inl (fr l)
      · exact .inl (.inr hx)
    · unfold OwnL at hx
      rw [upd_ne O _ e] at hx
      exact .inl hx
  · by_cases e : x = k
    · subst e
      obtain ⟨h1, h2⟩ := hx
      rw [upd_same] at h1 h2
      exact (inBk_split h1 nA).imp (fun y => ⟨y, fun z => h2 (z.imp uO)⟩) (fr l)
    · unfold RdL at hx
      rw [upd_ne O _ e, upd_ne A _ e] at hx
      exact .inl hx
  · by_cases e : x = k
    · subst e
      refine hx.imp (fun y => ?_) id
      rw [upd_same]
      exact y.imp uO
    · unfold OwnL
      rw [upd_ne O _ e]
      exact hx
  · by_cases e : x = k
    · subst e
      obtain ⟨h1, h2⟩ := hx
      by_cases h3 : inBk O' l
      · exact .inl (.inl (by rw [upd_same]; exact h3))
      · exact .inr ⟨by rw [upd_same]; exact h1.imp uA, by rw [upd_same]; exact h3⟩
    · right
      unfold RdL
      rw [upd_ne O _ e, upd_ne A _ e]
      exact hx

/-! ### what a step lists -/
variable {k : Nat} {fn : FuncId} {pos : String} {es : Array Event}

theorem touch_ev {A' O' : Bks} {e : Event} (h : EvA A' O' e) {x : Touch} (hx : (MemAct.ofEvent e).touch? = some x) : x.kind = .plain ∧ x.loc.isMemory = true ∧ inBk A' x.loc ∧ (x.write = true → inBk O' x.loc) := by
  obtain ⟨loc, wr, sy⟩ := e
  rcases h with ⟨a, h1, h2, h3, h4⟩ | ⟨r, h1, h2, h3, h4⟩ | h
  · obtain rfl : loc = .cell a := h1
    obtain rfl : sy = false := h4
    simp only [ofEvent_cell0, MemAct.touch?, Option.some.injEq] at hx
    subst hx
    exact ⟨rfl, rfl, inBk_cell.2 h2, fun hw => inBk_cell.2 (h3 hw)⟩
  · obtain rfl : loc = .obj r := h1
    obtain rfl : sy = false := h4
    have : MemAct.ofEvent ⟨.obj r, wr, false⟩ = .access ⟨.obj r, wr, false⟩ := by cases wr <;> rfl
    rw [this] at hx
    simp only [MemAct.touch?, Option.some.injEq] at hx
    subst hx
    exact ⟨rfl, rfl, inBk_obj.2 h2, fun hw => inBk_obj.2 (h3 hw)⟩
  · obtain rfl : loc = .mark .noRoom := h
    cases wr <;> cases sy <;> simp [MemAct.ofEvent, MemAct.touch?] at hx

theorem low_evA {A' O' : Bks} {e : Event} (h : EvA A' O' e) (hA : ∀ b, A' b → b < B') : (MemAct.ofEvent e).low B' := by
  obtain ⟨loc, wr, sy⟩ := e
  rcases h with ⟨a, h1, h2, h3, h4⟩ | ⟨r, h1, h2, h3, h4⟩ | h
  · obtain rfl : loc = .cell a := h1
    exact hA _ h2
  · obtain rfl : loc = .obj r := h1
    obtain rfl : sy = false := h4
    cases wr <;> exact hA _ h2
  · obtain rfl : loc = .mark .noRoom := h
    cases wr <;> cases sy <;> trivial

theorem okW_evA {A O : Nat → Bks} (h : ∀ e ∈ es, EvA (A k) (O k) e) : ∀ op ∈ MemOp.ofEvents k fn pos es, OkW Sh (OwnL O C o) (RdL A O) k op := by
  intro op hop
  obtain ⟨e, he, rfl⟩ := Go.Conc.mem_ofEvents hop
  refine ⟨rfl, fun x hx => ?_⟩
  obtain ⟨_, _, h3, h4⟩ := touch_ev (h e he) hx
  by_cases ho : inBk (O k) x.loc
  · exact .inr (.inl (.inl ho))
  · refine .inr (.inr ⟨⟨h3, ho⟩, ?_⟩)
    cases hw : x.write with
    | false => rfl
    | true => exact absurd (h4 hw) ho

theorem kind_evA {A' O' : Bks} (h : ∀ e ∈ es, EvA A' O' e) : ∀ op ∈ MemOp.ofEvents k fn pos es, ∀ x, op.act.touch? = some x → o < op.g → (x.kind = .plain ∧ x.loc.isMemory = true) ∨ Sh x.loc := by
  intro op hop x hx _
  obtain ⟨e, he, rfl⟩ := Go.Conc.mem_ofEvents hop
  have := touch_ev (h e he) hx
  exact .inl ⟨this.1, this.2.1⟩

theorem low_evsA {A' O' : Bks} (h : ∀ e ∈ es, EvA A' O' e) (hA : ∀ b, A' b → b < B') : ∀ op ∈ MemOp.ofEvents k fn pos es, op.act.low B' := by
  intro op hop
  obtain ⟨e, he, rfl⟩ := Go.Conc.mem_ofEvents hop
  exact low_evA (h e he) hA

theorem ok0_evA (hS : Sets F Wg C j B A O) (h : ∀ e ∈ es, EvA (A 0) (O 0) e) : ∀ op ∈ MemOp.ofEvents 0 fn pos es, Ok0 (ShF (FW F Wg)) (OwnL O C o) (RdL A O) j op := by
  intro op hop
  obtain ⟨e, he, rfl⟩ := Go.Conc.mem_ofEvents hop
  refine ⟨rfl, fun x hx => .inr ?_⟩
  obtain ⟨_, _, h3, h4⟩ := touch_ev (h e he) hx
  refine ⟨?_, fun k k1 kj ho => ?_, fun hw k k1 kj hr => ?_⟩
  · rintro ⟨a, e', hF⟩
    rw [e'] at h3
    have := hS.low 0 _ (inBk_cell.1 h3)
    exact hF.elim this.2.2.2 this.2.2.1
  · rcases ho with ho | ⟨_, e'⟩
    · obtain ⟨b, hb, hb'⟩ := inBk_two ho h3
      exact hS.dis k 0 (by omega) b hb hb'
    · rw [e'] at h3
      exact (hS.low 0 _ (inBk_cell.1 h3)).2.1 rfl
  · obtain ⟨b, hb, hb'⟩ := inBk_two (h4 hw) hr.1
    exact hS.dis 0 k (by omega) b hb hb'

/-! the library's bookkeeping -/
theorem touch_bk {e : Event} (h : Bk Wg e) {x : Touch} (hx : (MemAct.ofEvent e).touch? = some x) : x.kind = .atomic ∧ ShF (FW F Wg) x.loc := by
  rcases h with h1 | h1 | ⟨a, wr, rfl, ha⟩
  · rw [ofEvent_loc_mark h1] at hx; cases hx
  · rw [ofEvent_loc_mark h1] at hx; cases hx
  · simp only [ofEvent_cell, MemAct.touch?, Option.some.injEq] at hx
    subst hx
    exact ⟨by simp, a, rfl, .inr ha⟩
theorem low_bk {e : Event} (h : Bk Wg e) (hW : Wg < B') : (MemAct.ofEvent e).low B' := by
  rcases h with h1 | h1 | ⟨a, wr, rfl, ha⟩
  · rw [ofEvent_loc_mark h1]; trivial
  · rw [ofEvent_loc_mark h1]; trivial
  · rw [ofEvent_cell]
    show a.block < B'
    omega
theorem okW_bk {Own Rd : Nat → Loc → Prop} (h : ∀ e ∈ es, Bk Wg e) : ∀ op ∈ MemOp.ofEvents k fn pos es, OkW (ShF (FW F Wg)) Own Rd k op := by
  intro op hop
  obtain ⟨e, he, rfl⟩ := Go.Conc.mem_ofEvents hop
  refine ⟨rfl, fun x hx => ?_⟩
  obtain ⟨h1, h2⟩ := touch_bk (F := F) (h e he) hx
  exact .inl ⟨h2, by rw [h1]; simp, by rw [h1]; simp⟩
theorem ok0_bk {Own Rd : Nat → Loc → Prop} (h : ∀ e ∈ es, Bk Wg e) : ∀ op ∈ MemOp.ofEvents 0 fn pos es, Ok0 (ShF (FW F Wg)) Own Rd j op := by
  intro op hop
  obtain ⟨e, he, rfl⟩ := Go.Conc.mem_ofEvents hop
  refine ⟨rfl, fun x hx => ?_⟩
  obtain ⟨h1, h2⟩ := touch_bk (F := F) (h e he) hx
  exact .inl ⟨h2, by rw [h1]; simp⟩
theorem kind_bk (h : ∀ e ∈ es, Bk Wg e) : ∀ op ∈ MemOp.ofEvents k fn pos es, ∀ x, op.act.touch? = some x → o < op.g → (x.kind = .plain ∧ x.loc.isMemory = true) ∨ ShF (FW F Wg) x.loc := by
  intro op hop x hx _
  obtain ⟨e, he, rfl⟩ := Go.Conc.mem_ofEvents hop
  exact .inr (touch_bk (h e he) hx).2
theorem low_bks (h : ∀ e ∈ es, Bk Wg e) (hW : Wg < B') : ∀ op ∈ MemOp.ofEvents k fn pos es, op.act.low B' := by
  intro op hop
  obtain ⟨e, he, rfl⟩ := Go.Conc.mem_ofEvents hop
  exact low_bk (h e he) hW
end

section
variable [Payload] {P : Program} {ty : TypeId} {Wg C n : Nat} {F : Bks} {o : Nat} {val : Nat → Value} {j : Nat} {A O : Nat → Bks} {gs : Array Goroutine} {w w' : World} {t : Trace} {D : Nat → WD} {d0 : Nat}

theorem Cm.at (h : Cm P ty Wg C n F o val j A O gs w t D d0) (d : Nat) : Cm P ty Wg C n F o val j A O gs (w.at d) t D d0 :=
  ⟨h.size, h.pos, fun i ho hi => let ⟨g, hg, hs⟩ := h.wk i ho hi; ⟨g, hg, hs.rely (RK.at w d)⟩, h.lv, h.ct, h.norel, h.deaf0, h.deafW, h.rel, h.has, h.pay, h.sets, h.low, h.oldK, h.oldH, h.kind⟩

omit [Payload] in
theorem quitsD_woken {q d : Nat} {g : Goroutine} (h : QuitsD P q d g) (a a' : Goroutine) (w : World) : woken P a a' w g = g := woken_quitsD h ..

/-- A STEP OF A WORKER's. -/
theorem Cm.stepW (h : Cm P ty Wg C n F o val j A O gs w t D d0) {i : Nat} (hoi : o ≤ i) (hi : i < j) {g g' : Goroutine} {fn : FuncId} {pos : String} {es : Array Event} {s' m' dd' : Nat} {A' O' : Bks}
    (hz : w.heap.size ≤ w'.heap.size) (nA : ∀ b, A' b → A (i + 1) b ∨ (w.heap.size ≤ b ∧ b < w'.heap.size)) (nO : ∀ b, O' b → O (i + 1) b ∨ (w.heap.size ≤ b ∧ b < w'.heap.size)) (uA : ∀ b, A (i + 1) b → A' b) (uO : ∀ b, O (i + 1) b → O' b)
    (sub : (∀ b, O (i + 1) b → A (i + 1) b) → ∀ b, O' b → A' b)
    (hrk : ∀ i', o ≤ i' → i' < j → i' ≠ i → RK ty Wg C n (i' - o) (A (i' + 1)) w w')
    (hs' : WS P ty Wg C n (i - o) (val (i - o)) A' O' s' m' dd' g' w')
    (hok : ∀ op ∈ MemOp.ofEvents (i + 1) fn pos es, OkW (ShF (FW F Wg)) (OwnL (upd O (i + 1) O') C o) (RdL (upd A (i + 1) A') (upd O (i + 1) O')) (i + 1) op)
    (hlow : ∀ op ∈ MemOp.ofEvents (i + 1) fn pos es, op.act.low w'.heap.size)
    (hkind : ∀ op ∈ MemOp.ofEvents (i + 1) fn pos es, ∀ x, op.act.touch? = some x → o < op.g → (x.kind = .plain ∧ x.loc.isMemory = true) ∨ ShF (FW F Wg) x.loc)
    (hnr : ∀ e ∈ es, e.loc ≠ .mark (.release (stA Wg)))
    (hdeaf : deafBehind (D i).deaf es = dd')
    (hrel : s' ≤ 6 → ∃ r, RelBy (stA Wg) (t ++ MemOp.ofEvents (i + 1) fn pos es) (i + 1) r)
    (hhas : s' ≤ 6 → Has C (i - o) (val (i - o)) w') (hpay : PayAt C n w') :
    Cm P ty Wg C n F o val j (upd A (i + 1) A') (upd O (i + 1) O') ((gs.map (woken P g g' w')).setIfInBounds (i + 1) g') w' (t ++ MemOp.ofEvents (i + 1) fn pos es) (upd D i ⟨s', m', dd'⟩) d0 := by
  have hS := h.sets.grow hz (k := i + 1) (by omega) nA nO sub
  refine ⟨by simp [h.size], h.pos, fun i' ho' hi' => ?_, fun i' hi' => ?_, (ct_grow h.ct h.low nA nO uA uO).appW hS.apart (by omega) (by omega) hok, h.norel.app (norel_of hnr), by rw [Deaf_other t (by omega) _ g_of_ofEvents, h.deaf0], fun i' hi' => ?_, fun i' ho' hi' hst => ?_, fun i' ho' hi' hst => ?_, hpay, hS,
    fun op hop => (Array.mem_append.1 hop).elim (fun x => MemAct.low_mono hz (h.low op x)) (hlow op),
    oldK_app h.oldK (fun op hop => .inr (.inl (by rw [g_of_ofEvents op hop]; omega))), oldH_app h.oldH (fun op hop => .inr (.inl (by rw [g_of_ofEvents op hop]; omega))), kind_app h.kind hkind⟩
  · by_cases e : i' = i
    · subst e
      exact ⟨g', get_map_set_same _ _ _ (by rw [h.size]; omega), by rw [upd_same, upd_same, upd_same]; exact hs'⟩
    · obtain ⟨x, hx, hsx⟩ := h.wk i' ho' hi'
      refine ⟨x, by rw [get_map_set _ _ _ _ (by omega), hx, Option.map_some, hsx.woken], ?_⟩
      rw [upd_ne D _ e, upd_ne A _ (by omega), upd_ne O _ (by omega)]
      exact hsx.rely (hrk i' ho' hi' e)
  · obtain ⟨x, hx, hst, hq⟩ := h.lv i' hi'
    refine ⟨x, by rw [get_map_set _ _ _ _ (by omega), hx, Option.map_some, quitsD_woken hq], ?_⟩
    rw [upd_ne D _ (by omega)]
    exact ⟨hst, hq⟩
  · by_cases e : i' = i
    · subst e; rw [Deaf_own, h.deafW i' hi', upd_same]; exact hdeaf
    · rw [Deaf_other t (by omega) _ g_of_ofEvents, h.deafW i' hi', upd_ne D _ e]
  · by_cases e : i' = i
    · subst e; rw [upd_same] at hst; exact hrel hst
    · rw [upd_ne D _ e] at hst
      obtain ⟨r, hr⟩ := h.rel i' ho' hi' hst
      exact ⟨r, hr.appOther g_of_ofEvents (by omega)⟩
  · by_cases e : i' = i
    · subst e; rw [upd_same] at hst; exact hhas hst
    · rw [upd_ne D _ e] at hst
      exact (hrk i' ho' hi' e).cell.trans (h.has i' ho' hi' hst)

/-- A STEP OF A GOROUTINE's THAT LEAVES FROM BEFORE. -/
theorem Cm.stepL (h : Cm P ty Wg C n F o val j A O gs w t D d0) {i : Nat} (hi : i < o) {g g' : Goroutine} {fn : FuncId} {pos : String} {es : Array Event} {q : Nat}
    (hm : ∀ e ∈ es, e.mute = true) (hq : QuitsD P q (deafBehind (D i).deaf es) g') :
    Cm P ty Wg C n F o val j A O ((gs.map (woken P g g' w)).setIfInBounds (i + 1) g') w (t ++ MemOp.ofEvents (i + 1) fn pos es) (upd D i ⟨1, q, deafBehind (D i).deaf es⟩) d0 := by
  have hpos := h.pos
  have ht : ∀ op ∈ MemOp.ofEvents (i + 1) fn pos es, op.act.touch? = none := fun op hop => by
    obtain ⟨e, he, rfl⟩ := Go.Conc.mem_ofEvents hop
    exact touch_mute (hm e he)
  refine ⟨by simp [h.size], h.pos, fun i' ho' hi' => ?_, fun i' hi' => ?_, h.ct.appW h.sets.apart (by omega) (by omega) (fun op hop => ⟨g_of_ofEvents op hop, fun x hx => by rw [ht op hop] at hx; cases hx⟩), h.norel.app (norel_of fun e he hl => ?_), by rw [Deaf_other t (by omega) _ g_of_ofEvents, h.deaf0], fun i' hi' => ?_, fun i' ho' hi' hst => ?_, fun i' ho' hi' hst => ?_, h.pay, h.sets,
    fun op hop => (Array.mem_append.1 hop).elim (h.low op) (fun x => by obtain ⟨e, he, rfl⟩ := Go.Conc.mem_ofEvents x; exact low_mute (hm e he) _),
    oldK_app h.oldK (fun op hop => .inr (.inr (ht op hop))), oldH_app h.oldH (fun op hop => .inr (.inr (ht op hop))), kind_app h.kind (fun op hop x hx _ => by rw [ht op hop] at hx; cases hx)⟩
  · obtain ⟨x, hx, hsx⟩ := h.wk i' ho' hi'
    refine ⟨x, by rw [get_map_set _ _ _ _ (by omega), hx, Option.map_some, hsx.woken], ?_⟩
    rw [upd_ne D _ (by omega)]
    exact hsx
  · by_cases e : i' = i
    · subst e
      exact ⟨g', get_map_set_same _ _ _ (by rw [h.size]; omega), by rw [upd_same], by rw [upd_same]; exact hq⟩
    · obtain ⟨x, hx, hst, hq'⟩ := h.lv i' hi'
      refine ⟨x, by rw [get_map_set _ _ _ _ (by omega), hx, Option.map_some, quitsD_woken hq'], ?_⟩
      rw [upd_ne D _ e]
      exact ⟨hst, hq'⟩
  · have := hm e he
    obtain ⟨loc, wr, sy⟩ := e
    obtain rfl : loc = _ := hl
    simp [Event.mute] at this
  · by_cases e : i' = i
    · subst e; rw [Deaf_own, h.deafW i' hi', upd_same]
    · rw [Deaf_other t (by omega) _ g_of_ofEvents, h.deafW i' hi', upd_ne D _ e]
  · rw [upd_ne D _ (by omega)] at hst
    obtain ⟨r, hr⟩ := h.rel i' ho' hi' hst
    exact ⟨r, hr.appOther g_of_ofEvents (by omega)⟩
  · rw [upd_ne D _ (by omega)] at hst
    exact h.has i' ho' hi' hst

/-- A STEP OF THE STARTER's. -/
theorem Cm.step0 (h : Cm P ty Wg C n F o val j A O gs w t D d0) {a a' : Goroutine} {fn : FuncId} {pos : String} {es : Array Event} {A' O' : Bks}
    (hz : w.heap.size ≤ w'.heap.size) (nA : ∀ b, A' b → A 0 b ∨ (w.heap.size ≤ b ∧ b < w'.heap.size)) (nO : ∀ b, O' b → O 0 b ∨ (w.heap.size ≤ b ∧ b < w'.heap.size)) (uA : ∀ b, A 0 b → A' b) (uO : ∀ b, O 0 b → O' b)
    (sub : (∀ b, O 0 b → A 0 b) → ∀ b, O' b → A' b)
    (hrk : ∀ i', o ≤ i' → i' < j → RK ty Wg C n (i' - o) (A (i' + 1)) w w')
    (hok : ∀ op ∈ MemOp.ofEvents 0 fn pos es, Ok0 (ShF (FW F Wg)) (OwnL (upd O 0 O') C o) (RdL (upd A 0 A') (upd O 0 O')) j op)
    (hlow : ∀ op ∈ MemOp.ofEvents 0 fn pos es, op.act.low w'.heap.size)
    (hnr : ∀ e ∈ es, e.loc ≠ .mark (.release (stA Wg))) (hpay : PayAt C n w') :
    Cm P ty Wg C n F o val j (upd A 0 A') (upd O 0 O') ((gs.map (woken P a a' w')).setIfInBounds 0 a') w' (t ++ MemOp.ofEvents 0 fn pos es) D (deafBehind d0 es) := by
  have hS := h.sets.grow hz (k := 0) (by omega) nA nO sub
  refine ⟨by simp [h.size], h.pos, fun i' ho' hi' => ?_, fun i' hi' => ?_, (ct_grow h.ct h.low nA nO uA uO).app0 hS.apart hok, h.norel.app (norel_of hnr), by rw [Deaf_own, h.deaf0], fun i' hi' => by rw [Deaf_other t (by omega) _ g_of_ofEvents, h.deafW i' hi'], fun i' ho' hi' hst => ?_, fun i' ho' hi' hst => (hrk i' ho' hi').cell.trans (h.has i' ho' hi' hst), hpay, hS,
    fun op hop => (Array.mem_append.1 hop).elim (fun x => MemAct.low_mono hz (h.low op x)) (hlow op),
    oldK_app h.oldK (fun op hop => .inl (g_of_ofEvents op hop)), oldH_app h.oldH (fun op hop => .inl (g_of_ofEvents op hop)), kind_app h.kind (fun op hop x hx ho => by rw [g_of_ofEvents op hop] at ho; omega)⟩
  · obtain ⟨x, hx, hsx⟩ := h.wk i' ho' hi'
    refine ⟨x, by rw [get_map_set _ _ _ _ (by omega), hx, Option.map_some, hsx.woken], ?_⟩
    rw [upd_ne A _ (by omega), upd_ne O _ (by omega)]
    exact hsx.rely (hrk i' ho' hi')
  · obtain ⟨x, hx, hst, hq⟩ := h.lv i' hi'
    exact ⟨x, by rw [get_map_set _ _ _ _ (by omega), hx, Option.map_some, quitsD_woken hq], hst, hq⟩
  · obtain ⟨r, hr⟩ := h.rel i' ho' hi' hst
    exact ⟨r, hr.appOther g_of_ofEvents (by omega)⟩

/-- THE go STATEMENT. -/
theorem Cm.spawn (h : Cm P ty Wg C n F o val j A O gs w t D 0) {a' child : Goroutine} {x y : MemOp} {m : Nat} {A1 : Bks} (hx : x.g = 0 ∧ x.act = .go (j + 1)) (hy : y.g = j + 1 ∧ y.act = .start) (hA1 : ∀ b, A1 b → A 0 b)
    (hc : Works P ty Wg C n (j - o) (val (j - o)) m A1 (fun _ => False) child w) :
    Cm P ty Wg C n F o val (j + 1) (upd A (j + 1) A1) (upd (upd O 0 fun _ => False) (j + 1) fun _ => False) ((gs.setIfInBounds 0 a').push child) w (t ++ #[x, y]) (upd D j ⟨7, m, 0⟩) 0 := by
  have hpos := h.pos
  have hm : ∀ op ∈ #[x, y], op = x ∨ op = y := by intro op hop; simpa using hop
  have hst : ∀ op ∈ #[x, y], op.act ≠ .mark .disable ∧ op.act ≠ .mark .enable := by
    intro op hop
    rcases hm op hop with rfl | rfl
    · rw [hx.2]; exact ⟨by simp, by simp⟩
    · rw [hy.2]; exact ⟨by simp, by simp⟩
  have ht : ∀ op ∈ #[x, y], op.act.touch? = none := by
    intro op hop
    rcases hm op hop with rfl | rfl
    · rw [hx.2]; rfl
    · rw [hy.2]; rfl
  have hS : Sets F Wg C (j + 1) w.heap.size (upd A (j + 1) A1) (upd (upd O 0 fun _ => False) (j + 1) fun _ => False) := by
    refine ⟨fun k b hb => ?_, fun k b hb => ?_, fun k k' hk b hb hb' => ?_, fun k hk b hb => ?_, h.sets.hC, h.sets.hW, h.sets.hF⟩
    · by_cases e : k = j + 1
      · subst e; rw [upd_same] at hb; exact h.sets.low 0 b (hA1 b hb)
      · rw [upd_ne A _ e] at hb; exact h.sets.low k b hb
    · by_cases e : k = j + 1
      · subst e; rw [upd_same] at hb; exact hb.elim
      · rw [upd_ne _ _ e] at hb
        by_cases e0 : k = 0
        · subst e0; rw [upd_same] at hb; exact hb.elim
        · rw [upd_ne _ _ e0] at hb; rw [upd_ne A _ e]; exact h.sets.sub k b hb
    · by_cases e : k = j + 1
      · subst e; rw [upd_same] at hb; exact hb.elim
      · rw [upd_ne _ _ e] at hb
        by_cases e0 : k = 0
        · subst e0; rw [upd_same] at hb; exact hb.elim
        · rw [upd_ne _ _ e0] at hb
          by_cases e' : k' = j + 1
          · subst e'; rw [upd_same] at hb'; exact h.sets.dis k 0 e0 b hb (hA1 b hb')
          · rw [upd_ne A _ e'] at hb'; exact h.sets.dis k k' hk b hb hb'
    · rw [upd_ne A _ (by omega)] at hb
      exact h.sets.fin k (by omega) b hb
  have hct : CT (ShF (FW F Wg)) (OwnL (upd (upd O 0 fun _ => False) (j + 1) fun _ => False) C o) (RdL (upd A (j + 1) A1) (upd (upd O 0 fun _ => False) (j + 1) fun _ => False)) t j := by
    have e1 : ∀ k, 1 ≤ k → k ≤ j → (upd (upd O 0 fun _ => False) (j + 1) fun _ => False) k = O k := fun k k1 kj => by rw [upd_ne _ _ (by omega), upd_ne _ _ (by omega)]
    have e2 : ∀ k, k ≤ j → (upd A (j + 1) A1) k = A k := fun k kj => by rw [upd_ne _ _ (by omega)]
    refine ct_regrow h.ct (fun k k1 kj l hl => .inl ?_) (fun k k1 kj l hl => .inl ?_) (fun k k1 kj l hl => ?_) (fun k k1 kj l hl => .inr ?_)
    · unfold OwnL at hl ⊢; rw [e1 k k1 kj] at hl; exact hl
    · unfold RdL at hl ⊢; rw [e1 k k1 kj, e2 k kj] at hl; exact hl
    · unfold OwnL at hl ⊢; rw [e1 k k1 kj]; exact hl
    · unfold RdL at hl ⊢; rw [e1 k k1 kj, e2 k kj]; exact hl
  refine ⟨by simp [h.size], by omega, fun i ho hi => ?_, fun i hi => ?_, hct.fork hS.apart hx hy h.deaf0, h.norel.app fun op hop => ?_, by rw [Deaf_still t 0 _ hst, h.deaf0], fun i hi => ?_, fun i ho hi hs => ?_, fun i ho hi hs => ?_, h.pay, hS,
    fun op hop => (Array.mem_append.1 hop).elim (h.low op) (fun z => by rcases hm op z with rfl | rfl; (rw [hx.2]; trivial); (rw [hy.2]; trivial)),
    oldK_app h.oldK (fun op hop => .inr (.inr (ht op hop))), oldH_app h.oldH (fun op hop => .inr (.inr (ht op hop))), kind_app h.kind (fun op hop z hz _ => by rw [ht op hop] at hz; cases hz)⟩
  · rcases Nat.lt_or_ge i j with hlt | hge
    · obtain ⟨g, hg, hsg⟩ := h.wk i ho hlt
      refine ⟨g, ?_, by rw [upd_ne D _ (by omega), upd_ne A _ (by omega), upd_ne _ _ (by omega), upd_ne _ _ (by omega)]; exact hsg⟩
      rw [Array.getElem?_push_lt (by simp [h.size]; omega), ← Array.getElem?_eq_getElem, Array.getElem?_setIfInBounds_ne (by omega)]
      exact hg
    · obtain rfl : i = j := by omega
      refine ⟨child, ?_, by rw [upd_same, upd_same, upd_same]; exact .wk hc⟩
      have : ((gs.setIfInBounds 0 a').push child).size = i + 1 + 1 := by simp [h.size]
      rw [show i + 1 = (gs.setIfInBounds 0 a').size by simp [h.size], Array.getElem?_push_size]
  · obtain ⟨g, hg, hsg, hq⟩ := h.lv i hi
    refine ⟨g, ?_, by rw [upd_ne D _ (by omega)]; exact ⟨hsg, hq⟩⟩
    rw [Array.getElem?_push_lt (by simp [h.size]; omega), ← Array.getElem?_eq_getElem, Array.getElem?_setIfInBounds_ne (by omega)]
    exact hg
  · rcases hm op hop with rfl | rfl
    · rw [hx.2]; simp
    · rw [hy.2]; simp
  · rw [Deaf_still t _ _ hst]
    rcases Nat.lt_or_ge i j with hlt | hge
    · rw [h.deafW i hlt, upd_ne D _ (by omega)]
    · obtain rfl : i = j := by omega
      rw [upd_same]
      exact Deaf_absent fun a op ha e => by have := h.ct.gs a op ha; omega
  · rcases Nat.lt_or_ge i j with hlt | hge
    · rw [upd_ne D _ (by omega)] at hs
      obtain ⟨r, hr⟩ := h.rel i ho hlt hs
      refine ⟨r, hr.appNot fun op hop => ?_⟩
      rcases hm op hop with rfl | rfl
      · rw [hx.1]; omega
      · rw [hy.1]; omega
    · obtain rfl : i = j := by omega
      rw [upd_same] at hs
      simp at hs
  · rcases Nat.lt_or_ge i j with hlt | hge
    · rw [upd_ne D _ (by omega)] at hs
      exact h.has i ho hlt hs
    · obtain rfl : i = j := by omega
      rw [upd_same] at hs
      simp at hs
end
end Go.Proofs.Ytajheicheefpeaa

/- The invariant of a starter and its workers; every step of a worker's keeps it. -/
namespace Go.Proofs.Ytajheicheefpeaa
open Go.Conc
open Go.ConcN (WgLive PayAt Has Full RW WSit AtR0 CTag WD CT Apart Ok0 OkW PermW RelBy AsideCell sumTo upd upd_ne upd_same sumTo_upd get_map_set get_map_set_same norel_of Deaf_absent Deaf_still
  OpenSt AllQuit isOpen isW3 isFin phi pend cnt Vc Ssum Fsum phi_mono phi_retag Vc_upd Vc_le others_uncounted deafBehind_idle bk_cell cell_of_block)
open Go.ConcR (KK wgBlock WgAt stA smA rd wr mk Payload DC0 Bk g_of_ofEvents loc_of_ofEvent ofEvent_loc_mark ofEvent_cell bk_of_mute)
set_option linter.unusedSimpArgs false
set_option linter.unusedVariables false

section
variable [Payload] {P : Program} {ty : TypeId} {Wg C n c : Nat} {v : Value} {j : Nat} {w : World} {D : Nat → WD} {tag : CTag} {st sm : Int} {i : Nat} {g : Goroutine}

/-- One step of a worker's inside the library. -/
structure LibStep (P : Program) [Payload] (ty : TypeId) (Wg C n c : Nat) (v : Value) (j : Nat) (D : Nat → WD) (tag : CTag) (i : Nat) (g : Goroutine) (w : World) : Type where
  g' : Goroutine
  w' : World
  es : Array Event
  s' : Nat
  m' : Nat
  dd' : Nat
  st' : Int
  sm' : Int
  go : stepG P false g w = .go g' w' es
  aside : Aside Wg w w'
  wg : WgAt ty Wg w' st' sm'
  bk : ∀ e ∈ es, Bk Wg e
  deaf : ∀ jx e, es[jx]? = some e → (MemAct.ofEvent e).touch? = none ∨ 0 < deafBehind (D i).deaf (es.extract 0 jx)
  sit : WSit P ty Wg C n Rd0 Rd0 0 (c + 1) v s' m' dd' g' w'
  s6 : s' ≤ 6
  deaf' : deafBehind (D i).deaf es = dd'
  mode : ∀ tag', (tag' = tag ∨ (tag = .blk ∧ tag' = .w3)) → (mayWake P g = true → g'.status = .running → tag' ≠ .blk) → ConcN.Mode j (upd D i ⟨s', m', dd'⟩) tag' st' sm'
  less : (s' < (D i).stage ∧ cnt ⟨s', m', dd'⟩ ≤ cnt (D i)) ∨ (s' = (D i).stage ∧ m' + 1 = (D i).fuel)

omit [Payload] in
theorem deaf_one {d : Nat} {e : Event} {es : Array Event} (h : es = #[e]) (hd : (MemAct.ofEvent e).touch? = none ∨ 0 < d) : ∀ jx x, es[jx]? = some x → (MemAct.ofEvent x).touch? = none ∨ 0 < deafBehind d (es.extract 0 jx) := by
  subst h
  intro jx x hx
  match jx, hx with
  | 0, hx => simp at hx; subst hx; exact hd.imp id (fun h => by simpa [deafBehind] using h)
  | jx + 1, hx => simp at hx

set_option maxHeartbeats 1600000 in
theorem lib_step (hi : i < j) (hj : j < 2147483648) (hpend : Vc j D + pend tag ≤ 2147483647) (hs : WSit P ty Wg C n Rd0 Rd0 0 (c + 1) v (D i).stage (D i).fuel (D i).deaf g w) (h6 : (D i).stage ≤ 6) (hwg : WgAt ty Wg w st sm) (hmode : ConcN.Mode j D tag st sm) (hrun : g.status = .running) :
    Nonempty (LibStep P ty Wg C n c v j D tag i g w) := by
  generalize hst : (D i).stage = s at hs
  generalize hfu : (D i).fuel = m at hs
  generalize hde : (D i).deaf = dd at hs
  have hVj := Vc_le j D
  have idle : ∀ {g' : Goroutine} {m' : Nat}, stepG P false g w = .go g' w #[] → WSit P ty Wg C n Rd0 Rd0 0 (c + 1) v s m' dd g' w → m' + 1 = m → Nonempty (LibStep P ty Wg C n c v j D tag i g w) := fun {g' m'} hgo hs' hm =>
    ⟨⟨g', w, #[], s, m', dd, st, sm, hgo, .refl Wg w, hwg, by simp, by simp, hs', by omega, by rw [hde]; rfl, fun _ ht _ => ConcN.Mode.retag (by have := hmode.same (i := i) m' dd; rwa [hst] at this) ht, .inr ⟨hst.symm, by omega⟩⟩⟩
  have cnt0 : ∀ q, cnt (⟨1, q, 1⟩ : WD) = 0 := fun _ => rfl
  have opq : ∀ q, OpenSt j D → OpenSt j (upd D i ⟨1, q, 1⟩) := fun q h a ha => by
    by_cases e : a = i
    · subst e; rw [upd_same]; simp
    · rw [upd_ne D _ e]; exact h a ha
  cases hs with
  | r0 h => omega
  | k1 h =>
    rcases Goes.cases h with hstop | ⟨m', rfl, hstep⟩
    · obtain ⟨_, g', hgo, m₂, hk⟩ := hstop w (Go.ConcN.RW.refl w)
      exact ⟨⟨g', w, _, 5, m₂, 1, st, sm, hgo, .refl Wg w, hwg, by intro e he; simp at he; subst he; exact .inl rfl, deaf_one rfl (.inl rfl), .d1 hk, by omega, by rw [hde]; rfl,
        fun _ ht _ => (hmode.counted hi (by omega) (.inr rfl) _ _).retag ht, .inl ⟨by omega, by simp [cnt, hst]⟩⟩⟩
    · obtain ⟨g', w', es, hgo, ⟨rfl, rfl⟩, hg'⟩ := hstep w (Go.ConcN.RW.refl w)
      exact idle hgo (.k1 hg') rfl
  | d1 h =>
    rcases Goes.cases h with hstop | ⟨m', rfl, hstep⟩
    · obtain ⟨_, hall⟩ := hstop w (Go.ConcN.RW.refl w)
      have hc1 : cnt (D i) = 1 := by simp [cnt, hst]
      have hV1 : 1 ≤ Vc j D := by have := Go.ConcN.le_sumTo (f := fun x => cnt (D x)) hi; simp only [Vc]; omega
      have bk2 : ∀ e ∈ #[rd (stA Wg), wr (stA Wg)], Bk Wg e := by intro e he; simp at he; rcases he with rfl | rfl <;> exact bk_cell _ _ rfl
      have df2 : ∀ jx e, (#[rd (stA Wg), wr (stA Wg)] : Array Event)[jx]? = some e → (MemAct.ofEvent e).touch? = none ∨ 0 < deafBehind (D i).deaf ((#[rd (stA Wg), wr (stA Wg)] : Array Event).extract 0 jx) := by
        rw [hde]
        intro jx e he
        match jx, he with
        | 0, _ => exact .inr (by simp [deafBehind])
        | 1, _ => exact .inr (by simp [deafBehind, rd])
        | jx + 2, he => simp at he
      -- it is not the last one
      have gone : ∀ (x : Nat) (wt : Nat) (g' : Goroutine) (q : Nat), stepG P false g w = .go g' (w.setCell (stA Wg) (.int .u64 (x * KK + wt))) #[rd (stA Wg), wr (stA Wg)] → WgAt ty Wg (w.setCell (stA Wg) (.int .u64 (x * KK + wt))) (x * KK + wt) 0 → QuitsD P q 1 g' →
          ConcN.Mode j (upd D i ⟨1, q, 1⟩) tag ((x : Int) * KK + wt) 0 → Nonempty (LibStep P ty Wg C n c v j D tag i g w) := fun x wt g' q hgo hw' hq hm' =>
        ⟨⟨g', _, _, 1, q, 1, _, _, hgo, aside_setCell w (stA Wg) _, hw', bk2, df2, .quit hq, by omega, by rw [hde]; rfl, fun _ ht _ => hm'.retag ht, .inl ⟨by omega, by simp [cnt]⟩⟩⟩
      cases hmode with
      | opn h1 h2 h3 =>
        obtain ⟨x, hx⟩ : ∃ x, Vc j D + pend tag = x + 1 := ⟨Vc j D + pend tag - 1, by omega⟩
        rw [hx] at hwg
        have hw1 : WgAt ty Wg w (((x : Nat) + 1) * KK + ((0 : Nat) : Int)) 0 := by simpa using hwg
        obtain ⟨g', hgo, _, hq⟩ := hall x 0 (by omega) (by omega) hw1
        obtain ⟨q, hq⟩ := hq (by omega)
        have hv' : Vc j (upd D i ⟨1, q, 1⟩) + pend tag = x := by have := Vc_upd D (⟨1, q, 1⟩ : WD) hi; have := cnt0 q; omega
        refine gone x 0 g' q hgo (hwg.setSt _) hq ?_
        have e : ((x : Nat) : Int) * KK + ((0 : Nat) : Int) = ((Vc j (upd D i ⟨1, q, 1⟩) + pend tag : Nat) : Int) * KK := by rw [hv']; simp
        rw [e]
        exact .opn h1 (opq q h2) (fun vs ev => by have := h3 vs ev; omega)
      | reg h1 h2 h3 =>
        obtain ⟨x, hx⟩ : ∃ x, Vc j D = x + 1 := ⟨Vc j D - 1, by omega⟩
        rw [hx] at hwg
        have hw1 : WgAt ty Wg w (((x : Nat) + 1) * KK + ((1 : Nat) : Int)) 0 := by simpa using hwg
        obtain ⟨g', hgo, hl, hq⟩ := hall x 1 (by omega) (by omega) hw1
        by_cases hx0 : x = 0
        · subst hx0
          obtain ⟨m₂, hk⟩ := hl ⟨rfl, rfl⟩
          refine ⟨⟨g', _, _, 4, m₂, 1, _, _, hgo, aside_setCell w (stA Wg) _, hwg.setSt _, bk2, df2, .d2 hk, by omega, by rw [hde]; rfl, fun _ ht _ => ConcN.Mode.retag ?_ ht, .inl ⟨by omega, by simp [cnt]⟩⟩⟩
          have hoth : ∀ a, a < j → a ≠ i → (D a).stage = 1 := fun a ha e => by
            have c0 := others_uncounted hi hx hc1 a ha e
            have := h2 a ha
            simp only [cnt] at c0
            split at c0 <;> omega
          have := ConcN.Mode.last (j := j) (D := upd D i ⟨4, m₂, 1⟩) (tag := tag) i h1 hi (by rw [upd_same]; simp) (fun a ha e => by rw [upd_ne D _ e]; exact hoth a ha e)
          rw [upd_same] at this
          simpa using this
        · obtain ⟨q, hq⟩ := hq (by omega)
          have hv' : Vc j (upd D i ⟨1, q, 1⟩) = x := by have := Vc_upd D (⟨1, q, 1⟩ : WD) hi; have := cnt0 q; omega
          refine gone x 1 g' q hgo (hwg.setSt _) hq ?_
          have e : ((x : Nat) : Int) * KK + ((1 : Nat) : Int) = ((Vc j (upd D i ⟨1, q, 1⟩) : Nat) : Int) * KK + 1 := by rw [hv']; simp
          rw [e]
          exact .reg h1 (opq q h2) (by omega)
      | last L _ h2 h3 h4 =>
        by_cases e : i = L
        · subst e; omega
        · have := h4 i hi e; omega
      | sema h2 => have := h2 i hi; omega
      | fin _ h2 => have := h2 i hi; omega
    · obtain ⟨g', w', es, hgo, ⟨rfl, rfl⟩, hg'⟩ := hstep w (Go.ConcN.RW.refl w)
      exact idle hgo (.d1 hg') rfl
  | d2 h =>
    rcases Goes.cases h with hstop | ⟨m', rfl, hstep⟩
    · obtain ⟨_, hx⟩ := hstop w (Go.ConcN.RW.refl w)
      obtain ⟨hW3, hoth, rfl, rfl⟩ := hmode.isLast hi (by omega)
      simp only [hst] at hwg
      obtain ⟨g', hgo, m₂, hk⟩ := hx (by simpa using hwg)
      refine ⟨⟨g', _, _, 3, m₂, 1, _, _, hgo, .refl Wg w, hwg, by intro e he; simp at he; subst he; exact bk_cell _ _ rfl, deaf_one rfl (.inr (by omega)), .d3 hk, by omega, by rw [hde]; rfl, fun _ ht _ => ConcN.Mode.retag ?_ ht, .inl ⟨by omega, by simp [cnt]⟩⟩⟩
      have := ConcN.Mode.last (j := j) (D := upd D i ⟨3, m₂, 1⟩) (tag := tag) i hW3 hi (by rw [upd_same]; simp) (fun a ha e => by rw [upd_ne D _ e]; exact hoth a ha e)
      rw [upd_same] at this
      simpa using this
    · obtain ⟨g', w', es, hgo, ⟨rfl, rfl⟩, hg'⟩ := hstep w (Go.ConcN.RW.refl w)
      exact idle hgo (.d2 hg') rfl
  | d3 h =>
    rcases Goes.cases h with hstop | ⟨m', rfl, hstep⟩
    · obtain ⟨_, hx⟩ := hstop w (Go.ConcN.RW.refl w)
      obtain ⟨hW3, hoth, rfl, rfl⟩ := hmode.isLast hi (by omega)
      simp only [hst] at hwg
      obtain ⟨g', hgo, m₂, hk⟩ := hx (by simpa using hwg)
      refine ⟨⟨g', _, _, 2, m₂, 1, _, _, hgo, aside_setCell w (stA Wg) _, hwg.setSt 0, by intro e he; simp at he; subst he; exact bk_cell _ _ rfl, deaf_one rfl (.inr (by omega)), .d4 hk, by omega, by rw [hde]; rfl, fun _ ht _ => ConcN.Mode.retag ?_ ht, .inl ⟨by omega, by simp [cnt]⟩⟩⟩
      have := ConcN.Mode.last (j := j) (D := upd D i ⟨2, m₂, 1⟩) (tag := tag) i hW3 hi (by rw [upd_same]; simp) (fun a ha e => by rw [upd_ne D _ e]; exact hoth a ha e)
      rw [upd_same] at this
      simpa using this
    · obtain ⟨g', w', es, hgo, ⟨rfl, rfl⟩, hg'⟩ := hstep w (Go.ConcN.RW.refl w)
      exact idle hgo (.d3 hg') rfl
  | d4 h =>
    rcases Goes.cases h with hstop | ⟨m', rfl, hstep⟩
    · obtain ⟨_, hmw, hx⟩ := hstop w (Go.ConcN.RW.refl w)
      obtain ⟨hW3, hoth, rfl, rfl⟩ := hmode.isLast hi (by omega)
      simp only [hst] at hwg
      obtain ⟨g', hgo, q, hq⟩ := hx (by simpa using hwg)
      have hrun' : g'.status = .running := by
        cases q with
        | zero => exact absurd hq.2 (by decide)
        | succ q => exact hq.elim (fun x => absurd x.2 (by decide)) (fun x => x.1)
      refine ⟨⟨g', _, semEvents (smA Wg), 1, q, 1, _, _, hgo, aside_setCell w (smA Wg) _, hwg.setSm 1, ?_, ?_, .quit hq, by omega, by rw [hde]; simp [deafBehind, semEvents], fun tag' ht hw => ?_, .inl ⟨by omega, by simp [cnt]⟩⟩⟩
      · intro e he
        simp [semEvents] at he
        rcases he with rfl | rfl | rfl | rfl
        · exact .inl rfl
        · exact bk_cell _ _ rfl
        · exact bk_cell _ _ rfl
        · exact .inr (.inl rfl)
      · rw [hde]
        intro jx e he
        match jx, he with
        | 0, he => simp [semEvents] at he; subst he; exact .inl rfl
        | 1, _ => exact .inr (by simp [deafBehind, semEvents])
        | 2, _ => exact .inr (by simp [deafBehind, semEvents])
        | 3, he => simp [semEvents] at he; subst he; exact .inl rfl
        | jx + 4, he => simp [semEvents] at he
      · have hnb := hw hmw hrun'
        have e3 : tag' = .w3 := by
          rcases ht with rfl | ⟨_, rfl⟩
          · cases tag' <;> first | rfl | exact hW3.elim | exact absurd rfl hnb
          · rfl
        subst e3
        simp only [if_true]
        exact .sema fun a ha => by
          by_cases e : a = i
          · subst e; rw [upd_same]
          · rw [upd_ne D _ e]; exact hoth a ha e
    · obtain ⟨g', w', es, hgo, ⟨rfl, rfl⟩, hg'⟩ := hstep w (Go.ConcN.RW.refl w)
      exact idle hgo (.d4 hg') rfl
  | quit h =>
    cases m with
    | zero => rw [h.1] at hrun; cases hrun
    | succ q =>
      rcases h with ⟨hf, _⟩ | ⟨_, g', es, hmute, hstep, hq⟩
      · rw [hf] at hrun; cases hrun
      · refine ⟨⟨g', w, es, 1, q, deafBehind dd es, st, sm, hstep w, .refl Wg w, hwg, fun e he => bk_of_mute (hmute e he), fun jx e he => .inl (touch_mute (hmute e (Array.mem_of_getElem? he))), .quit hq, by omega, by rw [hde], fun _ ht _ => ConcN.Mode.retag ?_ ht, .inr ⟨hst.symm, by omega⟩⟩⟩
        have := hmode.same (i := i) q (deafBehind dd es)
        rwa [hst] at this
end
end Go.Proofs.Ytajheicheefpeaa

/- The invariant of a starter and its workers; every step of a worker's keeps it. -/
namespace Go.Proofs.Ytajheicheefpeaa
open Go.Conc
open Go.ConcN (WgLive PayAt Has Full RW WSit AtR0 CTag WD CT Apart Ok0 OkW PermW RelBy AsideCell sumTo upd upd_ne upd_same sumTo_upd get_map_set get_map_set_same norel_of Deaf_absent Deaf_still
  OpenSt AllQuit isOpen isW3 isFin phi pend cnt Vc Ssum Fsum phi_mono phi_retag Vc_upd Vc_le others_uncounted deafBehind_idle bk_cell cell_of_block norel_of_Bk)
open Go.ConcR (KK wgBlock WgAt stA smA rd wr mk Payload DC0 Bk g_of_ofEvents loc_of_ofEvent ofEvent_loc_mark ofEvent_cell bk_of_mute)
set_option linter.unusedSimpArgs false
set_option linter.unusedVariables false
set_option linter.unusedSectionVars false

/-- What stands of the world of the beginning. -/
structure Kept (F : Bks) (w0 w : World) : Prop where
  tape : w.tape = w0.tape
  os : w.os = w0.os
  output : w.output = w0.output
  size : w0.heap.size ≤ w.heap.size
  blk : ∀ b, F b → w.heap[b]? = w0.heap[b]?

theorem Kept.refl (F : Bks) (w : World) : Kept F w w := ⟨rfl, rfl, rfl, Nat.le_refl _, fun _ _ => rfl⟩
theorem Kept.trans {F : Bks} {a b c : World} (h : Kept F a b) (k : Kept F b c) : Kept F a c := ⟨k.tape.trans h.tape, k.os.trans h.os, k.output.trans h.output, Nat.le_trans h.size k.size, fun x hx => (k.blk x hx).trans (h.blk x hx)⟩
theorem Kept.at (F : Bks) (w : World) (d : Nat) : Kept F w (w.at d) := ⟨rfl, rfl, rfl, Nat.le_refl _, fun _ _ => rfl⟩

/-- The starter has said 'acquire', hearing, behind every worker's release. -/
def Acq (Wg o j : Nat) (t : Trace) : Prop :=
  ∃ q, t.act? q = some (.mark (.acquire (stA Wg))) ∧ t.g? q = some 0 ∧ t.heard q ∧ ∀ i, o ≤ i → i < j → ∃ r, RelBy (stA Wg) t (i + 1) r ∧ r < q

theorem Acq.app {Wg o j : Nat} {t u : Trace} (h : Acq Wg o j t) (hu : ∀ i r, o ≤ i → i < j → RelBy (stA Wg) t (i + 1) r → RelBy (stA Wg) (t ++ u) (i + 1) r) : Acq Wg o j (t ++ u) := by
  obtain ⟨q, h1, h2, h3, h4⟩ := h
  have hq := lt_of_act? h1
  exact ⟨q, by rw [act?_old hq]; exact h1, by rw [g?_old hq]; exact h2, (heard_old hq).2 h3, fun i ho hi => let ⟨r, hr, hrq⟩ := h4 i ho hi; ⟨r, hu i r ho hi hr, hrq⟩⟩

section
variable [Payload] (P : Program) (ty : TypeId) (Wg C n : Nat) (F : Bks) (o : Nat) (val : Nat → Value) (Ret AnchW : Bks → Bks → Goroutine → World → Prop) (w0 : World)

def CInv (μ : Nat × Nat) (m : Machine) (t : Trace) : Prop :=
  ∃ (gs : Array Goroutine) (w : World) (sl : Option (Nat × Nat)) (j : Nat) (A O : Nat → Bks) (D : Nat → WD) (tag : CTag) (f0 d0 : Nat) (a : Goroutine) (st sm : Int),
    m = crowd gs w sl ∧ gs[0]? = some a ∧ SSit P ty Wg C n val Ret AnchW o tag j f0 d0 (A 0) (O 0) a w ∧ Cm P ty Wg C n F o val j A O gs w t D d0 ∧ WgAt ty Wg w st sm ∧ ConcN.Mode j D tag st sm ∧ Kept F w0 w ∧
    (tag = .ret → Acq Wg o j t) ∧ μ = (phi (o + n) (Vc j D) tag + Ssum j D, f0 + 2 * Fsum j D)

/-- The machine's step by goroutine i keeps the invariant and lowers the measure. -/
def Nxt (μ : Nat × Nat) (gs : Array Goroutine) (w : World) (sl : Option (Nat × Nat)) (t : Trace) (i : Nat) : Prop :=
  ∃ m₁ ops μ', runT P (crowd gs w sl) i = (.next m₁, ops) ∧ Lt2 μ' μ ∧ CInv P ty Wg C n F o val Ret AnchW w0 μ' m₁ (t ++ ops)
end

section
variable [Payload] {P : Program} {ty : TypeId} {Wg C n : Nat} {F : Bks} {o : Nat} {val : Nat → Value} {Ret AnchW : Bks → Bks → Goroutine → World → Prop} {w0 : World}
  {gs : Array Goroutine} {w w' : World} {sl : Option (Nat × Nat)} {j : Nat} {A O : Nat → Bks} {D : Nat → WD} {tag : CTag} {f0 d0 : Nat} {a : Goroutine} {t : Trace} {st sm : Int}

theorem lt_measure {D D' : Nat → WD} {i : Nat} {x : WD} {tag tag' : CTag} {f' : Nat} (hi : i < j) (htag : tag' = tag ∨ (tag = .blk ∧ tag' = .w3)) (hf' : f' ≤ f0 + 1) (hlt : (x.stage < (D i).stage ∧ cnt x ≤ cnt (D i)) ∨ (x.stage = (D i).stage ∧ x.fuel + 1 = (D i).fuel)) :
    Lt2 (phi (o + n) (Vc j (upd D i x)) tag' + Ssum j (upd D i x), f' + 2 * Fsum j (upd D i x)) (phi (o + n) (Vc j D) tag + Ssum j D, f0 + 2 * Fsum j D) := by
  have e1 := sumTo_upd D x cnt hi
  have e2 := sumTo_upd D x WD.stage hi
  have e3 := sumTo_upd D x WD.fuel hi
  rw [phi_retag (o + n) _ htag]
  simp only [Vc, Ssum, Fsum] at *
  rcases hlt with ⟨h1, h2⟩ | ⟨h1, h2⟩
  · refine Prod.Lex.left _ _ ?_
    have := phi_mono (o + n) (v' := sumTo j fun a => cnt (upd D i x a)) (v := sumTo j fun a => cnt (D a)) (by omega) tag
    omega
  · have ec : cnt x = cnt (D i) := by simp only [cnt, h1]
    have ev : (sumTo j fun a => cnt (upd D i x a)) = sumTo j fun a => cnt (D a) := by omega
    have es' : (sumTo j fun a => (upd D i x a).stage) = sumTo j fun a => (D a).stage := by omega
    rw [ev, es']
    exact Prod.Lex.right _ (by omega)

/-- WHATEVER STEP OF WORKER NUMBER i. -/
theorem workerStep (hAr : ∀ A O g w, AnchW A O g w → g.status = .running)
    (ha : gs[0]? = some a) (hcs : SSit P ty Wg C n val Ret AnchW o tag j f0 d0 (A 0) (O 0) a w) (h : Cm P ty Wg C n F o val j A O gs w t D d0) (hk0 : Kept F w0 w)
    {i : Nat} (hoi : o ≤ i) (hi : i < j) {g g' : Goroutine} {es : Array Event} {s' m' dd' : Nat} {st' sm' : Int} {A' O' : Bks} (hg : gs[i + 1]? = some g) (hgo : stepG P false g w = .go g' w' es)
    (hz : w.heap.size ≤ w'.heap.size) (nA : ∀ b, A' b → A (i + 1) b ∨ (w.heap.size ≤ b ∧ b < w'.heap.size)) (nO : ∀ b, O' b → O (i + 1) b ∨ (w.heap.size ≤ b ∧ b < w'.heap.size)) (uA : ∀ b, A (i + 1) b → A' b) (uO : ∀ b, O (i + 1) b → O' b)
    (sub : (∀ b, O (i + 1) b → A (i + 1) b) → ∀ b, O' b → A' b)
    (hr0 : RS ty Wg (A 0) w w') (hrk : ∀ i', o ≤ i' → i' < j → i' ≠ i → RK ty Wg C n (i' - o) (A (i' + 1)) w w')
    (hs' : WS P ty Wg C n (i - o) (val (i - o)) A' O' s' m' dd' g' w')
    (hok : ∀ op ∈ MemOp.ofEvents (i + 1) g.frame.fn g.frame.place es, OkW (ShF (FW F Wg)) (OwnL (upd O (i + 1) O') C o) (RdL (upd A (i + 1) A') (upd O (i + 1) O')) (i + 1) op)
    (hlow : ∀ op ∈ MemOp.ofEvents (i + 1) g.frame.fn g.frame.place es, op.act.low w'.heap.size)
    (hkind : ∀ op ∈ MemOp.ofEvents (i + 1) g.frame.fn g.frame.place es, ∀ x, op.act.touch? = some x → o < op.g → (x.kind = .plain ∧ x.loc.isMemory = true) ∨ ShF (FW F Wg) x.loc)
    (hnr : ∀ e ∈ es, e.loc ≠ .mark (.release (stA Wg))) (hdeaf : deafBehind (D i).deaf es = dd')
    (hrel : s' ≤ 6 → ∃ r, RelBy (stA Wg) (t ++ MemOp.ofEvents (i + 1) g.frame.fn g.frame.place es) (i + 1) r)
    (hhas : s' ≤ 6 → Has C (i - o) (val (i - o)) w') (hpay : PayAt C n w') (hwg : WgAt ty Wg w' st' sm') (hk : Kept F w w')
    (hmode : ∀ tag', (tag' = tag ∨ (tag = .blk ∧ tag' = .w3)) → (mayWake P g = true → g'.status = .running → tag' ≠ .blk) → ConcN.Mode j (upd D i ⟨s', m', dd'⟩) tag' st' sm')
    (hacq : tag = .ret → Acq Wg o j (t ++ MemOp.ofEvents (i + 1) g.frame.fn g.frame.place es))
    (hlt : (s' < (D i).stage ∧ cnt ⟨s', m', dd'⟩ ≤ cnt (D i)) ∨ (s' = (D i).stage ∧ m' + 1 = (D i).fuel)) :
    Nxt P ty Wg C n F o val Ret AnchW w0 (phi (o + n) (Vc j D) tag + Ssum j D, f0 + 2 * Fsum j D) gs w sl t (i + 1) := by
  obtain ⟨tag', f', hcs', hf', htag, hwk⟩ := hcs.wokenBy hAr hr0 g g'
  have hrun := runT_crowd_go (P := P) (sl := sl) (i := i + 1) hg (by simpa using hgo)
  refine ⟨_, _, _, hrun, lt_measure (x := ⟨s', m', dd'⟩) (D' := D) hi htag hf' hlt,
    _, w', sl, j, upd A (i + 1) A', upd O (i + 1) O', upd D i ⟨s', m', dd'⟩, tag', f', d0, woken P g g' w' a, st', sm', rfl, by rw [get_map_set _ _ _ _ (by omega), ha]; rfl, by rw [upd_ne A _ (by omega), upd_ne O _ (by omega)]; exact hcs',
    h.stepW hoi hi hz nA nO uA uO sub hrk hs' hok hlow hkind hnr hdeaf hrel hhas hpay, hwg, hmode tag' htag hwk, hk0.trans hk, ?_, rfl⟩
  intro e
  rcases htag with rfl | ⟨_, rfl⟩
  · exact hacq e
  · cases e

theorem pay_of_block {w w' : World} (hC : w'.heap[C]? = w.heap[C]?) (h : PayAt C n w) : PayAt C n w' := by
  obtain ⟨cs, h1, h2⟩ := h
  exact ⟨cs, hC.trans h1, h2⟩
omit [Payload] in
theorem live_of_block {w w' : World} (hW : w'.heap[Wg]? = w.heap[Wg]?) (h : WgLive ty Wg w) : WgLive ty Wg w' := by
  obtain ⟨st, sm, h⟩ := h
  exact ⟨st, sm, h.of_block hW⟩

/-! ### what a step of one's own code is to the others -/
section
variable {k : Nat} {A' O' : Bks} {es : Array Event}
theorem gk_blk (hS : Sets F Wg C j w.heap.size A O) (h : GK (A k) (O k) A' O' w w' es) {b : Nat} (hb : b < w.heap.size) (hn : ¬ A k b) : w'.heap[b]? = w.heap[b]? := h.blk b hb fun ho => hn (hS.sub k b ho)
theorem gk_wg (hS : Sets F Wg C j w.heap.size A O) (h : GK (A k) (O k) A' O' w w' es) : w'.heap[Wg]? = w.heap[Wg]? := gk_blk hS h hS.hW.1 fun ha => (hS.low k Wg ha).2.2.1 rfl
theorem gk_pay (hS : Sets F Wg C j w.heap.size A O) (h : GK (A k) (O k) A' O' w w' es) : w'.heap[C]? = w.heap[C]? := gk_blk hS h hS.hC.1 fun ha => (hS.low k C ha).2.1 rfl
theorem gk_rs (hS : Sets F Wg C j w.heap.size A O) (h : GK (A k) (O k) A' O' w w' es) {k' : Nat} (hne : k ≠ k') : RS ty Wg (A k') w w' :=
  ⟨h.tape, h.os, h.output, h.size, fun b hb => h.blk b (hS.low k' b hb).1 fun ho => hS.dis k k' hne b ho hb, live_of_block (gk_wg hS h)⟩
theorem gk_rk (hS : Sets F Wg C j w.heap.size A O) (h : GK (A k) (O k) A' O' w w' es) {k' c : Nat} (hne : k ≠ k') : RK ty Wg C n c (A k') w w' :=
  ⟨gk_rs hS h hne, pay_of_block (gk_pay hS h), cell_of_block (gk_pay hS h) c⟩
theorem gk_kept (hS : Sets F Wg C j w.heap.size A O) (h : GK (A k) (O k) A' O' w w' es) : Kept F w w' :=
  ⟨h.tape, h.os, h.output, h.size, fun b hb => gk_blk hS h (hS.hF b hb) fun ha => (hS.low k b ha).2.2.2 hb⟩
theorem gk_norel (h : GK (A k) (O k) A' O' w w' es) : ∀ e ∈ es, e.loc ≠ .mark .disable ∧ e.loc ≠ .mark .enable ∧ e.loc ≠ .mark (.release (stA Wg)) := by
  intro e he
  rcases h.evs e he with ⟨a, h1, _⟩ | ⟨r, h1, _⟩ | h1 <;> rw [h1] <;> exact ⟨by simp, by simp, by simp⟩
end

/-- A turn of the group's block. -/
theorem rs_wg {k : Nat} (hS : Sets F Wg C j w.heap.size A O) (h : Aside Wg w w') (hl : WgLive ty Wg w') : RS ty Wg (A k) w w' :=
  ⟨h.tape, h.os, h.output, by rw [h.size]; exact Nat.le_refl _, fun b hb => h.block b (hS.low k b hb).2.2.1, fun _ => hl⟩
theorem rk_wg {k c : Nat} (hS : Sets F Wg C j w.heap.size A O) (h : Aside Wg w w') (hl : WgLive ty Wg w') : RK ty Wg C n c (A k) w w' :=
  ⟨rs_wg hS h hl, pay_of_block (h.block C hS.hC.2.1), cell_of_block (h.block C hS.hC.2.1) c⟩
theorem kept_wg (hS : Sets F Wg C j w.heap.size A O) (h : Aside Wg w w') : Kept F w w' :=
  ⟨h.tape, h.os, h.output, by rw [h.size]; exact Nat.le_refl _, fun b hb => h.block b fun e => hS.hW.2 (e ▸ hb)⟩

/-- A worker writes its cell. -/
theorem rs_cell {k c : Nat} (hS : Sets F Wg C j w.heap.size A O) (h : AsideCell C n c w w') : RS ty Wg (A k) w w' :=
  ⟨h.tape, h.os, h.output, by rw [h.size]; exact Nat.le_refl _, fun b hb => h.block b (hS.low k b hb).2.1, live_of_block (h.block Wg (Ne.symm hS.hC.2.1))⟩
theorem rk_cell {k c c' : Nat} (hS : Sets F Wg C j w.heap.size A O) (h : AsideCell C n c w w') (hne : c' ≠ c) : RK ty Wg C n c' (A k) w w' :=
  ⟨rs_cell hS h, h.pay, h.cells c' hne⟩
theorem kept_cell {c : Nat} (hS : Sets F Wg C j w.heap.size A O) (h : AsideCell C n c w w') : Kept F w w' :=
  ⟨h.tape, h.os, h.output, by rw [h.size]; exact Nat.le_refl _, fun b hb => h.block b fun e => hS.hC.2.2 (e ▸ hb)⟩

theorem stepWorker (hAr : ∀ A O g w, AnchW A O g w → g.status = .running) (hn : o + n < 2147483648)
    (ha : gs[0]? = some a) (hcs : SSit P ty Wg C n val Ret AnchW o tag j f0 d0 (A 0) (O 0) a w) (h : Cm P ty Wg C n F o val j A O gs w t D d0) (hwg : WgAt ty Wg w st sm) (hmode : ConcN.Mode j D tag st sm) (hk0 : Kept F w0 w)
    (hacq : tag = .ret → Acq Wg o j t) {i : Nat} (hi : i < j) {g : Goroutine} (hg : gs[i + 1]? = some g) (hrun : g.status = .running) :
    Nxt P ty Wg C n F o val Ret AnchW w0 (phi (o + n) (Vc j D) tag + Ssum j D, f0 + 2 * Fsum j D) gs w sl t (i + 1) := by
  have hb := hcs.bound
  have hVj := Vc_le j D
  have idA : ∀ b, A (i + 1) b → A (i + 1) b ∨ (w.heap.size ≤ b ∧ b < w.heap.size) := fun _ h => .inl h
  have uA : upd A (i + 1) (A (i + 1)) = A := by funext x; by_cases e : x = i + 1; (subst e; rw [upd_same]); (rw [upd_ne A _ e])
  have uO : upd O (i + 1) (O (i + 1)) = O := by funext x; by_cases e : x = i + 1; (subst e; rw [upd_same]); (rw [upd_ne O _ e])
  rcases Nat.lt_or_ge i o with hio | hoi
  · -- ONE THAT LEAVES FROM BEFORE
    obtain ⟨g₁, hg₁, hst, hq⟩ := h.lv i hio
    obtain rfl : g = g₁ := by rw [hg] at hg₁; exact Option.some.inj hg₁
    generalize hfu : (D i).fuel = m at hq
    cases m with
    | zero => rw [hq.1] at hrun; cases hrun
    | succ q =>
      rcases hq with ⟨hf, _⟩ | ⟨_, g', es, hmute, hstep, hq⟩
      · rw [hf] at hrun; cases hrun
      · obtain ⟨tag', f', hcs', hf', htag, hwk⟩ := hcs.wokenBy hAr (RS.refl w) g g'
        have hrunT := runT_crowd_go (P := P) (sl := sl) (i := i + 1) hg (by simpa using hstep w)
        have hm := hmode.same (i := i) q (deafBehind (D i).deaf es)
        rw [hst] at hm
        refine ⟨_, _, _, hrunT, lt_measure (x := ⟨1, q, deafBehind (D i).deaf es⟩) (D' := D) hi htag hf' (.inr ⟨hst.symm, hfu.symm⟩),
          _, w, sl, j, A, O, upd D i ⟨1, q, deafBehind (D i).deaf es⟩, tag', f', d0, woken P g g' w a, st, sm, rfl, by rw [get_map_set _ _ _ _ (by omega), ha]; rfl, hcs', h.stepL hio hmute hq, hwg, hm.retag htag, hk0, ?_, rfl⟩
        intro e
        rcases htag with rfl | ⟨_, rfl⟩
        · exact (hacq e).app fun i' r ho' _ hr => hr.appOther g_of_ofEvents (by omega)
        · cases e
  · obtain ⟨g₁, hg₁, hs⟩ := h.wk i hoi hi
    obtain rfl : g = g₁ := by rw [hg] at hg₁; exact Option.some.inj hg₁
    have hdk := h.deafW i hi
    generalize hst : (D i).stage = s at hs
    generalize hfu : (D i).fuel = m at hs
    generalize hde : (D i).deaf = dd at hs
    cases hs with
    | wk hp =>
      have nr : tag ≠ .ret := hmode.not_ret hi (by omega)
      rcases Priv.cases hp with hstop | ⟨m', rfl, _, hstep⟩
      · -- IT SAYS 'release and merge'
        obtain ⟨_, hhas, g', hgo, m₂, hk⟩ := hstop w (RK.refl w)
        have hev : ∀ op ∈ MemOp.ofEvents (i + 1) g.frame.fn g.frame.place #[mk (.releaseMerge (stA Wg))], op.act.touch? = none := fun op hop => by
          obtain ⟨e, he, rfl⟩ := Go.Conc.mem_ofEvents hop
          simp at he; subst he; rfl
        refine workerStep hAr ha hcs h hk0 hoi hi (A' := A (i + 1)) (O' := O (i + 1)) hg hgo (Nat.le_refl _) idA (fun _ h => .inl h) (fun _ h => h) (fun _ h => h) (fun h => h) (.refl w) (fun _ _ _ _ => RK.refl w) (.lib (by omega) (.k1 hk))
          (fun op hop => ⟨g_of_ofEvents op hop, fun x hx => by rw [hev op hop] at hx; cases hx⟩) (fun op hop => ?_) (fun op hop x hx => by rw [hev op hop] at hx; cases hx) (by intro e he; simp at he; subst he; simp [mk]) (by rw [hde]; rfl)
          (fun _ => ⟨t.size, RelBy.new (by rw [hdk, hde]) _ _⟩) (fun _ => by simpa using hhas) h.pay hwg (.refl F w) (fun _ ht _ => (hmode.counted hi (by omega) (.inl rfl) _ _).retag ht) (fun e => absurd e nr) (.inl ⟨by omega, by simp [cnt, hst]⟩)
        obtain ⟨e, he, rfl⟩ := Go.Conc.mem_ofEvents hop
        simp at he; subst he
        exact h.sets.hW.1
      · obtain ⟨g', w', es, A', O', hgo, hD, hg'⟩ := hstep w (RK.refl w)
        have hm' : ∀ tag', (tag' = tag ∨ (tag = .blk ∧ tag' = .w3)) → ConcN.Mode j (upd D i ⟨7, m', 0⟩) tag' st sm := fun _ ht => ConcN.Mode.retag (by have := hmode.same (i := i) m' 0; rwa [hst] at this) ht
        rcases hD with hG | ⟨rfl, rfl, hac, hev⟩
        · have hS' := h.sets.grow hG.size (k := i + 1) (by omega) hG.newA hG.newO hG.sub
          refine workerStep hAr ha hcs h hk0 hoi hi hg hgo hG.size hG.newA hG.newO hG.upA hG.upO hG.sub (gk_rs h.sets hG (by omega)) (fun i' _ _ e => gk_rk h.sets hG (by omega)) (.wk hg')
            (okW_evA (fun e he => by rw [upd_same, upd_same]; exact hG.evs e he)) (low_evsA hG.evs (fun b hb => (hS'.low (i + 1) b (by rw [upd_same]; exact hb)).1)) (kind_evA hG.evs) (fun e he => (gk_norel hG e he).2.2)
            (by rw [hde]; exact deafBehind_idle (fun e he => ⟨(gk_norel (Wg := Wg) hG e he).1, (gk_norel (Wg := Wg) hG e he).2.1⟩) 0) (fun h => by omega) (fun h => by omega) (pay_of_block (gk_pay h.sets hG) h.pay) (hwg.of_block (gk_wg h.sets hG)) (gk_kept h.sets hG) (fun t ht _ => hm' t ht) (fun e => absurd e nr) (.inr ⟨hst.symm, by omega⟩)
        · have hev' : ∀ e ∈ es, (MemAct.ofEvent e).touch? = some ⟨.cell ⟨C, i - o, none⟩, true, .plain⟩ ∧ e.loc = .cell ⟨C, i - o, none⟩ := fun e he => by rw [hev e he]; exact ⟨by simp [ofEvent_cell0, MemAct.touch?], rfl⟩
          refine workerStep hAr ha hcs h hk0 hoi hi (A' := A (i + 1)) (O' := O (i + 1)) hg hgo (by rw [hac.size]; exact Nat.le_refl _) (fun _ h => .inl h) (fun _ h => .inl h) (fun _ h => h) (fun _ h => h) (fun h => h) (rs_cell h.sets hac) (fun i' ho' _ e => rk_cell h.sets hac (by omega)) (.wk hg')
            (fun op hop => ⟨g_of_ofEvents op hop, fun x hx => ?_⟩) (fun op hop => ?_) (fun op hop x hx _ => ?_) (fun e he => by rw [(hev' e he).2]; simp)
            (by rw [hde]; exact deafBehind_idle (fun e he => by rw [(hev' e he).2]; exact ⟨by simp, by simp⟩) 0) (fun h => by omega) (fun h => by omega) (hac.pay h.pay) (hwg.of_block (hac.block Wg (Ne.symm h.sets.hC.2.1))) (kept_cell h.sets hac) (fun t ht _ => hm' t ht) (fun e => absurd e nr) (.inr ⟨hst.symm, by omega⟩)
          · obtain ⟨e, he, rfl⟩ := Go.Conc.mem_ofEvents hop
            have := (hev' e he).1
            rw [this] at hx
            cases hx
            exact .inr (.inl (.inr ⟨by omega, by rw [show i + 1 - (o + 1) = i - o by omega]⟩))
          · obtain ⟨e, he, rfl⟩ := Go.Conc.mem_ofEvents hop
            rw [hev e he, ofEvent_cell0]
            show C < w'.heap.size
            rw [hac.size]
            exact h.sets.hC.1
          · obtain ⟨e, he, rfl⟩ := Go.Conc.mem_ofEvents hop
            have := (hev' e he).1
            rw [this] at hx
            cases hx
            exact .inl ⟨rfl, rfl⟩
    | lib h6 hs =>
      obtain ⟨L⟩ := lib_step (c := i - o) (v := val (i - o)) (tag := tag) hi (by omega) (by omega) (by rw [hst, hfu, hde]; exact hs) (by rw [hst]; exact h6) hwg hmode hrun
      obtain ⟨g', w', es, s', m', dd', st', sm', hgo, hAs, hwg', hbk, hd, hs', h6', hdd, hmode', hless⟩ := L
      obtain ⟨r, hr⟩ := h.rel i hoi hi (by omega)
      refine workerStep hAr ha hcs h hk0 hoi hi (A' := A (i + 1)) (O' := O (i + 1)) hg hgo (by rw [hAs.size]; exact Nat.le_refl _) (fun _ h => .inl h) (fun _ h => .inl h) (fun _ h => h) (fun _ h => h) (fun h => h) (rs_wg h.sets hAs ⟨_, _, hwg'⟩) (fun _ _ _ _ => rk_wg h.sets hAs ⟨_, _, hwg'⟩) (.lib h6' hs')
        (okW_bk hbk) (low_bks hbk (by rw [hAs.size]; exact h.sets.hW.1)) (kind_bk hbk) (norel_of_Bk hbk) hdd (fun _ => ⟨r, hr.book hdk _ _ hbk hd⟩) (fun _ => (cell_of_block (hAs.block C h.sets.hC.2.1) _).trans (h.has i hoi hi (by omega)))
        (pay_of_block (hAs.block C h.sets.hC.2.1) h.pay) hwg' (kept_wg h.sets hAs) hmode' (fun e => (hacq e).app fun i' r' ho' hi' hr' => ?_) hless
      by_cases e' : i' = i
      · subst e'; exact hr'.book hdk _ _ hbk hd
      · exact hr'.appOther g_of_ofEvents (by omega)
end
end Go.Proofs.Ytajheicheefpeaa

/- Every step of the starter's keeps the invariant; the crew runs till all is joined. -/
namespace Go.Proofs.Ytajheicheefpeaa
open Go.Conc
open Go.ConcN (WgLive PayAt Has Full RW WSit AtR0 CTag WD CT Apart Ok0 OkW PermW RelBy AsideCell sumTo upd upd_ne upd_same sumTo_upd sumTo_upd_out get_map_set get_map_set_same norel_of Deaf_absent Deaf_still
  OpenSt AllQuit isOpen isW3 isFin phi pend cnt Vc Ssum Fsum phi_mono phi_retag Vc_upd Vc_le others_uncounted deafBehind_idle bk_cell cell_of_block norel_of_Bk lt2_trans allQuit_of ok0_none full_of bk_dis bk_en bk_rd bk_rw bk_sem exists_counted)
open Go.ConcR (KK wgBlock WgAt stA smA rd wr mk Payload DC0 Bk g_of_ofEvents loc_of_ofEvent ofEvent_loc_mark ofEvent_cell bk_of_mute ofEvent_mk)
set_option linter.unusedSimpArgs false
set_option linter.unusedVariables false
set_option linter.unusedSectionVars false

theorem RS.back {ty : TypeId} {Wg : Nat} {A : Bks} (w : World) (d : Nat) : RS ty Wg A (w.at d) w := ⟨rfl, rfl, rfl, Nat.le_refl _, fun _ _ => rfl, id⟩

section
variable [Payload] {P : Program} {ty : TypeId} {Wg C n : Nat} {F : Bks} {o : Nat} {val : Nat → Value} {Ret AnchW : Bks → Bks → Goroutine → World → Prop} {w0 : World}
  {gs : Array Goroutine} {w w' : World} {sl : Option (Nat × Nat)} {j : Nat} {A O : Nat → Bks} {D : Nat → WD} {tag : CTag} {f0 d0 : Nat} {a : Goroutine} {t : Trace} {st sm : Int}

/-- WHATEVER STEP OF THE STARTER's THAT IS NO go STATEMENT. -/
theorem callerStep (ha : gs[0]? = some a) (h : Cm P ty Wg C n F o val j A O gs w t D d0) (hk0 : Kept F w0 w)
    {a' : Goroutine} {es : Array Event} {tag' : CTag} {f' : Nat} {st' sm' : Int} {A' O' : Bks} (hgo : stepG P true a w = .go a' w' es)
    (hz : w.heap.size ≤ w'.heap.size) (nA : ∀ b, A' b → A 0 b ∨ (w.heap.size ≤ b ∧ b < w'.heap.size)) (nO : ∀ b, O' b → O 0 b ∨ (w.heap.size ≤ b ∧ b < w'.heap.size)) (uA : ∀ b, A 0 b → A' b) (uO : ∀ b, O 0 b → O' b)
    (sub : (∀ b, O 0 b → A 0 b) → ∀ b, O' b → A' b)
    (hrk : ∀ i', o ≤ i' → i' < j → RK ty Wg C n (i' - o) (A (i' + 1)) w w')
    (hok : ∀ op ∈ MemOp.ofEvents 0 a.frame.fn a.frame.place es, Ok0 (ShF (FW F Wg)) (OwnL (upd O 0 O') C o) (RdL (upd A 0 A') (upd O 0 O')) j op)
    (hlow : ∀ op ∈ MemOp.ofEvents 0 a.frame.fn a.frame.place es, op.act.low w'.heap.size)
    (hnr : ∀ e ∈ es, e.loc ≠ .mark (.release (stA Wg))) (hpay : PayAt C n w')
    (hcs' : SSit P ty Wg C n val Ret AnchW o tag' j f' (deafBehind d0 es) A' O' a' w') (hwg : WgAt ty Wg w' st' sm') (hmode : ConcN.Mode j D tag' st' sm') (hk : Kept F w w')
    (hacq : tag' = .ret → Acq Wg o j (t ++ MemOp.ofEvents 0 a.frame.fn a.frame.place es))
    (hlt : phi (o + n) (Vc j D) tag' < phi (o + n) (Vc j D) tag ∨ (phi (o + n) (Vc j D) tag' = phi (o + n) (Vc j D) tag ∧ f' < f0)) :
    Nxt P ty Wg C n F o val Ret AnchW w0 (phi (o + n) (Vc j D) tag + Ssum j D, f0 + 2 * Fsum j D) gs w sl t 0 := by
  have hrun := runT_crowd_go (P := P) (sl := sl) (i := 0) ha (by simpa using hgo)
  refine ⟨_, _, (phi (o + n) (Vc j D) tag' + Ssum j D, f' + 2 * Fsum j D), hrun, ?_,
    _, w', sl, j, upd A 0 A', upd O 0 O', D, tag', f', deafBehind d0 es, a', st', sm', rfl, get_map_set_same _ _ _ (by rw [h.size]; omega), by rw [upd_same, upd_same]; exact hcs', h.step0 hz nA nO uA uO sub hrk hok hlow hnr hpay, hwg, hmode, hk0.trans hk, hacq, rfl⟩
  rcases hlt with h | ⟨h1, h2⟩
  · exact Prod.Lex.left _ _ (by omega)
  · rw [h1]; exact Prod.Lex.right _ (by omega)

/-- What stands once all are joined. -/
def Joined (P : Program) (ty : TypeId) (Wg C n : Nat) (F : Bks) (o : Nat) (vals : List Value) (Ret : Bks → Bks → Goroutine → World → Prop) (w0 : World) (m : Machine) (t : Trace) : Prop :=
  ∃ (gs : Array Goroutine) (w : World) (sl : Option (Nat × Nat)) (A O : Bks) (a : Goroutine) (q : Nat → Nat),
    m = crowd gs w sl ∧ gs.size = o + n + 1 ∧ gs[0]? = some a ∧ a.status = .running ∧ Ret A O a w ∧ Full C vals w ∧ Kept F w0 w ∧ WgAt ty Wg w 0 0 ∧ Leavers P t gs q ∧ Trc (FW F Wg) w.heap.size gs.size t

set_option maxHeartbeats 1600000 in
theorem stepCaller (hn : o + n < 2147483648) (hAn : ∀ A O g w, AnchW A O g w → ∃ m, Goes P true (RS ty Wg A) (DQ Wg) (AtW1 P ty Wg Ret AnchW A O) m g w)
    (ha : gs[0]? = some a) (hcs : SSit P ty Wg C n val Ret AnchW o tag j f0 d0 (A 0) (O 0) a w) (h : Cm P ty Wg C n F o val j A O gs w t D d0) (hwg : WgAt ty Wg w st sm) (hmode : ConcN.Mode j D tag st sm) (hk0 : Kept F w0 w)
    (hacq : tag = .ret → Acq Wg o j t) (hrun : a.status = .running) (hns : tag = .ret → ¬ ∀ w₁, RS ty Wg (A 0) w w₁ → AtRet Ret (A 0) (O 0) a w₁) :
    Nxt P ty Wg C n F o val Ret AnchW w0 (phi (o + n) (Vc j D) tag + Ssum j D, f0 + 2 * Fsum j D) gs w sl t 0 := by
  have hVj := Vc_le j D
  have hbnd := hcs.bound
  have rf : ∀ A (w : World), RS ty Wg A w w := fun _ w => RS.refl w
  have uA : upd A 0 (A 0) = A := by funext x; by_cases e : x = 0; (subst e; rw [upd_same]); (rw [upd_ne A _ e])
  have uO : upd O 0 (O 0) = O := by funext x; by_cases e : x = 0; (subst e; rw [upd_same]); (rw [upd_ne O _ e])
  -- the library's bookkeeping
  have book : ∀ {a' : Goroutine} {w' : World} {es : Array Event} {tag' : CTag} {f' : Nat} {st' sm' : Int}, stepG P true a w = .go a' w' es → Aside Wg w w' → WgAt ty Wg w' st' sm' → (∀ e ∈ es, Bk Wg e) → SSit P ty Wg C n val Ret AnchW o tag' j f' (deafBehind d0 es) (A 0) (O 0) a' w' →
      ConcN.Mode j D tag' st' sm' → tag' ≠ .ret → (phi (o + n) (Vc j D) tag' < phi (o + n) (Vc j D) tag ∨ (phi (o + n) (Vc j D) tag' = phi (o + n) (Vc j D) tag ∧ f' < f0)) →
      Nxt P ty Wg C n F o val Ret AnchW w0 (phi (o + n) (Vc j D) tag + Ssum j D, f0 + 2 * Fsum j D) gs w sl t 0 := fun hgo hAs hwg' hbk hcs' hmode' hne hlt =>
    callerStep ha h hk0 (A' := A 0) (O' := O 0) hgo (by rw [hAs.size]; exact Nat.le_refl _) (fun _ h => .inl h) (fun _ h => .inl h) (fun _ h => h) (fun _ h => h) (fun h => h) (fun _ _ _ => rk_wg h.sets hAs ⟨_, _, hwg'⟩)
      (ok0_bk hbk) (low_bks hbk (by rw [hAs.size]; exact h.sets.hW.1)) (norel_of_Bk hbk) (pay_of_block (hAs.block C h.sets.hC.2.1) h.pay) hcs' hwg' hmode' (kept_wg h.sets hAs) (fun e => absurd e hne) hlt
  -- a step inside the library that is no stop
  have quiet : ∀ {a' : Goroutine} {w' : World} {es : Array Event} {f' : Nat}, stepG P true a w = .go a' w' es → DQ Wg w w' es → SSit P ty Wg C n val Ret AnchW o tag j f' d0 (A 0) (O 0) a' w' → f' < f0 →
      Nxt P ty Wg C n F o val Ret AnchW w0 (phi (o + n) (Vc j D) tag + Ssum j D, f0 + 2 * Fsum j D) gs w sl t 0 := by
    intro a' w' es f' hgo hD hcs' hlt
    obtain ⟨rfl, hev⟩ := hD
    have hmk : ∀ e ∈ es, e.loc ≠ .mark .disable ∧ e.loc ≠ .mark .enable ∧ e.loc ≠ .mark (.release (stA Wg)) := fun e he => by rcases hev e he with rfl | rfl <;> exact ⟨by simp, by simp, by simp⟩
    have htc : ∀ e ∈ es, ∃ wr, (MemAct.ofEvent e).touch? = some ⟨.cell (smA Wg), wr, .said⟩ ∧ (MemAct.ofEvent e).low w'.heap.size := fun e he => by
      rcases hev e he with rfl | rfl
      · exact ⟨false, rfl, h.sets.hW.1⟩
      · exact ⟨true, rfl, h.sets.hW.1⟩
    refine callerStep ha h hk0 (A' := A 0) (O' := O 0) hgo (Nat.le_refl _) (fun _ h => .inl h) (fun _ h => .inl h) (fun _ h => h) (fun _ h => h) (fun h => h) (fun _ _ _ => RK.refl w') (fun op hop => ⟨g_of_ofEvents op hop, fun x hx => .inl ?_⟩) (fun op hop => ?_) (fun e he => (hmk e he).2.2) h.pay
      (by rw [deafBehind_idle (fun e he => ⟨(hmk e he).1, (hmk e he).2.1⟩)]; exact hcs') hwg hmode (.refl F w') (fun e => (hacq e).app fun i r _ _ hr => hr.appOther g_of_ofEvents (by omega)) (.inr ⟨rfl, hlt⟩)
    · obtain ⟨e, he, rfl⟩ := Go.Conc.mem_ofEvents hop
      obtain ⟨wr, h1, h2⟩ := htc e he
      rw [h1] at hx
      cases hx
      exact ⟨⟨_, rfl, .inr rfl⟩, by simp⟩
    · obtain ⟨e, he, rfl⟩ := Go.Conc.mem_ofEvents hop
      exact (htc e he).choose_spec.2
  -- a step of its own code
  have own : ∀ {a' : Goroutine} {w' : World} {es : Array Event} {f' : Nat} {A' O' : Bks}, stepG P true a w = .go a' w' es → GK (A 0) (O 0) A' O' w w' es → SSit P ty Wg C n val Ret AnchW o tag j f' d0 A' O' a' w' → f' < f0 → tag ≠ .ret →
      Nxt P ty Wg C n F o val Ret AnchW w0 (phi (o + n) (Vc j D) tag + Ssum j D, f0 + 2 * Fsum j D) gs w sl t 0 := by
    intro a' w' es f' A' O' hgo hG hcs' hlt hne
    have hS' := h.sets.grow hG.size (k := 0) (by omega) hG.newA hG.newO hG.sub
    exact callerStep ha h hk0 hgo hG.size hG.newA hG.newO hG.upA hG.upO hG.sub (fun _ _ _ => gk_rk h.sets hG (by omega)) (ok0_evA hS' (fun e he => by rw [upd_same, upd_same]; exact hG.evs e he)) (low_evsA hG.evs (fun b hb => (hS'.low 0 b (by rw [upd_same]; exact hb)).1))
      (fun e he => (gk_norel hG e he).2.2) (pay_of_block (gk_pay h.sets hG) h.pay) (by rw [deafBehind_idle (fun e he => ⟨(gk_norel (Wg := Wg) hG e he).1, (gk_norel (Wg := Wg) hG e he).2.1⟩)]; exact hcs') (hwg.of_block (gk_wg h.sets hG)) hmode (gk_kept h.sets hG) (fun e => absurd e hne) (.inr ⟨rfl, hlt⟩)
  have w1 : ∀ {m : Nat} {f0 : Nat}, j = o + n → d0 = 1 → ConcN.Mode j D .w1 st sm → phi (o + n) (Vc j D) .w1 ≤ phi (o + n) (Vc j D) tag → Goes P true (RS ty Wg (A 0)) (DQ Wg) (AtW1 P ty Wg Ret AnchW (A 0) (O 0)) m a w →
      (∀ w₁, RS ty Wg (A 0) w w₁ → AtW1 P ty Wg Ret AnchW (A 0) (O 0) a w₁) ∨ ∃ m' a' w' es, m = m' + 1 ∧ stepG P true a w = .go a' w' es ∧ DQ Wg w w' es ∧ Goes P true (RS ty Wg (A 0)) (DQ Wg) (AtW1 P ty Wg Ret AnchW (A 0) (O 0)) m' a' w' := fun _ _ _ _ hG => by
    rcases Goes.cases hG with hstop | ⟨m', rfl, hstep⟩
    · exact .inl hstop
    · obtain ⟨a', w', es, h1, h2, h3⟩ := hstep w (.refl w)
      exact .inr ⟨m', a', w', es, rfl, h1, h2, h3⟩
  -- the load in Wait
  have load : ∀ {μ1 : Nat}, (j = o + n) → d0 = 1 → AtW1 P ty Wg Ret AnchW (A 0) (O 0) a w → ConcN.Mode j D .w1 st sm → phi (o + n) (Vc j D) .w1 ≤ phi (o + n) (Vc j D) tag →
      Nxt P ty Wg C n F o val Ret AnchW w0 (phi (o + n) (Vc j D) tag + Ssum j D, f0 + 2 * Fsum j D) gs w sl t 0 := by
    intro _ hj hd hW hm hle
    subst hj hd
    obtain ⟨_, hall⟩ := hW
    obtain ⟨ho, rfl, rfl, _⟩ := hm.open_inv trivial
    obtain ⟨a', hgo, h0, hne⟩ := hall (Vc (o + n) D) (by omega) (by simpa [pend] using hwg)
    by_cases hv : Vc (o + n) D = 0
    · obtain ⟨m₂, hk⟩ := h0 hv
      refine book hgo (.refl Wg w) hwg bk_rd (tag' := .ke) (.ke hk) ?_ (by simp) (.inl (by simp only [phi] at hle ⊢; omega))
      have e : ((Vc (o + n) D + pend .w1 : Nat) : Int) * KK = 0 := by rw [hv]; simp [pend]
      rw [e]
      exact .fin trivial (allQuit_of ho hv)
    · obtain ⟨m₂, hk⟩ := hne hv
      exact book hgo (.refl Wg w) hwg bk_rd (tag' := .w2 (Vc (o + n) D)) (.w2 hk) (hm.reopen trivial trivial rfl (fun vs e => by cases e; omega)) (by simp) (.inl (by simp only [phi] at hle ⊢; omega))
  cases hcs with
  | skd hr hp =>
    rcases Priv.cases hp with hstop | ⟨m', rfl, _, hstep⟩
    · obtain ⟨_, a', hgo, m₂, hk⟩ := hstop w (.refl w)
      exact book hgo (.refl Wg w) hwg bk_dis (.sa1 hr hk) (hmode.reopen trivial trivial rfl (by simp)) (by simp) (.inl (by simp only [phi]; omega))
    · obtain ⟨a', w', es, A', O', hgo, hD, hg'⟩ := hstep w (.refl w)
      exact own hgo hD (.skd hr hg') (by omega) (by simp)
  | sa1 hr hp =>
    rename_i r
    rcases Goes.cases hp with hstop | ⟨m', rfl, hstep⟩
    · obtain ⟨_, hall⟩ := hstop w (.refl w)
      obtain ⟨ho, rfl, rfl, _⟩ := hmode.open_inv trivial
      obtain ⟨a', hgo, m₂, hk⟩ := hall (Vc (o + (n - (r + 1))) D) (by omega) (by simpa [pend] using hwg)
      refine book hgo (aside_setCell w (stA Wg) _) (hwg.setSt _) bk_rw (.ske hr hk) ?_ (by simp) (.inl (by simp only [phi]; omega))
      have e : (((Vc (o + (n - (r + 1))) D : Nat) : Int) + 1) * KK = ((Vc (o + (n - (r + 1))) D + pend (.sp r 3) : Nat) : Int) * KK := by simp [pend]
      rw [e]
      exact .opn trivial ho (by simp)
    · obtain ⟨a', w', es, hgo, hD, hg'⟩ := hstep w (.refl w)
      exact quiet hgo hD (.sa1 hr hg') (by omega)
  | ske hr hp =>
    rcases Goes.cases hp with hstop | ⟨m', rfl, hstep⟩
    · obtain ⟨_, a', hgo, m₂, hk⟩ := hstop w (.refl w)
      exact book hgo (.refl Wg w) hwg bk_en (.sgo hr hk) (hmode.reopen trivial trivial rfl (by simp)) (by simp) (.inl (by simp only [phi]; omega))
    · obtain ⟨a', w', es, hgo, hD, hg'⟩ := hstep w (.refl w)
      exact quiet hgo hD (.ske hr hg') (by omega)
  | sgo hr hp =>
    rename_i r
    rcases Priv.cases hp with hstop | ⟨m', rfl, _, hstep⟩
    · obtain ⟨_, a', child, A1, hsp, _, hA1, hwk0, hnext⟩ := hstop w (.refl w)
      obtain ⟨m₂, hwk⟩ := hwk0 h.pay
      obtain ⟨ho, rfl, rfl, _⟩ := hmode.open_inv trivial
      generalize hj : o + (n - (r + 1)) = j at *
      have hjo : j - o = n - (r + 1) := by omega
      have hrun' := runT_crowd_spawn (P := P) (sl := sl) (i := 0) ha (by simpa using hsp)
      rw [h.size] at hrun'
      have hcom' := h.spawn (a' := a') (x := { g := 0, fn := a.frame.fn, pos := a.frame.place, act := .go (j + 1) }) (y := { g := j + 1, fn := child.frame.fn, pos := a.frame.place, act := .start }) ⟨rfl, rfl⟩ ⟨rfl, rfl⟩ hA1 (by rw [hjo]; exact hwk)
      have eV : Vc (j + 1) (upd D j ⟨7, m₂, 0⟩) = Vc j D + 1 := by
        simp only [Vc, sumTo, upd_same]
        rw [sumTo_upd_out D _ cnt (Nat.le_refl _)]; rfl
      have eS : Ssum (j + 1) (upd D j ⟨7, m₂, 0⟩) = Ssum j D + 7 := by
        simp only [Ssum, sumTo, upd_same]
        rw [sumTo_upd_out D _ WD.stage (Nat.le_refl _)]
      have ho' : OpenSt (j + 1) (upd D j ⟨7, m₂, 0⟩) := fun i hi => by
        by_cases e : i = j
        · subst e; rw [upd_same]; simp
        · rw [upd_ne D _ e]; exact ho i (by omega)
      have ha' : ((gs.setIfInBounds 0 a').push child)[0]? = some a' := by
        rw [Array.getElem?_push_lt (by simp [h.size]), ← Array.getElem?_eq_getElem]
        simp [h.size]
      have est : ∀ tag', pend tag' = 0 → ((Vc j D + pend (.sp r 2) : Nat) : Int) * KK = ((Vc (j + 1) (upd D j ⟨7, m₂, 0⟩) + pend tag' : Nat) : Int) * KK := fun tag' hp => by rw [eV, hp]; simp [pend]
      have e0 : upd A (j + 1) A1 0 = A 0 := upd_ne A _ (by omega)
      have e1 : upd (upd O 0 fun _ => False) (j + 1) (fun _ => False) 0 = fun _ => False := by rw [upd_ne _ _ (by omega), upd_same]
      cases r with
      | zero =>
        obtain ⟨m₃, hk⟩ := hnext
        have ej : j + 1 = o + n := by omega
        refine ⟨_, _, (phi (o + n) (Vc (j + 1) (upd D j ⟨7, m₂, 0⟩)) .kd + Ssum (j + 1) (upd D j ⟨7, m₂, 0⟩), m₃ + 2 * Fsum (j + 1) (upd D j ⟨7, m₂, 0⟩)), hrun', Prod.Lex.left _ _ (by simp only [phi]; omega),
          _, w, sl, j + 1, _, _, _, .kd, m₃, 0, a', _, _, rfl, ha', by rw [e0, e1, ej]; exact .kd hk, hcom', hwg, ?_, hk0, by simp, rfl⟩
        rw [est .kd rfl]
        exact .opn trivial ho' (by simp)
      | succ r' =>
        obtain ⟨m₃, hk⟩ := hnext
        have ej : j + 1 = o + (n - (r' + 1)) := by omega
        refine ⟨_, _, (phi (o + n) (Vc (j + 1) (upd D j ⟨7, m₂, 0⟩)) (.sp r' 5) + Ssum (j + 1) (upd D j ⟨7, m₂, 0⟩), m₃ + 2 * Fsum (j + 1) (upd D j ⟨7, m₂, 0⟩)), hrun', Prod.Lex.left _ _ (by simp only [phi]; omega),
          _, w, sl, j + 1, _, _, _, .sp r' 5, m₃, 0, a', _, _, rfl, ha', by rw [e0, e1, ej]; exact .skd (by omega) hk, hcom', hwg, ?_, hk0, by simp, rfl⟩
        rw [est (.sp r' 5) rfl]
        exact .opn trivial ho' (by simp)
    · obtain ⟨a', w', es, A', O', hgo, hD, hg'⟩ := hstep w (.refl w)
      exact own hgo hD (.sgo hr hg') (by omega) (by simp)
  | kd hp =>
    rcases Priv.cases hp with hstop | ⟨m', rfl, _, hstep⟩
    · obtain ⟨_, a', hgo, m₂, hk⟩ := hstop w (.refl w)
      exact book hgo (.refl Wg w) hwg bk_dis (.anch hk) (hmode.reopen trivial trivial rfl (by simp)) (by simp) (.inl (by simp only [phi]; omega))
    · obtain ⟨a', w', es, A', O', hgo, hD, hg'⟩ := hstep w (.refl w)
      exact own hgo hD (.kd hg') (by omega) (by simp)
  | anch hp =>
    rcases Goes.cases hp with hstop | ⟨m', rfl, hstep⟩
    · obtain ⟨m₂, hk⟩ := hAn _ _ a w (hstop w (.refl w))
      have hm1 := hmode.reopen (tag' := .w1) trivial trivial rfl (by simp)
      rcases w1 (f0 := f0) rfl rfl hm1 (by simp only [phi]; omega) hk with hstop | ⟨m', a', w', es, rfl, hgo, hD, hg'⟩
      · exact load (μ1 := 0) rfl rfl (hstop w (.refl w)) hm1 (by simp only [phi]; omega)
      · -- its first step on the way to the load
        obtain ⟨rfl, hev⟩ := hD
        have hx : SSit P ty Wg C n val Ret AnchW o .w1 (o + n) m' 1 (A 0) (O 0) a' w' := .w1 hg'
        have hmk : ∀ e ∈ es, e.loc ≠ .mark .disable ∧ e.loc ≠ .mark .enable ∧ e.loc ≠ .mark (.release (stA Wg)) := fun e he => by rcases hev e he with rfl | rfl <;> exact ⟨by simp, by simp, by simp⟩
        have htc : ∀ e ∈ es, ∃ wr, (MemAct.ofEvent e).touch? = some ⟨.cell (smA Wg), wr, .said⟩ ∧ (MemAct.ofEvent e).low w'.heap.size := fun e he => by
          rcases hev e he with rfl | rfl
          · exact ⟨false, rfl, h.sets.hW.1⟩
          · exact ⟨true, rfl, h.sets.hW.1⟩
        refine callerStep ha h hk0 (A' := A 0) (O' := O 0) (tag' := .w1) hgo (Nat.le_refl _) (fun _ h => .inl h) (fun _ h => .inl h) (fun _ h => h) (fun _ h => h) (fun h => h) (fun _ _ _ => RK.refl w') (fun op hop => ⟨g_of_ofEvents op hop, fun x hx => .inl ?_⟩) (fun op hop => ?_) (fun e he => (hmk e he).2.2) h.pay
          (by rw [deafBehind_idle (fun e he => ⟨(hmk e he).1, (hmk e he).2.1⟩)]; exact hx) hwg hm1 (.refl F w') (by simp) (.inl (by simp only [phi]; omega))
        · obtain ⟨e, he, rfl⟩ := Go.Conc.mem_ofEvents hop
          obtain ⟨wr, h1, h2⟩ := htc e he
          rw [h1] at hx
          cases hx
          exact ⟨⟨_, rfl, .inr rfl⟩, by simp⟩
        · obtain ⟨e, he, rfl⟩ := Go.Conc.mem_ofEvents hop
          exact (htc e he).choose_spec.2
    · obtain ⟨a', w', es, hgo, hD, hg'⟩ := hstep w (.refl w)
      exact quiet hgo hD (.anch hg') (by omega)
  | w1 hp =>
    rcases Goes.cases hp with hstop | ⟨m', rfl, hstep⟩
    · exact load (μ1 := 0) rfl rfl (hstop w (.refl w)) hmode (Nat.le_refl _)
    · obtain ⟨a', w', es, hgo, hD, hg'⟩ := hstep w (.refl w)
      exact quiet hgo hD (.w1 hg') (by omega)
  | w2 hp =>
    rename_i vs
    rcases Goes.cases hp with hstop | ⟨m', rfl, hstep⟩
    · obtain ⟨_, hall⟩ := hstop w (.refl w)
      obtain ⟨ho, rfl, rfl, hw2⟩ := hmode.open_inv trivial
      obtain ⟨hle, h1⟩ := hw2 vs rfl
      obtain ⟨hhit, hmiss⟩ := hall (Vc (o + n) D) (by omega) (by simpa [pend] using hwg)
      by_cases e : Vc (o + n) D = vs
      · obtain ⟨a', hgo, m₂, hk⟩ := hhit e
        exact book hgo (aside_setCell w (stA Wg) _) (hwg.setSt _) bk_rw (.w3 hk) (.reg trivial ho (by omega)) (by simp) (.inl (by simp only [phi]; omega))
      · obtain ⟨a', hgo, m₂, hk⟩ := hmiss e
        exact book hgo (.refl Wg w) hwg bk_rd (.anch hk) (hmode.reopen trivial trivial rfl (by simp)) (by simp) (.inl (by simp only [phi]; omega))
    · obtain ⟨a', w', es, hgo, hD, hg'⟩ := hstep w (.refl w)
      exact quiet hgo hD (.w2 hg') (by omega)
  | w3 hp =>
    rcases Goes.cases hp with hstop | ⟨m', rfl, hstep⟩
    · obtain ⟨_, hoff, hblk, htake⟩ := hstop w (.refl w)
      cases hmode with
      | opn h1 _ _ => exact h1.elim
      | reg h1 h2 h3 => exact book (hblk ⟨_, hwg⟩) (.refl Wg w) hwg (by simp) (.blk hstop) (.reg trivial h2 h3) (by simp) (.inr ⟨rfl, by omega⟩)
      | last L h1 h2 h3 h4 => exact book (hblk ⟨_, hwg⟩) (.refl Wg w) hwg (by simp) (.blk hstop) (.last L trivial h2 h3 h4) (by simp) (.inr ⟨rfl, by omega⟩)
      | sema h2 =>
        obtain ⟨a', hgo, m₂, hk⟩ := htake hwg
        exact book hgo (aside_setCell w (smA Wg) _) (hwg.setSm 0) bk_sem (.w4 hk) (.fin trivial h2) (by simp) (.inl (by simp only [phi]; omega))
      | fin h1 _ => exact h1.elim
    · obtain ⟨a', w', es, hgo, hD, hg'⟩ := hstep w (.refl w)
      exact quiet hgo hD (.w3 hg') (by omega)
  | blk hp => simp at hrun
  | w4 hp =>
    rcases Goes.cases hp with hstop | ⟨m', rfl, hstep⟩
    · obtain ⟨_, hx⟩ := hstop w (.refl w)
      obtain ⟨hq, rfl, rfl⟩ := hmode.fin_inv trivial
      obtain ⟨a', hgo, m₂, hk⟩ := hx hwg
      exact book hgo (.refl Wg w) hwg bk_rd (.ke hk) (.fin trivial hq) (by simp) (.inl (by simp only [phi]; omega))
    · obtain ⟨a', w', es, hgo, hD, hg'⟩ := hstep w (.refl w)
      exact quiet hgo hD (.w4 hg') (by omega)
  | ke hp =>
    rcases Goes.cases hp with hstop | ⟨m', rfl, hstep⟩
    · obtain ⟨_, a', hgo, m₂, hk⟩ := hstop w (.refl w)
      obtain ⟨hq, rfl, rfl⟩ := hmode.fin_inv trivial
      exact book hgo (.refl Wg w) hwg bk_en (.acq hk) (.fin trivial hq) (by simp) (.inl (by simp only [phi]; omega))
    · obtain ⟨a', w', es, hgo, hD, hg'⟩ := hstep w (.refl w)
      exact quiet hgo hD (.ke hg') (by omega)
  | acq hp =>
    rcases Goes.cases hp with hstop | ⟨m', rfl, hstep⟩
    · obtain ⟨_, a', hgo, m₂, hk⟩ := hstop w (.refl w)
      obtain ⟨hq, rfl, rfl⟩ := hmode.fin_inv trivial
      have hnt : ∀ op ∈ MemOp.ofEvents 0 a.frame.fn a.frame.place #[mk (.acquire (stA Wg))], op.act.touch? = none ∧ op.act.low w.heap.size := fun op hop => by
        obtain ⟨e, he, rfl⟩ := Go.Conc.mem_ofEvents hop
        simp at he; subst he; exact ⟨rfl, h.sets.hW.1⟩
      refine callerStep ha h hk0 (A' := A 0) (O' := O 0) hgo (Nat.le_refl _) (fun _ h => .inl h) (fun _ h => .inl h) (fun _ h => h) (fun _ h => h) (fun h => h) (fun _ _ _ => RK.refl w) (fun op hop => ⟨g_of_ofEvents op hop, fun x hx => by rw [(hnt op hop).1] at hx; cases hx⟩) (fun op hop => (hnt op hop).2)
        (by intro e he; simp at he; subst he; simp [mk]) h.pay (.ret hk) hwg (.fin trivial hq) (.refl F w) (fun _ => ?_) (.inl (by simp only [phi]; omega))
      have e1 : MemOp.ofEvents 0 a.frame.fn a.frame.place #[mk (.acquire (stA Wg))] = #[{ g := 0, fn := a.frame.fn, pos := a.frame.place, act := .mark (.acquire (stA Wg)) }] := by rw [ofEvents_eq]; simp [ofEvent_mk]
      have hy : (t ++ #[({ g := 0, fn := a.frame.fn, pos := a.frame.place, act := .mark (.acquire (stA Wg)) } : MemOp)])[t.size]? = some { g := 0, fn := a.frame.fn, pos := a.frame.place, act := .mark (.acquire (stA Wg)) } := by simp
      refine ⟨t.size, by rw [e1, act?_of hy], by rw [e1]; simp [Trace.g?], by rw [e1]; exact ⟨0, by simp [Trace.g?], by rw [deaf_old (Nat.le_refl _)]; exact h.deaf0⟩, fun i ho hi => ?_⟩
      obtain ⟨r, hr⟩ := h.rel i ho hi (by rw [hq i hi]; omega)
      exact ⟨r, hr.appOther g_of_ofEvents (by omega), lt_of_act? hr.act⟩
    · obtain ⟨a', w', es, hgo, hD, hg'⟩ := hstep w (.refl w)
      exact quiet hgo hD (.acq hg') (by omega)
  | ret hp =>
    rcases Goes.cases hp with hstop | ⟨m', rfl, hstep⟩
    · exact absurd hstop (hns rfl)
    · obtain ⟨a', w', es, hgo, hD, hg'⟩ := hstep w (.refl w)
      exact quiet hgo hD (.ret hg') (by omega)
end
end Go.Proofs.Ytajheicheefpeaa

/- A starter and its workers run till all are joined. -/
namespace Go.Proofs.Ytajheicheefpeaa
open Go.Conc
open Go.ConcN (WgLive PayAt Has Full RW WSit AtR0 CTag WD CT Apart Ok0 OkW PermW RelBy AsideCell sumTo upd upd_ne upd_same sumTo_upd sumTo_upd_out get_map_set get_map_set_same norel_of Deaf_absent Deaf_still
  OpenSt AllQuit isOpen isW3 isFin phi pend cnt Vc Ssum Fsum phi_mono phi_retag Vc_upd Vc_le others_uncounted deafBehind_idle bk_cell cell_of_block norel_of_Bk lt2_trans allQuit_of ok0_none full_of bk_dis bk_en bk_rd bk_rw bk_sem exists_counted)
open Go.ConcR (KK wgBlock WgAt stA smA rd wr mk Payload DC0 Bk g_of_ofEvents loc_of_ofEvent ofEvent_loc_mark ofEvent_cell bk_of_mute ofEvent_mk)
set_option linter.unusedSimpArgs false
set_option linter.unusedVariables false
set_option linter.unusedSectionVars false

section
variable [Payload] {P : Program} {ty : TypeId} {Wg C n : Nat} {F : Bks} {o : Nat} {val : Nat → Value} {Ret AnchW : Bks → Bks → Goroutine → World → Prop} {w0 : World}
  {gs : Array Goroutine} {w w' : World} {sl : Option (Nat × Nat)} {j : Nat} {A O : Nat → Bks} {D : Nat → WD} {tag : CTag} {f0 d0 : Nat} {a : Goroutine} {t : Trace} {st sm : Int}

/-- NO DEADLOCK. -/
theorem someRuns (hAr : ∀ A O g w, AnchW A O g w → g.status = .running) (ha : gs[0]? = some a) (hcs : SSit P ty Wg C n val Ret AnchW o tag j f0 d0 (A 0) (O 0) a w) (h : Cm P ty Wg C n F o val j A O gs w t D d0) (hmode : ConcN.Mode j D tag st sm) :
    ∃ (i : Nat) (g : Goroutine), gs[i]? = some g ∧ g.status = .running := by
  rcases hcs.status hAr with ⟨hs, _⟩ | ⟨_, rfl⟩
  · exact ⟨0, a, ha, hs⟩
  · have key : ∀ i, i < j → (D i).stage ≠ 1 → ∃ (i : Nat) (g : Goroutine), gs[i]? = some g ∧ g.status = .running := by
      intro i hi hne
      rcases Nat.lt_or_ge i o with hio | hoi
      · obtain ⟨_, _, h1, _⟩ := h.lv i hio
        exact absurd h1 hne
      · obtain ⟨g, hg, hs⟩ := h.wk i hoi hi
        exact ⟨i + 1, g, hg, hs.running_of hne⟩
    cases hmode with
    | opn h1 _ _ => exact h1.elim
    | reg _ _ h3 =>
      obtain ⟨i, hi, h5⟩ := exists_counted h3
      exact key i hi (by omega)
    | last L _ h2 h3 _ => exact key L h2 (by omega)
    | fin h1 _ => exact h1.elim

theorem allAwake (hAr : ∀ A O g w, AnchW A O g w → g.status = .running) (ha : gs[0]? = some a) (hcs : SSit P ty Wg C n val Ret AnchW o tag j f0 d0 (A 0) (O 0) a w) (h : Cm P ty Wg C n F o val j A O gs w t D d0) : ∀ g ∈ gs, awake g := by
  intro g hg tm
  obtain ⟨i, hi⟩ := Array.mem_iff_getElem?.1 hg
  cases i with
  | zero =>
    rw [ha] at hi; cases hi
    rcases hcs.status hAr with ⟨hs, _⟩ | ⟨hs, _⟩ <;> rw [hs] <;> simp
  | succ i =>
    have hlt : i < j := by have := (Array.getElem?_eq_some_iff.1 hi).1; rw [h.size] at this; omega
    rcases Nat.lt_or_ge i o with hio | hoi
    · obtain ⟨g', hg', _, hq⟩ := h.lv i hio
      rw [hi] at hg'; cases hg'
      rcases hq.status with h | h <;> rw [h] <;> simp
    · obtain ⟨g', hg', hs⟩ := h.wk i hoi hlt
      rw [hi] at hg'; cases hg'
      rcases hs.status with h | h <;> rw [h] <;> simp

theorem ws_quits {c : Nat} {v : Value} {A O : Bks} {s m d : Nat} {g : Goroutine} (h : WS P ty Wg C n c v A O s m d g w) (hs : s = 1) : QuitsD P m d g := by
  cases h with
  | wk _ => omega
  | lib _ hx => exact hx.quits hs

theorem joined_of {vals : List Value} (hl : vals.length = n) (hv : ∀ i, i < n → vals[i]? = some (val i)) (ha : gs[0]? = some a) (hj : j = o + n)
    (h : Cm P ty Wg C n F o val j A O gs w t D 0) (hwg : WgAt ty Wg w st sm) (hmode : ConcN.Mode j D .ret st sm) (hk0 : Kept F w0 w) (hacq : Acq Wg o j t) (hstop : ∀ w₁, RS ty Wg (A 0) w w₁ → AtRet Ret (A 0) (O 0) a w₁) :
    Joined P ty Wg C n F o vals Ret w0 (crowd gs w sl) t := by
  obtain ⟨hq, rfl, rfl⟩ := hmode.fin_inv trivial
  obtain ⟨hrun, hret⟩ := hstop w (.refl w)
  obtain ⟨q, q1, q2, q3, q4⟩ := hacq
  have rel : ∀ g, o < g → g ≤ j → ∃ r, RelBy (stA Wg) t g r ∧ r < q := fun g h1 h2 => by
    obtain ⟨r, hr, hrq⟩ := q4 (g - 1) (by omega) (by omega)
    rw [show g - 1 + 1 = g from by omega] at hr
    exact ⟨r, hr, hrq⟩
  have hbq : ∀ i g, t.g? i = some g → o < g → t.counts i → HappensBefore t i q := by
    intro i g hg hog hc
    have hgj : g ≤ j := by
      obtain ⟨x, hx, hxg⟩ := Option.map_eq_some_iff.1 hg
      rw [← hxg]; exact h.ct.gs i x hx
    obtain ⟨r, hr, hrq⟩ := rel g hog hgj
    have edge : HappensBefore t r q := .single (.inr ⟨.marked hrq (.inr hr.act) q1 (fun k _ _ => h.norel k), hr.heard, q3⟩)
    have hle : i ≤ r := Nat.le_of_not_lt fun hlt => hr.after i hlt hg hc
    rcases Nat.lt_or_ge i r with hlt | hge
    · exact .trans (.single (.inl ⟨hlt, g, hg, hr.g⟩)) edge
    · obtain rfl : i = r := by omega
      exact edge
  have hall : ∀ i a, touchAt t i = some a → Knows t 0 i ∨ ShF (FW F Wg) a.loc := by
    intro i a ha
    obtain ⟨x, hx, hxa⟩ := touch_of ha
    have hg : t.g? i = some x.g := by simp [Trace.g?, hx]
    rcases Nat.eq_zero_or_pos x.g with e | hpos
    · have := knows_own hx
      rw [e] at this
      exact .inl this
    · rcases Nat.lt_or_ge o x.g with hog | hgo
      · rcases h.kind i a x.g ha hg hog with ⟨k1, k2⟩ | hs
        · left
          have hc : t.counts i := ⟨a, ha, k2, .inl (by rw [k1]; simp)⟩
          obtain ⟨z, hz, hzg⟩ := Option.map_eq_some_iff.1 q2
          exact ⟨q, z, hz, hzg, .inr (hbq i x.g hg hog hc)⟩
        · exact .inr hs
      · exact h.oldK i a x.g ha hg (by omega) hgo
  have hsz : gs.size = o + n + 1 := by rw [h.size, hj]
  refine ⟨gs, w, sl, A 0, O 0, a, fun i => (D (i - 1)).fuel, rfl, hsz, ha, hrun, hret, full_of hl hv h.pay (fun i hi => ?_), hk0, hwg, ⟨fun i g hi hg => ?_, fun k hk => Deaf_absent fun i op hop e => ?_⟩, ⟨⟨h.ct.nr, fun i a ha hm => ?_, fun i g hg hne hc => ?_, ?_, h.low⟩, hall, h.ct.quiet, fun op hop => ?_⟩⟩
  · have := h.has (o + i) (by omega) (by omega) (by rw [hq _ (by omega)]; omega)
    rwa [show o + i - o = i from by omega] at this
  · have hlt : i - 1 < j := by have := (Array.getElem?_eq_some_iff.1 hg).1; rw [h.size] at this; omega
    have e1 : i - 1 + 1 = i := by omega
    have hd := h.deafW (i - 1) hlt
    rw [e1] at hd
    show QuitsD P (D (i - 1)).fuel (Deaf t i) g
    rw [hd]
    rcases Nat.lt_or_ge (i - 1) o with hio | hoi
    · obtain ⟨g', hg', _, hx⟩ := h.lv (i - 1) hio
      rw [e1, hg] at hg'; cases hg'
      exact hx
    · obtain ⟨g', hg', hx⟩ := h.wk (i - 1) hoi hlt
      rw [e1, hg] at hg'; cases hg'
      exact ws_quits hx (hq (i - 1) hlt)
  · have := h.ct.gs i op hop
    have := h.size
    omega
  · rcases hall i a ha with hk | hs
    · exact .inl hk
    · obtain ⟨x, hx, hxa⟩ := touch_of ha
      obtain ⟨k1, k2⟩ := h.ct.quiet i x a hx hxa hs
      cases hk : a.kind with
      | plain => exact absurd hk k1
      | atomic => exact .inr ⟨hs, rfl⟩
      | said =>
        have := knows_own hx
        rw [k2 hk] at this
        exact .inl this
  · rcases Nat.lt_or_ge o g with hog | hgo
    · exact ⟨q, q2, hbq i g hg hog hc⟩
    · exact h.oldH i g hg hne hgo hc
  · exact h.deaf0
  · obtain ⟨i, hi⟩ := Array.mem_iff_getElem?.1 hop
    have := h.ct.gs i op hi
    have := h.size
    omega

/-- ████ THE CREW RUNS TILL ALL IS JOINED. ████ -/
theorem crew_runs {vals : List Value} (hl : vals.length = n) (hv : ∀ i, i < n → vals[i]? = some (val i)) (hn : o + n < 2147483648) (hAr : ∀ A O g w, AnchW A O g w → g.status = .running)
    (hAn : ∀ A O g w, AnchW A O g w → ∃ m, Goes P true (RS ty Wg A) (DQ Wg) (AtW1 P ty Wg Ret AnchW A O) m g w) :
    ∀ μ m t, CInv P ty Wg C n F o val Ret AnchW w0 μ m t → ∃ N m' t', runNT P N m t = (.next m', t') ∧ Joined P ty Wg C n F o vals Ret w0 m' t' := by
  intro μ
  induction μ using (Prod.lex Nat.lt_wfRel Nat.lt_wfRel).wf.induction with
  | _ μ ih =>
    intro m t hI
    obtain ⟨gs, w, sl, j, A, O, D, tag, f0, d0, a, st, sm, rfl, ha, hcs, hcom, hwg, hmode, hk, hacq, rfl⟩ := hI
    by_cases hs : tag = .ret ∧ ∀ w₁, RS ty Wg (A 0) w w₁ → AtRet Ret (A 0) (O 0) a w₁
    · obtain ⟨rfl, hs⟩ := hs
      have e : j = o + n ∧ d0 = 0 := by cases hcs; exact ⟨rfl, rfl⟩
      obtain ⟨hj, rfl⟩ := e
      exact ⟨0, _, _, rfl, joined_of hl hv ha hj hcom hwg hmode hk (hacq rfl) hs⟩
    · obtain ⟨i, g, d, sl', hg, hrun, hstep⟩ := crowd_pick (P := P) (w := w) (sl := sl) (allAwake hAr ha hcs hcom) (someRuns hAr ha hcs hcom hmode)
      have hcs' := hcs.rely (RS.at w d)
      have hcom' := hcom.at d
      have hwg' : WgAt ty Wg (w.at d) st sm := hwg
      have hk' := hk.trans (Kept.at F w d)
      have hx : Nxt P ty Wg C n F o val Ret AnchW w0 (phi (o + n) (Vc j D) tag + Ssum j D, f0 + 2 * Fsum j D) gs (w.at d) sl' t i := by
        cases i with
        | zero =>
          rw [ha] at hg; cases hg
          exact stepCaller hn hAn ha hcs' hcom' hwg' hmode hk' hacq hrun (fun e hx => hs ⟨e, fun w₁ h₁ => hx w₁ ((RS.back w d).trans h₁)⟩)
        | succ i =>
          have hi : i < j := by have := (Array.getElem?_eq_some_iff.1 hg).1; rw [hcom.size] at this; omega
          exact stepWorker hAr hn ha hcs' hcom' hwg' hmode hk' hacq hi hg hrun
      obtain ⟨m₁, ops, μ', h1, h2, h3⟩ := hx
      obtain ⟨N, m', t', r1, r2⟩ := ih μ' h2 m₁ _ h3
      exact ⟨N + 1, m', t', by rw [runNT_succ_next (hstep.trans h1)]; exact r1, r2⟩

/-- The group's block is new: nobody has touched it. -/
theorem Trc.group {B p : Nat} (h : Trc F B p t) (hW : B ≤ Wg) : Trc (FW F Wg) B p t := by
  have hup : ∀ l, ShF F l → ShF (FW F Wg) l := fun l ⟨a, e, hF⟩ => ⟨a, e, .inl hF⟩
  refine ⟨⟨h.past.clean, fun i a ha hm => (h.past.known i a ha hm).imp id fun ⟨x, y⟩ => ⟨hup _ x, y⟩, h.past.over, h.past.hears, h.past.seen⟩, fun i a ha => (h.all i a ha).imp id (hup _), fun i op x hi hx hs => ?_, h.gsz⟩
  obtain ⟨ad, e, hF⟩ := hs
  rcases hF with hF | hF
  · exact h.quiet i op x hi hx ⟨ad, e, hF⟩
  · exact absurd e (fresh_of_low (X := fun b => b = Wg) h.past.seen (fun b hb => by omega) (l := .cell ad) (.inl ⟨ad, rfl, hF⟩) i x (by rw [touchAt_of hi]; exact hx))

/-- From the starter's frame beside leavers, all joined. -/
theorem crew_join {vals : List Value} (hl : vals.length = n) (hv : ∀ i, i < n → vals[i]? = some (val i)) (hn : o + n < 2147483648) (hAr : ∀ A O g w, AnchW A O g w → g.status = .running)
    (hAn : ∀ A O g w, AnchW A O g w → ∃ m, Goes P true (RS ty Wg A) (DQ Wg) (AtW1 P ty Wg Ret AnchW A O) m g w)
    {q : Nat → Nat} {A0 O0 : Bks} (hsz : gs.size = o + 1) (ha : gs[0]? = some a) (hL : Leavers P t gs q) (hT : Trc (FW F Wg) w.heap.size gs.size t) (hnr : NoRelease (stA Wg) t) (hwg : WgAt ty Wg w 0 0) (hp : PayAt C n w)
    (hA : ∀ b, A0 b → b < w.heap.size ∧ b ≠ C ∧ b ≠ Wg ∧ ¬ F b) (hO : ∀ b, O0 b → A0 b) (hC : C < w.heap.size ∧ C ≠ Wg ∧ ¬ F C) (hW : Wg < w.heap.size ∧ ¬ F Wg) (hF : ∀ b, F b → b < w.heap.size)
    (hs : Spawns P ty Wg C n val AnchW n A0 O0 a w) :
    ∃ N m' t', runNT P N (crowd gs w sl) t = (.next m', t') ∧ Joined P ty Wg C n F o vals Ret w m' t' := by
  let A : Nat → Bks := upd (fun _ _ => False) 0 A0
  let O : Nat → Bks := upd (fun _ _ => False) 0 O0
  have eA : A 0 = A0 := upd_same ..
  have eO : O 0 = O0 := upd_same ..
  have nA : ∀ k, k ≠ 0 → ∀ b, ¬ A k b := fun k hk b hb => by
    have : A k = fun _ => False := upd_ne _ _ hk
    rw [this] at hb; exact hb
  have nO : ∀ k, k ≠ 0 → ∀ b, ¬ O k b := fun k hk b hb => by
    have : O k = fun _ => False := upd_ne _ _ hk
    rw [this] at hb; exact hb
  have ninO : ∀ k l, 1 ≤ k → ¬ inBk (O k) l := fun k l hk h => by
    rcases h with ⟨x, _, h⟩ | ⟨x, _, h⟩ <;> exact nO k (by omega) _ h
  have ninA : ∀ k l, 1 ≤ k → ¬ inBk (A k) l := fun k l hk h => by
    rcases h with ⟨x, _, h⟩ | ⟨x, _, h⟩ <;> exact nA k (by omega) _ h
  let D : Nat → WD := fun i => ⟨1, q (i + 1), Deaf t (i + 1)⟩
  have hct : CT (ShF (FW F Wg)) (OwnL O C o) (RdL A O) t o := by
    refine ⟨hT.quiet, fun k k1 kj l h => ?_, fun k k1 kj l h => ?_, fun l hs _ i x hx e => ?_, fun l hs _ i x hx e _ => ?_, hT.past.clean, fun i op hi => ?_⟩
    · rcases h with h | ⟨h, _⟩
      · exact absurd h (ninO k l k1)
      · omega
    · exact absurd h.1 (ninA k l k1)
    · exact (hT.all i x hx).resolve_right (e ▸ hs)
    · exact (hT.all i x hx).resolve_right (e ▸ hs)
    · have := hT.gsz op (Array.mem_of_getElem? hi)
      omega
  have hcom : Cm P ty Wg C n F o val o A O gs w t D 0 := by
    refine ⟨hsz, Nat.le_refl _, fun i h1 h2 => by omega, fun i hi => ?_, hct, hnr, hT.past.hears, fun i hi => rfl, fun i h1 h2 => by omega, fun i h1 h2 => by omega, hp, ⟨fun k b hb => ?_, fun k b hb => ?_, fun k k' hne b hb hb' => ?_, fun k hk b => nA k (by omega) b, hC, hW, hF⟩, hT.past.seen, fun i x g hx hg _ _ => hT.all i x hx, fun i g hg hne hgo hc => hT.past.over i g hg hne hc, fun i x g hx hg hog => ?_⟩
    · have hlt : i + 1 < gs.size := by omega
      exact ⟨gs[i + 1], Array.getElem?_eq_getElem hlt, rfl, hL.old (i + 1) _ (by omega) (Array.getElem?_eq_getElem hlt)⟩
    · by_cases hk : k = 0
      · subst hk; rw [eA] at hb; exact hA b hb
      · exact absurd hb (nA k hk b)
    · by_cases hk : k = 0
      · subst hk; rw [eO] at hb; rw [eA]; exact hO b hb
      · exact absurd hb (nO k hk b)
    · by_cases hk : k = 0
      · subst hk; exact nA k' (Ne.symm hne) b hb'
      · exact nO k hk b hb
    · obtain ⟨y, hy, hyg⟩ := Option.map_eq_some_iff.1 hg
      have := hT.gsz y (Array.mem_of_getElem? hy)
      omega
  have hV : Vc o D = 0 := by
    have key : ∀ k, Vc k D = 0 := fun k => by
      induction k with
      | zero => rfl
      | succ k ih => simp only [Vc, sumTo] at ih ⊢; rw [ih]; rfl
    exact key o
  have hmode : ∀ tag, isOpen tag → pend tag = 0 → (∀ vs, tag ≠ .w2 vs) → ConcN.Mode o D tag 0 0 := fun tag h1 h2 h3 => by
    have := ConcN.Mode.opn (j := o) (D := D) h1 (fun i hi => .inr (.inr (.inr rfl))) (fun vs e => absurd e (h3 vs))
    simpa [hV, h2] using this
  have hI : ∃ μ, CInv P ty Wg C n F o val Ret AnchW w μ (crowd gs w sl) t := by
    cases n with
    | zero =>
      obtain ⟨m, hk⟩ := hs
      exact ⟨_, gs, w, sl, o, A, O, D, .kd, m, 0, a, 0, 0, rfl, ha, by rw [eA, eO]; exact .kd hk, hcom, hwg, hmode .kd trivial rfl (by simp), .refl F w, by simp, rfl⟩
    | succ r =>
      obtain ⟨m, hk⟩ := hs
      have hc := SSit.skd (Ret := Ret) (o := o) (Nat.lt_succ_self r) hk
      rw [Nat.sub_self] at hc
      exact ⟨_, gs, w, sl, o, A, O, D, .sp r 5, m, 0, a, 0, 0, rfl, ha, by rw [eA, eO]; exact hc, hcom, hwg, hmode (.sp r 5) trivial rfl (by simp), .refl F w, by simp, rfl⟩
  obtain ⟨μ, hI⟩ := hI
  exact crew_runs hl hv hn hAr hAn μ _ _ hI
end
end Go.Proofs.Ytajheicheefpeaa

/- Rules of the judgement Goes, step by step, for whatever rely and guarantee. -/
namespace Go.Proofs.Ytajheicheefpeaa
open Go.Conc
set_option linter.unusedSimpArgs false
set_option linter.unusedVariables false

section
variable {P : Program} {main : Bool} {R : World → World → Prop} {D : World → World → Array Event → Prop} {Stop : Goroutine → World → Prop} {b : Frame} {a : Act} {k : List Item} {cs : List Frame} {w : World} {n : Nat}

theorem gt_step (T : Terms R D) {g g' : Goroutine} (hs : g.status = .running) (h : ∀ w, stepG P main g w = .go g' w) (h' : Goes P main R D Stop n g' w) : Goes P main R D Stop (n + 1) g w :=
  Goes.step hs fun w₁ h₁ => by rw [h w₁]; exact ⟨T.idle _, Goes.rely T.trans h' h₁⟩
theorem gt_seq (T : Terms R D) {x y : Code} (h : Goes P main R D Stop n (G (b.at a (.code x :: .code y :: k)) cs) w) : Goes P main R D Stop (n + 1) (G (b.at a (.code (.seq x y) :: k)) cs) w := gt_step T rfl (fun _ => stepG_seq) h
theorem gt_end (T : Terms R D) {ops : Array Oper} (h : Goes P main R D Stop n (G (b.at a k) cs) w) : Goes P main R D Stop (n + 1) (G (b.at a (.inRegion ops [] :: k)) cs) w := gt_step T rfl (fun _ => stepG_region_end) h
theorem gt_reg (T : Terms R D) {id : Nat} {ops : Array Oper} (h : Goes P main R D Stop n (G (b.at a (.inRegion ops (List.range ops.size) :: k)) cs) w) : Goes P main R D Stop (n + 1) (G (b.at a (.code (.region id ops false) :: k)) cs) w := gt_step T rfl (fun _ => stepG_region) h
theorem gt_skip (T : Terms R D) (h : Goes P main R D Stop n (G (b.at a k) cs) w) : Goes P main R D Stop (n + 1) (G (b.at a (.code .skip :: k)) cs) w := gt_step T rfl (fun _ => stepG_skip) h
theorem gt_ret (T : Terms R D) (h : Goes P main R D Stop n (G { b.at a (.code .ret :: k) with mode := .returning } cs) w) : Goes P main R D Stop (n + 1) (G (b.at a (.code .ret :: k)) cs) w := gt_step T rfl (fun _ => stepG_ret') h
theorem gt_fin (T : Terms R D) (h : Goes P main R D Stop n (G { b.at a [] with mode := .returning } cs) w) : Goes P main R D Stop (n + 1) (G (b.at a []) cs) w := gt_step T rfl (fun _ => stepG_end) h
theorem gt_block (T : Terms R D) {id : Nat} {c : Code} (h : Goes P main R D Stop n (G (b.at a (.code c :: .inBlock id :: k)) cs) w) : Goes P main R D Stop (n + 1) (G (b.at a (.code (.block id c) :: k)) cs) w := gt_step T rfl (fun _ => stepG_block) h
theorem gt_loop (T : Terms R D) {c : Code} (h : Goes P main R D Stop n (G (b.at a (.code c :: .inLoop c :: k)) cs) w) : Goes P main R D Stop (n + 1) (G (b.at a (.code (.loop c) :: k)) cs) w := gt_step T rfl (fun _ => stepG_loop) h
theorem gt_inBlock (T : Terms R D) {id : Nat} (h : Goes P main R D Stop n (G (b.at a k) cs) w) : Goes P main R D Stop (n + 1) (G (b.at a (.inBlock id :: k)) cs) w := gt_step T rfl (fun _ => stepG_inBlock) h
theorem gt_inLoop (T : Terms R D) {c : Code} (h : Goes P main R D Stop n (G (b.at a (.code c :: .inLoop c :: k)) cs) w) : Goes P main R D Stop (n + 1) (G (b.at a (.inLoop c :: k)) cs) w := gt_step T rfl (fun _ => stepG_inLoop) h
theorem gt_cond (T : Terms R D) {c : Operand} {x y : Code} (t : Bool) (hc : a.eval c = .bool t) (h : Goes P main R D Stop n (G (b.at a (.code (if t then x else y) :: k)) cs) w) : Goes P main R D Stop (n + 1) (G (b.at a (.code (.cond c x y) :: k)) cs) w := gt_step T rfl (fun _ => stepG_cond hc) h
theorem gt_exit (T : Terms R D) {id : Nat} {k' : List Item} (hk : exitTo id k = some k') (h : Goes P main R D Stop n (G (b.at a k') cs) w) : Goes P main R D Stop (n + 1) (G (b.at a (.code (.exit id) :: k)) cs) w := gt_step T rfl (fun _ => stepG_exit hk) h

/-- An operation that yields a value and turns nothing. -/
theorem gt_val (T : Terms R D) {ops : Array Oper} {i : Nat} {rest : List Nat} {o : Oper} (v : Value) (ho : ops[i]? = some o) (hw : Region.wanted o (yielded ops a.tmps) = true) (hk : b.kind ≠ .early)
    (h : ∀ w₁, R w w₁ → (execOp a.eval o).run P w₁ = .ok (.value v) w₁ ∧ D w₁ w₁ (listed P b.fn a o w₁)) (hn : Goes P main R D Stop n (G (b.at (a.put o.dst v) (.inRegion ops rest :: k)) cs) w) :
    Goes P main R D Stop (n + 1) (G (b.at a (.inRegion ops (i :: rest) :: k)) cs) w :=
  Goes.step rfl fun w₁ h₁ => by
    obtain ⟨h1, h2⟩ := h w₁ h₁
    rw [stepG_value ho hw hk h1]
    exact ⟨h2, Goes.rely T.trans hn h₁⟩
/-- A defer statement. -/
theorem gt_defer (T : Terms R D) {ops : Array Oper} {i : Nat} {rest : List Nat} {o : Oper} {f : FuncId} {ags : Array Operand} {ats : Array TypeId} (ho : ops[i]? = some o) (hw : Region.wanted o (yielded ops a.tmps) = true) (hk : b.kind ≠ .early)
    (hop : o.op = .defer { callee := .value (.func f), args := ags, argTypes := ats }) (hn : Goes P main R D Stop n (G (b.at (Act.put ⟨a.tmps, dcall f (ags.map a.eval) :: a.defers⟩ o.dst undef) (.inRegion ops rest :: k)) cs) w) :
    Goes P main R D Stop (n + 1) (G (b.at a (.inRegion ops (i :: rest) :: k)) cs) w :=
  Goes.step rfl fun w₁ h₁ => by
    rw [stepG_defer ho hw hk hop]
    exact ⟨T.idle _, Goes.rely T.trans hn h₁⟩
/-- An operation that stores. -/
theorem gt_store (T : Terms R D) {ops : Array Oper} {i : Nat} {rest : List Nat} {o : Oper} (ho : ops[i]? = some o) (hw : Region.wanted o (yielded ops a.tmps) = true) (hk : b.kind ≠ .early)
    (h : ∀ w₁, R w w₁ → ∃ w', (execOp a.eval o).run P w₁ = .ok .skip w' ∧ D w₁ w' (listed P b.fn a o w₁) ∧ Goes P main R D Stop n (G (b.at (a.put o.dst undef) (.inRegion ops rest :: k)) cs) w') :
    Goes P main R D Stop (n + 1) (G (b.at a (.inRegion ops (i :: rest) :: k)) cs) w :=
  Goes.step rfl fun w₁ h₁ => by
    obtain ⟨w', h1, h2, h3⟩ := h w₁ h₁
    rw [stepG_none ho hw hk h1]
    exact ⟨h2, h3⟩
/-- An operation that yields a value and turns the world. -/
theorem gt_new (T : Terms R D) {ops : Array Oper} {i : Nat} {rest : List Nat} {o : Oper} (ho : ops[i]? = some o) (hw : Region.wanted o (yielded ops a.tmps) = true) (hk : b.kind ≠ .early)
    (h : ∀ w₁, R w w₁ → ∃ v w', (execOp a.eval o).run P w₁ = .ok (.value v) w' ∧ D w₁ w' (listed P b.fn a o w₁) ∧ Goes P main R D Stop n (G (b.at (a.put o.dst v) (.inRegion ops rest :: k)) cs) w') :
    Goes P main R D Stop (n + 1) (G (b.at a (.inRegion ops (i :: rest) :: k)) cs) w :=
  Goes.step rfl fun w₁ h₁ => by
    obtain ⟨v, w', h1, h2, h3⟩ := h w₁ h₁
    rw [stepG_value ho hw hk h1]
    exact ⟨h2, h3⟩
/-- Back to the frame beneath, with one result. -/
theorem gt_leave1 (T : Terms R D) {f : FuncId} {fn : Func} {t : Tmp} {a : Act} {todo : List Item} {b₀ : Frame} {a₀ : Act} {ops : Array Oper} {i : Nat} {rest : List Nat} (hd : a.defers = []) (hf : P.funcs[f]? = some fn) (hr : fn.results = #[.tmp t])
    (h : Goes P main R D Stop n (G (b₀.at (a₀.put ((ops[i]?).bind (·.dst)) (a.tmps.getD t undef)) (.inRegion ops rest :: k)) cs) w) : Goes P main R D Stop (n + 1) (G { (base f).at a todo with mode := .returning } (b₀.at a₀ (.inRegion ops (i :: rest) :: k) :: cs)) w :=
  Goes.step rfl fun w₁ h₁ => goes_leave1 (b := base f) rfl hd hf hr ⟨T.idle _, Goes.rely T.trans h h₁⟩
/-- A call is entered. -/
theorem gt_enter (T : Terms R D) {ops : Array Oper} {i : Nat} {rest : List Nat} {o : Oper} {f : FuncId} {args : Array Operand} {ats : Array TypeId} {fn : Func} {c : Code} (ho : ops[i]? = some o) (hw : Region.wanted o (yielded ops a.tmps) = true) (hk : b.kind ≠ .early)
    (hop : o.op = .call { callee := .value (.func f), args, argTypes := ats }) (hf : P.funcs[f]? = some fn) (hname : (fn.name == "runtime.NumGoroutine") = false) (hb : fn.body = some c)
    (h : Goes P main R D Stop n (G ((base f).at { tmps := args.map a.eval ++ Array.replicate (fn.ntmps - (args.map a.eval).size) undef, defers := [] } [.code c]) (b.at a (.inRegion ops (i :: rest) :: k) :: cs)) w) :
    Goes P main R D Stop (n + 1) (G (b.at a (.inRegion ops (i :: rest) :: k)) cs) w :=
  Goes.step rfl fun w₁ h₁ => goes_call ho hw hk hop hf hname hb ⟨T.idle _, Goes.rely T.trans h h₁⟩
/-- An operation that is not wanted. -/
theorem gt_not (T : Terms R D) {ops : Array Oper} {i : Nat} {rest : List Nat} {o : Oper} (ho : ops[i]? = some o) (hw : Region.wanted o (yielded ops a.tmps) = false) (h : Goes P main R D Stop n (G (b.at (a.put o.dst undef) (.inRegion ops rest :: k)) cs) w) :
    Goes P main R D Stop (n + 1) (G (b.at a (.inRegion ops (i :: rest) :: k)) cs) w := gt_step T rfl (fun _ => stepG_unwanted ho hw) h
/-- Out of a frame with a deferred call: into it. -/
theorem gt_unwind (T : Terms R D) {f : FuncId} {args : Array Value} {ds : List Deferred} {fn : Func} {c : Code} {todo : List Item} (hd : a.defers = dcall f args :: ds) (hf : P.funcs[f]? = some fn) (hname : (fn.name == "runtime.NumGoroutine") = false) (hb : fn.body = some c)
    (h : Goes P main R D Stop n (G ((baseD f).at { tmps := args ++ Array.replicate (fn.ntmps - args.size) undef, defers := [] } [.code c]) ({ b.at ⟨a.tmps, ds⟩ todo with mode := .returning } :: cs)) w) : Goes P main R D Stop (n + 1) (G { b.at a todo with mode := .returning } cs) w :=
  gt_step T rfl (fun _ => stepG_unwind_enter hd hf hname hb) h

theorem goes_chg {R' : World → World → Prop} {D' : World → World → Array Event → Prop} (hR : ∀ a b, R' a b → R a b) (hD : ∀ w w' es, D w w' es → D' w w' es) : ∀ {n : Nat} {g : Goroutine} {w : World}, Goes P main R D Stop n g w → Goes P main R' D' Stop n g w := by
  intro m
  induction m with
  | zero => intro g w h; exact fun w₁ h₁ => h w₁ (hR _ _ h₁)
  | succ m ih =>
    intro g w h
    rcases h with h | ⟨hs, h⟩
    · exact .inl fun w₁ h₁ => h w₁ (hR _ _ h₁)
    · refine .inr ⟨hs, fun w₁ h₁ => ?_⟩
      have := h w₁ (hR _ _ h₁)
      cases hst : stepG P main g w₁ with
      | go g' w' es =>
        rw [hst, goes_go] at this
        rw [goes_go]
        exact ⟨hD _ _ _ this.1, ih this.2⟩
      | _ => rw [hst] at this; exact this.elim
end

theorem priv_of_goes {P : Program} {main : Bool} {R : Bks → World → World → Prop} {D : Bks → Bks → Bks → Bks → World → World → Array Event → Prop} {Stop : Bks → Bks → Goroutine → World → Prop} {A O : Bks} {Dg : World → World → Array Event → Prop}
    (hD : ∀ w w' es, Dg w w' es → D A O A O w w' es) : ∀ {n : Nat} {g : Goroutine} {w : World}, Goes P main (R A) Dg (Stop A O) n g w → Priv P main R D Stop n A O g w := by
  intro n
  induction n with
  | zero => intro g w h; exact h
  | succ n ih =>
    intro g w h
    rcases h with h | ⟨hs, h⟩
    · exact .inl h
    · refine .inr ⟨hs, fun w₁ h₁ => ?_⟩
      have := h w₁ h₁
      cases hst : stepG P main g w₁ with
      | go g' w' es =>
        rw [hst, goes_go] at this
        exact ⟨g', w', es, A, O, rfl, hD _ _ _ this.1, ih this.2⟩
      | _ => rw [hst] at this; exact this.elim
end Go.Proofs.Ytajheicheefpeaa

/- Goroutine 0 beside leavers, by what follows: single steps, pieces of plain text, a starter with its workers, the return. -/
namespace Go.Proofs.Ytajheicheefpeaa
open Go.Conc
open Go.ConcN (WgLive PayAt Has Full upd sumTo)
open Go.ConcR (KK wgBlock WgAt stA smA Payload)
set_option linter.unusedSimpArgs false
set_option linter.unusedVariables false

/-- What a single step may do. -/
def DB (F : Bks) (w w' : World) (es : Array Event) : Prop := w.heap.size ≤ w'.heap.size ∧ ∀ e ∈ es, EvOk F w'.heap.size e

theorem termsB {F : Bks} : Terms AtRel (DB F) := ⟨atRel_trans, fun w => ⟨Nat.le_refl _, by simp⟩⟩

def Ends (P : Program) (Post : Value → World → Prop) (m : Machine) (t : Trace) : Prop :=
  ∃ N last o w' t', runNT P (N + 1) m t = (.ended o w', t') ∧ runN P N m = .next last ∧ step P last = .ended o w' ∧ Conc.Good P Post last o w' t'

/-- From here goroutine 0 comes to the return, whatever is drawn. -/
def Ok (P : Program) (F : Bks) (p : Nat) (Post : Value → World → Prop) (a : Goroutine) (w : World) : Prop :=
  ∀ (gs : Array Goroutine) (sl : Option (Nat × Nat)) (t : Trace) (q : Nat → Nat), gs.size = p → gs[0]? = some a → Leavers P t gs q → Trc F w.heap.size p t → Ends P Post (crowd gs w sl) t

section
variable {P : Program} {F : Bks} {p : Nat} {Post : Value → World → Prop} {a : Goroutine} {w : World}

theorem Ends.of {m m' : Machine} {t t' : Trace} {N : Nat} (h : runNT P N m t = (.next m', t')) (he : Ends P Post m' t') : Ends P Post m t := by
  obtain ⟨K, last, o, w', u, h1, h2, h3, h4⟩ := he
  have hn : runN P N m = .next m' := by rw [← runNT_fst _ _ _ t, h]
  refine ⟨N + K, last, o, w', u, ?_, ?_, h3, h4⟩
  · rw [Nat.add_assoc, runNT_add, h]; exact h1
  · rw [runN_add, hn]; exact h2

/-- Single steps. -/
theorem ok_goes {Stop : Goroutine → World → Prop} (hS : ∀ a w, Stop a w → Ok P F p Post a w) : ∀ {n : Nat} {a : Goroutine} {w : World}, Goes P true AtRel (DB F) Stop n a w → Ok P F p Post a w := by
  intro n
  induction n with
  | zero => intro a w h; exact hS a w (h w (atRel_refl w))
  | succ n ih =>
    intro a w h
    rcases h with h | ⟨hrun, h⟩
    · exact hS a w (h w (atRel_refl w))
    have key : ∀ (M : Nat) (w₀ : World), AtRel w w₀ → ∀ (gs : Array Goroutine) (sl : Option (Nat × Nat)) (t : Trace) (q : Nat → Nat), sumTo gs.size q ≤ M → gs.size = p → gs[0]? = some a → Leavers P t gs q → Trc F w₀.heap.size p t → Ends P Post (crowd gs w₀ sl) t := by
      intro M
      induction M using Nat.strongRecOn with
      | _ M ihM =>
        intro w₀ hr gs sl t q hM hp h0 hL hT
        subst hp
        obtain ⟨d, sl', hst | ⟨gs', q', ops, hst, h1, h2, h3, h4, h5⟩⟩ := frame_step (sl := sl) h0 hrun hL hT
        · have hs := h (w₀.at d) (atRel_trans _ _ _ hr ⟨d, rfl⟩)
          cases hgo : stepG P true a (w₀.at d) with
          | go a' w' es =>
            rw [hgo, goes_go] at hs
            obtain ⟨⟨hz, hes⟩, hg⟩ := hs
            obtain ⟨gs', ops, g1, g2, g3, g4, g5⟩ := frame_own (w := w₀.at d) (sl := sl') h0 hL hT hgo hz hes
            refine Ends.of (N := 1) (by simp only [runNT, hst, g1]) (ih hg gs' sl' (t ++ ops) q g2 g3 g4 ?_)
            rw [g2] at g5; exact g5
          | _ => rw [hgo] at hs; exact hs.elim
        · refine Ends.of (N := 1) (by simp only [runNT, hst]) (ihM (sumTo gs.size q') (by omega) (w₀.at d) (atRel_trans _ _ _ hr ⟨d, rfl⟩) gs' sl' (t ++ ops) q' (by rw [h1]; exact Nat.le_refl _) h1 h2 h3 ?_)
          rw [h1] at h4; exact h4
    intro gs sl t q hp h0 hL hT
    exact key _ w (atRel_refl w) gs sl t q (Nat.le_refl _) hp h0 hL hT

/-- A piece of plain text. -/
theorem ok_win {K : Kit P} {ret : Bool} {Q : FuncId → Bool → Array Value → World → Prop} {k : List Item} {cs : List Frame} {stk : List TF} {w0 : World} (hw : Win K ret Q stk w0) (hne : stk ≠ []) (hS : Sim F w0 w)
    (h : ∀ (f : TF) (w0' w' : World), Floor ret f → Q f.fn f.ret f.tmps w0' → Sim F w0' w' → w'.tape = w.tape → w.heap.size ≤ w'.heap.size → Stay w w' → Ok P F p Post (mkG (frs k cs [f])) w') : Ok P F p Post (mkG (frs k cs stk)) w := by
  intro gs sl t q hp h0 hL hT
  subst hp
  obtain ⟨N, gs', f, w0', w', sl', t', q', r1, r2, r3, r4, r5, r6, r7, r8, r11, r9, r10⟩ := walk_win hw hne _ gs w sl t q (Nat.le_refl _) h0 hL hT hS
  refine Ends.of r1 (h f w0' w' r4 r5 r6 r7 r8 r11 gs' sl' t' q' r2 r3 r9 ?_)
  rw [r2] at r10; exact r10

/-- The return. -/
theorem ok_end {D : World → World → Array Event → Prop} {n : Nat} (hD : ∀ w₁ w' es, D w₁ w' es → ∀ e ∈ es, EvL (ShF F) w.heap.size e) (hG : Goes P true AtRel D (AtEnd P (ShF F) w.heap.size Post) n a w) : Ok P F p Post a w :=
  fun gs sl t q hp h0 hL hT => beside_ends hD h0 hL hT.past hG

/-- The text's piece, alone, by its judgement. -/
def QW (Q : Bool → Array Value → World → Prop) : Exit → Act → World → Prop
  | .normal, a, w => a.defers = [] ∧ Q false a.tmps w
  | .ret, a, w => a.defers = [] ∧ Q true a.tmps w
  | _, _, _ => False

theorem lone_of_wp {Q : Bool → Array Value → World → Prop} {c : Code} {T : Array Value} {fn : FuncId} (h : ∀ τ d, c.wp P (QW Q) ⟨T, []⟩ (onT w τ d)) : Lone (P := P) (fun n b T w => n = fn ∧ Q b T w) [⟨fn, T, [.code c], false⟩] w := by
  intro τ d
  obtain ⟨e, ⟨T', ds⟩, w', q, r⟩ := h τ d (base fn) [sent] [catchF P]
  cases e with
  | normal =>
    obtain ⟨rfl, q⟩ := q
    obtain ⟨n, hn⟩ := r
    exact ⟨n, _, w', hn, .inr ⟨rfl, rfl, rfl, q⟩⟩
  | ret =>
    obtain ⟨rfl, q⟩ := q
    obtain ⟨todo, n, hn⟩ := r
    exact ⟨n, _, w', hn, .inl ⟨rfl, rfl, q⟩⟩
  | _ => exact q.elim

/-- .. beside leavers. -/
theorem ok_code {K : Kit P} (hB : Bodies K) {ret : Bool} {Q : Bool → Array Value → World → Prop} (hQ : ∀ b T w τ d, Q b T w → Q b T (onT w τ d)) {c : Code} {T : Array Value} {fn : FuncId} {k : List Item} {cs : List Frame} {w0 : World}
    (hc : okCode K ret [] c = true) (hf : ∃ f, P.funcs[fn]? = some f) (hn : NoPend w0) (hS : Sim F w0 w) (h : ∀ τ d, c.wp P (QW Q) ⟨T, []⟩ (onT w0 τ d))
    (hN : ∀ (T' : Array Value) (w0' w' : World), Q false T' w0' → Sim F w0' w' → w'.tape = w.tape → w.heap.size ≤ w'.heap.size → Stay w w' → Ok P F p Post (G ((base fn).at ⟨T', []⟩ k) cs) w')
    (hR : ∀ (T' : Array Value) (todo : List Item) (w0' w' : World), Q true T' w0' → Sim F w0' w' → w'.tape = w.tape → w.heap.size ≤ w'.heap.size → Stay w w' → Ok P F p Post (G { (base fn).at ⟨T', []⟩ todo with mode := .returning } cs) w') :
    Ok P F p Post (G ((base fn).at ⟨T, []⟩ (.code c :: k)) cs) w := by
  have hok : StkOk K ret [⟨fn, T, [.code c], false⟩] := ⟨by simp [okItems, okItem, idsOf, hc], hf, fun e => by cases e⟩
  have hwin := win_of_lone K ret _ hB (fun n b T w τ d h => ⟨h.1, hQ b T w τ d h.2⟩) (by simp) hok hn (lone_of_wp h)
  refine ok_win (p := p) (Post := Post) (k := k) (cs := cs) hwin (by simp) hS (fun f w0' w' hfl hq hS' ht hz hst => ?_)
  obtain ⟨fn', T', todo, rt⟩ := f
  obtain ⟨rfl, hq⟩ := hq
  cases rt with
  | false =>
    obtain rfl : todo = [] := hfl.resolve_left (by simp)
    exact hN T' w0' w' hq hS' ht hz hst
  | true => exact hR T' (todo ++ k) w0' w' hq hS' ht hz hst
end
end Go.Proofs.Ytajheicheefpeaa

/- A starter and its workers, by what follows. -/
namespace Go.Proofs.Ytajheicheefpeaa
open Go.Conc
open Go.ConcN (WgLive PayAt Has Full upd sumTo)
open Go.ConcR (KK wgBlock WgAt stA smA Payload DC0)
set_option linter.unusedSimpArgs false
set_option linter.unusedVariables false

theorem noRelease_low {t : Trace} {B Wg : Nat} (h : ∀ op ∈ t, op.act.low B) (hB : B ≤ Wg) : NoRelease (stA Wg) t := by
  intro i hi
  obtain ⟨op, hop, hact⟩ := Option.map_eq_some_iff.1 hi
  have := h op (Array.mem_of_getElem? hop)
  rw [hact] at this
  simp only [MemAct.low, stA] at this
  omega

section
variable [Payload] {P : Program} {F : Bks} {p : Nat} {Post : Value → World → Prop} {a : Goroutine} {w : World} {ty : TypeId} {C n : Nat} {val : Nat → Value} {vals : List Value} {Ret AnchW : Bks → Bks → Goroutine → World → Prop}

theorem ok_crew (hl : vals.length = n) (hv : ∀ i, i < n → vals[i]? = some (val i)) (hp : 0 < p) (hn : p - 1 + n < 2147483648) (hAr : ∀ A O g w, AnchW A O g w → g.status = .running)
    (hAn : ∀ A O g w', AnchW A O g w' → ∃ m, Goes P true (RS ty w.heap.size A) (DQ w.heap.size) (AtW1 P ty w.heap.size Ret AnchW A O) m g w')
    (hC : C < w.heap.size ∧ ¬ F C) (hF : ∀ b, F b → b < w.heap.size) (hrun : a.status = .running)
    (hstep : ∀ w₁, AtRel w w₁ → ∃ a1, stepG P true a w₁ = .go a1 (w₁.alloc (wgBlock ty 0 0)) #[] ∧ PayAt C n (w₁.alloc (wgBlock ty 0 0)) ∧
      Spawns P ty w.heap.size C n val AnchW n (fun b => b < w.heap.size ∧ b ≠ C ∧ ¬ F b) (fun _ => False) a1 (w₁.alloc (wgBlock ty 0 0)))
    (hnext : ∀ (A O : Bks) (a' : Goroutine) (w₁ w' : World), AtRel w w₁ → a'.status = .running → Ret A O a' w' → Full C vals w' → Kept F (w₁.alloc (wgBlock ty 0 0)) w' → WgAt ty w.heap.size w' 0 0 → Ok P (FW F w.heap.size) (p + n) Post a' w') :
    Ok P F p Post a w := by
  obtain ⟨Wg, hWg⟩ : ∃ Wg, w.heap.size = Wg := ⟨_, rfl⟩
  have key : ∀ (M : Nat) (w₀ : World), AtRel w w₀ → ∀ (gs : Array Goroutine) (sl : Option (Nat × Nat)) (t : Trace) (q : Nat → Nat), sumTo gs.size q ≤ M → gs.size = p → gs[0]? = some a → Leavers P t gs q → Trc F w₀.heap.size p t → Ends P Post (crowd gs w₀ sl) t := by
    intro M
    induction M using Nat.strongRecOn with
    | _ M ihM =>
      intro w₀ hr gs sl t q hM hp' h0 hL hT
      subst hp'
      have hsz : w₀.heap.size = Wg := by obtain ⟨d, rfl⟩ := hr; exact hWg
      obtain ⟨d, sl', hst | ⟨gs', q', ops, hst, h1, h2, h3, h4, h5⟩⟩ := frame_step (sl := sl) h0 hrun hL hT
      · have hr' : AtRel w (w₀.at d) := atRel_trans _ _ _ hr ⟨d, rfl⟩
        obtain ⟨a1, hgo, hpay, hsp⟩ := hstep (w₀.at d) hr'
        have hsz' : (w₀.at d).heap.size = Wg := hsz
        have hz : (w₀.at d).heap.size ≤ ((w₀.at d).alloc (wgBlock ty 0 0)).heap.size := by simp
        -- the step itself, the trace as it was
        have hrunT := runT_crowd_go (P := P) (sl := sl') (i := 0) h0 (show stepG P (0 == 0) a (w₀.at d) = _ from hgo)
        have hlt : 0 < gs.size := (Array.getElem?_eq_some_iff.1 h0).1
        have e0 : MemOp.ofEvents 0 a.frame.fn a.frame.place #[] = #[] := by simp [MemOp.ofEvents]
        obtain ⟨gs', ops, g1, g2, g3, g4, g5⟩ := frame_own (w := w₀.at d) (sl := sl') h0 hL hT hgo hz (by simp)
        have hops : ops = #[] := by
          rw [hrunT] at g1
          have := congrArg Prod.snd g1
          simpa [e0] using this.symm
        subst hops
        rw [Array.append_empty] at g4 g5
        have hT' : Trc (FW F Wg) (w₀.at d).heap.size gs.size t := Trc.group hT (by rw [← hsz]; exact Nat.le_refl _)
        have hnr : NoRelease (stA Wg) t := noRelease_low hT.past.seen (by rw [← hsz]; exact Nat.le_refl _)
        rw [hWg] at hsp hC hF hAn
        obtain ⟨N, m', t', r1, gsn, wn, sln, A, O, an, qn, rfl, j1, j2, j3, j4, j5, j6, j7, j8, j9⟩ := crew_join (P := P) (ty := ty) (Wg := Wg) (C := C) (n := n) (F := F) (o := gs.size - 1) (val := val) (Ret := Ret) (AnchW := AnchW) (gs := gs') (w := (w₀.at d).alloc (wgBlock ty 0 0)) (sl := sl') (t := t) (a := a1)
          hl hv hn hAr hAn (q := q) (A0 := fun b => b < Wg ∧ b ≠ C ∧ ¬ F b) (O0 := fun _ => False) (by omega) g3 g4 (by rw [g2]; exact hT'.mono hz (Nat.le_refl _)) hnr
          (by have := heap_alloc_new (w₀.at d) (wgBlock ty 0 0); rw [hsz'] at this; exact this) hpay (fun b hb => ⟨by simp [hsz']; omega, hb.2.1, by omega, hb.2.2⟩) (fun b hb => hb.elim) ⟨by simp [hsz']; omega, by omega, hC.2⟩ ⟨by simp [hsz'], fun h => by have := hF _ h; omega⟩ (fun b hb => by have := hF b hb; simp [hsz']; omega) hsp
        refine Ends.of (N := 1) (by simp only [runNT, hst, g1]; rfl) ?_
        rw [Array.append_empty]
        refine Ends.of r1 (hnext A O an (w₀.at d) wn hr' j3 j4 j5 j6 (by rw [hWg]; exact j7) gsn sln t' qn (by omega) j2 j8 ?_)
        rw [hWg]
        have e1 : gsn.size = gs.size + n := by omega
        rw [e1] at j9
        exact j9
      · refine Ends.of (N := 1) (by simp only [runNT, hst]) (ihM (sumTo gs.size q') (by omega) (w₀.at d) (atRel_trans _ _ _ hr ⟨d, rfl⟩) gs' sl' (t ++ ops) q' (by rw [h1]; exact Nat.le_refl _) h1 h2 h3 ?_)
        rw [h1] at h4; exact h4
  intro gs sl t q hp h0 hL hT
  exact key _ w (atRel_refl w) gs sl t q (Nat.le_refl _) hp h0 hL hT
end
end Go.Proofs.Ytajheicheefpeaa
