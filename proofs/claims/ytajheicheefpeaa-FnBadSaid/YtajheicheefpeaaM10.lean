import Derived.Test.YtajheicheefpeaaM1
import Derived.Deep.Strs
import Derived.Test.YtajheicheefpeaaM4
import Derived.Test.YtajheicheefpeaaM8
import Derived.BigQuiet
import Derived.Deep.QuietTactic
import Derived.Outline
import Derived.Test.YtajheicheefpeaaM9
/- Opening of a law's arguments: lists of blocks. -/
namespace Go.Proofs.Ytajheicheefpeaa
set_option maxRecDepth 100000
open Go.ChangeShapes Go.WideShapes Go.ChangeAt Go.RowKit Go.Deep
set_option linter.unusedVariables false

theorem cells_slI : Try.prog.cellsOf 36 = 1 := by kernel_rfl

theorem trodI {H : Type} {enc : TypeId × Value → H} {W : World} {fuel : Nat} {v : Value} {y : DataW H × List MemPlace} (h : DataW.trod enc Try.prog W 0 (fun _ => true) true fuel 36 [v] = some y) :
    ∃ a n c zs, v = .slice a n c ∧ RdI W a n zs ∧ WfI zs ∧ n ≤ maxLen := by
  rcases open_ints Try.underlying36 Try.underlying3 cells_int h with ⟨hcs, _⟩ | ⟨x, l, c, zs, hcs, _, hl, hm, hz, _, hcell, hwz⟩
  · injection hcs with hcs
    exact ⟨_, _, _, [], hcs, ⟨rfl, fun i hi => absurd hi (by omega)⟩, (by intro z hz; cases hz), Nat.zero_le _⟩
  · injection hcs with hcs
    simp at hz
    refine ⟨_, _, _, zs.take l, hcs, ⟨by simp; omega, fun i hi => ?_⟩, fun z hz' => ?_, by omega⟩
    · obtain ⟨b, off, spot⟩ := x
      have hc := hcell 0 (by omega)
      have hspot : spot = none := by simpa [Addr.add] using World.cell?_spot hc
      subst hspot
      refine ⟨b, off, rfl, World.block_lt_of_cell? _ _ hc, fun j hj => ?_⟩
      have hc := hcell j (by omega)
      simp only [List.getD_eq_getElem?_getD, List.getElem?_take, hj, if_true]
      simpa [Addr.add_lit] using hc
    · have := hwz z (List.mem_of_mem_take hz')
      exact ⟨by have h := this; simp [Lit.wf] at h; exact h.1, by have h := this; simp [Lit.wf] at h; exact h.2⟩

theorem openH {H : Type} {enc : TypeId × Value → H} {W : World} {base : Nat} {v : Value} {d : DataW H} {p : List MemPlace}
    (hv : Value.okWide Try.prog W .any base 22 v) (h : DataW.Trod enc Try.prog W 0 (fun _ => true) true 22 v d p) :
    ∃ a n c zs, v = .slice a n c ∧ (RdR eltHL W a n zs ∧ InH W zs) ∧ WfH zs ∧ n ≤ maxLen := by
  obtain ⟨a0, len0, cap0, rfl⟩ := okWide_slice Try.underlying22 hv
  obtain ⟨fuel, hf⟩ := h
  rcases open_slice Try.underlying22 hf with ⟨hcs, _⟩ | ⟨x, l, c, m, q, D, Pl, hcs, _, hl, hm, hmm, _, hcell⟩
  · simp [Value.cells] at hcs
    obtain ⟨rfl, rfl, rfl⟩ := hcs
    exact ⟨_, _, _, [], rfl, ⟨⟨rfl, fun i hi => absurd hi (by omega)⟩, (by intro z hz; cases hz)⟩, (by intro z hz; cases hz), Nat.zero_le _⟩
  · simp [Value.cells] at hcs
    obtain ⟨rfl, rfl, rfl⟩ := hcs
    simp at hmm
    have hint : ∀ i, i < len0 → ∃ z : HV, (W.cell? (x.add (i * 3)) = some (.int .i64 z.id) ∧ W.cell? (x.add (i * 3 + 1)) = some (.slice z.ad z.zs.length z.cp) ∧ W.cell? (x.add (i * 3 + 2)) = some (.int .i64 z.us)) ∧
        RdI W z.ad z.zs.length z.zs ∧ WfI z.zs ∧ z.zs.length ≤ maxLen ∧ (-9223372036854775808 ≤ z.id ∧ z.id ≤ 9223372036854775807) ∧ (-9223372036854775808 ≤ z.us ∧ z.us ≤ 9223372036854775807) := by
      intro i hi
      obtain ⟨cs', h1, h2⟩ := hcell i (by omega)
      rw [show Try.prog.cellsOf 57 = 3 by kernel_rfl] at h1
      obtain ⟨_, hlen, hc⟩ := World.cells?_some h1
      obtain ⟨y0, y1, y2, n', _, _, t0, t1, t2⟩ := trod_struct3 Try.underlying57 h2
      match cs', hlen with
      | [v0, v1, v2], _ =>
        have e0 := hc 0 (by omega)
        have e1 := hc 1 (by omega)
        have e2 := hc 2 (by omega)
        rw [add_add] at e0 e1 e2
        simp only [cells_int, cells_slI, List.drop_zero, List.drop_succ_cons, List.take_succ_cons, List.take_zero] at t0 t1 t2
        obtain ⟨z0, g0, _, w0⟩ := DataW.trod_int Try.underlying3 t0
        obtain ⟨z2, g2, _, w2⟩ := DataW.trod_int Try.underlying3 t2
        obtain ⟨ad, n, cc, zs, g1, hr, hw, hx⟩ := trodI t1
        injection g0 with g0
        injection g2 with g2
        subst g0 g1 g2
        have hzl := hr.1
        subst hzl
        exact ⟨⟨z0, ad, cc, zs, z2⟩, ⟨by simpa using e0, by simpa using e1, by simpa using e2⟩, hr, hw, hx, ⟨by have h := w0; simp [Lit.wf] at h; exact h.1, by have h := w0; simp [Lit.wf] at h; exact h.2⟩, by have h := w2; simp [Lit.wf] at h; exact h.1, by have h := w2; simp [Lit.wf] at h; exact h.2⟩
    haveI : Inhabited HV := ⟨hv0⟩
    obtain ⟨f, hf'⟩ := choose_lt hint
    have hget : ∀ i y, ((List.range len0).map f)[i]? = some y → i < len0 ∧ y = f i := by
      intro i y hy
      rw [List.getElem?_map] at hy
      by_cases hi : i < len0
      · rw [List.getElem?_range hi] at hy
        exact ⟨hi, (Option.some.inj hy).symm⟩
      · rw [List.getElem?_eq_none (by simpa using hi)] at hy
        cases hy
    refine ⟨_, _, _, (List.range len0).map f, rfl, ⟨⟨by simp, fun i hi => ?_⟩, fun z hz' => ?_⟩, fun z hz' => ?_, by omega⟩
    · obtain ⟨b, off, spot⟩ := x
      have hc := (hf' 0 (by omega)).1.1
      have hspot : spot = none := by simpa [Addr.add] using World.cell?_spot hc
      subst hspot
      refine ⟨b, off, rfl, World.block_lt_of_cell? _ _ hc, fun j y hy k u hu => ?_⟩
      obtain ⟨hj, rfl⟩ := hget j y hy
      have hc := (hf' j hj).1
      simp only [Addr.add_lit, ← Nat.add_assoc] at hc
      match k, hu with
      | 0, hu => injection hu with hu; rw [← hu]; exact hc.1
      | 1, hu => injection hu with hu; rw [← hu]; exact hc.2.1
      | 2, hu => injection hu with hu; rw [← hu]; exact hc.2.2
      | k + 3, hu => cases hu
    · simp only [List.mem_map, List.mem_range] at hz'
      obtain ⟨i, hi, rfl⟩ := hz'
      exact (hf' i hi).2.1
    · simp only [List.mem_map, List.mem_range] at hz'
      obtain ⟨i, hi, rfl⟩ := hz'
      exact (hf' i hi).2.2

end Go.Proofs.Ytajheicheefpeaa

/- Opening of a law's arguments: lists of checks. -/
namespace Go.Proofs.Ytajheicheefpeaa
set_option maxRecDepth 100000
open Go.ChangeShapes Go.WideShapes Go.ChangeAt Go.RowKit Go.Deep
theorem openC {H : Type} {enc : TypeId × Value → H} {W : World} {base : Nat} {v : Value} {d : DataW H} {p : List MemPlace}
    (hv : Value.okWide Try.prog W .any base 34 v) (h : DataW.Trod enc Try.prog W 0 (fun _ => true) true 34 v d p) :
    ∃ a n c zs, v = .slice a n c ∧ RdX W a n zs ∧ WfX zs ∧ n ≤ maxLen := by
  obtain ⟨a0, len0, cap0, rfl⟩ := okWide_slice Try.underlying34 hv
  obtain ⟨fuel, hf⟩ := h
  rcases open_slice_pairs Try.underlying34 Try.underlying64 (by kernel_rfl) rfl rfl cells_int cells_int hf with ⟨hcs, _⟩ | ⟨x, l, c, m, q, V0, V1, D0, D1, P0, P1, hcs, _, hl, hm, hmm, _, hcell⟩
  · simp [Value.cells] at hcs
    obtain ⟨rfl, rfl, rfl⟩ := hcs
    exact ⟨_, _, _, [], rfl, ⟨rfl, fun i hi => absurd hi (by omega)⟩, (by intro z hz; cases hz), Nat.zero_le _⟩
  · simp [Value.cells] at hcs
    obtain ⟨rfl, rfl, rfl⟩ := hcs
    simp at hmm
    have hint : ∀ i, i < len0 → ∃ z : Int × Int, (W.cell? (x.add (i * 2)) = some (.int .i64 z.1) ∧ W.cell? (x.add (i * 2 + 1)) = some (.int .i64 z.2)) ∧ (-9223372036854775808 ≤ z.1 ∧ z.1 ≤ 9223372036854775807) ∧ -9223372036854775808 ≤ z.2 ∧ z.2 ≤ 9223372036854775807 := by
      intro i hi
      obtain ⟨e0, e1, t0, t1⟩ := hcell i (by omega)
      obtain ⟨z0, h0, _, w0⟩ := DataW.trod_int Try.underlying3 t0
      obtain ⟨z1, h1, _, w1⟩ := DataW.trod_int Try.underlying3 t1
      injection h0 with h0
      injection h1 with h1
      rw [h0] at e0
      rw [h1] at e1
      exact ⟨(z0, z1), ⟨e0, e1⟩, ⟨by have h := w0; simp [Lit.wf] at h; exact h.1, by have h := w0; simp [Lit.wf] at h; exact h.2⟩, by have h := w1; simp [Lit.wf] at h; exact h.1, by have h := w1; simp [Lit.wf] at h; exact h.2⟩
    obtain ⟨f, hf'⟩ := choose_lt hint
    have hget : ∀ i, i < len0 → ((List.range len0).map f).getD i (0, 0) = f i := by intro i hi; simp [List.getD_eq_getElem?_getD, hi]
    refine ⟨_, _, _, (List.range len0).map f, rfl, ⟨by simp, fun i hi => ?_⟩, fun z hz' => ?_, by omega⟩
    · obtain ⟨b, off, spot⟩ := x
      have hc := (hf' 0 (by omega)).1.1
      have hspot : spot = none := by simpa [Addr.add] using World.cell?_spot hc
      subst hspot
      refine ⟨b, off, rfl, World.block_lt_of_cell? _ _ hc, fun j hj => ?_⟩
      have hc := (hf' j (by omega)).1
      rw [hget j hj]
      simpa [Addr.add_lit, Nat.add_assoc] using hc
    · simp only [List.mem_map, List.mem_range] at hz'
      obtain ⟨i, hi, rfl⟩ := hz'
      exact (hf' i hi).2
end Go.Proofs.Ytajheicheefpeaa

/- A call of a plain function, beside leavers, by its lone contract. -/
namespace Go.Proofs.Ytajheicheefpeaa
open Go.Conc
set_option linter.unusedSimpArgs false
set_option linter.unusedVariables false

section
variable {P : Program}
def Stp0 (fr : Frame) : Prop := fr.mode = .returning ∨ (fr.mode = .run ∧ fr.todo = ([] : List Item))

theorem stp_fr0 {ret : Bool} {f : TF} : Stp0 (f.fr []) ↔ Floor ret f := by
  unfold Stp0 Floor TF.fr
  cases f.ret <;> simp

def StopM0 (P : Program) (ret : Bool) (m : Machine) : Prop := ∃ fr w, m = lone fr [catchF P] w ∧ Stp0 fr

def NoStop0 (P : Program) (ret : Bool) (m : Machine) : Prop := ∀ n m', runN P n m = .next m' → ¬ StopM0 P ret m'

theorem NoStop0.ended {ret : Bool} {m : Machine} {o : Outcome} {w : World} (h0 : ¬ StopM0 P ret m) (h : step P m = .ended o w) : NoStop0 P ret m := by
  intro n m' hr
  cases n with
  | zero => simp only [runN] at hr; cases hr; exact h0
  | succ n => simp only [runN, h] at hr; cases hr
theorem NoStop0.next {ret : Bool} {m m1 : Machine} (h0 : ¬ StopM0 P ret m) (h : step P m = .next m1) (h1 : NoStop0 P ret m1) : NoStop0 P ret m := by
  intro n m' hr
  cases n with
  | zero => simp only [runN] at hr; cases hr; exact h0
  | succ n => simp only [runN, h] at hr; exact h1 n m' hr

theorem no_stop_bottom0 {ret : Bool} {fr : Frame} {w : World} : ¬ StopM0 P ret (lone fr [] w) := by
  rintro ⟨f, w', h, _⟩
  obtain ⟨_, h, _⟩ := lone_inj h
  cases h

theorem no_stop_fallen0 {ret : Bool} {fr : Frame} {cs : List Frame} {w : World} {chain : List PanicEntry} (hm : fr.mode = .panicking chain) : ¬ StopM0 P ret (lone fr cs w) := by
  rintro ⟨f, w', h, hs⟩
  obtain ⟨rfl, _, _⟩ := lone_inj h
  rcases hs with hs | ⟨hs, _⟩ <;> rw [hm] at hs <;> cases hs

/-- A fallen stack never comes to a stop. -/
theorem noStop_fallen0 {ret : Bool} {chain : List PanicEntry} : ∀ (l : List Frame) (fr : Frame) (w : World), fr.mode = .panicking chain → fr.defers = [] → (∃ fn, P.funcs[fr.fn]? = some fn) →
    (∀ c ∈ l, c.mode = .run ∧ c.defers = [] ∧ ∃ fn, P.funcs[c.fn]? = some fn) → NoStop0 P ret (lone fr (l ++ [catchF P]) w)
  | [], fr, w, hm, hd, hf, _ => by
    refine NoStop0.next (no_stop_fallen0 hm) (step_gg (stepG_fallen hm hd hf)) ?_
    have e : (catchF P).raise chain = { catchF P with mode := .panicking chain } := rfl
    rw [e]
    obtain ⟨o, es, h⟩ := stepG_caught (P := P) (chain := chain) (w := w)
    exact NoStop0.ended no_stop_bottom0 (step_gg_ended h)
  | c :: l, fr, w, hm, hd, hf, hl => by
    refine NoStop0.next (no_stop_fallen0 hm) (step_gg (stepG_fallen hm hd hf)) ?_
    obtain ⟨h1, h2, h3⟩ := hl c (by simp)
    have e : c.raise chain = { c with mode := .panicking chain } := by simp [Frame.raise, h1]
    rw [e]
    exact noStop_fallen0 l _ w rfl h2 h3 fun x hx => hl x (by simp [hx])

theorem noStop_back0 {ret : Bool} {v : Value} {w : World} : NoStop0 P ret (lone ((catchF P).finish v) [] w) := by
  obtain ⟨o, es, h⟩ := stepG_back (P := P) (v := v) (w := w)
  exact NoStop0.ended no_stop_bottom0 (step_gg_ended h)

end

/-- A frame on its way out comes back to the frame that ends all. -/
theorem ret_back0 {P : Program} {ret : Bool} {g : TF} {k : List Item} {w : World} (hr : g.ret = true) (hg : ∃ fn, P.funcs[g.fn]? = some fn) : ∀ m1, step P (lone (g.fr k) [catchF P] w) = .next m1 → NoStop0 P ret m1 := by
  intro m1 h1
  obtain ⟨fn, hfn⟩ := hg
  have hstep : stepG P true (gg (g.fr k) [catchF P]) w = GStep.after (seen P g.fn ((results fn g.tmps).runT P w #[]).2) (match ((results fn g.tmps).runT P w #[]).1 with
        | .ok v w => doReturn P true (g.fr k) [catchF P] none v w
        | .halt (.stuck s) w => .ended (.stuck s ((g.fr k).pos P)) w
        | .halt _ w => .ended (.stuck "return: the result variables cannot be read" ((g.fr k).pos P)) w) := by
    simp [gg, stepG, unwind, TF.fr, hr, hfn]
    rfl
  cases hres : ((results fn g.tmps).runT P w #[]).1 with
  | ok v w1 =>
    rw [hres] at hstep
    have e : stepG P true (gg (g.fr k) [catchF P]) w = .go (gg ((catchF P).finish v) []) w1 (seen P g.fn ((results fn g.tmps).runT P w #[]).2) := by
      rw [hstep]
      simp [doReturn, TF.fr, gg, GStep.after]
    have := step_gg e
    rw [this] at h1
    injection h1 with h1
    rw [← h1]
    exact noStop_back0
  | halt x w1 =>
    rw [hres] at hstep
    obtain ⟨q, es, hq⟩ : ∃ q es, stepG P true (gg (g.fr k) [catchF P]) w = .ended q w1 es := by
      rw [hstep]
      cases x <;> exact ⟨_, _, by simp only [GStep.after]; rfl⟩
    have := step_gg_ended hq
    rw [this] at h1
    cases h1

section
variable {P : Program} (K : Kit P)
/-- A stack that is not at its stop takes a step, or never comes to a stop. -/
theorem stack_step0 {ret : Bool} (hB : Bodies K) {f : TF} {r : List TF} {w0 : World} (h : StkOk K ret (f :: r)) (hn : NoPend w0) (hfl : ¬ (r = [] ∧ Floor ret f)) :
    (∃ stk' w0', stk' ≠ [] ∧ StkOk K ret stk' ∧ Goes1 P ret (f :: r) stk' w0 w0') ∨ NoStop0 P ret (lone (f.fr (kOf ([] : List Item) r)) (frs ([] : List Item) [catchF P] r) w0) := by
  have htop := h.top
  have ek : kOf ([] : List Item) r = [] := by cases r <;> rfl
  -- the machine as it stands is at no stop
  have h0 : ¬ StopM0 P ret (lone (f.fr (kOf ([] : List Item) r)) (frs ([] : List Item) [catchF P] r) w0) := by
    rintro ⟨f', w', e, hf'⟩
    obtain ⟨e1, e2, _⟩ := lone_inj e
    have hr : r = [] := by
      cases r with
      | nil => rfl
      | cons g r =>
        rw [frs_cons] at e2
        injection e2 with _ e3
        cases r with
        | nil => cases e3
        | cons g' r' => rw [frs_cons] at e3; cases e3
    subst hr
    subst e1
    exact hfl ⟨rfl, stp_fr0.1 hf'⟩
  by_cases hr : f.ret = true
  · -- it is on its way out
    obtain ⟨fn, hfn⟩ := htop.fn
    cases r with
    | nil =>
      right
      cases hst : step P (lone (f.fr (kOf ([] : List Item) [])) (frs ([] : List Item) [catchF P] []) w0) with
      | next m1 => exact NoStop0.next h0 hst (ret_back0 hr ⟨fn, hfn⟩ _ hst)
      | ended o w1 => exact NoStop0.ended h0 hst
    | cons c r =>
      have hw : c.Waits := h.2.1
      have hrest : StkOk K ret (c :: r) := h.2.2
      have hstep : ∀ (k : List Item) (cs : List Frame) (w : World), stepG P true (gg (f.fr k) cs) w = GStep.after (seen P f.fn ((results fn f.tmps).runT P w #[]).2) (match ((results fn f.tmps).runT P w #[]).1 with
          | .ok v w => doReturn P true (f.fr k) cs none v w
          | .halt (.stuck s) w => .ended (.stuck s ((f.fr k).pos P)) w
          | .halt _ w => .ended (.stuck "return: the result variables cannot be read" ((f.fr k).pos P)) w) := by
        intro k cs w
        simp [gg, stepG, unwind, TF.fr, hr, hfn]
        rfl
      cases hres : (results fn f.tmps).run P w0 with
      | ok v w1 =>
        left
        obtain ⟨d1, d2⟩ := Calm.drawn _ (calm_results fn f.tmps) hres
        obtain ⟨c', hc1, hc2⟩ := waits_finish K hw v
        refine ⟨c' :: r, w1, by simp, hrest.swap K (hc2 _ hrest.top), d1, d2, (Calm.halts _ (calm_results fn f.tmps) hn).1 _ _ hres, fun k cs F w hS ht => ?_⟩
        obtain ⟨w', es, e1, e2, e3, e4, e5, e5', e6⟩ := lock_run (calm_results fn f.tmps) hS hres ht
        refine ⟨w', seen P f.fn es, ?_, e2, e3, e4, e5, e5', fun e he => e6 e (seen_sub he)⟩
        rw [frs_cons, frs_cons, mkG, hstep, e1]
        show GStep.after (seen P f.fn es) (doReturn P true (f.fr _) (c.fr _ :: frs k cs r) none v w') = _
        have : doReturn P true (f.fr (kOf k (c :: r))) (c.fr (kOf k r) :: frs k cs r) none v w' = .go (gg ((c.fr (kOf k r)).finish v) (frs k cs r)) w' := by simp [doReturn, TF.fr, gg]
        rw [this, hc1, frs_cons, mkG]
        simp [GStep.after]
      | halt x w1 =>
        right
        have e : ∀ (q : Outcome), GStep.after (seen P f.fn ((results fn f.tmps).runT P w0 #[]).2) (.ended q w1) = .ended q w1 (seen P f.fn ((results fn f.tmps).runT P w0 #[]).2) := fun q => by simp [GStep.after]
        obtain ⟨q, hq⟩ : ∃ q, stepG P true (gg (f.fr (kOf ([] : List Item) (c :: r))) (frs ([] : List Item) [catchF P] (c :: r))) w0 = .ended q w1 (seen P f.fn ((results fn f.tmps).runT P w0 #[]).2) := by
          rw [hstep, runT_halt hres]
          cases x <;> exact ⟨_, e _⟩
        exact NoStop0.ended h0 (step_gg_ended hq)
  · -- it runs
    have hr' : f.ret = false := by simpa using hr
    cases topStep K htop hr' with
    | ctl f' ok st =>
      left
      refine ⟨f' :: r, w0, by simp, h.swap K ok, Nat.le_refl _, rfl, hn, fun k cs F w hS ht => ⟨w, #[], ?_, hS, rfl, by omega, Nat.le_refl _, ⟨id, .refl _⟩, by simp⟩⟩
      rw [frs_cons, frs_cons]
      exact st _ _ _ _
    | draw f' q hq ok st =>
      left
      refine ⟨f' (q.cut (w0.tape w0.drawn q)) :: r, { w0 with drawn := w0.drawn + 1 }, by simp, h.swap K (ok _), Nat.le_succ _, rfl, hn, fun k cs F w hS ht => ⟨{ w with drawn := w.drawn + 1 }, #[], ?_, hS.drawn _ _, rfl, by simp; omega, Nat.le_refl _, ⟨id, .of (Nat.le_refl _) fun _ _ => rfl⟩, by simp⟩⟩
      have e := ht 0 (by simp)
      simp only [Nat.add_zero] at e
      rw [frs_cons, frs_cons, mkG, st, e]
      rfl
    | dead st =>
      right
      obtain ⟨o, es, e⟩ := st (kOf ([] : List Item) r) (frs ([] : List Item) [catchF P] r) w0 true
      exact NoStop0.ended h0 (step_gg_ended e)
    | done nil =>
      cases r with
      | nil => exact absurd ⟨rfl, .inr nil⟩ hfl
      | cons c r =>
        left
        refine ⟨{ f with ret := true } :: c :: r, w0, by simp, h.swap K ⟨htop.items, htop.fn, fun _ => rfl⟩, Nat.le_refl _, rfl, hn, fun k cs F w hS ht => ⟨w, #[], ?_, hS, rfl, by omega, Nat.le_refl _, ⟨id, .refl _⟩, by simp⟩⟩
        have e1 : ∀ g : TF, frs k cs (g :: c :: r) = g.fr [] :: frs k cs (c :: r) := fun g => rfl
        rw [e1, e1]
        generalize frs k cs (c :: r) = cs'
        simp [mkG, gg, stepG, stepG.exec, TF.fr, nil, hr']
    | op s calm yields put ok waits fin st =>
      cases hrun : s.run P w0 with
      | ok n w1 =>
        left
        obtain ⟨d1, d2⟩ := Calm.drawn _ calm hrun
        have hp := (Calm.halts _ calm hn).1 _ _ hrun
        have hy := yields _ _ _ hrun
        have value : ∀ v, (n = .value v ∨ (n = .skip ∧ v = undef)) → ∃ stk' w0', stk' ≠ [] ∧ StkOk K ret stk' ∧ Goes1 P ret (f :: r) stk' w0 w0' := by
          intro v hv
          refine ⟨put v :: r, w1, by simp, h.swap K (ok v), d1, d2, hp, fun k cs F w hS ht => ?_⟩
          obtain ⟨w', es, e1, e2, e3, e4, e5, e5', e6⟩ := lock_run calm hS hrun ht
          refine ⟨w', seen P f.fn es, ?_, e2, e3, e4, e5, e5', fun e he => e6 e (seen_sub he)⟩
          rw [frs_cons, frs_cons, mkG, st]
          have hkind : ∀ k, ((f.fr k).kind == CallKind.early) = false := fun k => rfl
          rcases hv with rfl | ⟨rfl, rfl⟩ <;>
          · simp only [stepG.apply, if_true, e1, hkind, Bool.false_eq_true, if_false, fin]
            simp [GStep.after, mkG, gg, TF.fr]
        cases n with
        | value v => exact value v (.inl rfl)
        | skip => exact value undef (.inr ⟨rfl, rfl⟩)
        | enter g args =>
          obtain ⟨fn, c, hf1, hf2, hf3⟩ := hB g hy
          refine ⟨enterTF P g args :: f :: r, w1, by simp, ⟨⟨?_, ⟨fn, hf1⟩, fun _ => rfl⟩, waits, h⟩, d1, d2, hp, fun k cs F w hS ht => ?_⟩
          · simp [enterTF, hf1, hf2, okItems, okItem, idsOf, hf3]
          obtain ⟨w', es, e1, e2, e3, e4, e5, e5', e6⟩ := lock_run calm hS hrun ht
          refine ⟨w', seen P f.fn es, ?_, e2, e3, e4, e5, e5', fun e he => e6 e (seen_sub he)⟩
          rw [frs_cons, frs_cons, mkG, st]
          have hkind : ∀ k, ((f.fr k).kind == CallKind.early) = false := fun k => rfl
          obtain ⟨_, ops, i, rest, t, htodo⟩ := waits
          have e8 : (f.fr (kOf k r)).todo = .inRegion ops (i :: rest) :: (t ++ kOf k r) := by simp [TF.fr, htodo]
          simp only [stepG.apply, if_true, e1, hkind, Bool.false_eq_true, if_false, e8]
          rw [enter_eq, frs_cons]
          simp [GStep.after, mkG, gg, TF.fr, kOf]
        | _ => exact hy.elim
      | halt x w1 =>
        right
        have hx := (Calm.halts _ calm hn).2 _ _ hrun
        have hkind : ∀ k, ((f.fr k).kind == CallKind.early) = false := fun k => rfl
        have hT := runT_halt hrun
        obtain ⟨es, hTe⟩ : ∃ es, s.runT P w0 #[] = (.halt x w1, es) := ⟨(s.runT P w0 #[]).2, by rw [← hT]⟩
        have hst := st (kOf ([] : List Item) r) (frs ([] : List Item) [catchF P] r) w0 true
        cases x with
        | panic v =>
          have e : stepG P true (gg (f.fr (kOf ([] : List Item) r)) (frs ([] : List Item) [catchF P] r)) w0 = .go (gg ({ f.fr (kOf ([] : List Item) r) with mode := .panicking [{ v, recovered := false }] }) (frs ([] : List Item) [catchF P] r)) w1 (seen P f.fn es) := by
            rw [hst]
            simp only [stepG.apply, if_true, hTe, hkind, Bool.false_eq_true, if_false]
            simp [GStep.after, gg, TF.fr, hr', Frame.raise]
          refine NoStop0.next h0 (step_gg e) ?_
          rw [frs_append]
          exact noStop_fallen0 _ _ _ rfl rfl htop.fn (frs_all K h)
        | stuck t =>
          have e : stepG P true (gg (f.fr (kOf ([] : List Item) r)) (frs ([] : List Item) [catchF P] r)) w0 = .ended (.stuck t ((f.fr (kOf ([] : List Item) r)).pos P)) w1 (seen P f.fn es) := by
            rw [hst]
            simp only [stepG.apply, if_true, hTe, hkind, Bool.false_eq_true, if_false]
            simp [GStep.after, TF.fr]
          exact NoStop0.ended h0 (step_gg_ended e)
        | unsupported u =>
          have e : stepG P true (gg (f.fr (kOf ([] : List Item) r)) (frs ([] : List Item) [catchF P] r)) w0 = .ended (.unsupported u ((f.fr (kOf ([] : List Item) r)).pos P)) w1 (seen P f.fn es) := by
            rw [hst]
            cases u <;> first | (simp [haltOk] at hx; done) | (simp only [stepG.apply, if_true, hTe, hkind, Bool.false_eq_true, if_false]; simp [GStep.after, TF.fr])
          exact NoStop0.ended h0 (step_gg_ended e)
        | _ => simp [haltOk] at hx

/-- The machine of one goroutine with the catching frame beneath, without the marker. -/
def virt0 (P : Program) : List TF → World → Machine
  | [], w => lone (catchF P) [] w
  | f :: r, w => lone (f.fr (kOf ([] : List Item) r)) (frs ([] : List Item) [catchF P] r) w

theorem mkG_virt0 {f : TF} {r : List TF} : mkG (frs ([] : List Item) [catchF P] (f :: r)) = gg (f.fr (kOf ([] : List Item) r)) (frs ([] : List Item) [catchF P] r) := by
  rw [frs_cons]
  cases r <;> rfl

theorem virt_step0 {stk stk' : List TF} {w w' : World} {es : Array Event} (h : stk ≠ []) (h' : stk' ≠ []) (hs : stepG P true (mkG (frs ([] : List Item) [catchF P] stk)) w = .go (mkG (frs ([] : List Item) [catchF P] stk')) w' es) : step P (virt0 P stk w) = .next (virt0 P stk' w') := by
  cases stk with
  | nil => exact absurd rfl h
  | cons f r =>
    cases stk' with
    | nil => exact absurd rfl h'
    | cons f' r' =>
      rw [mkG_virt0, mkG_virt0] at hs
      exact step_gg hs

theorem virt_stop0 {fr : Frame} {stk : List TF} {w w' : World} (h : virt0 P stk w = lone fr [catchF P] w') : ∃ f, stk = [f] ∧ fr = f.fr ([] : List Item) ∧ w = w' := by
  cases stk with
  | nil => obtain ⟨_, h, _⟩ := lone_inj h; cases h
  | cons g r =>
    obtain ⟨h1, h2, h3⟩ := lone_inj h
    have hr : r = [] := by
      cases r with
      | nil => rfl
      | cons g' r =>
        rw [frs_cons] at h2
        injection h2 with _ h2
        cases r with
        | nil => cases h2
        | cons g'' r' => rw [frs_cons] at h2; cases h2
    subst hr
    exact ⟨g, rfl, h1.symm, h3⟩

theorem Goes1.virt0 {stk stk' : List TF} {w0 w0' : World} {ret : Bool} (h : Goes1 P ret stk stk' w0 w0') (h1 : stk ≠ []) (h2 : stk' ≠ []) {w : World} (hS : Sim (fun _ => False) w0 w) (hn : NoPend w)
    (ht : ∀ n, w0.drawn + n < w0'.drawn → w.tape (w.drawn + n) = w0.tape (w0.drawn + n)) :
    step P (virt0 P stk w) = .next (virt0 P stk' (onT w0' w.tape (w.drawn + (w0'.drawn - w0.drawn)))) := by
  obtain ⟨hd, _, hn0, hs⟩ := h
  obtain ⟨w', es, e1, e2, e3, e4, e5, e6, _⟩ := hs ([] : List Item) [catchF P] (fun _ => False) w hS ht
  have hw : w' = onT w0' w.tape (w.drawn + (w0'.drawn - w0.drawn)) := by
    have hn' := e6.1 hn
    have hh : w'.heap = w0'.heap := by
      refine Array.ext_getElem? fun b => ?_
      have := e2.same b (fun x => x)
      rw [this]
      cases hb : w'.heap[b]? with
      | none => rfl
      | some o =>
        cases o <;> simp [inert]
        exact absurd hb (hn' _ _ _)
    have ho := e2.os
    have hp := e2.output
    cases w'
    cases w0'
    simp only [onT] at *
    subst hh ho hp e3
    congr 1
    omega
  rw [hw] at e1
  exact virt_step0 h1 h2 e1


theorem onT_self {w1 w : World} (ht : w1.tape = w.tape) (hd : w.drawn ≤ w1.drawn) : onT w1 w.tape (w.drawn + (w1.drawn - w.drawn)) = w1 := by
  cases w1
  cases w
  simp only [onT] at *
  subst ht
  congr 1
  omega

/-- What comes to its return without the marker comes to its stop with it. -/
theorem run_sent (hB : Bodies K) : ∀ (N : Nat) (stk : List TF) (w : World), stk ≠ [] → StkOk K true stk → NoPend w → ∀ (fr : Frame) (w' : World), runN P N (virt0 P stk w) = .next (lone fr [catchF P] w') → fr.mode = .returning →
    ∃ n f, runN P n (virt P stk w) = .next (lone (f.fr [sent]) [catchF P] w') ∧ Floor true f ∧ f.fn = fr.fn ∧ f.tmps = fr.tmps := by
  intro N
  induction N with
  | zero =>
    intro stk w hne hok hn fr w' hr hm
    simp only [runN] at hr
    injection hr with hr
    obtain ⟨f, rfl, rfl, rfl⟩ := virt_stop0 hr
    have hret : f.ret = true := by
      cases h : f.ret with
      | true => rfl
      | false => simp [TF.fr, h] at hm
    exact ⟨0, f, rfl, .inl hret, rfl, rfl⟩
  | succ N ih =>
    intro stk w hne hok hn fr w' hr hm
    cases stk with
    | nil => exact absurd rfl hne
    | cons g r =>
      by_cases hfl : r = [] ∧ Floor true g
      · obtain ⟨rfl, hf⟩ := hfl
        have hgok : g.Ok K true := hok
        by_cases hret : g.ret = true
        · exfalso
          simp only [runN] at hr
          cases h1 : step P (virt0 P [g] w) with
          | next m1 => rw [h1] at hr; exact ret_back0 (ret := true) hret hgok.fn m1 h1 N _ hr ⟨fr, w', rfl, .inl hm⟩
          | ended o w1 => rw [h1] at hr; cases hr
        · have hret : g.ret = false := by simpa using hret
          have hnil : g.todo = [] := hf.resolve_left (by rw [hret]; simp)
          have e : stepG P true (gg (g.fr []) [catchF P]) w = .go (gg (({ g with ret := true } : TF).fr []) [catchF P]) w #[] := by
            simp [gg, stepG, stepG.exec, TF.fr, hnil, hret]
          have hs : step P (virt0 P [g] w) = .next (lone (({ g with ret := true } : TF).fr []) [catchF P] w) := step_gg e
          simp only [runN, hs] at hr
          cases N with
          | zero =>
            simp only [runN] at hr
            injection hr with hr
            obtain ⟨h1, _, rfl⟩ := lone_inj hr
            subst h1
            exact ⟨0, g, rfl, hf, rfl, rfl⟩
          | succ N =>
            exfalso
            simp only [runN] at hr
            cases h1 : step P (lone (({ g with ret := true } : TF).fr []) [catchF P] w) with
            | next m1 => rw [h1] at hr; exact ret_back0 (ret := true) (g := { g with ret := true }) rfl hgok.fn m1 h1 N _ hr ⟨fr, w', rfl, .inl hm⟩
            | ended o w1 => rw [h1] at hr; cases hr
      · rcases stack_step0 K hB hok hn hfl with ⟨stk', w1, h1, h2, h3⟩ | hno
        · have e0 := h3.virt0 (by simp) h1 (Sim.refl hn) hn (fun _ _ => rfl)
          have e1 := h3.virt true (by simp) h1 (Sim.refl hn) hn (fun _ _ => rfl)
          have ew := onT_self h3.2.1 h3.1
          rw [ew] at e0 e1
          simp only [runN, e0] at hr
          obtain ⟨n, f, h4, h5⟩ := ih stk' w1 h1 h2 h3.2.2.1 fr w' hr hm
          exact ⟨n + 1, f, by simp only [runN, e1]; exact h4, h5⟩
        · exact absurd ⟨fr, w', rfl, .inl hm⟩ (hno _ _ hr)
end

section
variable {P : Program} {K : Kit P} {F : Bks} {p : Nat} {Post : Value → World → Prop} {b : Frame} {a : Act} {ops : Array Oper} {i : Nat} {rest : List Nat} {o : Oper} {f : FuncId} {fn : Func} {c : Code} {t : Tmp} {args : Array Operand} {ats : Array TypeId} {k : List Item} {cs : List Frame} {w w0 : World}

theorem ok_call (hB : Bodies K) {vs : Array Value} {R : Value → World → Prop} (hRt : ∀ v w τ d, R v w → R v (onT w τ d)) (ho : ops[i]? = some o) (hwt : Region.wanted o (yielded ops a.tmps) = true) (hkb : b.kind ≠ .early)
    (hop : o.op = .call { callee := .value (.func f), args := args, argTypes := ats }) (hf : P.funcs[f]? = some fn) (hname : (fn.name == "runtime.NumGoroutine") = false) (hb : fn.body = some c) (hres : fn.results = #[.tmp t]) (hfk : okCode K true [] c = true) (hargs : args.map a.eval = vs)
    (hn : NoPend w0) (hS : Sim F w0 w) (h : ∀ τ d, Calls P f vs (onT w0 τ d) fun e w' => ∃ v, e = .returned v ∧ R v w')
    (hN : ∀ (v : Value) (w0' w' : World), R v w0' → Sim F w0' w' → w.heap.size ≤ w'.heap.size → Stay w w' → Ok P F p Post (G (b.at (a.put o.dst v) (.inRegion ops rest :: k)) cs) w') :
    Ok P F p Post (G (b.at a (.inRegion ops (i :: rest) :: k)) cs) w := by
  have T : Terms AtRel (DB F) := termsB
  rw [← hargs] at h
  refine ok_goes (Stop := Ok P F p Post) (fun _ _ h => h) (n := 1) ?_
  refine gt_enter T ho hwt hkb hop hf hname hb ?_
  refine Goes.stop fun w₁ r₁ => ?_
  obtain ⟨d₁, rfl⟩ := r₁
  let Q : FuncId → Bool → Array Value → World → Prop := fun n _ T' w' => n = f ∧ R (T'.getD t undef) w'
  let g : TF := ⟨f, args.map a.eval ++ Array.replicate (fn.ntmps - (args.map a.eval).size) undef, [.code c], false⟩
  have hok : StkOk K true [g] := ⟨by simp [g, okItems, okItem, idsOf, hfk], ⟨fn, hf⟩, fun _ => rfl⟩
  have hl : Lone (P := P) Q [g] w0 := by
    intro τ d
    obtain ⟨e, w', fr, ⟨v, rfl, hR⟩, hc, hfn, hlv⟩ := h τ d [catchF P]
    obtain ⟨hm, hd, hkd, fn', hf', hr'⟩ := hlv
    have ee : Frame.enter P f (args.map a.eval) .normal = g.fr [] := by simp [Frame.enter, g, TF.fr, hf, hb]
    rw [ee] at hc
    obtain ⟨N, hN⟩ := hc
    obtain ⟨n, f', h1, h2, h3, h4⟩ := run_sent K hB N [g] (onT w0 τ d) (by simp) hok hn fr w' hN hm
    refine ⟨n, _, w', h1, ?_⟩
    have hv : v = fr.tmps.getD t undef := by
      rw [hfn, hf] at hf'
      injection hf' with hf'
      subst hf'
      rw [results_tmp hres] at hr'
      injection hr' with hr' _
      exact hr'.symm
    have hq : Q f'.fn f'.ret f'.tmps w' := ⟨h3.trans hfn, by rw [h4, ← hv]; exact hR⟩
    rcases h2 with h2 | h2
    · exact .inl ⟨by simp [TF.fr, h2], hq⟩
    · by_cases hret : f'.ret = true
      · exact .inl ⟨by simp [TF.fr, hret], hq⟩
      · have hret : f'.ret = false := by simpa using hret
        exact .inr ⟨by simp [TF.fr, hret], by simp [TF.fr, h2], hq⟩
  have hwin := win_of_lone K true Q hB (fun n b T w τ d h => ⟨h.1, hRt _ _ τ d h.2⟩) (by simp) hok hn hl
  refine ok_win (p := p) (Post := Post) (k := []) (cs := b.at a (.inRegion ops (i :: rest) :: k) :: cs) hwin (by simp) (show Sim F w0 (w.at d₁) from ⟨hS.size, hS.same, hS.blank, hS.os, hS.output⟩) (fun f' w0' w' hfl hq hS' ht hz hst => ?_)
  obtain ⟨fn', T', todo, rt⟩ := f'
  obtain ⟨rfl, hR⟩ := hq
  have key : ∀ todo' : List Item, Ok P F p Post (G { (base fn').at ⟨T', []⟩ todo' with mode := .returning } (b.at a (.inRegion ops (i :: rest) :: k) :: cs)) w' := by
    intro todo'
    refine ok_goes (Stop := Ok P F p Post) (fun _ _ h => h) (n := 1) (gt_leave1 T rfl hf hres ?_)
    refine Goes.stop fun w₃ r₃ => ?_
    obtain ⟨d₃, rfl⟩ := r₃
    rw [ho]
    exact hN _ w0' (w'.at d₃) hR ⟨hS'.size, hS'.same, hS'.blank, hS'.os, hS'.output⟩ hz ⟨hst.size, hst.pend, hst.map, hst.back⟩
  cases rt with
  | true => exact key (todo ++ [])
  | false =>
    obtain rfl : todo = [] := hfl.resolve_left (by simp)
    show Ok P F p Post (G ((base fn').at ⟨T', []⟩ []) (b.at a (.inRegion ops (i :: rest) :: k) :: cs)) w'
    refine ok_goes (Stop := Ok P F p Post) (fun _ _ h => h) (n := 1) ?_
    refine gt_fin T ?_
    refine Goes.stop fun w₃ r₃ => ?_
    obtain ⟨d₃, rfl⟩ := r₃
    refine ok_goes (Stop := Ok P F p Post) (fun _ _ h => h) (n := 1) (gt_leave1 T rfl hf hres ?_)
    refine Goes.stop fun w₄ r₄ => ?_
    obtain ⟨d₄, rfl⟩ := r₄
    rw [ho]
    exact hN _ w0' ((w'.at d₃).at d₄) hR ⟨hS'.size, hS'.same, hS'.blank, hS'.os, hS'.output⟩ hz ⟨hst.size, hst.pend, hst.map, hst.back⟩
end
end Go.Proofs.Ytajheicheefpeaa

/- spec.ChecksBad: what it answers. -/
namespace Go.Proofs.Ytajheicheefpeaa
open Go.Proofs
open Go.RowKit
set_option linter.unusedVariables false
set_option linter.unusedSimpArgs false

set_option maxRecDepth 100000 in
set_option maxHeartbeats 1000000 in
theorem l16Checks_any (a : Option Addr) (n c : Nat) (cs : List (Int × Int)) (w : World) (hr : RdX w a n cs) (hwf : WfX cs) (hn : n ≤ 4611686018427387904) :
    Calls Try.prog 37 #[.slice a n c] w fun e w' => e = .returned (.bool (checksV cs)) ∧ ∃ m, w' = w.drewN m := by
  have hl := Lib.hid hr.1
  have HR := Lib.hid hr
  have HWf := Lib.hid hwf
  clear hr hwf
  go_enter Try.func37, Try.ntmps37
  go_wp2
  go_loopw [3] (fun i wr => ∃ (k : Nat) (l : Int), k ≤ n ∧ i = .int .i64 k ∧ Hid (0 ≤ l ∧ (k = 0 → l = 0) ∧ (0 < k → l = (cs.getD (k - 1) (0, 0)).1)) ∧ Hid (okFrom 0 cs = okFrom l (cs.drop k)) ∧ ∃ m, wr = w.drewN m)
    (fun i _ => n - (intOf i).toNat)
  case atStart => exact ⟨0, 0, Nat.zero_le _, rfl, Lib.hid ⟨by omega, fun _ => rfl, fun h => by omega⟩, Lib.hid rfl, 0, rfl⟩
  case round =>
    obtain ⟨k, l, hk, rfl, hll, hok, q, rfl⟩ := hrel
    by_cases hlt : k < n
    · have HR1 : RdX (w.drewN q) a n cs := HR.out
      have hq : ∃ q', w.drewN q = w.drewN q' := ⟨q, rfl⟩
      generalize w.drewN q = wq at HR1 hq ⊢
      have HQ := Lib.hid hq
      clear hq
      obtain ⟨b, off, rfl, hbl, f, m, hx, c0, c1, hf, hm0, hm1⟩ := HR1.at_ HWf.out hlt
      have hstep := Lib.hid (okFrom_drop (cs := cs) (k := k) (by rw [hl.out]; exact hlt) l)
      rw [hx] at hstep
      have HX := Lib.hid hx
      clear hx
      have K1 := fun w => still_of (l6In_any f 1 99 w)
      have K2 := fun w => still_of (l6In_any m 0 9972 w)
      have hk0 : (0 : Int) ≤ (k : Int) := by omega
      have hk1 : (k : Int) < (n : Int) := by omega
      cases h1 : inB f 1 99 with
      | false =>
        rw [h1] at K1
        have HF := Lib.hid (show checksV cs = false by
          have h0 := hll.out.1
          unfold checksV
          rw [hok.out, hstep.out]
          have : ¬ (1 ≤ f ∧ f ≤ 99) := by simpa [inB] using h1
          simp
          omega)
        clear h1
        go_wp2
        go_quiet ((go_at_call_of 50 (Value.int .i64 99); exact Calls.quiet_of_same (K1 _)))
        go_wp2
        go_ret
        rw [HF.out]
        obtain ⟨q', hq'⟩ := HQ.out
        exact ⟨rfl, q' + _, by rw [hq', World.drewN_drewN]⟩
      | true =>
        cases h2 : inB m 0 9972 with
        | false =>
          rw [h1] at K1
          rw [h2] at K2
          have HF := Lib.hid (show checksV cs = false by
            unfold checksV
            rw [hok.out, hstep.out]
            have : ¬ (0 ≤ m ∧ m ≤ 9972) := by simpa [inB] using h2
            simp
            omega)
          clear h1 h2
          go_wp2
          go_quiet ((first
            | (go_at_call_of 50 (Value.int .i64 99); exact Calls.quiet_of_same (K1 _))
            | (go_at_call_of 50 (Value.int .i64 9972); exact Calls.quiet_of_same (K2 _))))
          go_wp2
          go_ret
          rw [HF.out]
          obtain ⟨q', hq'⟩ := HQ.out
          exact ⟨rfl, q' + _, by rw [hq', World.drewN_drewN]⟩
        | true =>
          have g1 : 1 ≤ f ∧ f ≤ 99 := by simpa [inB] using h1
          have g2 : 0 ≤ m ∧ m ≤ 9972 := by simpa [inB] using h2
          rw [h1] at K1
          rw [h2] at K2
          clear h1 h2
          by_cases hk0' : k = 0
          · subst hk0'
            have HN := Lib.hid (show okFrom 0 cs = okFrom f (cs.drop (0 + 1)) by
              have hl0 := hll.out.2.1 rfl
              rw [hok.out, hstep.out, hl0]
              have h1 : decide ((0 : Int) < f) = true := decide_eq_true (by omega)
              have h2 : decide (f ≤ 99) = true := decide_eq_true (by omega)
              have h3 : decide (0 ≤ m) = true := decide_eq_true (by omega)
              have h4 : decide (m < 9973) = true := decide_eq_true (by omega)
              rw [h1, h2, h3, h4]; rfl)
            have HL := Lib.hid (show 0 ≤ f ∧ (0 + 1 = 0 → f = 0) ∧ (0 < 0 + 1 → f = (cs.getD (0 + 1 - 1) (0, 0)).1) from ⟨by omega, fun h => by omega, fun _ => by rw [show 0 + 1 - 1 = 0 from rfl, HX.out]⟩)
            simp only [Nat.zero_mul, Nat.add_zero] at c0 c1
            clear g1 g2
            go_wp2
            go_quiet ((first
              | (go_at_call_of 50 (Value.int .i64 99); exact Calls.quiet_of_same (K1 _))
              | (go_at_call_of 50 (Value.int .i64 9972); exact Calls.quiet_of_same (K2 _))))
            go_wp2
            go_roundw
            case rel => obtain ⟨q', hq'⟩ := HQ.out; exact ⟨0 + 1, f, by omega, by go_num, HL, HN, q' + _, by rw [hq', World.drewN_drewN]⟩
            case measure => simp [intOf]; omega
          · obtain ⟨b2, off2, hbo, _, p, pm, hp, e0, e1, hpf, _, _⟩ := HR1.at_ HWf.out (show k - 1 < n by omega)
            injection hbo with hbo
            injection hbo with hbo1 hbo2
            subst hbo1 hbo2
            have hlp : Hid (l = p) := Lib.hid (by rw [hll.out.2.2 (by omega), hp])
            have i1 : (0 : Int) < (k : Int) := by omega
            have i6 : 0 < k := by omega
            have i9 : (1 : Int) ≤ (k : Int) := by omega
            have i10 : 1 ≤ k := by omega
            have i7 : decide ((0 : Int) < (k : Int)) = true := by simp; omega
            have i8 : decide (0 < k) = true := by simp; omega
            have i2 : (0 : Int) ≤ (k : Int) - 1 := by omega
            have i3 : ((k : Int) - 1).toNat = k - 1 := by omega
            have i4 : IntKind.i64.wrap ((k : Int) - 1) = (k : Int) - 1 := IntWalk.i64_in _ (by omega)
            have i5 : (k : Int) - 1 < (n : Int) := by omega
            have HL := Lib.hid (show 0 ≤ f ∧ (k + 1 = 0 → f = 0) ∧ (0 < k + 1 → f = (cs.getD (k + 1 - 1) (0, 0)).1) from ⟨by omega, fun h => by omega, fun _ => by rw [show k + 1 - 1 = k by omega, HX.out]⟩)
            clear e1 hp
            by_cases hpx : p < f
            · have dpx : decide (f ≤ p) = false := by simp; omega
              have HN := Lib.hid (show okFrom 0 cs = okFrom f (cs.drop (k + 1)) by
                rw [hok.out, hstep.out, hlp.out]
                have h1 : decide (p < f) = true := decide_eq_true (by omega)
                have h2 : decide (f ≤ 99) = true := decide_eq_true (by omega)
                have h3 : decide (0 ≤ m) = true := decide_eq_true (by omega)
                have h4 : decide (m < 9973) = true := decide_eq_true (by omega)
                rw [h1, h2, h3, h4]; rfl)
              clear g1 g2 hpx
              go_wp2
              go_quiet ((first
                | (go_at_call_of 50 (Value.int .i64 99); exact Calls.quiet_of_same (K1 _))
                | (go_at_call_of 50 (Value.int .i64 9972); exact Calls.quiet_of_same (K2 _))))
              go_wp2
              go_roundw
              case rel => obtain ⟨q', hq'⟩ := HQ.out; exact ⟨k + 1, f, by omega, by go_num, HL, HN, q' + _, by rw [hq', World.drewN_drewN]⟩
              case measure => simp [intOf]; omega
            · have dpx : decide (f ≤ p) = true := by simp; omega
              have HF := Lib.hid (show checksV cs = false by
                unfold checksV
                rw [hok.out, hstep.out, hlp.out]
                simp
                omega)
              clear g1 g2 hpx
              go_wp2
              go_quiet ((first
                | (go_at_call_of 50 (Value.int .i64 99); exact Calls.quiet_of_same (K1 _))
                | (go_at_call_of 50 (Value.int .i64 9972); exact Calls.quiet_of_same (K2 _))))
              go_wp2
              go_ret
              rw [HF.out]
              obtain ⟨q', hq'⟩ := HQ.out
              exact ⟨rfl, q' + _, by rw [hq', World.drewN_drewN]⟩
    · obtain rfl : k = n := by omega
      have hk1 : ¬ ((k : Int) < (k : Int)) := by omega
      have HF := Lib.hid (show okFrom 0 cs = true by rw [hok.out, List.drop_eq_nil_of_le (by rw [hl.out]; omega)]; rfl)
      by_cases h16 : k ≤ 16
      · have h16' : (k : Int) ≤ 16 := by omega
        have HV := Lib.hid (show checksV cs = true by unfold checksV; rw [HF.out, hl.out]; simp; omega)
        go_wp2_with fail
        go_ret
        exact ⟨by rw [HV.out]; first | rfl | simp [h16'], _, rfl⟩
      · have h16' : ¬ (k : Int) ≤ 16 := by omega
        have HV := Lib.hid (show checksV cs = false by unfold checksV; rw [HF.out, hl.out]; simp; omega)
        go_wp2_with fail
        go_ret
        exact ⟨by rw [HV.out]; first | rfl | simp [h16'], _, rfl⟩
end Go.Proofs.Ytajheicheefpeaa

/- spec.ChecksBad: what it answers. -/
namespace Go.Proofs.Ytajheicheefpeaa
open Go.Proofs
open Go.RowKit
set_option linter.unusedVariables false
set_option linter.unusedSimpArgs false

theorem below_drewNS {B : Nat} {w W : World} (h : Below B w W) (m : Nat) : Below B w (W.drewN m) := ⟨h.os, h.tape, h.output, h.size, h.block⟩

set_option maxRecDepth 100000 in
set_option maxHeartbeats 1000000 in
theorem l16Good_any (a : Option Addr) (n c : Nat) (xs : List HV) (f m : Int) (w : World) (hr : RdR eltH w a n xs) (hi : InH w xs) (hs : ∀ x ∈ xs, x.zs.length ≤ 4611686018427387904) (hn : n ≤ 4611686018427387904) (hv : storeV (valsH xs) = true) :
    Calls Try.prog 38 #[.slice a n c, .agg #[.int .i64 f, .int .i64 m]] w fun e w' => e = .returned (.bool (!badC (valsH xs) (f, m))) ∧ Below w.heap.size w w' := by
  have HR := Lib.hid hr
  have HI := Lib.hid hi
  have HS := Lib.hid hs
  have HV' := Lib.hid hv
  have hl := Lib.hid hr.1
  have hbx := one_boxX w (.int .i64 f) (.int .i64 m) 53
  have hHl := hbx.1
  have q0 := hbx.2.1
  have q1 := hbx.2.2
  have hb0 : Below w.heap.size w (w.alloc (.cells #[.int .i64 f, .int .i64 m] 53)) := (Below.refl _ _).alloc (Nat.le_refl _) _
  have K := l3At_any a n c xs f _ (hr.below hb0) hn
  clear hbx hr hi hs hv
  go_enter Try.func38, Try.ntmps38
  go_wp2_with fail
  with_reducible refine K.mono ?_
  rintro e w1 ⟨r, rfl, hat, d, rfl⟩
  clear K
  have hA := hat.atV
  have q0' : ((w.alloc (.cells #[.int .i64 f, .int .i64 m] 53)).drewN d).cell? ⟨w.heap.size, 0, none⟩ = some (.int .i64 f) := q0
  have q1' : ((w.alloc (.cells #[.int .i64 f, .int .i64 m] 53)).drewN d).cell? ⟨w.heap.size, 1, none⟩ = some (.int .i64 m) := q1
  have hHl' : w.heap.size < ((w.alloc (.cells #[.int .i64 f, .int .i64 m] 53)).drewN d).heap.size := hHl
  have hbd : Below w.heap.size w ((w.alloc (.cells #[.int .i64 f, .int .i64 m] 53)).drewN d) := below_drewNS hb0 d
  generalize (w.alloc (.cells #[.int .i64 f, .int .i64 m] 53)).drewN d = W1 at q0' q1' hHl' hbd ⊢
  clear q0 q1 hHl hb0 hat
  rcases hA with ⟨rfl, hno⟩ | ⟨k, rfl, x, hx, hyes⟩
  · have HF := Lib.hid (show badC (valsH xs) (f, m) = true by unfold badC; rw [hno])
    have t1 : decide ((0 : Int) ≤ -1) = false := by decide
    clear hno
    go_wp2
    go_quiet (fail)
    go_wp2
    go_ret
    rw [HF.out]
    exact ⟨rfl, below_drewNS hbd _⟩
  · have hk : k < n := by have := (List.getElem?_eq_some_iff.1 hx).1; have := hl.out; omega
    obtain ⟨b, off, x', rfl, hbl, hx', c0, c1, c2⟩ := atH (HR.out.below hbd) hk
    rw [hx] at hx'
    injection hx' with hx'
    subst hx'
    have hok := store_ok HV'.out (valsH_get hx)
    have hrx := (HI.out x (List.mem_of_getElem? hx)).below hbd
    have hsx := HS.out x (List.mem_of_getElem? hx)
    have K2 := fun j => still_of (l2Sum_any x.ad x.zs.length x.cp x.zs (W1.drewN j) hrx (blockV_allB hok.2.1) hsx)
    obtain ⟨s, hs'⟩ : ∃ s, sumL x.zs = s := ⟨_, rfl⟩
    rw [hs'] at K2
    have HF := Lib.hid (show badC (valsH xs) (f, m) = (s != m) by
      unfold badC
      rw [hyes]
      have e : blockSum x.zs = s := by rw [← hs']; simp [blockSum, show blockV x.zs = true from hok.2.1]
      simp [HV.val, e])
    have hk0 : (0 : Int) ≤ (k : Int) := by omega
    have hk1 : (k : Int) < (n : Int) := by omega
    have t1 : decide ((0 : Int) ≤ (k : Int)) = true := decide_eq_true (by omega)
    clear hx hyes hok hrx hs' c0 c2
    by_cases hsm : s = m
    · have t2 : (s == m) = true := by simp [hsm]
      have HT := Lib.hid (show (!(s != m)) = true by simp [hsm])
      clear hsm
      go_wp2
      go_quiet ((go_at_call 33; exact Calls.quiet_of_same (K2 _)))
      go_wp2
      go_ret
      rw [HF.out, HT.out]
      exact ⟨rfl, below_drewNS hbd _⟩
    · have t2 : (s == m) = false := by simp [hsm]
      have HT := Lib.hid (show (!(s != m)) = false by simp [hsm])
      clear hsm
      go_wp2
      go_quiet ((go_at_call 33; exact Calls.quiet_of_same (K2 _)))
      go_wp2
      go_ret
      rw [HF.out, HT.out]
      exact ⟨rfl, below_drewNS hbd _⟩

/-- A new list of ints. -/
def RetIs (w : World) (zs : List Int) (e : Ending) (w' : World) : Prop :=
  ∃ a c, e = .returned (.slice a zs.length c) ∧ OwnI w' w.heap.size a c zs ∧ Below w.heap.size w w'

set_option maxRecDepth 100000 in
set_option maxHeartbeats 1000000 in
theorem specChecksBad_any (a ka : Option Addr) (n c nk ck : Nat) (xs : List HV) (cs : List (Int × Int)) (w : World) (hr : RdR eltH w a n xs) (hi : InH w xs) (hs : ∀ x ∈ xs, x.zs.length ≤ 4611686018427387904) (hn : n ≤ 4611686018427387904) (hk : RdX w ka nk cs) (hwf : WfX cs) (hnk : nk ≤ 4611686018427387904) :
    Calls Try.prog 18 #[.slice a n c, .slice ka nk ck] w (RetIs w (badR (valsH xs) cs)) := by
  have hlk := Lib.hid hk.1
  have HR := Lib.hid hr
  have HI := Lib.hid hi
  have HS := Lib.hid hs
  have HK := Lib.hid hk
  have HWf := Lib.hid hwf
  have hb0 : Below w.heap.size w (w.alloc (.cells #[] 3)) := (Below.refl _ _).alloc (Nat.le_refl _) _
  have hO0 : OwnI (w.alloc (.cells #[] 3)) w.heap.size (some ⟨w.heap.size, 0, none⟩) 0 [] := OwnI.empty (Nat.le_refl _)
  have KV : ∀ W, Below w.heap.size w W → Calls Try.prog 32 #[.slice a n c] W (RetB W (.bool (storeV (valsH xs)))) := fun W hb => specStoreValid_any a n c xs W (HR.out.below hb) (HI.out.below hb) HS.out hn
  have KC : ∀ W, Below w.heap.size w W → Calls Try.prog 37 #[.slice ka nk ck] W fun e w' => e = .returned (.bool (checksV cs)) ∧ ∃ m, w' = W.drewN m := fun W hb => l16Checks_any ka nk ck cs W (HK.out.below hb) HWf.out hnk
  obtain ⟨sv, hsv⟩ : ∃ v, storeV (valsH xs) = v := ⟨_, rfl⟩
  obtain ⟨cv, hcv⟩ : ∃ v, checksV cs = v := ⟨_, rfl⟩
  rw [hsv] at KV
  rw [hcv] at KC
  have HSV := Lib.hid hsv
  have HCV := Lib.hid hcv
  clear hsv hcv hr hi hs hk hwf
  go_enter Try.func18, Try.ntmps18
  go_wp2
  cases hgood : (sv && cv) with
  | false =>
    have HB := Lib.hid (show badR (valsH xs) cs = [] by unfold badR; rw [HSV.out, HCV.out, hgood]; rfl)
    go_loopw [5, 6] (fun v i wr => ∃ k : Nat, k = 0 ∧ i = .int .i64 k ∧ v = .slice (some ⟨w.heap.size, 0, none⟩) 0 0 ∧ OwnI wr w.heap.size (some ⟨w.heap.size, 0, none⟩) 0 [] ∧ Below w.heap.size w wr)
      (fun _ i _ => 0)
    case atStart => exact ⟨0, rfl, rfl, rfl, hO0, hb0⟩
    case round =>
      clear hO0 hb0
      obtain ⟨k, rfl, rfl, rfl, hO, hb⟩ := hrel
      by_cases hlt : 0 < nk
      · have hk1 : (0 : Int) < (nk : Int) := by omega
        have K1 := KV _ hb
        cases sv with
        | false =>
          go_wp2_with fail
          with_reducible refine K1.mono ?_
          rintro e w1 ⟨rfl, hb1⟩
          have hb1' := hb.trans (hb1.mono hb.size)
          have hO1 := hO.below hb1
          clear K1
          go_wp2
          go_ret
          rw [HB.out]
          exact ⟨_, _, rfl, hO1, hb1'⟩
        | true =>
          obtain rfl : cv = false := by simpa using hgood
          go_wp2_with fail
          with_reducible refine K1.mono ?_
          rintro e w1 ⟨rfl, hb1⟩
          have hb1' := hb.trans (hb1.mono hb.size)
          have hO1 := hO.below hb1
          clear K1
          have K2 := KC _ hb1'
          go_wp2_with fail
          with_reducible refine K2.mono ?_
          rintro e w2 ⟨rfl, d, rfl⟩
          clear K2
          go_wp2
          go_ret
          rw [HB.out]
          exact ⟨_, _, rfl, hO1.drewN d, below_drewNS hb1' d⟩
      · obtain rfl : nk = 0 := by omega
        go_wp2
        go_ret
        rw [HB.out]
        exact ⟨_, _, rfl, hO, hb⟩
  | true =>
    obtain ⟨rfl, rfl⟩ : sv = true ∧ cv = true := by simpa using hgood
    clear hgood
    have HB := Lib.hid (show badR (valsH xs) cs = badI cs (cs.map (badC (valsH xs))) nk by have h := badR_good HSV.out HCV.out; rw [hlk.out] at h; exact h)
    have hn16 : nk ≤ 16 := by
      have h := HCV.out
      unfold checksV at h
      simp only [Bool.and_eq_true, decide_eq_true_eq] at h
      have := hlk.out
      omega
    go_loopw [5, 6] (fun v i wr => ∃ k : Nat, k ≤ nk ∧ i = .int .i64 k ∧ ∃ a' c' L, v = .slice a' L c' ∧ Hid ((badI cs (cs.map (badC (valsH xs))) k).length = L) ∧ L ≤ k ∧ OwnI wr w.heap.size a' c' (badI cs (cs.map (badC (valsH xs))) k) ∧ Below w.heap.size w wr)
      (fun _ i _ => nk - (intOf i).toNat)
    case atStart => exact ⟨0, Nat.zero_le _, rfl, _, 0, 0, rfl, Lib.hid rfl, Nat.le_refl _, hO0, hb0⟩
    case round =>
      clear hO0 hb0
      obtain ⟨k, hk, rfl, a', c', L, rfl, hL, hLk, hO, hb⟩ := hrel
      by_cases hlt : k < nk
      · obtain ⟨b, off, rfl, hbl, f, m, hx, c0, c1, hf, hm0, hm1⟩ := HK.out.at_ HWf.out hlt
        have hs := Lib.hid (badI_succ (cs := cs) (bs := cs.map (badC (valsH xs))) (k := k))
        have hbs : (cs.map (badC (valsH xs))).getD k false = badC (valsH xs) (f, m) := by
          have hkl : k < cs.length := by rw [hlk.out]; exact hlt
          have e : cs[k] = (f, m) := by simpa [List.getD, List.getElem?_eq_getElem hkl] using hx
          simp [List.getD, List.getElem?_map, List.getElem?_eq_getElem hkl, e]
        rw [hx, hbs] at hs
        obtain ⟨t, ht⟩ : ∃ t, badC (valsH xs) (f, m) = t := ⟨_, rfl⟩
        rw [ht] at hs
        have hk0 : (0 : Int) ≤ (k : Int) := by omega
        have hk1 : (k : Int) < (nk : Int) := by omega
        have K1 := KV _ hb
        have HT := Lib.hid ht
        clear hx ht hbs
        have HO := Lib.hid hO
        clear hO
        go_wp2_with fail
        with_reducible refine K1.mono ?_
        rintro e w1 ⟨rfl, hb1⟩
        have hb1' := hb.trans (hb1.mono hb.size)
        have hO1 := Lib.hid (HO.out.below hb1)
        clear K1 HO
        have K2 := KC _ hb1'
        go_wp2_with fail
        with_reducible refine K2.mono ?_
        rintro e w2 ⟨rfl, d, rfl⟩
        clear K2 hb1 hb
        have hb2 : Below w.heap.size w (w1.drewN d) := below_drewNS hb1' d
        have hO2 : OwnI (w1.drewN d) w.heap.size a' c' _ := hO1.out
        have HO2 := Lib.hid hO2
        clear hO2 hO1 hb1'
        generalize w1.drewN d = W2 at hb2 HO2 ⊢
        have e0 : W2.cell? ⟨b, off + k * 2, none⟩ = some (.int .i64 f) := (hb2.cell (p := ⟨b, off + k * 2, none⟩) hbl).trans c0
        have e1 : W2.cell? ⟨b, off + k * 2 + 1, none⟩ = some (.int .i64 m) := (hb2.cell (p := ⟨b, off + k * 2 + 1, none⟩) hbl).trans c1
        have K3 := l16Good_any a n c xs f m W2 (HR.out.below hb2) (HI.out.below hb2) HS.out hn HSV.out
        rw [HT.out] at K3
        clear c0 c1
        cases t with
        | false =>
          have hs' := Lib.hid (show badI cs (cs.map (badC (valsH xs))) (k + 1) = badI cs (cs.map (badC (valsH xs))) k by rw [hs.out]; simp)
          clear hs
          go_wp2_with fail
          with_reducible refine K3.mono ?_
          rintro e w3 ⟨rfl, hb3⟩
          have hb4 := hb2.trans (hb3.mono hb2.size)
          have HO3 := Lib.hid (HO2.out.below hb3)
          clear K3 HO2
          go_wp2
          go_roundw
          case rel => exact ⟨k + 1, by omega, by go_num, a', c', L, rfl, Lib.hid (by rw [hs'.out]; exact hL.out), by omega, by rw [hs'.out]; exact HO3.out, hb4⟩
          case measure => simp [intOf]; omega
        | true =>
          have hs' := Lib.hid (show badI cs (cs.map (badC (valsH xs))) (k + 1) = badI cs (cs.map (badC (valsH xs))) k ++ [f] by rw [hs.out]; simp)
          clear hs
          go_wp2_with fail
          with_reducible refine K3.mono ?_
          rintro e w3 ⟨rfl, hb3⟩
          have hb4 := hb2.trans (hb3.mono hb2.size)
          have HO3 := Lib.hid (HO2.out.below hb3)
          have f0 : w3.cell? ⟨b, off + k * 2, none⟩ = some (.int .i64 f) := (hb3.cell (p := ⟨b, off + k * 2, none⟩) (Nat.lt_of_lt_of_le hbl hb2.size)).trans e0
          have hsz := hb4.size
          clear K3 HO2 e0 e1
          go_wp2_with (at_builtin; go_must (refine wp_appL rfl _ _ rfl hL.out rfl HO3.out rfl (by omega) (by omega) (by omega) (by omega) ?_); intro a4 c4 w4 hO4 hG4)
          have hb5 := (appL_below hL.out hb4 HO3.out hG4).1
          go_roundw
          case rel => exact ⟨k + 1, by omega, by go_num, a4, c4, L + 1, rfl, Lib.hid (by rw [hs'.out, List.length_append, hL.out]; rfl), by omega, by rw [hs'.out]; exact hO4, hb5⟩
          case measure => simp [intOf]; omega
      · obtain rfl : k = nk := by omega
        have hk1 : ¬ ((k : Int) < (k : Int)) := by omega
        go_wp2
        go_ret
        rw [HB.out]
        exact ⟨a', c', by rw [hL.out]; rfl, hO, hb⟩
end Go.Proofs.Ytajheicheefpeaa

/- Contracts: toCheck, toCheckS, szCheckS. -/
namespace Go.Proofs.Ytajheicheefpeaa
open Go.RowKit
set_option linter.unusedVariables false

set_option maxHeartbeats 400000 in
theorem toCheck_any (f m : Int) (w : World) :
    Calls Try.prog 39 #[.agg #[.int .i64 f, .int .i64 m]] w fun e w' => e = .returned (.agg #[.int .i64 f, .int .i64 m]) ∧ Below w.heap.size w w' := by
  go_enter Try.func39, Try.ntmps39
  go_wp2
  refine bodyPost_ret (v := .agg #[.int .i64 f, .int .i64 m]) ?_ rfl ⟨rfl, ?_⟩
  · simp [results, Try.results39, go_sem]
  · exact ((Below.refl _ _).alloc (Nat.le_refl _) _).alloc (by simp) _ |>.alloc (by simp; omega) _

theorem szCheckS_ok (a : Option Addr) (n c : Nat) (l : Int) (w : World) (h0 : 0 ≤ l) (h1 : l ≤ 4611686018427387904) (h : (n : Int) ≤ l) :
    Calls Try.prog 17 #[.slice a n c, .int .i64 l] w fun e w' => e = .returned (.int .i64 (l - n)) ∧ w = w' := by
  go_enter Try.func17, Try.ntmps17
  go_wp2
  go_ret
  exact ⟨rfl, rfl⟩

theorem szCheckS_no (a : Option Addr) (n c : Nat) (l : Int) (w : World) (hn : n ≤ 9223372036854775807) (h0 : 0 ≤ l) (h1 : l ≤ 4611686018427387904) (h : l < n) :
    Calls Try.prog 17 #[.slice a n c, .int .i64 l] w fun e w' => e = .returned (.int .i64 (-1)) ∧ w = w' := by
  go_enter Try.func17, Try.ntmps17
  go_wp2
  go_ret
  exact ⟨rfl, rfl⟩

/-- A new slice of checks is handed back, all that was there is as it was. -/
def RetX (w : World) (xs : List (Int × Int)) (e : Ending) (w' : World) : Prop :=
  ∃ a c, e = .returned (.slice a xs.length c) ∧ OwnX w' w.heap.size a c xs ∧ Below w.heap.size w w'

/-- Laid checks ahead, zeros behind. -/
def laidX (xs : List (Int × Int)) (k : Nat) : List (Int × Int) := xs.take k ++ List.replicate (xs.length - k) (0, 0)

theorem laidX_length (xs : List (Int × Int)) (k : Nat) (h : k ≤ xs.length) : (laidX xs k).length = xs.length := by
  simp [laidX]; omega

theorem laidX_step (xs : List (Int × Int)) (k : Nat) (hk : k < xs.length) : (laidX xs k).set k (xs.getD k (0, 0)) = laidX xs (k + 1) := by
  unfold laidX
  apply List.ext_getElem?
  intro j
  simp only [List.getElem?_set, List.getElem?_append, List.length_take, List.getElem?_take, List.getElem?_replicate, List.length_append, List.length_replicate]
  have h1 : min k xs.length = k := by omega
  have h2 : min (k + 1) xs.length = k + 1 := by omega
  rw [h1, h2]
  by_cases hj : k = j
  · subst hj
    simp [hk]
    omega
  · by_cases hlt : j < k
    · simp [hj, hlt, show j < k + 1 by omega]
    · simp [hj, hlt, show ¬ j < k + 1 by omega]
      by_cases h : j < xs.length
      · simp [show j - k < xs.length - k by omega, show j - (k + 1) < xs.length - (k + 1) by omega]
      · simp [show ¬ j - k < xs.length - k by omega, show ¬ j - (k + 1) < xs.length - (k + 1) by omega]

theorem flatX_zero (n : Nat) : flatX (List.replicate n (0, 0)) = List.replicate (n * 2) (.int .i64 0) := by
  induction n with
  | zero => rfl
  | succ n ih =>
    rw [List.replicate_succ, show (n + 1) * 2 = n * 2 + 1 + 1 by omega, List.replicate_succ, List.replicate_succ, ← ih]
    rfl

theorem madeCells_two (z : Value) (n : Nat) : (madeCells #[z, z] n).toList = List.replicate n z := by
  apply List.ext_getElem?
  intro j
  by_cases hj : j < n
  · have : j % 2 = 0 ∨ j % 2 = 1 := by omega
    rcases this with h | h <;> simp [madeCells, hj, h]
  · simp [madeCells, hj]

theorem WfX.laid {xs : List (Int × Int)} (h : WfX xs) (k : Nat) : WfX (laidX xs k) := by
  intro z hz
  unfold laidX at hz
  rcases List.mem_append.1 hz with h' | h'
  · exact h z (List.mem_of_mem_take h')
  · have := List.eq_of_mem_replicate h'
    subst this
    decide

set_option maxRecDepth 100000 in
set_option maxHeartbeats 1000000 in
theorem toCheckS_any (a : Option Addr) (n c : Nat) (xs : List (Int × Int)) (w : World) (hr : RdX w a n xs) (hwf : WfX xs) (hn : n ≤ 1048576) :
    Calls Try.prog 19 #[.slice a n c] w (RetX w xs) := by
  obtain ⟨i0, hi, hz0, hz1, hz2⟩ := info_parts info_ext
  go_enter Try.func19, Try.ntmps19
  go_wp2_with (at_make; refine wpList_make_full _ rfl _ _ 24 rfl w.heap.size 53 i0 (.agg #[.int .i64 0, .int .i64 0]) 2 Try.underlying24 hi hz0 hz1 .i64 .i64 n n n rfl rfl rfl rfl (by rw [hz2]; omega) (by unfold maxLen; omega) (by omega) ?_; intro w1 hown hg1)
  have hb1 : Below w.heap.size w w1 := (Below.refl _ _).grown hg1 (Nat.le_refl _) (fun k hk => by cases hk)
  have hor0 : OwnX w1 w.heap.size (some { block := w.heap.size, off := 0 }) n (laidX xs 0) := by
    refine ⟨hwf.laid 0, ?_⟩
    rw [laidX_length _ _ (Nat.zero_le _), hr.1]
    have e : flatX (laidX xs 0) = (madeCells (Value.agg #[Value.int IntKind.i64 0, Value.int IntKind.i64 0]).cells (n * 2)).toList := by
      rw [show laidX xs 0 = List.replicate n (0, 0) by unfold laidX; rw [hr.1]; simp, flatX_zero]
      exact (madeCells_two _ _).symm
    rw [e]; exact hown
  have HZ := Lib.hid hr.1
  clear hown hg1
  go_loopw [4] (fun i wr => ∃ k : Nat, k ≤ n ∧ i = .int .i64 k ∧ Below w.heap.size w wr ∧ OwnX wr w.heap.size (some { block := w.heap.size, off := 0 }) n (laidX xs k))
    (fun i _ => n - (intOf i).toNat)
  case atStart => exact ⟨0, Nat.zero_le _, rfl, hb1, hor0⟩
  case round =>
    obtain ⟨k, hk, rfl, hbr, hor⟩ := hrel
    by_cases hlt : k < n
    · obtain ⟨b, off, rfl, hblt, f, m, hfm, cf, cm, ⟨wf0, wf1⟩, wm0, wm1⟩ := (hr.below hbr).at_ hwf hlt
      have HX := Lib.hid hfm
      clear hfm
      go_wp2_with fail
      with_reducible refine (toCheck_any f m _).mono ?_
      rintro e w2 ⟨rfl, hb2⟩
      have ho2 := hor.below hb2
      have hb3 := hbr.trans (hb2.mono hbr.size)
      have hkl : k < (laidX xs k).length := by rw [laidX_length _ _ (by have := HZ.out; omega)]; have := HZ.out; omega
      obtain ⟨⟨q1, q2⟩, q3, q4⟩ := ho2.cells k hkl
      clear hb2 hor cf cm hbr
      have hs := ho2.setBoth k hkl f m wf0 wf1 wm0 wm1
      rw [← HX.out, laidX_step xs k (by have := HZ.out; omega)] at hs
      have HS := Lib.hid hs
      clear hs ho2
      go_wp2
      go_roundw
      case rel => exact ⟨k + 1, by omega, by go_num, (hb3.setCell (Nat.le_refl _) _).setCell (Nat.le_refl _) _, HS.out.1⟩
      case measure => simp [intOf]; omega
    · obtain rfl : k = n := by omega
      go_wp2
      go_ret
      have h := hor
      have e : laidX xs k = xs := by unfold laidX; rw [HZ.out, List.take_of_length_le (by have := HZ.out; omega)]; simp
      rw [e] at h
      have hz := HZ.out
      rw [← hz]
      rw [← hz] at h
      exact ⟨_, _, rfl, h, hbr⟩

end Go.Proofs.Ytajheicheefpeaa

/- Contracts: markCheckS writes k, k+1, .. into a slice of the call's own; heldCheckS finds them there. -/
namespace Go.Proofs.Ytajheicheefpeaa
open Go.RowKit
set_option linter.unusedVariables false

/-- k, k+1, .., in n pairs. -/
def seqX (k : Int) (n : Nat) : List (Int × Int) := (List.range n).map fun (i : Nat) => (k + 2 * (i : Int), k + 2 * (i : Int) + 1)

theorem seqX_length (k : Int) (n : Nat) : (seqX k n).length = n := by simp [seqX]
theorem seqX_getD (k : Int) (n i : Nat) (h : i < n) : (seqX k n).getD i (0, 0) = (k + 2 * (i : Int), k + 2 * (i : Int) + 1) := by simp [seqX, h]

theorem WfX_seq (k : Int) (n : Nat) (h0 : -1000 ≤ k) (h1 : k + 2 * n ≤ 9223372036854775807) : WfX (seqX k n) := by
  intro z hz
  simp only [seqX, List.mem_map, List.mem_range] at hz
  obtain ⟨i, hi, rfl⟩ := hz
  simp only
  omega

theorem markX_step (k : Int) (xs : List (Int × Int)) (i : Nat) (h : i < xs.length) :
    (seqX k i ++ xs.drop i).set i (k + 2 * (i : Int), k + 2 * (i : Int) + 1) = seqX k (i + 1) ++ xs.drop (i + 1) := by
  apply List.ext_getElem?
  intro j
  simp only [List.getElem?_set, List.getElem?_append, seqX_length, List.getElem?_drop, List.length_append, List.length_drop]
  by_cases hj : i = j
  · subst hj
    simp [seqX, show i < i + (xs.length - i) by omega]
  · by_cases hlt : j < i
    · simp [hj, hlt, show j < i + 1 by omega, seqX]
    · simp [hj, hlt, show ¬ j < i + 1 by omega, show i + (j - i) = j by omega, show i + 1 + (j - (i + 1)) = j by omega]

/-- A slice of sums was written over; nothing else has changed. -/
def RetMarkX (w : World) (B : Nat) (a : Option Addr) (c n : Nat) (k : Int) (e : Ending) (w' : World) : Prop :=
  e = .returned (.int .i64 (k + 2 * n)) ∧ OwnX w' B a c (seqX k n) ∧ w.grownBy w' (Value.slice a n c).ownBlock

set_option maxHeartbeats 1000000 in
theorem markCheckS_any (B : Nat) (a : Option Addr) (c : Nat) (xs : List (Int × Int)) (k0 : Int) (w : World) (ho : OwnX w B a c xs) (h0 : 0 ≤ k0) (h1 : k0 ≤ 4611686018427387904) (hn : xs.length ≤ 1099511627776) :
    Calls Try.prog 15 #[.slice a xs.length c, .int .i64 k0] w (RetMarkX w B a c xs.length k0) := by
  obtain ⟨n, hnz⟩ : ∃ n, n = xs.length := ⟨_, rfl⟩
  rw [← hnz] at hn ⊢
  have HN := Lib.hid hnz
  clear hnz
  go_enter Try.func15, Try.ntmps15
  go_wp2
  go_loopw [1, 5] (fun v i wr => ∃ k : Nat, k ≤ n ∧ i = .int .i64 k ∧ v = .int .i64 (k0 + 2 * k) ∧ w.grownBy wr (Value.slice a n c).ownBlock ∧ OwnX wr B a c (seqX k0 k ++ xs.drop k))
    (fun _ i _ => n - (intOf i).toNat)
  case atStart => exact ⟨0, Nat.zero_le _, rfl, by simp, World.grownBy.refl _ _, by simpa [seqX] using ho⟩
  case round =>
    obtain ⟨k, hk, rfl, rfl, hg, hor⟩ := hrel
    by_cases hlt : k < n
    · have hlen : (seqX k0 k ++ xs.drop k).length = n := by rw [List.length_append, seqX_length, List.length_drop, ← HN.out]; omega
      obtain ⟨g, rfl, hBg, hgs⟩ := hor.head (by omega)
      obtain ⟨⟨q1, q2⟩, q3, q4⟩ := hor.cells k (by omega)
      have hst := hor.setBoth k (by omega) (k0 + 2 * (k : Int)) (k0 + 2 * (k : Int) + 1) (by omega) (by omega) (by omega) (by omega)
      rw [markX_step k0 xs k (by have := HN.out; omega)] at hst
      have HS := Lib.hid hst.1
      have HG : Hid (w.grownBy ((wr.setCell ⟨g, k * 2, none⟩ (.int .i64 (k0 + 2 * (k : Int)))).setCell ⟨g, k * 2 + 1, none⟩ (.int .i64 (k0 + 2 * (k : Int) + 1))) (Value.slice (some ⟨g, 0, none⟩) n c).ownBlock) := by
        refine Lib.hid ⟨?_, ?_, ?_, ?_, ?_⟩
        · exact hst.2.os.trans hg.os
        · exact hst.2.tape.trans hg.tape
        · exact hst.2.output.trans hg.output
        · exact Nat.le_trans hg.size hst.2.size
        · intro j hj hne
          rw [hst.2.block j (Nat.lt_of_lt_of_le hj hg.size) (by simpa [Value.ownBlock] using hne)]
          exact hg.block j hj hne
      clear hst hor hg ho hlen
      go_wp2
      go_roundw
      case rel => exact ⟨k + 1, by omega, by go_num, by go_num, HG.out, HS.out⟩
      case measure => simp [intOf]; omega
    · obtain rfl : k = n := by omega
      go_wp2
      go_ret
      rw [List.drop_of_length_le (by have := HN.out; omega), List.append_nil] at hor
      exact ⟨rfl, hor, hg⟩

set_option maxHeartbeats 400000 in
theorem heldCheckS_any (a : Option Addr) (n c : Nat) (k0 : Int) (w : World) (hr : RdX w a n (seqX k0 n)) (h0 : 0 ≤ k0) (h1 : k0 ≤ 4611686018427387904) (hn : n ≤ 1099511627776) :
    Calls Try.prog 16 #[.slice a n c, .int .i64 k0] w fun e w' => e = .returned (.int .i64 (k0 + 2 * n)) ∧ w = w' := by
  go_enter Try.func16, Try.ntmps16
  go_wp2
  go_loop [1, 5] (fun v i => ∃ k : Nat, k ≤ n ∧ i = .int .i64 k ∧ v = .int .i64 (k0 + 2 * k)) (fun _ i => n - (intOf i).toNat)
  case atStart => exact ⟨0, Nat.zero_le _, rfl, by simp⟩
  case round =>
    obtain ⟨k, hk, rfl, rfl⟩ := hrel
    by_cases hlt : k < n
    · obtain ⟨b, off, rfl, hblt, f, m, hfm, cf, cm, ⟨wf0, wf1⟩, wm0, wm1⟩ := hr.at_ (WfX_seq _ _ (by omega) (by omega)) hlt
      rw [seqX_getD _ _ _ hlt] at hfm
      injection hfm with e1 e2
      subst e1 e2
      have t1 : (k0 + 2 * (k : Int) != k0 + 2 * (k : Int)) = false := by simp
      have t2 : (k0 + 2 * (k : Int) + 1 != k0 + 2 * (k : Int) + 1) = false := by simp
      go_wp2
      go_round
      case rel => exact ⟨k + 1, by omega, by go_num, by go_num⟩
      case measure => simp [intOf]; omega
    · obtain rfl : k = n := by omega
      go_wp2
      go_ret
      exact ⟨rfl, rfl⟩

end Go.Proofs.Ytajheicheefpeaa

/- What is known goes over to a world that has only grown; an end that answers true. -/
namespace Go.Proofs.Ytajheicheefpeaa
open Go.Proofs
open Go.Conc Go.RowKit
set_option linter.unusedSimpArgs false
set_option linter.unusedVariables false

theorem OwnH.bt {w w' : World} {B : Nat} {a : Option Addr} {c : Nat} {xs : List HV} (h : OwnH w B a c xs) (hb : BT w w') : OwnH w' B a c xs := by
  have h := h.below hb.below
  exact ⟨h.row, h.ins, h.apart⟩
theorem OwnH.onT {w : World} {B : Nat} {a : Option Addr} {c : Nat} {xs : List HV} (h : OwnH w B a c xs) (τ : TapeT) (d : Nat) : OwnH (Go.Proofs.Ytajheicheefpeaa.onT w τ d) B a c xs := ⟨h.row, h.ins, h.apart⟩
theorem OwnX.bt {w w' : World} {B : Nat} {a : Option Addr} {c : Nat} {xs : List (Int × Int)} (h : OwnX w B a c xs) (hb : BT w w') : OwnX w' B a c xs := by
  have h := h.below hb.below; exact h
theorem OwnI.bt {w w' : World} {B : Nat} {a : Option Addr} {c : Nat} {xs : List Int} (h : OwnI w B a c xs) (hb : BT w w') : OwnI w' B a c xs := by
  have h := h.below hb.below; exact h
theorem RdX.bt {w w' : World} {a : Option Addr} {n : Nat} {xs : List (Int × Int)} (h : RdX w a n xs) (hb : BT w w') : RdX w' a n xs := by
  have h := h.below hb.below; exact h
theorem RdR.bt {α : Type} {E : Elt α} {w w' : World} {a : Option Addr} {n : Nat} {xs : List α} (h : RdR E w a n xs) (hb : BT w w') : RdR E w' a n xs := by
  have h := h.below hb.below; exact h
theorem InH.bt {w w' : World} {xs : List HV} (h : InH w xs) (hb : BT w w') : InH w' xs := by
  have h := InH.below h hb.below; exact h

theorem empty_rdi {W w0 : World} (hS : Sim (fun _ => False) w0 W) {a : Option Addr} {n : Nat} {zs : List Int} (h : RdI W a n zs) : RdI w0 a n zs := by
  refine ⟨h.1, fun i hi => ?_⟩
  obtain ⟨b, off, rfl, hlt, hc⟩ := h.2 i hi
  exact ⟨b, off, rfl, by rw [hS.size]; exact hlt, fun j hj => empty_cell hS (hc j hj)⟩
theorem empty_rdx {W w0 : World} (hS : Sim (fun _ => False) w0 W) {a : Option Addr} {n : Nat} {zs : List (Int × Int)} (h : RdX W a n zs) : RdX w0 a n zs := by
  refine ⟨h.1, fun i hi => ?_⟩
  obtain ⟨b, off, rfl, hlt, hc⟩ := h.2 i hi
  exact ⟨b, off, rfl, by rw [hS.size]; exact hlt, fun j hj => ⟨empty_cell hS (hc j hj).1, empty_cell hS (hc j hj).2⟩⟩
theorem empty_rdr {W w0 : World} (hS : Sim (fun _ => False) w0 W) {α : Type} {E : Elt α} {a : Option Addr} {n : Nat} {zs : List α} (h : RdR E W a n zs) : RdR E w0 a n zs := by
  refine ⟨h.1, fun i hi => ?_⟩
  obtain ⟨b, off, rfl, hlt, hc⟩ := h.2 i hi
  exact ⟨b, off, rfl, by rw [hS.size]; exact hlt, fun j x hx k u hu => empty_cell hS (hc j x hx k u hu)⟩
theorem empty_inh {W w0 : World} (hS : Sim (fun _ => False) w0 W) {xs : List HV} (h : InH W xs) : InH w0 xs := fun x hx => empty_rdi hS (h x hx)

theorem ok_done {P : Program} {f : FuncId} {fn : Func} {t : Tmp} {F : Bks} {p : Nat} {W w : World} {T : Array Value} {todo : List Item} (hf : P.funcs[f]? = some fn) (hres : fn.results = #[.tmp t]) (hin : P.inits.idxOf? f = none) (h : BT W w) (hT : T.getD t undef = .bool true) :
    Ok P F p (PostL W) (G { (base f).at ⟨T, []⟩ todo with mode := .returning } []) w := by
  refine ok_end (n := 0) (D := fun _ _ _ => False) (fun _ _ _ h => h.elim) ?_
  refine fun w₁ r₁ => ?_
  obtain ⟨d, rfl⟩ := r₁
  refine ⟨rfl, .bool true, #[], ?_, by simp, rfl, ⟨h.os, h.output, h.size, h.block⟩⟩
  have hr : (results fn T).run P (w.at d) = .ok (.bool true) (w.at d) := by rw [results_tmp hres, hT]
  have he : (results fn T).events P (w.at d) #[] = #[] := events_results_tmp hres _ _
  simp [G, stepG, Frame.at, base, unwind, doReturn, hr, he, seen, GStep.after, hf, hin]

/-- Only blocks of the band have changed, whatever the tape. -/
def WT (lo hi : Nat) (w w' : World) : Prop := Within lo hi w (onT w' w.tape w'.drawn)
theorem WT.onT {lo hi : Nat} {w w' : World} (h : WT lo hi w w') (τ : TapeT) (d : Nat) : WT lo hi w (Go.Proofs.Ytajheicheefpeaa.onT w' τ d) := ⟨h.os, rfl, h.output, h.size, h.block⟩
theorem WT.of {lo hi : Nat} {w w' : World} {τ : TapeT} {d : Nat} (h : Within lo hi (Go.Proofs.Ytajheicheefpeaa.onT w τ d) w') : WT lo hi w w' := ⟨h.os, rfl, h.output, h.size, h.block⟩
theorem WT.bt {lo hi : Nat} {v w w' : World} (h : WT lo hi w w') (hb : BT v w) (hl : v.heap.size ≤ lo) : BT v w' :=
  ⟨h.os.trans hb.os, h.output.trans hb.output, Nat.le_trans hb.size h.size, fun b hlt => (h.block b (Nat.lt_of_lt_of_le hlt hb.size) (.inl (by omega))).trans (hb.block b hlt)⟩
theorem WT.ownI {lo hi : Nat} {w w' : World} (h : WT lo hi w w') {B : Nat} {a : Option Addr} {c : Nat} {xs : List Int} (ho : OwnI w B a c xs) (hk : ∀ k, (Value.slice a xs.length c).ownBlock = some k → k < lo ∨ hi ≤ k) : OwnI w' B a c xs := by
  have h' : OwnI (Go.Proofs.Ytajheicheefpeaa.onT w' w.tape w'.drawn) B a c xs := ⟨ho.1, Within.row h ho.2 hk⟩
  exact h'
theorem WT.ownX {lo hi : Nat} {w w' : World} (h : WT lo hi w w') {B : Nat} {a : Option Addr} {c : Nat} {xs : List (Int × Int)} (ho : OwnX w B a c xs) (hk : ∀ k, (Value.slice a xs.length c).ownBlock = some k → k < lo ∨ hi ≤ k) : OwnX w' B a c xs := by
  have h' : OwnX (Go.Proofs.Ytajheicheefpeaa.onT w' w.tape w'.drawn) B a c xs := ⟨ho.1, Within.row h ho.2 hk⟩
  exact h'
/-- Only one row has changed, whatever the tape. -/
def GT (w w' : World) (row : Option Nat) : Prop := w.grownBy (onT w' w.tape w'.drawn) row
theorem GT.onT {row : Option Nat} {w w' : World} (h : GT w w' row) (τ : TapeT) (d : Nat) : GT w (Go.Proofs.Ytajheicheefpeaa.onT w' τ d) row := ⟨h.os, rfl, h.output, h.size, h.block⟩
theorem GT.of {row : Option Nat} {w w' : World} {τ : TapeT} {d : Nat} (h : (Go.Proofs.Ytajheicheefpeaa.onT w τ d).grownBy w' row) : GT w w' row := ⟨h.os, rfl, h.output, h.size, h.block⟩
theorem GT.bt {row : Option Nat} {v w w' : World} (h : GT w w' row) (hb : BT v w) (hl : ∀ k, row = some k → v.heap.size ≤ k) : BT v w' :=
  ⟨h.os.trans hb.os, h.output.trans hb.output, Nat.le_trans hb.size h.size, fun b hlt => (h.block b (Nat.lt_of_lt_of_le hlt hb.size) (fun e => by have := hl b e.symm; omega)).trans (hb.block b hlt)⟩
theorem GT.ownI {row : Option Nat} {w w' : World} (hg : GT w w' row) {B : Nat} {a : Option Addr} {c : Nat} {zs : List Int} (h : OwnI w B a c zs) (hne : ∀ k, (Value.slice a zs.length c).ownBlock = some k → ∀ r, row = some r → k ≠ r) : OwnI w' B a c zs := by
  have h' : OwnI (Go.Proofs.Ytajheicheefpeaa.onT w' w.tape w'.drawn) B a c zs := OwnI.apartI h hg hne
  exact h'

/-- What szHeldS answers. -/
theorem szH_case (a : Option Addr) (n c : Nat) (zs : List HV) (hwf : WfH zs) (hm : n ≤ maxLen) : ∃ r : Int, (∀ W, RdR eltHL W a n zs → Calls Try.prog 8 #[.slice a n c, .int .i64 1048576] W (RetB W (.int .i64 r))) ∧ (r = -1 ∨ (0 ≤ r ∧ r ≤ 1048576 ∧ (n : Int) + szH zs ≤ 1048576 ∧ n ≤ 1048576)) := by
  unfold maxLen at hm
  by_cases hbig : 4611686018427387904 < n
  · exact ⟨-1, fun W _ => szHeldS_big a n c 1048576 W (by omega) (by omega), .inl rfl⟩
  have hsn := szH_nonneg zs
  refine ⟨leftH 1048576 (n + szH zs), fun W hr => szHeldS_any a n c zs 1048576 W hr hwf (by omega) (by omega) (by omega), ?_⟩
  unfold leftH
  split
  · exact .inl rfl
  · exact .inr ⟨by omega, by omega, by omega, by omega⟩
/-- What szCheckS answers. -/
theorem szC_case (a : Option Addr) (n c : Nat) (l : Int) (hm : n ≤ maxLen) (h0 : 0 ≤ l) (h1 : l ≤ 1048576) : ∃ r : Int, (∀ W, Calls Try.prog 17 #[.slice a n c, .int .i64 l] W fun e w' => e = .returned (.int .i64 r) ∧ W = w') ∧ (r = -1 ∨ (0 ≤ r ∧ n ≤ 1048576)) := by
  unfold maxLen at hm
  by_cases h : (n : Int) ≤ l
  · exact ⟨l - n, fun W => szCheckS_ok a n c l W h0 (by omega) h, .inr ⟨by omega, by omega⟩⟩
  · exact ⟨-1, fun W => szCheckS_no a n c l W (by omega) h0 (by omega) (by omega), .inl rfl⟩
end Go.Proofs.Ytajheicheefpeaa

/- The run of FnExactChecksBad. -/
namespace Go.Proofs.Ytajheicheefpeaa
open Go.Proofs
open Go.Conc Go.RowKit
open Go.ConcR (KK wgBlock WgAt stA smA DC0)
open Go.Conc.Lib Go.ConcR.Gen Go.ConcN.Gen
set_option linter.unusedSimpArgs false
set_option linter.unusedVariables false

noncomputable def body4 : Code := Try.f4.body.getD .skip

theorem vals_le {xs ys : List HV} (h : valsH ys = valsH xs) {m : Nat} (hs : ∀ x ∈ xs, x.zs.length ≤ m) : ∀ y ∈ ys, y.zs.length ≤ m := by
  intro y hy
  have : y.val ∈ valsH ys := List.mem_map_of_mem hy
  rw [h] at this
  obtain ⟨x, hx, he⟩ := List.mem_map.1 this
  have := hs x hx
  have hz : x.zs = y.zs := congrArg (fun p : Int × List Int × Int => p.2.1) he
  rw [← hz]; exact this
theorem szH_same {xs ys : List HV} (h : valsH ys = valsH xs) : szH ys = szH xs := by
  have e : ∀ zs : List HV, szH zs = ((valsH zs).map fun v => (v.2.1.length : Int)).sum := by
    intro zs
    unfold szH valsH
    rw [List.map_map]
    rfl
  rw [e, e, h]
theorem badR_len {vs : List (Int × List Int × Int)} {cs : List (Int × Int)} {n : Nat} (hn : n ≤ 1048576) (hl : cs.length = n) : (badR vs cs).length ≤ 1048576 := by
  unfold badR
  split
  · have := badI_len cs (cs.map (badC vs)) cs.length; omega
  · simp

set_option maxRecDepth 100000 in
set_option maxHeartbeats 3000000 in
theorem fnExactChecksBad_ok {a ka : Option Addr} {n c nk ck : Nat} {zs : List HV} {cs : List (Int × Int)} {W : World} (hrW : RdR eltHL W a n zs) (hinW : InH W zs) (hwf : WfH zs) (hm : n ≤ maxLen) (hkW : RdX W ka nk cs) (hwc : WfX cs) (hmk : nk ≤ maxLen) :
    Ok Try.prog (fun _ => False) 1 (PostL W) (G ((base 4).at ⟨#[.slice a n c, .slice ka nk ck, undef, undef, undef, undef, undef, undef, undef, undef, undef, undef, undef, undef, undef, undef, undef, undef, undef, undef, undef, undef, undef, undef, undef, undef, undef, undef, undef, undef, undef, undef, undef, undef, undef, undef, undef, undef, undef, undef, undef, undef, undef, undef, undef, undef, undef, undef, undef, undef, undef, undef, undef, undef, undef, undef, undef, undef, undef, undef, undef, undef, undef, undef, undef, undef, undef, undef, undef, undef, undef, undef, undef, undef, undef, undef, undef, undef, undef, undef, undef, undef, undef, undef, undef, undef, undef, undef, undef, undef, undef, undef], []⟩ [.code body4]) []) W := by
  have T : Terms AtRel (DB fun _ => False) := termsB
  have hk : (base 4).kind ≠ .early := by decide
  obtain ⟨vv, hS0, hNP, _, _⟩ := sim_make (fun _ => False) W (fun b h => h.elim)
  have hr0 : RdR eltHL vv a n zs := empty_rdr hS0 hrW
  have hin0 : InH vv zs := empty_inh hS0 hinW
  have hk0 : RdX vv ka nk cs := empty_rdx hS0 hkW
  have hl := Lib.hid hr0.1
  have hkl := Lib.hid hk0.1
  clear hrW hinW hkW
  obtain ⟨r, HZ, hrr⟩ := szH_case a n c zs hwf hm
  obtain ⟨IB, hIB⟩ : ∃ IB, badR (valsH zs) cs = IB := ⟨_, rfl⟩
  obtain ⟨L, hIL⟩ : ∃ L, IB.length = L := ⟨_, rfl⟩
  obtain ⟨u, hu⟩ : ∃ u, 1 + (L : Int) = u := ⟨_, rfl⟩
  have hu0 : 0 ≤ u := by omega
  have du : decide (u < 0) = false := decide_eq_false (by omega)
  have uu : (u != u) = false := by simp
  have uu2 : (u == u) = true := by simp
  replace hIB := Lib.hid hIB
  replace hIL := Lib.hid hIL
  replace hu := Lib.hid hu
  obtain ⟨vc, hvc⟩ : ∃ v, v = vv := ⟨_, rfl⟩
  have S : Sim (fun _ => False) vc W := by rw [hvc]; exact hS0
  have B : BT vv vc := by rw [hvc]; exact ⟨rfl, rfl, Nat.le_refl _, fun _ _ => rfl⟩
  have hsz : vv.heap.size ≤ vc.heap.size := B.size
  have st : Stay W W := Stay.refl W
  have hFF : ∀ b, b < W.heap.size → ¬ (fun _ : Nat => False) b := fun b _ h => h
  have hFl : ∀ b, (fun _ : Nat => False) b → b < W.heap.size := fun b h => h.elim
  have hp : 0 < 1 := by omega
  clear hvc
  simp only [body4, Try.f4, Option.getD_some]
  refine ok_goes (Stop := Ok Try.prog _ _ (PostL W)) (fun _ _ h => h) (n := 60) ?_
  repeat (first
    | (with_reducible refine gt_seq T ?_)
    | (with_reducible refine gt_end T ?_)
    | ((with_reducible refine gt_reg T ?_); simp only [List.size_toArray, List.length_cons, List.length_nil, Nat.reduceAdd, Nat.zero_add, List.range, List.range.loop])
    | (with_reducible refine gt_skip T ?_)
    | ((with_reducible refine gt_cond T false ?_ ?_); (focus (exact rfl)); simp only [if_true, if_false, Bool.false_eq_true, ↓reduceIte, Bool.true_eq_false])
    | ((with_reducible refine gt_cond T true ?_ ?_); (focus (exact rfl)); simp only [if_true, if_false, Bool.false_eq_true, ↓reduceIte, Bool.true_eq_false]))
  refine gt_val T (.bool false) rfl rfl hk (fun w₂ r₂ => ?_) ?_
  · refine ⟨run_of fun K hK => ?_, ?_⟩
    · go_simp; exact hK
    · rw [listed_nil (by simp [go_sem, *])]; exact T.idle _
  walk_nrm
  repeat (first
    | (with_reducible refine gt_seq T ?_)
    | (with_reducible refine gt_end T ?_)
    | ((with_reducible refine gt_reg T ?_); simp only [List.size_toArray, List.length_cons, List.length_nil, Nat.reduceAdd, Nat.zero_add, List.range, List.range.loop])
    | (with_reducible refine gt_skip T ?_)
    | ((with_reducible refine gt_cond T false ?_ ?_); (focus (exact rfl)); simp only [if_true, if_false, Bool.false_eq_true, ↓reduceIte, Bool.true_eq_false])
    | ((with_reducible refine gt_cond T true ?_ ?_); (focus (exact rfl)); simp only [if_true, if_false, Bool.false_eq_true, ↓reduceIte, Bool.true_eq_false]))
  refine gt_val T (.int .i64 1048576) rfl rfl hk (fun w₂ r₂ => ?_) ?_
  · refine ⟨run_of fun K hK => ?_, ?_⟩
    · go_simp; exact hK
    · rw [listed_nil (by simp [go_sem, *])]; exact T.idle _
  walk_nrm
  repeat (first
    | (with_reducible refine gt_seq T ?_)
    | (with_reducible refine gt_end T ?_)
    | ((with_reducible refine gt_reg T ?_); simp only [List.size_toArray, List.length_cons, List.length_nil, Nat.reduceAdd, Nat.zero_add, List.range, List.range.loop])
    | (with_reducible refine gt_skip T ?_)
    | ((with_reducible refine gt_cond T false ?_ ?_); (focus (exact rfl)); simp only [if_true, if_false, Bool.false_eq_true, ↓reduceIte, Bool.true_eq_false])
    | ((with_reducible refine gt_cond T true ?_ ?_); (focus (exact rfl)); simp only [if_true, if_false, Bool.false_eq_true, ↓reduceIte, Bool.true_eq_false]))
  refine gt_val T (.slice a n c) rfl rfl hk (fun w₂ r₂ => ?_) ?_
  · refine ⟨run_of fun K hK => ?_, ?_⟩
    · go_simp; exact hK
    · rw [listed_nil (by simp [go_sem, *])]; exact T.idle _
  walk_nrm
  refine gt_val T (.int .i64 1048576) rfl rfl hk (fun w₂ r₂ => ?_) ?_
  · refine ⟨run_of fun K hK => ?_, ?_⟩
    · go_simp; exact hK
    · rw [listed_nil (by simp [go_sem, *])]; exact T.idle _
  walk_nrm
  refine Goes.stop fun w₁ r₁ => ?_
  obtain ⟨d₁, rfl⟩ := r₁
  refine ok_call (K := kitC) bodiesC (R := fun v w' => v = .int .i64 r ∧ BT vc w') (fun v w τ d h => ⟨h.1, h.2.tape _ _⟩) rfl rfl hk rfl Try.func8 rfl rfl rfl (by kernel_rfl) (by simp [Act.eval]; rfl) S.noPend (S.atD d₁) (fun τ d => ?_) (fun v' vc Wc hR S' hz' st' => ?_)
  · exact (HZ (onT vc τ d) (hr0.bt (B.tape _ _))).mono fun e w' h => ⟨_, h.1, rfl, (BT.of h.2).untape⟩
  obtain ⟨rfl, hb⟩ := hR
  replace S := S'
  replace st := st.trans st'.atD
  replace hFl := fun b (hb : _) => Nat.lt_of_lt_of_le (hFl b hb) hz'
  replace B := B.trans hb
  replace hsz := Nat.le_trans hsz hb.size
  clear hb
  clear S' st' hz'
  refine ok_goes (Stop := Ok Try.prog _ _ (PostL W)) (fun _ _ h => h) (n := 60) ?_
  walk_nrm
  refine gt_val T (.int .i64 r) rfl rfl hk (fun w₂ r₂ => ?_) ?_
  · refine ⟨run_of fun K hK => ?_, ?_⟩
    · go_simp; exact hK
    · rw [listed_nil (by simp [go_sem, *])]; exact T.idle _
  walk_nrm
  repeat (first
    | (with_reducible refine gt_seq T ?_)
    | (with_reducible refine gt_end T ?_)
    | ((with_reducible refine gt_reg T ?_); simp only [List.size_toArray, List.length_cons, List.length_nil, Nat.reduceAdd, Nat.zero_add, List.range, List.range.loop])
    | (with_reducible refine gt_skip T ?_)
    | ((with_reducible refine gt_cond T false ?_ ?_); (focus (exact rfl)); simp only [if_true, if_false, Bool.false_eq_true, ↓reduceIte, Bool.true_eq_false])
    | ((with_reducible refine gt_cond T true ?_ ?_); (focus (exact rfl)); simp only [if_true, if_false, Bool.false_eq_true, ↓reduceIte, Bool.true_eq_false]))
  refine gt_val T (.int .i64 r) rfl rfl hk (fun w₂ r₂ => ?_) ?_
  · refine ⟨run_of fun K hK => ?_, ?_⟩
    · go_simp; exact hK
    · rw [listed_nil (by simp [go_sem, *])]; exact T.idle _
  walk_nrm
  rcases hrr with rfl | ⟨hr1, hr2, hr3, hn2⟩
  · have t : decide ((-1 : Int) < 0) = true := by decide
    refine gt_val T (.bool true) rfl rfl hk (fun w₂ r₂ => ?_) ?_
    · refine ⟨run_of fun K hK => ?_, ?_⟩
      · go_simp; exact hK
      · rw [listed_nil (by simp [go_sem, *])]; exact T.idle _
    walk_nrm
    repeat (first
      | (with_reducible refine gt_seq T ?_)
      | (with_reducible refine gt_end T ?_)
      | ((with_reducible refine gt_reg T ?_); simp only [List.size_toArray, List.length_cons, List.length_nil, Nat.reduceAdd, Nat.zero_add, List.range, List.range.loop])
      | (with_reducible refine gt_skip T ?_)
      | ((with_reducible refine gt_cond T false ?_ ?_); (focus (exact rfl)); simp only [if_true, if_false, Bool.false_eq_true, ↓reduceIte, Bool.true_eq_false])
      | ((with_reducible refine gt_cond T true ?_ ?_); (focus (exact rfl)); simp only [if_true, if_false, Bool.false_eq_true, ↓reduceIte, Bool.true_eq_false]))
    refine gt_val T (.bool true) rfl rfl hk (fun w₂ r₂ => ?_) ?_
    · refine ⟨run_of fun K hK => ?_, ?_⟩
      · go_simp; exact hK
      · rw [listed_nil (by simp [go_sem, *])]; exact T.idle _
    walk_nrm
    repeat (first
      | (with_reducible refine gt_seq T ?_)
      | (with_reducible refine gt_end T ?_)
      | ((with_reducible refine gt_reg T ?_); simp only [List.size_toArray, List.length_cons, List.length_nil, Nat.reduceAdd, Nat.zero_add, List.range, List.range.loop])
      | (with_reducible refine gt_skip T ?_)
      | ((with_reducible refine gt_cond T false ?_ ?_); (focus (exact rfl)); simp only [if_true, if_false, Bool.false_eq_true, ↓reduceIte, Bool.true_eq_false])
      | ((with_reducible refine gt_cond T true ?_ ?_); (focus (exact rfl)); simp only [if_true, if_false, Bool.false_eq_true, ↓reduceIte, Bool.true_eq_false]))
    refine gt_ret T ?_
    refine Goes.stop fun w₁ r₁ => ?_
    obtain ⟨d₁, rfl⟩ := r₁
    exact ok_done Try.func4 rfl (by kernel_rfl) (bt_final hS0 (S.atD d₁) B ⟨st.size, st.pend, st.map, st.back⟩ hFF) rfl
  have dr : decide (r < 0) = false := decide_eq_false (by omega)
  refine gt_val T (.bool false) rfl rfl hk (fun w₂ r₂ => ?_) ?_
  · refine ⟨run_of fun K hK => ?_, ?_⟩
    · go_simp; exact hK
    · rw [listed_nil (by simp [go_sem, *])]; exact T.idle _
  walk_nrm
  repeat (first
    | (with_reducible refine gt_seq T ?_)
    | (with_reducible refine gt_end T ?_)
    | ((with_reducible refine gt_reg T ?_); simp only [List.size_toArray, List.length_cons, List.length_nil, Nat.reduceAdd, Nat.zero_add, List.range, List.range.loop])
    | (with_reducible refine gt_skip T ?_)
    | ((with_reducible refine gt_cond T false ?_ ?_); (focus (exact rfl)); simp only [if_true, if_false, Bool.false_eq_true, ↓reduceIte, Bool.true_eq_false])
    | ((with_reducible refine gt_cond T true ?_ ?_); (focus (exact rfl)); simp only [if_true, if_false, Bool.false_eq_true, ↓reduceIte, Bool.true_eq_false]))
  refine gt_val T (.slice ka nk ck) rfl rfl hk (fun w₂ r₂ => ?_) ?_
  · refine ⟨run_of fun K hK => ?_, ?_⟩
    · go_simp; exact hK
    · rw [listed_nil (by simp [go_sem, *])]; exact T.idle _
  walk_nrm
  refine gt_val T (.int .i64 r) rfl rfl hk (fun w₂ r₂ => ?_) ?_
  · refine ⟨run_of fun K hK => ?_, ?_⟩
    · go_simp; exact hK
    · rw [listed_nil (by simp [go_sem, *])]; exact T.idle _
  walk_nrm
  obtain ⟨q, HQ, hqq⟩ := szC_case ka nk ck r hmk hr1 hr2
  refine Goes.stop fun w₁ r₁ => ?_
  obtain ⟨d₁, rfl⟩ := r₁
  refine ok_call (K := kitC) bodiesC (R := fun v w' => v = .int .i64 q ∧ BT vc w') (fun v w τ d h => ⟨h.1, h.2.tape _ _⟩) rfl rfl hk rfl Try.func17 rfl rfl rfl (by kernel_rfl) (by simp [Act.eval]; rfl) S.noPend (S.atD d₁) (fun τ d => ?_) (fun v' vc Wc hR S' hz' st' => ?_)
  · exact (HQ (onT vc τ d)).mono fun e w' h => ⟨_, h.1, rfl, by obtain rfl := h.2; exact ⟨rfl, rfl, Nat.le_refl _, fun _ _ => rfl⟩⟩
  obtain ⟨rfl, hb⟩ := hR
  replace S := S'
  replace st := st.trans st'.atD
  replace hFl := fun b (hb : _) => Nat.lt_of_lt_of_le (hFl b hb) hz'
  replace B := B.trans hb
  replace hsz := Nat.le_trans hsz hb.size
  clear hb
  clear S' st' hz'
  refine ok_goes (Stop := Ok Try.prog _ _ (PostL W)) (fun _ _ h => h) (n := 60) ?_
  walk_nrm
  refine gt_val T (.int .i64 q) rfl rfl hk (fun w₂ r₂ => ?_) ?_
  · refine ⟨run_of fun K hK => ?_, ?_⟩
    · go_simp; exact hK
    · rw [listed_nil (by simp [go_sem, *])]; exact T.idle _
  walk_nrm
  repeat (first
    | (with_reducible refine gt_seq T ?_)
    | (with_reducible refine gt_end T ?_)
    | ((with_reducible refine gt_reg T ?_); simp only [List.size_toArray, List.length_cons, List.length_nil, Nat.reduceAdd, Nat.zero_add, List.range, List.range.loop])
    | (with_reducible refine gt_skip T ?_)
    | ((with_reducible refine gt_cond T false ?_ ?_); (focus (exact rfl)); simp only [if_true, if_false, Bool.false_eq_true, ↓reduceIte, Bool.true_eq_false])
    | ((with_reducible refine gt_cond T true ?_ ?_); (focus (exact rfl)); simp only [if_true, if_false, Bool.false_eq_true, ↓reduceIte, Bool.true_eq_false]))
  refine gt_val T (.int .i64 q) rfl rfl hk (fun w₂ r₂ => ?_) ?_
  · refine ⟨run_of fun K hK => ?_, ?_⟩
    · go_simp; exact hK
    · rw [listed_nil (by simp [go_sem, *])]; exact T.idle _
  walk_nrm
  rcases hqq with rfl | ⟨hq1, hnk2⟩
  · have t : decide ((-1 : Int) < 0) = true := by decide
    refine gt_val T (.bool true) rfl rfl hk (fun w₂ r₂ => ?_) ?_
    · refine ⟨run_of fun K hK => ?_, ?_⟩
      · go_simp; exact hK
      · rw [listed_nil (by simp [go_sem, *])]; exact T.idle _
    walk_nrm
    repeat (first
      | (with_reducible refine gt_seq T ?_)
      | (with_reducible refine gt_end T ?_)
      | ((with_reducible refine gt_reg T ?_); simp only [List.size_toArray, List.length_cons, List.length_nil, Nat.reduceAdd, Nat.zero_add, List.range, List.range.loop])
      | (with_reducible refine gt_skip T ?_)
      | ((with_reducible refine gt_cond T false ?_ ?_); (focus (exact rfl)); simp only [if_true, if_false, Bool.false_eq_true, ↓reduceIte, Bool.true_eq_false])
      | ((with_reducible refine gt_cond T true ?_ ?_); (focus (exact rfl)); simp only [if_true, if_false, Bool.false_eq_true, ↓reduceIte, Bool.true_eq_false]))
    refine gt_val T (.bool true) rfl rfl hk (fun w₂ r₂ => ?_) ?_
    · refine ⟨run_of fun K hK => ?_, ?_⟩
      · go_simp; exact hK
      · rw [listed_nil (by simp [go_sem, *])]; exact T.idle _
    walk_nrm
    repeat (first
      | (with_reducible refine gt_seq T ?_)
      | (with_reducible refine gt_end T ?_)
      | ((with_reducible refine gt_reg T ?_); simp only [List.size_toArray, List.length_cons, List.length_nil, Nat.reduceAdd, Nat.zero_add, List.range, List.range.loop])
      | (with_reducible refine gt_skip T ?_)
      | ((with_reducible refine gt_cond T false ?_ ?_); (focus (exact rfl)); simp only [if_true, if_false, Bool.false_eq_true, ↓reduceIte, Bool.true_eq_false])
      | ((with_reducible refine gt_cond T true ?_ ?_); (focus (exact rfl)); simp only [if_true, if_false, Bool.false_eq_true, ↓reduceIte, Bool.true_eq_false]))
    refine gt_ret T ?_
    refine Goes.stop fun w₁ r₁ => ?_
    obtain ⟨d₁, rfl⟩ := r₁
    exact ok_done Try.func4 rfl (by kernel_rfl) (bt_final hS0 (S.atD d₁) B ⟨st.size, st.pend, st.map, st.back⟩ hFF) rfl
  have dq : decide (q < 0) = false := decide_eq_false (by omega)
  refine gt_val T (.bool false) rfl rfl hk (fun w₂ r₂ => ?_) ?_
  · refine ⟨run_of fun K hK => ?_, ?_⟩
    · go_simp; exact hK
    · rw [listed_nil (by simp [go_sem, *])]; exact T.idle _
  walk_nrm
  have hsn := szH_nonneg zs
  have hs : ∀ x ∈ zs, x.zs.length ≤ 1048576 := fun x hx => by have := szH_mem hx; omega
  have hL16 : L ≤ 1048576 := by rw [← hIL.out, ← hIB.out]; exact badR_len hnk2 hkl.out
  repeat (first
    | (with_reducible refine gt_seq T ?_)
    | (with_reducible refine gt_end T ?_)
    | ((with_reducible refine gt_reg T ?_); simp only [List.size_toArray, List.length_cons, List.length_nil, Nat.reduceAdd, Nat.zero_add, List.range, List.range.loop])
    | (with_reducible refine gt_skip T ?_)
    | ((with_reducible refine gt_cond T false ?_ ?_); (focus (exact rfl)); simp only [if_true, if_false, Bool.false_eq_true, ↓reduceIte, Bool.true_eq_false])
    | ((with_reducible refine gt_cond T true ?_ ?_); (focus (exact rfl)); simp only [if_true, if_false, Bool.false_eq_true, ↓reduceIte, Bool.true_eq_false]))
  refine gt_val T (.slice a n c) rfl rfl hk (fun w₂ r₂ => ?_) ?_
  · refine ⟨run_of fun K hK => ?_, ?_⟩
    · go_simp; exact hK
    · rw [listed_nil (by simp [go_sem, *])]; exact T.idle _
  walk_nrm
  refine Goes.stop fun w₁ r₁ => ?_
  obtain ⟨d₁, rfl⟩ := r₁
  refine ok_call (K := kitC) bodiesC (R := fun v w' => ∃ (ys : List HV) (a' : Option Addr) (c' : Nat), v = .slice a' n c' ∧ ys.length = n ∧ valsH ys = valsH zs ∧ OwnH w' vc.heap.size a' c' ys ∧ BT vc w') (fun v w τ d ⟨ys, a, c, h1, h2, h3, h4, h5⟩ => ⟨ys, a, c, h1, h2, h3, h4.onT _ _, h5.tape _ _⟩) rfl rfl hk rfl Try.func10 rfl rfl rfl (by kernel_rfl) (by simp [Act.eval]; rfl) S.noPend (S.atD d₁) (fun τ d => ?_) (fun v' vc Wc hR S' hz' st' => ?_)
  · exact (toHeldS_any a n c zs (onT vc τ d) (hr0.bt (B.tape _ _)) (hin0.bt (B.tape _ _)) hwf hn2 hs).mono fun e w' ⟨ys, a', c', h1, h2, h3, h4, h5⟩ => ⟨_, h1, ys, a', c', by rw [hl.out], h2.trans hl.out, h3, h4, (BT.of h5).untape⟩
  obtain ⟨y2, a2, c2, rfl, y2l, y2v, o2, hb⟩ := hR
  replace S := S'
  replace st := st.trans st'.atD
  replace hFl := fun b (hb : _) => Nat.lt_of_lt_of_le (hFl b hb) hz'
  replace B := B.trans hb
  replace hsz := Nat.le_trans hsz hb.size
  clear hb
  clear S' st' hz'
  refine ok_goes (Stop := Ok Try.prog _ _ (PostL W)) (fun _ _ h => h) (n := 60) ?_
  walk_nrm
  refine gt_val T (.slice ka nk ck) rfl rfl hk (fun w₂ r₂ => ?_) ?_
  · refine ⟨run_of fun K hK => ?_, ?_⟩
    · go_simp; exact hK
    · rw [listed_nil (by simp [go_sem, *])]; exact T.idle _
  walk_nrm
  refine Goes.stop fun w₁ r₁ => ?_
  obtain ⟨d₁, rfl⟩ := r₁
  refine ok_call (K := kitC) bodiesC (R := fun v w' => ∃ (a' : Option Addr) (c' : Nat), v = .slice a' nk c' ∧ OwnX w' vc.heap.size a' c' cs ∧ BT vc w') (fun v w τ d ⟨a, c, h1, h2, h3⟩ => ⟨a, c, h1, h2, h3.tape _ _⟩) rfl rfl hk rfl Try.func19 rfl rfl rfl (by kernel_rfl) (by simp [Act.eval]; rfl) S.noPend (S.atD d₁) (fun τ d => ?_) (fun v' vc Wc hR S' hz' st' => ?_)
  · exact (toCheckS_any ka nk ck cs (onT vc τ d) (hk0.bt (B.tape _ _)) hwc hnk2).mono fun e w' ⟨a', c', h1, h2, h3⟩ => ⟨_, h1, a', c', by rw [hkl.out], h2, (BT.of h3).untape⟩
  obtain ⟨b2, d2, rfl, p2, hb⟩ := hR
  replace S := S'
  replace st := st.trans st'.atD
  replace hFl := fun b (hb : _) => Nat.lt_of_lt_of_le (hFl b hb) hz'
  replace B := B.trans hb
  replace hsz := Nat.le_trans hsz hb.size
  replace o2 := o2.bt hb
  clear hb
  clear S' st' hz'
  refine ok_goes (Stop := Ok Try.prog _ _ (PostL W)) (fun _ _ h => h) (n := 60) ?_
  walk_nrm
  refine Goes.stop fun w₁ r₁ => ?_
  obtain ⟨d₁, rfl⟩ := r₁
  refine ok_call (K := kitC) bodiesC (R := fun v w' => ∃ (a' : Option Addr) (c' : Nat), v = .slice a' L c' ∧ OwnI w' vc.heap.size a' c' IB ∧ BT vc w') (fun v w τ d ⟨a, c, h1, h2, h3⟩ => ⟨a, c, h1, h2, h3.tape _ _⟩) rfl rfl hk rfl Try.func18 rfl rfl rfl (by kernel_rfl) (by simp [Act.eval]; rfl) S.noPend (S.atD d₁) (fun τ d => ?_) (fun v' vc Wc hR S' hz' st' => ?_)
  · exact (by have h := specChecksBad_any a2 b2 n c2 nk d2 y2 cs (onT vc τ d) (by have h := o2.row.rd; rw [y2l] at h; exact h) (fun x hx => (o2.ins x hx).rd) (fun x hx => by have := vals_le y2v hs x hx; omega) (by omega) (by have h := p2.rd; rw [hkl.out] at h; exact h) hwc (by omega); rw [show badR (valsH y2) cs = IB by rw [y2v]; exact hIB.out] at h; exact h : Calls Try.prog _ _ _ (RetIs (onT vc τ d) IB)).mono fun e w' ⟨a', c', h1, h2, h3⟩ => ⟨_, h1, a', c', by rw [hIL.out], h2, (BT.of h3).untape⟩
  obtain ⟨aW, cW, rfl, hW, hb⟩ := hR
  replace S := S'
  replace st := st.trans st'.atD
  replace hFl := fun b (hb : _) => Nat.lt_of_lt_of_le (hFl b hb) hz'
  replace B := B.trans hb
  replace hsz := Nat.le_trans hsz hb.size
  replace o2 := o2.bt hb
  replace p2 := p2.bt hb
  clear hb
  clear S' st' hz'
  refine ok_goes (Stop := Ok Try.prog _ _ (PostL W)) (fun _ _ h => h) (n := 60) ?_
  walk_nrm
  clear o2 p2 y2l y2v
  obtain ⟨sW, hsW⟩ : ∃ s, vc.heap.size = s := ⟨_, rfl⟩
  have hWlt : ∀ k, (Value.slice aW IB.length cW).ownBlock = some k → k < sW := fun k hk => by have := (hW.2.lt k hk).2; omega
  have hs0 : vv.heap.size ≤ sW := by have := B.size; omega
  refine gt_val T (.slice aW L cW) rfl rfl hk (fun w₂ r₂ => ?_) ?_
  · refine ⟨run_of fun K hK => ?_, ?_⟩
    · go_simp; exact hK
    · rw [listed_nil (by simp [go_sem, *])]; exact T.idle _
  walk_nrm
  repeat (first
    | (with_reducible refine gt_seq T ?_)
    | (with_reducible refine gt_end T ?_)
    | ((with_reducible refine gt_reg T ?_); simp only [List.size_toArray, List.length_cons, List.length_nil, Nat.reduceAdd, Nat.zero_add, List.range, List.range.loop])
    | (with_reducible refine gt_skip T ?_)
    | ((with_reducible refine gt_cond T false ?_ ?_); (focus (exact rfl)); simp only [if_true, if_false, Bool.false_eq_true, ↓reduceIte, Bool.true_eq_false])
    | ((with_reducible refine gt_cond T true ?_ ?_); (focus (exact rfl)); simp only [if_true, if_false, Bool.false_eq_true, ↓reduceIte, Bool.true_eq_false]))
  refine gt_val T (.slice a n c) rfl rfl hk (fun w₂ r₂ => ?_) ?_
  · refine ⟨run_of fun K hK => ?_, ?_⟩
    · go_simp; exact hK
    · rw [listed_nil (by simp [go_sem, *])]; exact T.idle _
  walk_nrm
  replace hsz : sW ≤ vc.heap.size := by omega
  have hsv : vc.heap.size = sW := hsW
  refine Goes.stop fun w₁ r₁ => ?_
  obtain ⟨d₁, rfl⟩ := r₁
  refine ok_call (K := kitC) bodiesC (R := fun v w' => ∃ (ys : List HV) (a' : Option Addr) (c' : Nat), v = .slice a' n c' ∧ ys.length = n ∧ valsH ys = valsH zs ∧ OwnH w' vc.heap.size a' c' ys ∧ BT vc w') (fun v w τ d ⟨ys, a, c, h1, h2, h3, h4, h5⟩ => ⟨ys, a, c, h1, h2, h3, h4.onT _ _, h5.tape _ _⟩) rfl rfl hk rfl Try.func10 rfl rfl rfl (by kernel_rfl) (by simp [Act.eval]; rfl) S.noPend (S.atD d₁) (fun τ d => ?_) (fun v' vc Wc hR S' hz' st' => ?_)
  · exact (toHeldS_any a n c zs (onT vc τ d) (hr0.bt (B.tape _ _)) (hin0.bt (B.tape _ _)) hwf hn2 hs).mono fun e w' ⟨ys, a', c', h1, h2, h3, h4, h5⟩ => ⟨_, h1, ys, a', c', by rw [hl.out], h2.trans hl.out, h3, h4, (BT.of h5).untape⟩
  obtain ⟨y4, a4, c4, rfl, y4l, y4v, o4, hb⟩ := hR
  replace S := S'
  replace st := st.trans st'.atD
  replace hFl := fun b (hb : _) => Nat.lt_of_lt_of_le (hFl b hb) hz'
  rw [hsv] at o4
  clear hsv hsW
  replace B := B.trans hb
  replace hsz := Nat.le_trans hsz hb.size
  replace hW := hW.bt hb
  clear hb
  clear S' st' hz'
  refine ok_goes (Stop := Ok Try.prog _ _ (PostL W)) (fun _ _ h => h) (n := 60) ?_
  walk_nrm
  obtain ⟨sH, hsH⟩ : ∃ s, vc.heap.size = s := ⟨_, rfl⟩
  have hXlt : ∀ k, (Value.slice a4 n c4).ownBlock = some k → k < sH := fun k hk => by have := (World.ownsRow.lt o4.row k (by rw [y4l]; exact hk)).2; omega
  have hXin : ∀ x ∈ y4, ∀ k, (Value.slice x.ad x.zs.length x.cp).ownBlock = some k → k < sH := fun x hx k hk => by have := (World.ownsRow.lt (o4.ins x hx).2 k hk).2; omega
  have hWH : sW ≤ sH := by omega
  replace hsz : sH ≤ vc.heap.size := by omega
  refine gt_val T (.slice a4 n c4) rfl rfl hk (fun w₂ r₂ => ?_) ?_
  · refine ⟨run_of fun K hK => ?_, ?_⟩
    · go_simp; exact hK
    · rw [listed_nil (by simp [go_sem, *])]; exact T.idle _
  walk_nrm
  repeat (first
    | (with_reducible refine gt_seq T ?_)
    | (with_reducible refine gt_end T ?_)
    | ((with_reducible refine gt_reg T ?_); simp only [List.size_toArray, List.length_cons, List.length_nil, Nat.reduceAdd, Nat.zero_add, List.range, List.range.loop])
    | (with_reducible refine gt_skip T ?_)
    | ((with_reducible refine gt_cond T false ?_ ?_); (focus (exact rfl)); simp only [if_true, if_false, Bool.false_eq_true, ↓reduceIte, Bool.true_eq_false])
    | ((with_reducible refine gt_cond T true ?_ ?_); (focus (exact rfl)); simp only [if_true, if_false, Bool.false_eq_true, ↓reduceIte, Bool.true_eq_false]))
  refine gt_val T (.slice ka nk ck) rfl rfl hk (fun w₂ r₂ => ?_) ?_
  · refine ⟨run_of fun K hK => ?_, ?_⟩
    · go_simp; exact hK
    · rw [listed_nil (by simp [go_sem, *])]; exact T.idle _
  walk_nrm
  have hsv : vc.heap.size = sH := hsH
  refine Goes.stop fun w₁ r₁ => ?_
  obtain ⟨d₁, rfl⟩ := r₁
  refine ok_call (K := kitC) bodiesC (R := fun v w' => ∃ (a' : Option Addr) (c' : Nat), v = .slice a' nk c' ∧ OwnX w' vc.heap.size a' c' cs ∧ BT vc w') (fun v w τ d ⟨a, c, h1, h2, h3⟩ => ⟨a, c, h1, h2, h3.tape _ _⟩) rfl rfl hk rfl Try.func19 rfl rfl rfl (by kernel_rfl) (by simp [Act.eval]; rfl) S.noPend (S.atD d₁) (fun τ d => ?_) (fun v' vc Wc hR S' hz' st' => ?_)
  · exact (toCheckS_any ka nk ck cs (onT vc τ d) (hk0.bt (B.tape _ _)) hwc hnk2).mono fun e w' ⟨a', c', h1, h2, h3⟩ => ⟨_, h1, a', c', by rw [hkl.out], h2, (BT.of h3).untape⟩
  obtain ⟨a5, c5, rfl, o5, hb⟩ := hR
  replace S := S'
  replace st := st.trans st'.atD
  replace hFl := fun b (hb : _) => Nat.lt_of_lt_of_le (hFl b hb) hz'
  rw [hsv] at o5
  clear hsv hsH
  replace B := B.trans hb
  replace hsz := Nat.le_trans hsz hb.size
  replace hW := hW.bt hb
  replace o4 := o4.bt hb
  clear hb
  clear S' st' hz'
  refine ok_goes (Stop := Ok Try.prog _ _ (PostL W)) (fun _ _ h => h) (n := 60) ?_
  walk_nrm
  obtain ⟨sC, hsC⟩ : ∃ s, vc.heap.size = s := ⟨_, rfl⟩
  have hClt : ∀ k, (Value.slice a5 cs.length c5).ownBlock = some k → k < sC := fun k hk => by have := (o5.2.lt k hk).2; omega
  have hCge : ∀ k, (Value.slice a5 cs.length c5).ownBlock = some k → sH ≤ k := fun k hk => (o5.2.lt k hk).1
  have hHC : sH ≤ sC := by omega
  replace hsz : sC ≤ vc.heap.size := by omega
  refine gt_val T (.slice a5 nk c5) rfl rfl hk (fun w₂ r₂ => ?_) ?_
  · refine ⟨run_of fun K hK => ?_, ?_⟩
    · go_simp; exact hK
    · rw [listed_nil (by simp [go_sem, *])]; exact T.idle _
  walk_nrm
  repeat (first
    | (with_reducible refine gt_seq T ?_)
    | (with_reducible refine gt_end T ?_)
    | ((with_reducible refine gt_reg T ?_); simp only [List.size_toArray, List.length_cons, List.length_nil, Nat.reduceAdd, Nat.zero_add, List.range, List.range.loop])
    | (with_reducible refine gt_skip T ?_)
    | ((with_reducible refine gt_cond T false ?_ ?_); (focus (exact rfl)); simp only [if_true, if_false, Bool.false_eq_true, ↓reduceIte, Bool.true_eq_false])
    | ((with_reducible refine gt_cond T true ?_ ?_); (focus (exact rfl)); simp only [if_true, if_false, Bool.false_eq_true, ↓reduceIte, Bool.true_eq_false]))
  refine gt_val T (.slice a4 n c4) rfl rfl hk (fun w₂ r₂ => ?_) ?_
  · refine ⟨run_of fun K hK => ?_, ?_⟩
    · go_simp; exact hK
    · rw [listed_nil (by simp [go_sem, *])]; exact T.idle _
  walk_nrm
  refine gt_val T (.slice a5 nk c5) rfl rfl hk (fun w₂ r₂ => ?_) ?_
  · refine ⟨run_of fun K hK => ?_, ?_⟩
    · go_simp; exact hK
    · rw [listed_nil (by simp [go_sem, *])]; exact T.idle _
  walk_nrm
  have hsv : vc.heap.size = sC := hsC
  refine Goes.stop fun w₁ r₁ => ?_
  obtain ⟨d₁, rfl⟩ := r₁
  have hcp := o4.row.cap
  rw [y4l] at hcp
  unfold maxLen at hcp
  refine ok_checksBad (w0 := vc) (la := a4) (ka := a5) (nl := n) (lc := c4) (n := nk) (cc := c5) (xs := y4) (chks := cs) rfl rfl hk rfl (by simp [Act.eval]) hp (by omega) (S.atD d₁) hFl (by have h := o4.row.rd; rw [y4l] at h; exact h) (fun x hx => (o4.ins x hx).rd) (fun x hx => by have := vals_le y4v hs x hx; omega) hcp.1 (by omega) (by have h := o5.rd; rw [hkl.out] at h; exact h) hwc (by omega) ?_
  intro F' p' vc Wc aG cG Sd hFd hbd hG hpd hpd2 hFFd std
  rw [show badR (valsH y4) cs = IB by rw [y4v]; exact hIB.out] at hG ⊢
  rw [hIL.out]
  have hb := BT.of hbd
  replace hFF := fun b (hb : b < W.heap.size) (h : F' b) => hFF b hb ((hFFd b (Nat.lt_of_lt_of_le hb st.size)).1 h)
  replace S := Sd
  replace hFl := hFd
  replace st := st.trans std.atD
  have hp2 : 0 < p' := by omega
  replace B := B.trans hb
  replace hsz := Nat.le_trans hsz hb.size
  replace hW := hW.bt hb
  replace o4 := o4.bt hb
  replace o5 := o5.bt hb
  clear hb
  clear hp hcp Sd hFd std hFFd hbd
  have TW : Terms AtRel (DB F') := termsB
  refine ok_goes (Stop := Ok Try.prog _ _ (PostL W)) (fun _ _ h => h) (n := 60) ?_
  walk_nrm
  rw [hsv] at hG
  clear hsv hsC
  have hGge : ∀ k, (Value.slice aG IB.length cG).ownBlock = some k → sC ≤ k := fun k hk => (hG.2.lt k hk).1
  refine gt_val TW (.slice aG L cG) rfl rfl hk (fun w₂ r₂ => ?_) ?_
  · refine ⟨run_of fun K hK => ?_, ?_⟩
    · go_simp; exact hK
    · rw [listed_nil (by simp [go_sem, *])]; exact TW.idle _
  walk_nrm
  repeat (first
    | (with_reducible refine gt_seq TW ?_)
    | (with_reducible refine gt_end TW ?_)
    | ((with_reducible refine gt_reg TW ?_); simp only [List.size_toArray, List.length_cons, List.length_nil, Nat.reduceAdd, Nat.zero_add, List.range, List.range.loop])
    | (with_reducible refine gt_skip TW ?_)
    | ((with_reducible refine gt_cond TW false ?_ ?_); (focus (exact rfl)); simp only [if_true, if_false, Bool.false_eq_true, ↓reduceIte, Bool.true_eq_false])
    | ((with_reducible refine gt_cond TW true ?_ ?_); (focus (exact rfl)); simp only [if_true, if_false, Bool.false_eq_true, ↓reduceIte, Bool.true_eq_false]))
  refine gt_val TW (.slice aG L cG) rfl rfl hk (fun w₂ r₂ => ?_) ?_
  · refine ⟨run_of fun K hK => ?_, ?_⟩
    · go_simp; exact hK
    · rw [listed_nil (by simp [go_sem, *])]; exact TW.idle _
  walk_nrm
  refine gt_val TW (.slice aW L cW) rfl rfl hk (fun w₂ r₂ => ?_) ?_
  · refine ⟨run_of fun K hK => ?_, ?_⟩
    · go_simp; exact hK
    · rw [listed_nil (by simp [go_sem, *])]; exact TW.idle _
  walk_nrm
  refine Goes.stop fun w₁ r₁ => ?_
  obtain ⟨d₁, rfl⟩ := r₁
  refine ok_call (K := kitC) bodiesC (R := fun v w' => v = .bool true ∧ BT vc w') (fun v w τ d h => ⟨h.1, h.2.tape _ _⟩) rfl rfl hk rfl Try.func21 rfl rfl rfl (by kernel_rfl) (by simp [Act.eval]; rfl) S.noPend (S.atD d₁) (fun τ d => ?_) (fun v' vc Wc hR S' hz' st' => ?_)
  · exact ((by have h := eqIntS_any aG aW L L cG cW IB IB (onT vc τ d) (by have h := hG.rd; rw [hIL.out] at h; exact h) (by have h := hW.rd; rw [hIL.out] at h; exact h) (by omega) (by omega); rwa [show eqI IB IB = true by simp [eqI]] at h : Calls Try.prog _ _ _ (RetQ _ _))).mono fun e w' h => ⟨_, h.1, rfl, by obtain ⟨m, hm⟩ := h.2; subst hm; exact ⟨rfl, rfl, Nat.le_refl _, fun _ _ => rfl⟩⟩
  obtain ⟨rfl, hb⟩ := hR
  replace S := S'
  replace st := st.trans st'.atD
  replace hFl := fun b (hb : _) => Nat.lt_of_lt_of_le (hFl b hb) hz'
  replace B := B.trans hb
  replace hsz := Nat.le_trans hsz hb.size
  replace hW := hW.bt hb
  replace o4 := o4.bt hb
  replace o5 := o5.bt hb
  replace hG := hG.bt hb
  clear hb
  clear S' st' hz'
  refine ok_goes (Stop := Ok Try.prog _ _ (PostL W)) (fun _ _ h => h) (n := 60) ?_
  walk_nrm
  refine gt_val TW (.bool false) rfl rfl hk (fun w₂ r₂ => ?_) ?_
  · refine ⟨run_of fun K hK => ?_, ?_⟩
    · go_simp; exact hK
    · rw [listed_nil (by simp [go_sem, *])]; exact TW.idle _
  walk_nrm
  repeat (first
    | (with_reducible refine gt_seq TW ?_)
    | (with_reducible refine gt_end TW ?_)
    | ((with_reducible refine gt_reg TW ?_); simp only [List.size_toArray, List.length_cons, List.length_nil, Nat.reduceAdd, Nat.zero_add, List.range, List.range.loop])
    | (with_reducible refine gt_skip TW ?_)
    | ((with_reducible refine gt_cond TW false ?_ ?_); (focus (exact rfl)); simp only [if_true, if_false, Bool.false_eq_true, ↓reduceIte, Bool.true_eq_false])
    | ((with_reducible refine gt_cond TW true ?_ ?_); (focus (exact rfl)); simp only [if_true, if_false, Bool.false_eq_true, ↓reduceIte, Bool.true_eq_false]))
  refine gt_val TW (.slice a4 n c4) rfl rfl hk (fun w₂ r₂ => ?_) ?_
  · refine ⟨run_of fun K hK => ?_, ?_⟩
    · go_simp; exact hK
    · rw [listed_nil (by simp [go_sem, *])]; exact TW.idle _
  walk_nrm
  refine gt_val TW (.slice a n c) rfl rfl hk (fun w₂ r₂ => ?_) ?_
  · refine ⟨run_of fun K hK => ?_, ?_⟩
    · go_simp; exact hK
    · rw [listed_nil (by simp [go_sem, *])]; exact TW.idle _
  walk_nrm
  refine Goes.stop fun w₁ r₁ => ?_
  obtain ⟨d₁, rfl⟩ := r₁
  refine ok_call (K := kitC) bodiesC (R := fun v w' => ∃ (ys : List HV) (a' : Option Addr) (c' : Nat), v = .slice a' n c' ∧ ys.length = n ∧ valsH ys = valsH zs ∧ OwnH w' vc.heap.size a' c' ys ∧ BT vc w') (fun v w τ d ⟨ys, a, c, h1, h2, h3, h4, h5⟩ => ⟨ys, a, c, h1, h2, h3, h4.onT _ _, h5.tape _ _⟩) rfl rfl hk rfl Try.func10 rfl rfl rfl (by kernel_rfl) (by simp [Act.eval]; rfl) S.noPend (S.atD d₁) (fun τ d => ?_) (fun v' vc Wc hR S' hz' st' => ?_)
  · exact (toHeldS_any a n c zs (onT vc τ d) (hr0.bt (B.tape _ _)) (hin0.bt (B.tape _ _)) hwf hn2 hs).mono fun e w' ⟨ys, a', c', h1, h2, h3, h4, h5⟩ => ⟨_, h1, ys, a', c', by rw [hl.out], h2.trans hl.out, h3, h4, (BT.of h5).untape⟩
  obtain ⟨y7, a7, c7, rfl, y7l, y7v, o7, hb⟩ := hR
  replace S := S'
  replace st := st.trans st'.atD
  replace hFl := fun b (hb : _) => Nat.lt_of_lt_of_le (hFl b hb) hz'
  replace B := B.trans hb
  replace hsz := Nat.le_trans hsz hb.size
  replace hW := hW.bt hb
  replace o4 := o4.bt hb
  replace o5 := o5.bt hb
  replace hG := hG.bt hb
  clear hb
  clear S' st' hz'
  refine ok_goes (Stop := Ok Try.prog _ _ (PostL W)) (fun _ _ h => h) (n := 60) ?_
  walk_nrm
  refine Goes.stop fun w₁ r₁ => ?_
  obtain ⟨d₁, rfl⟩ := r₁
  refine ok_call (K := kitC) bodiesC (R := fun v w' => v = .bool true ∧ BT vc w') (fun v w τ d h => ⟨h.1, h.2.tape _ _⟩) rfl rfl hk rfl Try.func13 rfl rfl rfl (by kernel_rfl) (by simp [Act.eval]; rfl) S.noPend (S.atD d₁) (fun τ d => ?_) (fun v' vc Wc hR S' hz' st' => ?_)
  · exact (eqHeldS_self a4 a7 n c4 c7 y4 y7 (by rw [y4v, y7v]) (onT vc τ d) (by have h := o4.row.rd; rw [y4l] at h; exact h) (by have h := o7.row.rd; rw [y7l] at h; exact h) (fun x hx => (o4.ins x hx).rd) (fun x hx => (o7.ins x hx).rd) (by omega) (fun x hx => by have := vals_le y4v hs x hx; omega)).mono fun e w' h => ⟨_, h.1, rfl, (BT.of h.2).untape⟩
  obtain ⟨rfl, hb⟩ := hR
  replace S := S'
  replace st := st.trans st'.atD
  replace hFl := fun b (hb : _) => Nat.lt_of_lt_of_le (hFl b hb) hz'
  replace B := B.trans hb
  replace hsz := Nat.le_trans hsz hb.size
  replace hW := hW.bt hb
  replace o4 := o4.bt hb
  replace o5 := o5.bt hb
  replace hG := hG.bt hb
  replace o7 := o7.bt hb
  clear hb
  clear S' st' hz'
  refine ok_goes (Stop := Ok Try.prog _ _ (PostL W)) (fun _ _ h => h) (n := 60) ?_
  walk_nrm
  clear o7 y7l y7v
  refine gt_val TW (.bool false) rfl rfl hk (fun w₂ r₂ => ?_) ?_
  · refine ⟨run_of fun K hK => ?_, ?_⟩
    · go_simp; exact hK
    · rw [listed_nil (by simp [go_sem, *])]; exact TW.idle _
  walk_nrm
  repeat (first
    | (with_reducible refine gt_seq TW ?_)
    | (with_reducible refine gt_end TW ?_)
    | ((with_reducible refine gt_reg TW ?_); simp only [List.size_toArray, List.length_cons, List.length_nil, Nat.reduceAdd, Nat.zero_add, List.range, List.range.loop])
    | (with_reducible refine gt_skip TW ?_)
    | ((with_reducible refine gt_cond TW false ?_ ?_); (focus (exact rfl)); simp only [if_true, if_false, Bool.false_eq_true, ↓reduceIte, Bool.true_eq_false])
    | ((with_reducible refine gt_cond TW true ?_ ?_); (focus (exact rfl)); simp only [if_true, if_false, Bool.false_eq_true, ↓reduceIte, Bool.true_eq_false]))
  refine gt_val TW (.slice a5 nk c5) rfl rfl hk (fun w₂ r₂ => ?_) ?_
  · refine ⟨run_of fun K hK => ?_, ?_⟩
    · go_simp; exact hK
    · rw [listed_nil (by simp [go_sem, *])]; exact TW.idle _
  walk_nrm
  refine gt_val TW (.slice ka nk ck) rfl rfl hk (fun w₂ r₂ => ?_) ?_
  · refine ⟨run_of fun K hK => ?_, ?_⟩
    · go_simp; exact hK
    · rw [listed_nil (by simp [go_sem, *])]; exact TW.idle _
  walk_nrm
  refine Goes.stop fun w₁ r₁ => ?_
  obtain ⟨d₁, rfl⟩ := r₁
  refine ok_call (K := kitC) bodiesC (R := fun v w' => ∃ (a' : Option Addr) (c' : Nat), v = .slice a' nk c' ∧ OwnX w' vc.heap.size a' c' cs ∧ BT vc w') (fun v w τ d ⟨a, c, h1, h2, h3⟩ => ⟨a, c, h1, h2, h3.tape _ _⟩) rfl rfl hk rfl Try.func19 rfl rfl rfl (by kernel_rfl) (by simp [Act.eval]; rfl) S.noPend (S.atD d₁) (fun τ d => ?_) (fun v' vc Wc hR S' hz' st' => ?_)
  · exact (toCheckS_any ka nk ck cs (onT vc τ d) (hk0.bt (B.tape _ _)) hwc hnk2).mono fun e w' ⟨a', c', h1, h2, h3⟩ => ⟨_, h1, a', c', by rw [hkl.out], h2, (BT.of h3).untape⟩
  obtain ⟨b7, d7, rfl, p7, hb⟩ := hR
  replace S := S'
  replace st := st.trans st'.atD
  replace hFl := fun b (hb : _) => Nat.lt_of_lt_of_le (hFl b hb) hz'
  replace B := B.trans hb
  replace hsz := Nat.le_trans hsz hb.size
  replace hW := hW.bt hb
  replace o4 := o4.bt hb
  replace o5 := o5.bt hb
  replace hG := hG.bt hb
  clear hb
  clear S' st' hz'
  refine ok_goes (Stop := Ok Try.prog _ _ (PostL W)) (fun _ _ h => h) (n := 60) ?_
  walk_nrm
  refine Goes.stop fun w₁ r₁ => ?_
  obtain ⟨d₁, rfl⟩ := r₁
  refine ok_call (K := kitC) bodiesC (R := fun v w' => v = .bool true ∧ BT vc w') (fun v w τ d h => ⟨h.1, h.2.tape _ _⟩) rfl rfl hk rfl Try.func12 rfl rfl rfl (by kernel_rfl) (by simp [Act.eval]; rfl) S.noPend (S.atD d₁) (fun τ d => ?_) (fun v' vc Wc hR S' hz' st' => ?_)
  · exact ((by have h := eqCheckS_any a5 b7 nk nk c5 d7 cs cs (onT vc τ d) (by have h := o5.rd; rw [hkl.out] at h; exact h) (by have h := p7.rd; rw [hkl.out] at h; exact h) hwc hwc (by omega) (by omega); rwa [show eqX cs cs = true by simp [eqX]] at h : Calls Try.prog _ _ _ (RetB _ _))).mono fun e w' h => ⟨_, h.1, rfl, (BT.of h.2).untape⟩
  obtain ⟨rfl, hb⟩ := hR
  replace S := S'
  replace st := st.trans st'.atD
  replace hFl := fun b (hb : _) => Nat.lt_of_lt_of_le (hFl b hb) hz'
  replace B := B.trans hb
  replace hsz := Nat.le_trans hsz hb.size
  replace hW := hW.bt hb
  replace o4 := o4.bt hb
  replace o5 := o5.bt hb
  replace hG := hG.bt hb
  replace p7 := p7.bt hb
  clear hb
  clear S' st' hz'
  refine ok_goes (Stop := Ok Try.prog _ _ (PostL W)) (fun _ _ h => h) (n := 60) ?_
  walk_nrm
  clear p7
  refine gt_val TW (.bool false) rfl rfl hk (fun w₂ r₂ => ?_) ?_
  · refine ⟨run_of fun K hK => ?_, ?_⟩
    · go_simp; exact hK
    · rw [listed_nil (by simp [go_sem, *])]; exact TW.idle _
  walk_nrm
  repeat (first
    | (with_reducible refine gt_seq TW ?_)
    | (with_reducible refine gt_end TW ?_)
    | ((with_reducible refine gt_reg TW ?_); simp only [List.size_toArray, List.length_cons, List.length_nil, Nat.reduceAdd, Nat.zero_add, List.range, List.range.loop])
    | (with_reducible refine gt_skip TW ?_)
    | ((with_reducible refine gt_cond TW false ?_ ?_); (focus (exact rfl)); simp only [if_true, if_false, Bool.false_eq_true, ↓reduceIte, Bool.true_eq_false])
    | ((with_reducible refine gt_cond TW true ?_ ?_); (focus (exact rfl)); simp only [if_true, if_false, Bool.false_eq_true, ↓reduceIte, Bool.true_eq_false]))
  refine gt_val TW (.int .i64 1) rfl rfl hk (fun w₂ r₂ => ?_) ?_
  · refine ⟨run_of fun K hK => ?_, ?_⟩
    · go_simp; exact hK
    · rw [listed_nil (by simp [go_sem, *])]; exact TW.idle _
  walk_nrm
  repeat (first
    | (with_reducible refine gt_seq TW ?_)
    | (with_reducible refine gt_end TW ?_)
    | ((with_reducible refine gt_reg TW ?_); simp only [List.size_toArray, List.length_cons, List.length_nil, Nat.reduceAdd, Nat.zero_add, List.range, List.range.loop])
    | (with_reducible refine gt_skip TW ?_)
    | ((with_reducible refine gt_cond TW false ?_ ?_); (focus (exact rfl)); simp only [if_true, if_false, Bool.false_eq_true, ↓reduceIte, Bool.true_eq_false])
    | ((with_reducible refine gt_cond TW true ?_ ?_); (focus (exact rfl)); simp only [if_true, if_false, Bool.false_eq_true, ↓reduceIte, Bool.true_eq_false]))
  refine gt_val TW (.slice a4 n c4) rfl rfl hk (fun w₂ r₂ => ?_) ?_
  · refine ⟨run_of fun K hK => ?_, ?_⟩
    · go_simp; exact hK
    · rw [listed_nil (by simp [go_sem, *])]; exact TW.idle _
  walk_nrm
  refine gt_val TW (.int .i64 1) rfl rfl hk (fun w₂ r₂ => ?_) ?_
  · refine ⟨run_of fun K hK => ?_, ?_⟩
    · go_simp; exact hK
    · rw [listed_nil (by simp [go_sem, *])]; exact TW.idle _
  walk_nrm
  refine Goes.stop fun w₁ r₁ => ?_
  obtain ⟨d₁, rfl⟩ := r₁
  refine ok_call (K := kitC) bodiesC (R := fun v w' => ∃ k1 : Int, v = .int .i64 k1 ∧ (0 ≤ k1 ∧ k1 ≤ 10000000) ∧ WT sW sH vc w') (fun v w τ d ⟨k1, h1, h2, h3⟩ => ⟨k1, h1, h2, h3.onT _ _⟩) rfl rfl hk rfl Try.func14 rfl rfl rfl (by kernel_rfl) (by simp [Act.eval]; rfl) S.noPend (S.atD d₁) (fun τ d => ?_) (fun v' vc Wc hR S' hz' st' => ?_)
  · exact (markHeldS_any sW sH a4 c4 n y4 1 (onT vc τ d) (o4.onT _ _) y4l hXlt hXin (by omega) (by omega) hn2 (by have := szH_same y4v; omega)).mono fun e w' ⟨k1, h1, h2, h3⟩ => ⟨_, h1, k1, rfl, h2, WT.of h3⟩
  obtain ⟨k1, rfl, hk1, hwt⟩ := hR
  replace S := S'
  replace st := st.trans st'.atD
  replace hFl := fun b (hb : _) => Nat.lt_of_lt_of_le (hFl b hb) hz'
  replace B := hwt.bt B hs0
  replace hsz : sC ≤ vc.heap.size := Nat.le_trans hsz hwt.size
  replace hW := hwt.ownI hW (fun k hk => .inl (hWlt k hk))
  replace hG := hwt.ownI hG (fun k hk => .inr (by have := hGge k hk; omega))
  replace o5 := hwt.ownX o5 (fun k hk => .inr (hCge k hk))
  clear hwt o4 hXlt hXin
  clear S' st' hz'
  refine ok_goes (Stop := Ok Try.prog _ _ (PostL W)) (fun _ _ h => h) (n := 60) ?_
  walk_nrm
  refine gt_val TW (.int .i64 k1) rfl rfl hk (fun w₂ r₂ => ?_) ?_
  · refine ⟨run_of fun K hK => ?_, ?_⟩
    · go_simp; exact hK
    · rw [listed_nil (by simp [go_sem, *])]; exact TW.idle _
  walk_nrm
  repeat (first
    | (with_reducible refine gt_seq TW ?_)
    | (with_reducible refine gt_end TW ?_)
    | ((with_reducible refine gt_reg TW ?_); simp only [List.size_toArray, List.length_cons, List.length_nil, Nat.reduceAdd, Nat.zero_add, List.range, List.range.loop])
    | (with_reducible refine gt_skip TW ?_)
    | ((with_reducible refine gt_cond TW false ?_ ?_); (focus (exact rfl)); simp only [if_true, if_false, Bool.false_eq_true, ↓reduceIte, Bool.true_eq_false])
    | ((with_reducible refine gt_cond TW true ?_ ?_); (focus (exact rfl)); simp only [if_true, if_false, Bool.false_eq_true, ↓reduceIte, Bool.true_eq_false]))
  refine gt_val TW (.slice a5 nk c5) rfl rfl hk (fun w₂ r₂ => ?_) ?_
  · refine ⟨run_of fun K hK => ?_, ?_⟩
    · go_simp; exact hK
    · rw [listed_nil (by simp [go_sem, *])]; exact TW.idle _
  walk_nrm
  refine gt_val TW (.int .i64 k1) rfl rfl hk (fun w₂ r₂ => ?_) ?_
  · refine ⟨run_of fun K hK => ?_, ?_⟩
    · go_simp; exact hK
    · rw [listed_nil (by simp [go_sem, *])]; exact TW.idle _
  walk_nrm
  refine Goes.stop fun w₁ r₁ => ?_
  obtain ⟨d₁, rfl⟩ := r₁
  refine ok_call (K := kitC) bodiesC (R := fun v w' => ∃ k2 : Int, v = .int .i64 k2 ∧ 0 ≤ k2 ∧ GT vc w' (Value.slice a5 cs.length c5).ownBlock) (fun v w τ d ⟨k2, h1, h2, h3⟩ => ⟨k2, h1, h2, h3.onT _ _⟩) rfl rfl hk rfl Try.func15 rfl rfl rfl (by kernel_rfl) (by simp [Act.eval]; rfl) S.noPend (S.atD d₁) (fun τ d => ?_) (fun v' vc Wc hR S' hz' st' => ?_)
  · exact (by have h := markCheckS_any sH a5 c5 cs k1 (onT vc τ d) o5 (by omega) (by omega) (by rw [hkl.out]; omega); rw [hkl.out] at h; exact h : Calls Try.prog _ _ _ (RetMarkX (onT vc τ d) sH a5 c5 nk k1)).mono fun e w' ⟨h1, h2, h3⟩ => ⟨_, h1, _, rfl, by omega, by rw [hkl.out]; exact GT.of h3⟩
  obtain ⟨k2, rfl, hk2, hgt⟩ := hR
  replace S := S'
  replace st := st.trans st'.atD
  replace hFl := fun b (hb : _) => Nat.lt_of_lt_of_le (hFl b hb) hz'
  replace B := hgt.bt B (fun k hk => by have := hCge k hk; omega)
  replace hsz : sC ≤ vc.heap.size := Nat.le_trans hsz hgt.size
  replace hW := hgt.ownI hW (fun k hk r hr => by have := hWlt k hk; have := hCge r hr; omega)
  replace hG := hgt.ownI hG (fun k hk r hr => by have := hGge k hk; have := hClt r hr; omega)
  clear hgt o5
  clear S' st' hz'
  refine ok_goes (Stop := Ok Try.prog _ _ (PostL W)) (fun _ _ h => h) (n := 60) ?_
  walk_nrm
  have d2 : decide (k2 < 0) = false := decide_eq_false (by omega)
  refine gt_val TW (.int .i64 k2) rfl rfl hk (fun w₂ r₂ => ?_) ?_
  · refine ⟨run_of fun K hK => ?_, ?_⟩
    · go_simp; exact hK
    · rw [listed_nil (by simp [go_sem, *])]; exact TW.idle _
  walk_nrm
  repeat (first
    | (with_reducible refine gt_seq TW ?_)
    | (with_reducible refine gt_end TW ?_)
    | ((with_reducible refine gt_reg TW ?_); simp only [List.size_toArray, List.length_cons, List.length_nil, Nat.reduceAdd, Nat.zero_add, List.range, List.range.loop])
    | (with_reducible refine gt_skip TW ?_)
    | ((with_reducible refine gt_cond TW false ?_ ?_); (focus (exact rfl)); simp only [if_true, if_false, Bool.false_eq_true, ↓reduceIte, Bool.true_eq_false])
    | ((with_reducible refine gt_cond TW true ?_ ?_); (focus (exact rfl)); simp only [if_true, if_false, Bool.false_eq_true, ↓reduceIte, Bool.true_eq_false]))
  refine gt_val TW (.int .i64 k2) rfl rfl hk (fun w₂ r₂ => ?_) ?_
  · refine ⟨run_of fun K hK => ?_, ?_⟩
    · go_simp; exact hK
    · rw [listed_nil (by simp [go_sem, *])]; exact TW.idle _
  walk_nrm
  refine gt_val TW (.bool false) rfl rfl hk (fun w₂ r₂ => ?_) ?_
  · refine ⟨run_of fun K hK => ?_, ?_⟩
    · go_simp; exact hK
    · rw [listed_nil (by simp [go_sem, *])]; exact TW.idle _
  walk_nrm
  refine gt_val TW (.bool false) rfl rfl hk (fun w₂ r₂ => ?_) ?_
  · refine ⟨run_of fun K hK => ?_, ?_⟩
    · go_simp; exact hK
    · rw [listed_nil (by simp [go_sem, *])]; exact TW.idle _
  walk_nrm
  refine gt_val TW (.slice aG L cG) rfl rfl hk (fun w₂ r₂ => ?_) ?_
  · refine ⟨run_of fun K hK => ?_, ?_⟩
    · go_simp; exact hK
    · rw [listed_nil (by simp [go_sem, *])]; exact TW.idle _
  walk_nrm
  refine gt_val TW (.slice aW L cW) rfl rfl hk (fun w₂ r₂ => ?_) ?_
  · refine ⟨run_of fun K hK => ?_, ?_⟩
    · go_simp; exact hK
    · rw [listed_nil (by simp [go_sem, *])]; exact TW.idle _
  walk_nrm
  refine Goes.stop fun w₁ r₁ => ?_
  obtain ⟨d₁, rfl⟩ := r₁
  refine ok_call (K := kitC) bodiesC (R := fun v w' => v = .bool true ∧ BT vc w') (fun v w τ d h => ⟨h.1, h.2.tape _ _⟩) rfl rfl hk rfl Try.func21 rfl rfl rfl (by kernel_rfl) (by simp [Act.eval]; rfl) S.noPend (S.atD d₁) (fun τ d => ?_) (fun v' vc Wc hR S' hz' st' => ?_)
  · exact ((by have h := eqIntS_any aG aW L L cG cW IB IB (onT vc τ d) (by have h := hG.rd; rw [hIL.out] at h; exact h) (by have h := hW.rd; rw [hIL.out] at h; exact h) (by omega) (by omega); rwa [show eqI IB IB = true by simp [eqI]] at h : Calls Try.prog _ _ _ (RetQ _ _))).mono fun e w' h => ⟨_, h.1, rfl, by obtain ⟨m, hm⟩ := h.2; subst hm; exact ⟨rfl, rfl, Nat.le_refl _, fun _ _ => rfl⟩⟩
  obtain ⟨rfl, hb⟩ := hR
  replace S := S'
  replace st := st.trans st'.atD
  replace hFl := fun b (hb : _) => Nat.lt_of_lt_of_le (hFl b hb) hz'
  replace B := B.trans hb
  replace hsz := Nat.le_trans hsz hb.size
  replace hW := hW.bt hb
  replace hG := hG.bt hb
  clear hb
  clear S' st' hz'
  refine ok_goes (Stop := Ok Try.prog _ _ (PostL W)) (fun _ _ h => h) (n := 60) ?_
  walk_nrm
  refine gt_val TW (.bool false) rfl rfl hk (fun w₂ r₂ => ?_) ?_
  · refine ⟨run_of fun K hK => ?_, ?_⟩
    · go_simp; exact hK
    · rw [listed_nil (by simp [go_sem, *])]; exact TW.idle _
  walk_nrm
  refine gt_val TW (.bool false) rfl rfl hk (fun w₂ r₂ => ?_) ?_
  · refine ⟨run_of fun K hK => ?_, ?_⟩
    · go_simp; exact hK
    · rw [listed_nil (by simp [go_sem, *])]; exact TW.idle _
  walk_nrm
  repeat (first
    | (with_reducible refine gt_seq TW ?_)
    | (with_reducible refine gt_end TW ?_)
    | ((with_reducible refine gt_reg TW ?_); simp only [List.size_toArray, List.length_cons, List.length_nil, Nat.reduceAdd, Nat.zero_add, List.range, List.range.loop])
    | (with_reducible refine gt_skip TW ?_)
    | ((with_reducible refine gt_cond TW false ?_ ?_); (focus (exact rfl)); simp only [if_true, if_false, Bool.false_eq_true, ↓reduceIte, Bool.true_eq_false])
    | ((with_reducible refine gt_cond TW true ?_ ?_); (focus (exact rfl)); simp only [if_true, if_false, Bool.false_eq_true, ↓reduceIte, Bool.true_eq_false]))
  refine gt_val TW (.int .i64 1) rfl rfl hk (fun w₂ r₂ => ?_) ?_
  · refine ⟨run_of fun K hK => ?_, ?_⟩
    · go_simp; exact hK
    · rw [listed_nil (by simp [go_sem, *])]; exact TW.idle _
  walk_nrm
  repeat (first
    | (with_reducible refine gt_seq TW ?_)
    | (with_reducible refine gt_end TW ?_)
    | ((with_reducible refine gt_reg TW ?_); simp only [List.size_toArray, List.length_cons, List.length_nil, Nat.reduceAdd, Nat.zero_add, List.range, List.range.loop])
    | (with_reducible refine gt_skip TW ?_)
    | ((with_reducible refine gt_cond TW false ?_ ?_); (focus (exact rfl)); simp only [if_true, if_false, Bool.false_eq_true, ↓reduceIte, Bool.true_eq_false])
    | ((with_reducible refine gt_cond TW true ?_ ?_); (focus (exact rfl)); simp only [if_true, if_false, Bool.false_eq_true, ↓reduceIte, Bool.true_eq_false]))
  refine gt_val TW (.slice aG L cG) rfl rfl hk (fun w₂ r₂ => ?_) ?_
  · refine ⟨run_of fun K hK => ?_, ?_⟩
    · go_simp; exact hK
    · rw [listed_nil (by simp [go_sem, *])]; exact TW.idle _
  walk_nrm
  refine gt_val TW (.int .i64 1) rfl rfl hk (fun w₂ r₂ => ?_) ?_
  · refine ⟨run_of fun K hK => ?_, ?_⟩
    · go_simp; exact hK
    · rw [listed_nil (by simp [go_sem, *])]; exact TW.idle _
  walk_nrm
  refine Goes.stop fun w₁ r₁ => ?_
  obtain ⟨d₁, rfl⟩ := r₁
  refine ok_call (K := kitC) bodiesC (R := fun v w' => v = .int .i64 u ∧ OwnI w' sC aG cG (seqI 1 L) ∧ GT vc w' (Value.slice aG IB.length cG).ownBlock) (fun v w τ d ⟨h1, h2, h3⟩ => ⟨h1, h2, h3.onT _ _⟩) rfl rfl hk rfl Try.func22 rfl rfl rfl (by kernel_rfl) (by simp [Act.eval]; rfl) S.noPend (S.atD d₁) (fun τ d => ?_) (fun v' vc Wc hR S' hz' st' => ?_)
  · exact (by have h := markIntS_any sC aG cG IB 1 (onT vc τ d) hG (by omega) (by omega) (by rw [hIL.out]; omega); rw [hIL.out] at h; exact h : Calls Try.prog _ _ _ (RetMark (onT vc τ d) sC aG cG L 1)).mono fun e w' ⟨h1, h2, h3⟩ => ⟨_, h1, by rw [hu.out], h2, by rw [hIL.out]; exact GT.of h3⟩
  obtain ⟨rfl, hG2, hgt⟩ := hR
  replace S := S'
  replace st := st.trans st'.atD
  replace hFl := fun b (hb : _) => Nat.lt_of_lt_of_le (hFl b hb) hz'
  replace B := hgt.bt B (fun k hk => by have := hGge k hk; omega)
  replace hsz : sC ≤ vc.heap.size := Nat.le_trans hsz hgt.size
  replace hW := hgt.ownI hW (fun k hk r hr => by have := hWlt k hk; have := hGge r hr; omega)
  clear hgt hG hGge
  clear S' st' hz'
  refine ok_goes (Stop := Ok Try.prog _ _ (PostL W)) (fun _ _ h => h) (n := 60) ?_
  walk_nrm
  refine gt_val TW (.int .i64 u) rfl rfl hk (fun w₂ r₂ => ?_) ?_
  · refine ⟨run_of fun K hK => ?_, ?_⟩
    · go_simp; exact hK
    · rw [listed_nil (by simp [go_sem, *])]; exact TW.idle _
  walk_nrm
  repeat (first
    | (with_reducible refine gt_seq TW ?_)
    | (with_reducible refine gt_end TW ?_)
    | ((with_reducible refine gt_reg TW ?_); simp only [List.size_toArray, List.length_cons, List.length_nil, Nat.reduceAdd, Nat.zero_add, List.range, List.range.loop])
    | (with_reducible refine gt_skip TW ?_)
    | ((with_reducible refine gt_cond TW false ?_ ?_); (focus (exact rfl)); simp only [if_true, if_false, Bool.false_eq_true, ↓reduceIte, Bool.true_eq_false])
    | ((with_reducible refine gt_cond TW true ?_ ?_); (focus (exact rfl)); simp only [if_true, if_false, Bool.false_eq_true, ↓reduceIte, Bool.true_eq_false]))
  refine gt_val TW (.int .i64 1) rfl rfl hk (fun w₂ r₂ => ?_) ?_
  · refine ⟨run_of fun K hK => ?_, ?_⟩
    · go_simp; exact hK
    · rw [listed_nil (by simp [go_sem, *])]; exact TW.idle _
  walk_nrm
  repeat (first
    | (with_reducible refine gt_seq TW ?_)
    | (with_reducible refine gt_end TW ?_)
    | ((with_reducible refine gt_reg TW ?_); simp only [List.size_toArray, List.length_cons, List.length_nil, Nat.reduceAdd, Nat.zero_add, List.range, List.range.loop])
    | (with_reducible refine gt_skip TW ?_)
    | ((with_reducible refine gt_cond TW false ?_ ?_); (focus (exact rfl)); simp only [if_true, if_false, Bool.false_eq_true, ↓reduceIte, Bool.true_eq_false])
    | ((with_reducible refine gt_cond TW true ?_ ?_); (focus (exact rfl)); simp only [if_true, if_false, Bool.false_eq_true, ↓reduceIte, Bool.true_eq_false]))
  refine gt_val TW (.slice aG L cG) rfl rfl hk (fun w₂ r₂ => ?_) ?_
  · refine ⟨run_of fun K hK => ?_, ?_⟩
    · go_simp; exact hK
    · rw [listed_nil (by simp [go_sem, *])]; exact TW.idle _
  walk_nrm
  refine gt_val TW (.int .i64 1) rfl rfl hk (fun w₂ r₂ => ?_) ?_
  · refine ⟨run_of fun K hK => ?_, ?_⟩
    · go_simp; exact hK
    · rw [listed_nil (by simp [go_sem, *])]; exact TW.idle _
  walk_nrm
  refine Goes.stop fun w₁ r₁ => ?_
  obtain ⟨d₁, rfl⟩ := r₁
  refine ok_call (K := kitC) bodiesC (R := fun v w' => v = .int .i64 u ∧ BT vc w') (fun v w τ d h => ⟨h.1, h.2.tape _ _⟩) rfl rfl hk rfl Try.func23 rfl rfl rfl (by kernel_rfl) (by simp [Act.eval]; rfl) S.noPend (S.atD d₁) (fun τ d => ?_) (fun v' vc Wc hR S' hz' st' => ?_)
  · exact ((by have h := heldIntS_any aG L cG 1 (onT vc τ d) (by have h := hG2.rd; rw [seqI_length] at h; exact h) (by omega) (by omega) (by omega); rw [hu.out] at h; exact h : Calls Try.prog _ _ _ fun e w' => e = .returned (.int .i64 u) ∧ onT vc τ d = w')).mono fun e w' h => ⟨_, h.1, rfl, by obtain rfl := h.2; exact ⟨rfl, rfl, Nat.le_refl _, fun _ _ => rfl⟩⟩
  obtain ⟨rfl, hb⟩ := hR
  replace S := S'
  replace st := st.trans st'.atD
  replace hFl := fun b (hb : _) => Nat.lt_of_lt_of_le (hFl b hb) hz'
  replace B := B.trans hb
  replace hsz := Nat.le_trans hsz hb.size
  replace hW := hW.bt hb
  replace hG2 := hG2.bt hb
  clear hb
  clear S' st' hz'
  refine ok_goes (Stop := Ok Try.prog _ _ (PostL W)) (fun _ _ h => h) (n := 60) ?_
  walk_nrm
  refine gt_val TW (.int .i64 u) rfl rfl hk (fun w₂ r₂ => ?_) ?_
  · refine ⟨run_of fun K hK => ?_, ?_⟩
    · go_simp; exact hK
    · rw [listed_nil (by simp [go_sem, *])]; exact TW.idle _
  walk_nrm
  repeat (first
    | (with_reducible refine gt_seq TW ?_)
    | (with_reducible refine gt_end TW ?_)
    | ((with_reducible refine gt_reg TW ?_); simp only [List.size_toArray, List.length_cons, List.length_nil, Nat.reduceAdd, Nat.zero_add, List.range, List.range.loop])
    | (with_reducible refine gt_skip TW ?_)
    | ((with_reducible refine gt_cond TW false ?_ ?_); (focus (exact rfl)); simp only [if_true, if_false, Bool.false_eq_true, ↓reduceIte, Bool.true_eq_false])
    | ((with_reducible refine gt_cond TW true ?_ ?_); (focus (exact rfl)); simp only [if_true, if_false, Bool.false_eq_true, ↓reduceIte, Bool.true_eq_false]))
  refine gt_val TW (.int .i64 u) rfl rfl hk (fun w₂ r₂ => ?_) ?_
  · refine ⟨run_of fun K hK => ?_, ?_⟩
    · go_simp; exact hK
    · rw [listed_nil (by simp [go_sem, *])]; exact TW.idle _
  walk_nrm
  refine gt_val TW (.bool false) rfl rfl hk (fun w₂ r₂ => ?_) ?_
  · refine ⟨run_of fun K hK => ?_, ?_⟩
    · go_simp; exact hK
    · rw [listed_nil (by simp [go_sem, *])]; exact TW.idle _
  walk_nrm
  repeat (first
    | (with_reducible refine gt_seq TW ?_)
    | (with_reducible refine gt_end TW ?_)
    | ((with_reducible refine gt_reg TW ?_); simp only [List.size_toArray, List.length_cons, List.length_nil, Nat.reduceAdd, Nat.zero_add, List.range, List.range.loop])
    | (with_reducible refine gt_skip TW ?_)
    | ((with_reducible refine gt_cond TW false ?_ ?_); (focus (exact rfl)); simp only [if_true, if_false, Bool.false_eq_true, ↓reduceIte, Bool.true_eq_false])
    | ((with_reducible refine gt_cond TW true ?_ ?_); (focus (exact rfl)); simp only [if_true, if_false, Bool.false_eq_true, ↓reduceIte, Bool.true_eq_false]))
  refine gt_val TW (.int .i64 u) rfl rfl hk (fun w₂ r₂ => ?_) ?_
  · refine ⟨run_of fun K hK => ?_, ?_⟩
    · go_simp; exact hK
    · rw [listed_nil (by simp [go_sem, *])]; exact TW.idle _
  walk_nrm
  refine gt_val TW (.int .i64 u) rfl rfl hk (fun w₂ r₂ => ?_) ?_
  · refine ⟨run_of fun K hK => ?_, ?_⟩
    · go_simp; exact hK
    · rw [listed_nil (by simp [go_sem, *])]; exact TW.idle _
  walk_nrm
  refine gt_val TW (.bool false) rfl rfl hk (fun w₂ r₂ => ?_) ?_
  · refine ⟨run_of fun K hK => ?_, ?_⟩
    · go_simp; exact hK
    · rw [listed_nil (by simp [go_sem, *])]; exact TW.idle _
  walk_nrm
  repeat (first
    | (with_reducible refine gt_seq TW ?_)
    | (with_reducible refine gt_end TW ?_)
    | ((with_reducible refine gt_reg TW ?_); simp only [List.size_toArray, List.length_cons, List.length_nil, Nat.reduceAdd, Nat.zero_add, List.range, List.range.loop])
    | (with_reducible refine gt_skip TW ?_)
    | ((with_reducible refine gt_cond TW false ?_ ?_); (focus (exact rfl)); simp only [if_true, if_false, Bool.false_eq_true, ↓reduceIte, Bool.true_eq_false])
    | ((with_reducible refine gt_cond TW true ?_ ?_); (focus (exact rfl)); simp only [if_true, if_false, Bool.false_eq_true, ↓reduceIte, Bool.true_eq_false]))
  refine gt_val TW (.slice a n c) rfl rfl hk (fun w₂ r₂ => ?_) ?_
  · refine ⟨run_of fun K hK => ?_, ?_⟩
    · go_simp; exact hK
    · rw [listed_nil (by simp [go_sem, *])]; exact TW.idle _
  walk_nrm
  refine Goes.stop fun w₁ r₁ => ?_
  obtain ⟨d₁, rfl⟩ := r₁
  refine ok_call (K := kitC) bodiesC (R := fun v w' => ∃ (ys : List HV) (a' : Option Addr) (c' : Nat), v = .slice a' n c' ∧ ys.length = n ∧ valsH ys = valsH zs ∧ OwnH w' vc.heap.size a' c' ys ∧ BT vc w') (fun v w τ d ⟨ys, a, c, h1, h2, h3, h4, h5⟩ => ⟨ys, a, c, h1, h2, h3, h4.onT _ _, h5.tape _ _⟩) rfl rfl hk rfl Try.func10 rfl rfl rfl (by kernel_rfl) (by simp [Act.eval]; rfl) S.noPend (S.atD d₁) (fun τ d => ?_) (fun v' vc Wc hR S' hz' st' => ?_)
  · exact (toHeldS_any a n c zs (onT vc τ d) (hr0.bt (B.tape _ _)) (hin0.bt (B.tape _ _)) hwf hn2 hs).mono fun e w' ⟨ys, a', c', h1, h2, h3, h4, h5⟩ => ⟨_, h1, ys, a', c', by rw [hl.out], h2.trans hl.out, h3, h4, (BT.of h5).untape⟩
  obtain ⟨y8, a8, c8, rfl, y8l, y8v, o8, hb⟩ := hR
  replace S := S'
  replace st := st.trans st'.atD
  replace hFl := fun b (hb : _) => Nat.lt_of_lt_of_le (hFl b hb) hz'
  replace B := B.trans hb
  replace hsz := Nat.le_trans hsz hb.size
  replace hW := hW.bt hb
  replace hG2 := hG2.bt hb
  clear hb
  clear S' st' hz'
  refine ok_goes (Stop := Ok Try.prog _ _ (PostL W)) (fun _ _ h => h) (n := 60) ?_
  walk_nrm
  refine gt_val TW (.slice ka nk ck) rfl rfl hk (fun w₂ r₂ => ?_) ?_
  · refine ⟨run_of fun K hK => ?_, ?_⟩
    · go_simp; exact hK
    · rw [listed_nil (by simp [go_sem, *])]; exact TW.idle _
  walk_nrm
  refine Goes.stop fun w₁ r₁ => ?_
  obtain ⟨d₁, rfl⟩ := r₁
  refine ok_call (K := kitC) bodiesC (R := fun v w' => ∃ (a' : Option Addr) (c' : Nat), v = .slice a' nk c' ∧ OwnX w' vc.heap.size a' c' cs ∧ BT vc w') (fun v w τ d ⟨a, c, h1, h2, h3⟩ => ⟨a, c, h1, h2, h3.tape _ _⟩) rfl rfl hk rfl Try.func19 rfl rfl rfl (by kernel_rfl) (by simp [Act.eval]; rfl) S.noPend (S.atD d₁) (fun τ d => ?_) (fun v' vc Wc hR S' hz' st' => ?_)
  · exact (toCheckS_any ka nk ck cs (onT vc τ d) (hk0.bt (B.tape _ _)) hwc hnk2).mono fun e w' ⟨a', c', h1, h2, h3⟩ => ⟨_, h1, a', c', by rw [hkl.out], h2, (BT.of h3).untape⟩
  obtain ⟨a9, c9, rfl, o9, hb⟩ := hR
  replace S := S'
  replace st := st.trans st'.atD
  replace hFl := fun b (hb : _) => Nat.lt_of_lt_of_le (hFl b hb) hz'
  replace B := B.trans hb
  replace hsz := Nat.le_trans hsz hb.size
  replace hW := hW.bt hb
  replace hG2 := hG2.bt hb
  replace o8 := o8.bt hb
  clear hb
  clear S' st' hz'
  refine ok_goes (Stop := Ok Try.prog _ _ (PostL W)) (fun _ _ h => h) (n := 60) ?_
  walk_nrm
  have hp := hp2
  refine Goes.stop fun w₁ r₁ => ?_
  obtain ⟨d₁, rfl⟩ := r₁
  have hcp := o8.row.cap
  rw [y8l] at hcp
  unfold maxLen at hcp
  refine ok_checksBad (w0 := vc) (la := a8) (ka := a9) (nl := n) (lc := c8) (n := nk) (cc := c9) (xs := y8) (chks := cs) rfl rfl hk rfl (by simp [Act.eval]) hp (by omega) (S.atD d₁) hFl (by have h := o8.row.rd; rw [y8l] at h; exact h) (fun x hx => (o8.ins x hx).rd) (fun x hx => by have := vals_le y8v hs x hx; omega) hcp.1 (by omega) (by have h := o9.rd; rw [hkl.out] at h; exact h) hwc (by omega) ?_
  intro F' p' vc Wc aH cH Sd hFd hbd hH hpd hpd2 hFFd std
  rw [show badR (valsH y8) cs = IB by rw [y8v]; exact hIB.out] at hH ⊢
  rw [hIL.out]
  have hb := BT.of hbd
  replace hFF := fun b (hb : b < W.heap.size) (h : F' b) => hFF b hb ((hFFd b (Nat.lt_of_lt_of_le hb st.size)).1 h)
  replace S := Sd
  replace hFl := hFd
  replace st := st.trans std.atD
  have hp2 : 0 < p' := by omega
  replace B := B.trans hb
  replace hsz := Nat.le_trans hsz hb.size
  replace hW := hW.bt hb
  replace hG2 := hG2.bt hb
  replace o8 := o8.bt hb
  replace o9 := o9.bt hb
  clear hb
  clear hp hcp Sd hFd std hFFd hbd
  have TW : Terms AtRel (DB F') := termsB
  refine ok_goes (Stop := Ok Try.prog _ _ (PostL W)) (fun _ _ h => h) (n := 60) ?_
  walk_nrm
  clear o8 o9
  refine gt_val TW (.slice aH L cH) rfl rfl hk (fun w₂ r₂ => ?_) ?_
  · refine ⟨run_of fun K hK => ?_, ?_⟩
    · go_simp; exact hK
    · rw [listed_nil (by simp [go_sem, *])]; exact TW.idle _
  walk_nrm
  repeat (first
    | (with_reducible refine gt_seq TW ?_)
    | (with_reducible refine gt_end TW ?_)
    | ((with_reducible refine gt_reg TW ?_); simp only [List.size_toArray, List.length_cons, List.length_nil, Nat.reduceAdd, Nat.zero_add, List.range, List.range.loop])
    | (with_reducible refine gt_skip TW ?_)
    | ((with_reducible refine gt_cond TW false ?_ ?_); (focus (exact rfl)); simp only [if_true, if_false, Bool.false_eq_true, ↓reduceIte, Bool.true_eq_false])
    | ((with_reducible refine gt_cond TW true ?_ ?_); (focus (exact rfl)); simp only [if_true, if_false, Bool.false_eq_true, ↓reduceIte, Bool.true_eq_false]))
  refine gt_val TW (.slice aH L cH) rfl rfl hk (fun w₂ r₂ => ?_) ?_
  · refine ⟨run_of fun K hK => ?_, ?_⟩
    · go_simp; exact hK
    · rw [listed_nil (by simp [go_sem, *])]; exact TW.idle _
  walk_nrm
  refine gt_val TW (.slice aW L cW) rfl rfl hk (fun w₂ r₂ => ?_) ?_
  · refine ⟨run_of fun K hK => ?_, ?_⟩
    · go_simp; exact hK
    · rw [listed_nil (by simp [go_sem, *])]; exact TW.idle _
  walk_nrm
  refine Goes.stop fun w₁ r₁ => ?_
  obtain ⟨d₁, rfl⟩ := r₁
  refine ok_call (K := kitC) bodiesC (R := fun v w' => v = .bool true ∧ BT vc w') (fun v w τ d h => ⟨h.1, h.2.tape _ _⟩) rfl rfl hk rfl Try.func21 rfl rfl rfl (by kernel_rfl) (by simp [Act.eval]; rfl) S.noPend (S.atD d₁) (fun τ d => ?_) (fun v' vc Wc hR S' hz' st' => ?_)
  · exact ((by have h := eqIntS_any aH aW L L cH cW IB IB (onT vc τ d) (by have h := hH.rd; rw [hIL.out] at h; exact h) (by have h := hW.rd; rw [hIL.out] at h; exact h) (by omega) (by omega); rwa [show eqI IB IB = true by simp [eqI]] at h : Calls Try.prog _ _ _ (RetQ _ _))).mono fun e w' h => ⟨_, h.1, rfl, by obtain ⟨m, hm⟩ := h.2; subst hm; exact ⟨rfl, rfl, Nat.le_refl _, fun _ _ => rfl⟩⟩
  obtain ⟨rfl, hb⟩ := hR
  replace S := S'
  replace st := st.trans st'.atD
  replace hFl := fun b (hb : _) => Nat.lt_of_lt_of_le (hFl b hb) hz'
  replace B := B.trans hb
  replace hsz := Nat.le_trans hsz hb.size
  replace hW := hW.bt hb
  replace hG2 := hG2.bt hb
  replace hH := hH.bt hb
  clear hb
  clear S' st' hz'
  refine ok_goes (Stop := Ok Try.prog _ _ (PostL W)) (fun _ _ h => h) (n := 60) ?_
  walk_nrm
  refine gt_val TW (.bool false) rfl rfl hk (fun w₂ r₂ => ?_) ?_
  · refine ⟨run_of fun K hK => ?_, ?_⟩
    · go_simp; exact hK
    · rw [listed_nil (by simp [go_sem, *])]; exact TW.idle _
  walk_nrm
  repeat (first
    | (with_reducible refine gt_seq TW ?_)
    | (with_reducible refine gt_end TW ?_)
    | ((with_reducible refine gt_reg TW ?_); simp only [List.size_toArray, List.length_cons, List.length_nil, Nat.reduceAdd, Nat.zero_add, List.range, List.range.loop])
    | (with_reducible refine gt_skip TW ?_)
    | ((with_reducible refine gt_cond TW false ?_ ?_); (focus (exact rfl)); simp only [if_true, if_false, Bool.false_eq_true, ↓reduceIte, Bool.true_eq_false])
    | ((with_reducible refine gt_cond TW true ?_ ?_); (focus (exact rfl)); simp only [if_true, if_false, Bool.false_eq_true, ↓reduceIte, Bool.true_eq_false]))
  refine gt_val TW (.int .i64 1) rfl rfl hk (fun w₂ r₂ => ?_) ?_
  · refine ⟨run_of fun K hK => ?_, ?_⟩
    · go_simp; exact hK
    · rw [listed_nil (by simp [go_sem, *])]; exact TW.idle _
  walk_nrm
  repeat (first
    | (with_reducible refine gt_seq TW ?_)
    | (with_reducible refine gt_end TW ?_)
    | ((with_reducible refine gt_reg TW ?_); simp only [List.size_toArray, List.length_cons, List.length_nil, Nat.reduceAdd, Nat.zero_add, List.range, List.range.loop])
    | (with_reducible refine gt_skip TW ?_)
    | ((with_reducible refine gt_cond TW false ?_ ?_); (focus (exact rfl)); simp only [if_true, if_false, Bool.false_eq_true, ↓reduceIte, Bool.true_eq_false])
    | ((with_reducible refine gt_cond TW true ?_ ?_); (focus (exact rfl)); simp only [if_true, if_false, Bool.false_eq_true, ↓reduceIte, Bool.true_eq_false]))
  refine gt_val TW (.slice aG L cG) rfl rfl hk (fun w₂ r₂ => ?_) ?_
  · refine ⟨run_of fun K hK => ?_, ?_⟩
    · go_simp; exact hK
    · rw [listed_nil (by simp [go_sem, *])]; exact TW.idle _
  walk_nrm
  refine gt_val TW (.int .i64 1) rfl rfl hk (fun w₂ r₂ => ?_) ?_
  · refine ⟨run_of fun K hK => ?_, ?_⟩
    · go_simp; exact hK
    · rw [listed_nil (by simp [go_sem, *])]; exact TW.idle _
  walk_nrm
  refine Goes.stop fun w₁ r₁ => ?_
  obtain ⟨d₁, rfl⟩ := r₁
  refine ok_call (K := kitC) bodiesC (R := fun v w' => v = .int .i64 u ∧ BT vc w') (fun v w τ d h => ⟨h.1, h.2.tape _ _⟩) rfl rfl hk rfl Try.func23 rfl rfl rfl (by kernel_rfl) (by simp [Act.eval]; rfl) S.noPend (S.atD d₁) (fun τ d => ?_) (fun v' vc Wc hR S' hz' st' => ?_)
  · exact ((by have h := heldIntS_any aG L cG 1 (onT vc τ d) (by have h := hG2.rd; rw [seqI_length] at h; exact h) (by omega) (by omega) (by omega); rw [hu.out] at h; exact h : Calls Try.prog _ _ _ fun e w' => e = .returned (.int .i64 u) ∧ onT vc τ d = w')).mono fun e w' h => ⟨_, h.1, rfl, by obtain rfl := h.2; exact ⟨rfl, rfl, Nat.le_refl _, fun _ _ => rfl⟩⟩
  obtain ⟨rfl, hb⟩ := hR
  replace S := S'
  replace st := st.trans st'.atD
  replace hFl := fun b (hb : _) => Nat.lt_of_lt_of_le (hFl b hb) hz'
  replace B := B.trans hb
  replace hsz := Nat.le_trans hsz hb.size
  replace hW := hW.bt hb
  replace hG2 := hG2.bt hb
  replace hH := hH.bt hb
  clear hb
  clear S' st' hz'
  refine ok_goes (Stop := Ok Try.prog _ _ (PostL W)) (fun _ _ h => h) (n := 60) ?_
  walk_nrm
  refine gt_val TW (.int .i64 u) rfl rfl hk (fun w₂ r₂ => ?_) ?_
  · refine ⟨run_of fun K hK => ?_, ?_⟩
    · go_simp; exact hK
    · rw [listed_nil (by simp [go_sem, *])]; exact TW.idle _
  walk_nrm
  repeat (first
    | (with_reducible refine gt_seq TW ?_)
    | (with_reducible refine gt_end TW ?_)
    | ((with_reducible refine gt_reg TW ?_); simp only [List.size_toArray, List.length_cons, List.length_nil, Nat.reduceAdd, Nat.zero_add, List.range, List.range.loop])
    | (with_reducible refine gt_skip TW ?_)
    | ((with_reducible refine gt_cond TW false ?_ ?_); (focus (exact rfl)); simp only [if_true, if_false, Bool.false_eq_true, ↓reduceIte, Bool.true_eq_false])
    | ((with_reducible refine gt_cond TW true ?_ ?_); (focus (exact rfl)); simp only [if_true, if_false, Bool.false_eq_true, ↓reduceIte, Bool.true_eq_false]))
  refine gt_val TW (.int .i64 u) rfl rfl hk (fun w₂ r₂ => ?_) ?_
  · refine ⟨run_of fun K hK => ?_, ?_⟩
    · go_simp; exact hK
    · rw [listed_nil (by simp [go_sem, *])]; exact TW.idle _
  walk_nrm
  refine gt_val TW (.bool false) rfl rfl hk (fun w₂ r₂ => ?_) ?_
  · refine ⟨run_of fun K hK => ?_, ?_⟩
    · go_simp; exact hK
    · rw [listed_nil (by simp [go_sem, *])]; exact TW.idle _
  walk_nrm
  repeat (first
    | (with_reducible refine gt_seq TW ?_)
    | (with_reducible refine gt_end TW ?_)
    | ((with_reducible refine gt_reg TW ?_); simp only [List.size_toArray, List.length_cons, List.length_nil, Nat.reduceAdd, Nat.zero_add, List.range, List.range.loop])
    | (with_reducible refine gt_skip TW ?_)
    | ((with_reducible refine gt_cond TW false ?_ ?_); (focus (exact rfl)); simp only [if_true, if_false, Bool.false_eq_true, ↓reduceIte, Bool.true_eq_false])
    | ((with_reducible refine gt_cond TW true ?_ ?_); (focus (exact rfl)); simp only [if_true, if_false, Bool.false_eq_true, ↓reduceIte, Bool.true_eq_false]))
  refine gt_val TW (.int .i64 u) rfl rfl hk (fun w₂ r₂ => ?_) ?_
  · refine ⟨run_of fun K hK => ?_, ?_⟩
    · go_simp; exact hK
    · rw [listed_nil (by simp [go_sem, *])]; exact TW.idle _
  walk_nrm
  refine gt_val TW (.int .i64 u) rfl rfl hk (fun w₂ r₂ => ?_) ?_
  · refine ⟨run_of fun K hK => ?_, ?_⟩
    · go_simp; exact hK
    · rw [listed_nil (by simp [go_sem, *])]; exact TW.idle _
  walk_nrm
  refine gt_val TW (.bool false) rfl rfl hk (fun w₂ r₂ => ?_) ?_
  · refine ⟨run_of fun K hK => ?_, ?_⟩
    · go_simp; exact hK
    · rw [listed_nil (by simp [go_sem, *])]; exact TW.idle _
  walk_nrm
  repeat (first
    | (with_reducible refine gt_seq TW ?_)
    | (with_reducible refine gt_end TW ?_)
    | ((with_reducible refine gt_reg TW ?_); simp only [List.size_toArray, List.length_cons, List.length_nil, Nat.reduceAdd, Nat.zero_add, List.range, List.range.loop])
    | (with_reducible refine gt_skip TW ?_)
    | ((with_reducible refine gt_cond TW false ?_ ?_); (focus (exact rfl)); simp only [if_true, if_false, Bool.false_eq_true, ↓reduceIte, Bool.true_eq_false])
    | ((with_reducible refine gt_cond TW true ?_ ?_); (focus (exact rfl)); simp only [if_true, if_false, Bool.false_eq_true, ↓reduceIte, Bool.true_eq_false]))
  refine gt_val TW (.bool true) rfl rfl hk (fun w₂ r₂ => ?_) ?_
  · refine ⟨run_of fun K hK => ?_, ?_⟩
    · go_simp; exact hK
    · rw [listed_nil (by simp [go_sem, *])]; exact TW.idle _
  walk_nrm
  repeat (first
    | (with_reducible refine gt_seq TW ?_)
    | (with_reducible refine gt_end TW ?_)
    | ((with_reducible refine gt_reg TW ?_); simp only [List.size_toArray, List.length_cons, List.length_nil, Nat.reduceAdd, Nat.zero_add, List.range, List.range.loop])
    | (with_reducible refine gt_skip TW ?_)
    | ((with_reducible refine gt_cond TW false ?_ ?_); (focus (exact rfl)); simp only [if_true, if_false, Bool.false_eq_true, ↓reduceIte, Bool.true_eq_false])
    | ((with_reducible refine gt_cond TW true ?_ ?_); (focus (exact rfl)); simp only [if_true, if_false, Bool.false_eq_true, ↓reduceIte, Bool.true_eq_false]))
  refine gt_ret TW ?_
  refine Goes.stop fun w₁ r₁ => ?_
  obtain ⟨d₁, rfl⟩ := r₁
  exact ok_done Try.func4 rfl (by kernel_rfl) (bt_final hS0 (S.atD d₁) B ⟨st.size, st.pend, st.map, st.back⟩ hFF) rfl

theorem enter4 (v u : Value) : Frame.enter Try.prog 4 #[v, u] .normal = (base 4).at ⟨#[v, u, undef, undef, undef, undef, undef, undef, undef, undef, undef, undef, undef, undef, undef, undef, undef, undef, undef, undef, undef, undef, undef, undef, undef, undef, undef, undef, undef, undef, undef, undef, undef, undef, undef, undef, undef, undef, undef, undef, undef, undef, undef, undef, undef, undef, undef, undef, undef, undef, undef, undef, undef, undef, undef, undef, undef, undef, undef, undef, undef, undef, undef, undef, undef, undef, undef, undef, undef, undef, undef, undef, undef, undef, undef, undef, undef, undef, undef, undef, undef, undef, undef, undef, undef, undef, undef, undef, undef, undef, undef, undef], []⟩ [.code body4] := by
  simp [Frame.enter, Try.func4, Try.f4, body4, base, Frame.at, Array.replicate_succ]

theorem fnExactChecksBad_ends {a ka : Option Addr} {n c nk ck : Nat} {zs : List HV} {cs : List (Int × Int)} {W : World} (hrW : RdR eltHL W a n zs ∧ InH W zs) (hwf : WfH zs) (hm : n ≤ maxLen) (hkW : RdX W ka nk cs) (hwc : WfX cs) (hmk : nk ≤ maxLen) :
    Ends Try.prog (PostL W) (solo (G (Frame.enter Try.prog 4 #[.slice a n c, .slice ka nk ck] .normal) []) W) #[] := by
  rw [solo_eq_crowd, enter4]
  exact fnExactChecksBad_ok hrW.1 hrW.2 hwf hm hkW hwc hmk #[_] none #[] (fun _ => 0) rfl rfl (leavers_one _ _) (trc_nil _)
end Go.Proofs.Ytajheicheefpeaa
