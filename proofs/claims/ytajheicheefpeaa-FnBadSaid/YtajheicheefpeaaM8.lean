import Derived.Test.YtajheicheefpeaaM5
import Derived.Test.YtajheicheefpeaaM6
import Derived.Test.YtajheicheefpeaaM7
import Derived.Test.YtajheicheefpeaaM4
import Derived.Conc.AppendWalk
import Derived.Laws.MakeOwn
import Derived.Test.YtajheicheefpeaaM1
import Derived.OwnWalk
import Derived.Deep.RegionHeld3
import Derived.Outline
import Derived.Test.YtajheicheefpeaaM3
import Derived.Test.YtajheicheefpeaaProg
import Derived.KernelRfl
import Derived.BigQuiet
import Derived.Deep.QuietTactic
import Derived.StillTailTactics
/- The loop that starts the workers, and into Wait. -/
namespace Go.Proofs.Ytajheicheefpeaa
open Go.Proofs
open Go.Conc Go.RowKit
open Go.ConcN (WgLive PayAt Has AsideCell cell_of_block AtR0 RW Full)
open Go.ConcR (WgAt DC0 stA)
open Go.Conc.Lib Go.ConcR.Gen Go.ConcN.Gen
set_option linter.unusedSimpArgs false
set_option linter.unusedVariables false

noncomputable def body42 : Code := Try.f42.body.getD .skip
noncomputable def L42 : Code := match body42 with | .seq _ (.seq _ (.seq _ (.seq (.seq _ (.block _ (.loop c))) _))) => c | _ => .skip
noncomputable def R42 : Code := match body42 with | .seq _ (.seq _ (.seq _ (.seq _ r))) => r | _ => .skip
noncomputable def ops22 : Array Oper := match R42 with | .seq (.region _ ops _) _ => ops | _ => #[]
noncomputable def tail42 : Code := match R42 with | .seq _ r => r | _ => .skip
def b42 : Frame := base 42

/-- What is known of check j and of its block in the store. -/
structure Chk (A0 : Bks) (w0 : World) (Kb ko Mb N : Nat) (f : Int → Option Value) (j : Nat) (id sum : Int) (th : Bool) (Bb off bc : Nat) (zs : List Int) (v0 v1 v2 : Value) : Prop where
  c0 : w0.cell? ⟨Kb, ko + j * 2, none⟩ = some (.int .i64 id)
  c1 : w0.cell? ⟨Kb, ko + j * 2 + 1, none⟩ = some (.int .i64 sum)
  bd : -9223372036854775808 ≤ sum ∧ sum < 9223372036854775808
  wf : (Lit.int .i64 id).wf = true
  val : (f id).getD (.agg #[.int .i64 0, .slice none 0 0, .int .i64 0]) = .agg #[v0, v1, v2]
  there : (f id).isSome = th
  i0 : ∃ x, v0 = .int .i64 x
  i1 : ∃ a l k, v1 = .slice a l k
  i2 : ∃ x, v2 = .int .i64 x
  blk : th = true → v1 = .slice (some ⟨Bb, off, none⟩) zs.length bc ∧ blockV zs = true
  row : th = true → RowC Bb off zs.length zs w0
  inA : th = true → A0 Bb

/-- What the starter knows. -/
structure SF (A0 A : Bks) (w0 : World) (Wg C : Nat) (w : World) : Prop where
  base : ∀ b, A0 b → w.heap[b]? = w0.heap[b]?
  sub : ∀ b, A0 b → A b
  low : ∀ b, A b → b < w.heap.size ∧ b ≠ C ∧ b ≠ Wg
  hC : C < w.heap.size ∧ Wg < w.heap.size

section
variable {A0 A : Bks} {w0 w w₁ : World} {Wg C : Nat}
theorem SF.rely (h : SF A0 A w0 Wg C w) (r : RS 89 Wg A w w₁) : SF A0 A w0 Wg C w₁ :=
  ⟨fun b hb => (r.blk b (h.sub b hb)).trans (h.base b hb), h.sub, fun b hb => by have := h.low b hb; have := r.size; omega, by have := h.hC; have := r.size; omega⟩
theorem SF.set (h : SF A0 A w0 Wg C w) (a : Addr) (v : Value) (ha : ¬ A0 a.block) : SF A0 A w0 Wg C (w.setCell a v) :=
  ⟨fun b hb => ((aside_setCell w a v).block b (fun e => ha (e ▸ hb))).trans (h.base b hb), h.sub, fun b hb => by have := h.low b hb; simpa using this, by have := h.hC; simpa using this⟩
theorem SF.setW (h : SF A0 A w0 Wg C w) (a : Addr) (v : Value) (ha : a.block = Wg) : SF A0 A w0 Wg C (w.setCell a v) := h.set a v fun hb => (h.low _ (h.sub _ hb)).2.2 ha
theorem SF.alloc (h : SF A0 A w0 Wg C w) (o : Obj) : SF A0 (plus A w.heap.size) w0 Wg C (w.alloc o) := by
  have hh := h.hC
  refine ⟨fun b hb => (Below.heap_alloc _ _ _ (h.low b (h.sub b hb)).1).trans (h.base b hb), fun b hb => .inl (h.sub b hb), fun b hb => ?_, by simp; omega⟩
  rcases hb with hb | rfl
  · have := h.low b hb; simp; omega
  · simp; omega
end

theorem termsS {Wg : Nat} {A O : Bks} : Terms (RS 89 Wg A) (GK A O A O) := ⟨fun _ _ _ h h' => h.trans h', fun w => GK.none (by simp)⟩

theorem live_alloc {Wg : Nat} {w : World} (h : WgLive 89 Wg w) (hW : Wg < w.heap.size) (o : Obj) : WgLive 89 Wg (w.alloc o) := let ⟨st, sm, x⟩ := h; ⟨st, sm, x.of_block (Below.heap_alloc _ _ _ hW)⟩
theorem live_set {Wg : Nat} {w : World} (h : WgLive 89 Wg w) (a : Addr) (v : Value) (ha : a.block ≠ Wg) : WgLive 89 Wg (w.setCell a v) := let ⟨st, sm, x⟩ := h; ⟨st, sm, x.of_block ((aside_setCell w a v).block Wg (Ne.symm ha))⟩

theorem gk_set {A O : Bks} {w : World} {es : Array Event} (a : Addr) (v : Value) (ha : O a.block) (hA : A a.block) (he : ∀ e ∈ es, e = ⟨.cell a, true, false⟩) : GK A O A O w (w.setCell a v) es :=
  ⟨rfl, rfl, rfl, by simp, fun b _ hb => (aside_setCell w a v).block b (fun e => hb (e ▸ ha)), fun _ h => h, fun _ h => .inl h, fun _ h => h, fun _ h => .inl h, fun h => h, fun e h => by rw [he e h]; exact .inl ⟨_, rfl, hA, fun _ => ha, rfl⟩⟩

theorem run_makeFn (P : Program) (fn : Fn) (first cap : Array Value) (w : World) : (Instr.makeFunc fn first cap).run P w = .ok (.func fn first cap) w := rfl
theorem ev_makeFn (P : Program) (fn : Fn) (first cap : Array Value) (w : World) (es : Array Event) : (Instr.makeFunc fn first cap).events P w es = es := rfl

theorem gk_set2 {A O : Bks} {w : World} {es : Array Event} (B : Nat) (v u : Value) (ha : O B) (hA : A B) (he : ∀ e ∈ es, e = ⟨.cell ⟨B, 0, none⟩, true, false⟩ ∨ e = ⟨.cell ⟨B, 1, none⟩, true, false⟩) : GK A O A O w ((w.setCell ⟨B, 0, none⟩ v).setCell ⟨B, 1, none⟩ u) es :=
  ⟨rfl, rfl, rfl, by simp, fun b _ hb => ((aside_setCell _ ⟨B, 1, none⟩ u).block b (fun e => hb (e ▸ ha))).trans ((aside_setCell w ⟨B, 0, none⟩ v).block b (fun e => hb (e ▸ ha))), fun _ h => h, fun _ h => .inl h, fun _ h => h, fun _ h => .inl h, fun h => h, fun e h => by
    rcases he e h with h | h <;> rw [h] <;> exact .inl ⟨_, rfl, hA, fun _ => ha, rfl⟩⟩

/-- At the loop's head, j workers being started. -/
def AnchS (Wg Sb Vb n cc : Nat) (ka : Option Addr) (cs : List Frame) (j : Nat) (g : Goroutine) : Prop :=
  ∃ v0 v1 v3 v4 v7 v8 v9 v10 v11 v15 v16 v17 v18 v19 v20 v21 v22 v23 : Value, g = G (b42.at ⟨#[v0, v1, .pointer (some ⟨Sb, 0, none⟩), v3, v4, .pointer (some ⟨Vb, 0, none⟩), .pointer (some ⟨Wg, 0, none⟩), v7, v8, v9, v10, v11, .slice ka n cc, .int .i64 n, .int .i64 j, v15, v16, v17, v18, v19, v20, v21, v22, v23], []⟩ [.code L42, .inLoop L42, .inBlock 0, .code R42]) cs

/-- What stands at Wait. -/
def FW42 (A0 : Bks) (w0 : World) (Wg C Vb : Nat) (a : Act) (A O : Bks) (w : World) : Prop := (∃ v0 v1 v2 v3 v4 v6 v7 v8 v9 v10 v11 v12 v13 v14 v15 v16 v17 v18 v19 v20 v21 v22 v23 : Value, a = ⟨#[v0, v1, v2, v3, v4, .pointer (some ⟨Vb, 0, none⟩), v6, v7, v8, v9, v10, v11, v12, v13, v14, v15, v16, v17, v18, v19, v20, v21, v22, v23], []⟩) ∧ SF A0 A w0 Wg C w

noncomputable abbrev Anch42 (A0 : Bks) (w0 : World) (Wg C Vb : Nat) (cs : List Frame) : Bks → Bks → Goroutine → World → Prop := AnchW wgLink (FW42 A0 w0 Wg C Vb) Wg b42 (.inRegion ops22 (0 :: []) :: [.code tail42]) cs

theorem priv_walk {A O : Bks} {Wg : Nat} {r n C : Nat} {val : Nat → Value} {AW : Bks → Bks → Goroutine → World → Prop} {g g' : Goroutine} {w : World} {k : Nat}
    (h : ∀ (Stop : Goroutine → World → Prop) (m : Nat), Goes Try.prog true (RS 89 Wg A) (GK A O A O) Stop m g' w → Goes Try.prog true (RS 89 Wg A) (GK A O A O) Stop (m + k) g w)
    (hs : Spawns Try.prog 89 Wg C n val AW r A O g' w) : Spawns Try.prog 89 Wg C n val AW r A O g w := by
  have key : ∀ {Stop : Bks → Bks → Goroutine → World → Prop} {m : Nat}, Priv Try.prog true (RS 89 Wg) GK Stop m A O g' w → Priv Try.prog true (RS 89 Wg) GK Stop (m + (0 + k)) A O g w := fun {Stop m} hp => by
    have h1 := h (fun g w => Priv Try.prog true (RS 89 Wg) GK Stop m A O g w) 0 (fun w₁ r₁ => Priv.rely (fun _ _ _ _ x y => x.trans y) hp r₁)
    exact Priv.of_goes (Dg := GK A O A O) (fun _ _ _ h => h) (fun _ w => RS.refl w) (fun _ _ h => h) h1
  cases r with
  | zero => exact ⟨_, key hs.choose_spec⟩
  | succ r => exact ⟨_, key hs.choose_spec⟩

set_option maxRecDepth 100000 in
set_option maxHeartbeats 4000000 in
/-- ████ THE LOOP THAT STARTS THE WORKERS: j started, r to start. ████ -/
theorem spawns42 {A0 : Bks} {w0 : World} {Wg C Sb Vb Kb ko n cc Mb N : Nat} {f : Int → Option Value} {ka : Option Addr} {cs : List Frame} {val : Nat → Value} (hn : n ≤ 1073741823) (hka : 0 < n → ka = some ⟨Kb, ko, none⟩)
    (hV : A0 Vb ∧ w0.cell? ⟨Vb, 0, none⟩ = some (.slice (some ⟨C, 0, none⟩) n n)) (hS : A0 Sb ∧ w0.cell? ⟨Sb, 0, none⟩ = some (.map (some Mb))) (hM : A0 Mb ∧ MapF w0 Mb N f) (hK : 0 < n → A0 Kb) (hCW : Wg ≠ C)
    (hc : ∀ j, j < n → ∃ id sum th Bb off bc zs v0 v1 v2, Chk A0 w0 Kb ko Mb N f j id sum th Bb off bc zs v0 v1 v2 ∧ val j = .bool (badV th zs sum)) :
    ∀ (r j : Nat), j + r = n → ∀ (A : Bks) (g : Goroutine) (w : World), AnchS Wg Sb Vb n cc ka cs j g → SF A0 A w0 Wg C w ∧ WgLive 89 Wg w →
      Spawns Try.prog 89 Wg C n val (Anch42 A0 w0 Wg C Vb cs) r A (fun _ => False) g w := by
  have T : ∀ {A O : Bks}, Terms (RS 89 Wg A) (GK A O A O) := termsS
  have hk : b42.kind ≠ .early := by decide
  have mk1 := run_makeFn Try.prog
  have mk2 := ev_makeFn Try.prog
  have rl : ∀ {A : Bks} {w w₁ : World}, SF A0 A w0 Wg C w ∧ WgLive 89 Wg w → RS 89 Wg A w w₁ → SF A0 A w0 Wg C w₁ ∧ WgLive 89 Wg w₁ := fun h r => ⟨h.1.rely r, r.live h.2⟩
  intro r
  induction r with
  | zero =>
    intro j hj A g w hg hF
    obtain ⟨v0, v1, v3, v4, v7, v8, v9, v10, v11, v15, v16, v17, v18, v19, v20, v21, v22, v23, rfl⟩ := hg
    obtain rfl : j = n := by omega
    have hlt : ¬ ((j : Int) < (j : Int)) := by omega
    have hA := fun (a : Act) (hF' : FW42 A0 w0 Wg C Vb a A (fun _ => False) w ∧ WgLive 89 Wg w) => waitStart (L := wgLink) (P := Try.prog) (Wg := Wg) (A := A) (O := fun _ => False) (F := FW42 A0 w0 Wg C Vb) (b₀ := b42) (ops₀ := ops22) (i₀ := 0) (rest₀ := []) (k₀ := [.code tail42]) (cs := cs) wgLib (a := a) (fun w w' r h => ⟨h.1, h.2.rely r⟩) w hF'
    refine ⟨20, Priv.mono (priv_of_goes (Dg := GK A (fun _ => False) A (fun _ => False)) (fun _ _ _ h => h) (n := 3 + 10) ?_) (by omega)⟩
    simp only [L42, R42, body42, Try.f42, Option.getD_some]
    simp only [body_wait, waitFn, Option.getD_some] at hA
    refine gt_seq T ?_
    refine gt_reg T ?_
    simp only [List.size_toArray, List.length_cons, List.length_nil, Nat.reduceAdd, Nat.zero_add, List.range, List.range.loop]
    refine gt_val T (.bool false) rfl rfl hk (fun w₂ r₂ => ?_) ?_
    · refine ⟨run_of fun K hK => ?_, ?_⟩
      · go_simp; exact hK
      · rw [listed_nil (by simp [go_sem, *])]; exact T.idle _
    walk_nrm
    refine gt_end T ?_
    refine gt_seq T ?_
    refine gt_cond T false rfl ?_
    simp only [Bool.false_eq_true, if_false]
    refine gt_exit T rfl ?_
    refine gt_seq T ?_
    refine gt_reg T ?_
    simp only [List.size_toArray, List.length_cons, List.length_nil, Nat.reduceAdd, Nat.zero_add, List.range, List.range.loop]
    refine gt_enter T rfl rfl hk rfl Try.func59 rfl rfl ?_
    walk_nrmf Try.f59
    have hD : ∀ (w w' : World) (es : Array Event), DC0 w w' es → GK A (fun _ => False) A (fun _ => False) w w' es := fun w w' es h => by obtain ⟨rfl, rfl⟩ := h; exact GK.none (by simp)
    refine goes_chg (fun _ _ h => h) hD (hA _ ?_)
    exact ⟨⟨⟨_, _, _, _, _, _, _, _, _, _, _, _, _, _, _, _, _, _, _, _, _, _, _, rfl⟩, hF.1⟩, hF.2⟩
  | succ r ih =>
    intro j hj A g w hg hF
    obtain ⟨v0, v1, v3, v4, v7, v8, v9, v10, v11, v15, v16, v17, v18, v19, v20, v21, v22, v23, rfl⟩ := hg
    have hjn : j < n := by omega
    have hlt : (j : Int) < (n : Int) := by omega
    have hge : (0 : Int) ≤ (j : Int) := by omega
    have ej : n - (r + 1) = j := by omega
    obtain ⟨id, sum, th, Bb, off, bc, zs, u0, u1, u2, hchk, hval⟩ := hc j hjn
    have hKb := hK (by omega)
    obtain rfl := hka (by omega)
    show ∃ m, Priv Try.prog true (RS 89 Wg) GK (AtKdS Try.prog 89 Wg C n val (n - (r + 1)) (Spawns Try.prog 89 Wg C n val (Anch42 A0 w0 Wg C Vb cs) r)) m A (fun _ => False) _ w
    rw [ej]
    refine ⟨200, Priv.mono (Priv.of_goes (Dg := GK A (fun _ => False) A (fun _ => False)) (fun _ _ _ h => h) (fun _ w => RS.refl w) (fun _ _ h => h) (m := 100) (n := 30) ?_) (by omega)⟩
    simp only [L42, R42, ops22, tail42, body42, body_wait, Try.f42, waitFn, Option.getD_some]
    refine gt_seq T ?_
    refine gt_reg T ?_
    simp only [List.size_toArray, List.length_cons, List.length_nil, Nat.reduceAdd, Nat.zero_add, List.range, List.range.loop]
    refine gt_val T (.bool true) rfl rfl hk (fun w₂ r₂ => ?_) ?_
    · refine ⟨run_of fun K hK => ?_, ?_⟩
      · go_simp; exact hK
      · rw [listed_nil (by simp [go_sem, *])]; exact T.idle _
    walk_nrm
    refine gt_end T ?_
    refine gt_seq T ?_
    refine gt_cond T true rfl ?_
    simp only [if_true]
    refine gt_skip T ?_
    refine gt_seq T ?_
    refine gt_block T ?_
    refine gt_seq T ?_
    refine gt_reg T ?_
    simp only [List.size_toArray, List.length_cons, List.length_nil, Nat.reduceAdd, Nat.zero_add, List.range, List.range.loop]
    refine gt_val T (.int .i64 j) rfl rfl hk (fun w₂ r₂ => ?_) ?_
    · refine ⟨run_of fun K hK => ?_, ?_⟩
      · go_simp; exact hK
      · rw [listed_nil (by simp [go_sem, *])]; exact T.idle _
    walk_nrm
    refine gt_val T (.pointer (some ⟨Kb, ko + j * 2, none⟩)) rfl rfl hk (fun w₂ r₂ => ?_) ?_
    · refine ⟨run_of fun K hK => ?_, ?_⟩
      · go_simp; exact hK
      · rw [listed_nil (by simp [go_sem, *])]; exact T.idle _
    walk_nrm
    refine gt_val T (.agg #[.int .i64 id, .int .i64 sum]) rfl rfl hk (fun w₂ r₂ => ?_) ?_
    · have h2 := (hF.1.rely r₂)
      have k0 := (cell_of_block (h2.base Kb hKb) (ko + j * 2)).trans hchk.c0
      have k1 := (cell_of_block (h2.base Kb hKb) (ko + j * 2 + 1)).trans hchk.c1
      refine ⟨run_of fun K hK => ?_, GK.none fun e he => ?_⟩
      · go_simp; exact hK
      · have hm := mem_listed he
        simp [go_sem, *] at hm
        rcases hm with rfl | rfl
        · exact .inl ⟨_, rfl, h2.sub _ hKb, by simp, rfl⟩
        · exact .inl ⟨_, rfl, h2.sub _ hKb, by simp, rfl⟩
    walk_nrm
    -- this iteration's i and c are made
    refine Goes.stop fun w₂ r₂ => ?_
    replace hF := rl hF r₂
    clear r₂
    refine priv_alloc (m := 99) (Obj.cells #[.int .i64 0] 3) rfl rfl hk (fun _ => gk_alloc (fun b h => h.elim) _) (fun w₃ r₃ => ⟨run_of fun K hK => ?_, ?_⟩) fun w₃ r₃ => ?_
    · go_simp; exact hK
    · rw [listed_nil (by simp [go_sem, *])]
    replace hF := rl hF r₃
    clear r₃
    obtain ⟨Ib, hIb⟩ : ∃ Ib, w₃.heap.size = Ib := ⟨_, rfl⟩
    have nI : ¬ A0 Ib := fun h => by have := (hF.1.low _ (hF.1.sub _ h)).1; omega
    have hi := heap_alloc_new w₃ (.cells #[.int .i64 0] 3)
    replace hF := And.intro (hF.1.alloc (.cells #[.int .i64 0] 3)) (live_alloc hF.2 hF.1.hC.2 (.cells #[.int .i64 0] 3))
    rw [hIb] at hF hi ⊢
    generalize w₃.alloc (.cells #[.int .i64 0] 3) = w₄ at hF hi ⊢
    walk_nrm
    refine priv_alloc (m := 98) (.cells #[.int .i64 0, .int .i64 0] 53) rfl rfl hk (fun _ => gk_alloc (fun b h => by rcases h with h | rfl; (exact h.elim); (exact .inr rfl)) _) (fun w₅ r₅ => ⟨run_of fun K hK => ?_, ?_⟩) fun w₅ r₅ => ?_
    · go_simp; exact hK
    · rw [listed_nil (by simp [go_sem, *])]
    replace hF := rl hF r₅
    replace hi := (r₅.blk Ib (.inr rfl)).trans hi
    clear r₅
    have hIlt : Ib < w₅.heap.size := (Array.getElem?_eq_some_iff.1 hi).1
    obtain ⟨Cb, hCb⟩ : ∃ Cb, w₅.heap.size = Cb := ⟨_, rfl⟩
    have hne : Ib ≠ Cb := by omega
    have nC : ¬ A0 Cb := fun h => by have := (hF.1.low _ (hF.1.sub _ h)).1; omega
    have hc0 := heap_alloc_new w₅ (.cells #[.int .i64 0, .int .i64 0] 53)
    replace hi := (Below.heap_alloc w₅ (.cells #[.int .i64 0, .int .i64 0] 53) _ hIlt).trans hi
    replace hF := And.intro (hF.1.alloc (.cells #[.int .i64 0, .int .i64 0] 53)) (live_alloc hF.2 hF.1.hC.2 (.cells #[.int .i64 0, .int .i64 0] 53))
    rw [hCb] at hF hc0 ⊢
    generalize w₅.alloc (.cells #[.int .i64 0, .int .i64 0] 53) = w₆ at hF hi hc0 ⊢
    clear hIlt hCb hIb
    walk_nrm
    -- .. and written
    obtain ⟨A2, hA2⟩ : ∃ A2, plus (plus A Ib) Cb = A2 := ⟨_, rfl⟩
    obtain ⟨O2, hO2⟩ : ∃ O2, plus (plus (fun _ => False) Ib) Cb = O2 := ⟨_, rfl⟩
    have aI : A2 Ib := by rw [← hA2]; exact .inl (.inr rfl)
    have aC : A2 Cb := by rw [← hA2]; exact .inr rfl
    have oI : O2 Ib := by rw [← hO2]; exact .inl (.inr rfl)
    have oC : O2 Cb := by rw [← hO2]; exact .inr rfl
    rw [hA2] at hF ⊢
    rw [hO2]
    refine Priv.mono (m := 12 + 6) (priv_of_goes (Dg := GK A2 O2 A2 O2) (fun _ _ _ h => h) ?_) (by omega)
    refine gt_store T rfl rfl hk fun w₇ r₇ => ?_
    replace hF := rl hF r₇
    replace hi := (r₇.blk Ib aI).trans hi
    replace hc0 := (r₇.blk Cb aC).trans hc0
    clear r₇
    have k0 : w₇.cell? ⟨Ib, 0, none⟩ = some (.int .i64 0) := by simp [World.cell?, hi]
    have z0 : w₇.frozen? ⟨Ib, 0, none⟩ = false := by simp [World.frozen?, hi]
    refine ⟨w₇.setCell ⟨Ib, 0, none⟩ (.int .i64 j), run_of fun K hK => ?_, gk_set ⟨Ib, 0, none⟩ _ oI aI fun e he => ?_, ?_⟩
    · go_simp; exact hK
    · have hm := mem_listed he
      simp [go_sem, storedEv, *] at hm
      exact hm
    have hi' : (w₇.setCell ⟨Ib, 0, none⟩ (.int .i64 j)).cell? ⟨Ib, 0, none⟩ = some (.int .i64 j) := by simp [World.cell?, World.setCell, hi, Array.getElem?_modify]
    replace hc0 := ((aside_setCell w₇ ⟨Ib, 0, none⟩ (.int .i64 j)).block Cb (Ne.symm hne)).trans hc0
    replace hF := And.intro (hF.1.set ⟨Ib, 0, none⟩ (.int .i64 j) nI) (live_set hF.2 ⟨Ib, 0, none⟩ (.int .i64 j) (by have := hF.1.low Ib aI; exact this.2.2))
    clear k0 z0 hi
    generalize w₇.setCell ⟨Ib, 0, none⟩ (.int .i64 j) = w₈ at hF hi' hc0 ⊢
    walk_nrm
    refine gt_store T rfl rfl hk fun w₉ r₉ => ?_
    replace hF := rl hF r₉
    replace hi' := (cell_of_block (r₉.blk Ib aI) 0).trans hi'
    replace hc0 := (r₉.blk Cb aC).trans hc0
    clear r₉
    have k0 : w₉.cell? ⟨Cb, 0, none⟩ = some (.int .i64 0) := by simp [World.cell?, hc0]
    have k1 : w₉.cell? ⟨Cb, 1, none⟩ = some (.int .i64 0) := by simp [World.cell?, hc0]
    have z0 : w₉.frozen? ⟨Cb, 0, none⟩ = false := by simp [World.frozen?, hc0]
    have z1 : w₉.frozen? ⟨Cb, 1, none⟩ = false := by simp [World.frozen?, hc0]
    refine ⟨(w₉.setCell ⟨Cb, 0, none⟩ (.int .i64 id)).setCell ⟨Cb, 1, none⟩ (.int .i64 sum), run_of fun K hK => ?_, gk_set2 Cb _ _ oC aC fun e he => ?_, ?_⟩
    · go_simp; exact hK
    · have hm := mem_listed he
      simp [go_sem, storedEv, *] at hm
      exact hm
    have hc1 : ((w₉.setCell ⟨Cb, 0, none⟩ (.int .i64 id)).setCell ⟨Cb, 1, none⟩ (.int .i64 sum)).cell? ⟨Cb, 0, none⟩ = some (.int .i64 id) ∧ ((w₉.setCell ⟨Cb, 0, none⟩ (.int .i64 id)).setCell ⟨Cb, 1, none⟩ (.int .i64 sum)).cell? ⟨Cb, 1, none⟩ = some (.int .i64 sum) := by
      constructor <;> simp [World.cell?, World.setCell, hc0, Array.getElem?_modify]
    have nW : Cb ≠ Wg := (hF.1.low Cb aC).2.2
    replace hi' := (cell_of_block (((aside_setCell (w₉.setCell ⟨Cb, 0, none⟩ (.int .i64 id)) ⟨Cb, 1, none⟩ (.int .i64 sum)).block Ib hne).trans ((aside_setCell w₉ ⟨Cb, 0, none⟩ (.int .i64 id)).block Ib hne)) 0).trans hi'
    replace hF := And.intro ((hF.1.set ⟨Cb, 0, none⟩ (.int .i64 id) nC).set ⟨Cb, 1, none⟩ (.int .i64 sum) nC) (live_set (live_set hF.2 ⟨Cb, 0, none⟩ (.int .i64 id) nW) ⟨Cb, 1, none⟩ (.int .i64 sum) nW)
    clear k0 k1 z0 z1 hc0
    generalize (w₉.setCell ⟨Cb, 0, none⟩ (.int .i64 id)).setCell ⟨Cb, 1, none⟩ (.int .i64 sum) = wa at hF hi' hc1 ⊢
    walk_nrm
    refine gt_end T ?_
    refine gt_seq T ?_
    refine gt_reg T ?_
    simp only [List.size_toArray, List.length_cons, List.length_nil, Nat.reduceAdd, Nat.zero_add, List.range, List.range.loop]
    refine gt_enter T rfl rfl hk rfl Try.func56 rfl rfl ?_
    walk_nrmf Try.f56
    have hA := fun (b₀ : Frame) (a₀ : Act) (ops₀ : Array Oper) (i₀ : Nat) (rest₀ : List Nat) (k₀ : List Item) (cs : List Frame) (mT : Nat) => addPos (L := wgLink) (P := Try.prog) (Wg := Wg) (C := C) (n := n) (i := j) (A := A2) (O := O2) (val := val) (Next := Spawns Try.prog 89 Wg C n val (Anch42 A0 w0 Wg C Vb cs) r)
      (F := fun w => SF A0 A2 w0 Wg C w ∧ w.cell? ⟨Ib, 0, none⟩ = some (.int .i64 j) ∧ w.cell? ⟨Cb, 0, none⟩ = some (.int .i64 id) ∧ w.cell? ⟨Cb, 1, none⟩ = some (.int .i64 sum)) (b₀ := b₀) (a₀ := a₀) (ops₀ := ops₀) (i₀ := i₀) (rest₀ := rest₀) (k₀ := k₀) (cs := cs) (mT := mT) wgLib
      (fun w w' r h => ⟨h.1.rely r, (cell_of_block (r.blk _ aI) 0).trans h.2.1, (cell_of_block (r.blk _ aC) 0).trans h.2.2.1, (cell_of_block (r.blk _ aC) 1).trans h.2.2.2⟩)
      (fun w v h => ⟨h.1.setW _ _ rfl, (cell_of_block ((aside_setCell w (stA Wg) v).block Ib (h.1.low _ aI).2.2) 0).trans h.2.1, (cell_of_block ((aside_setCell w (stA Wg) v).block Cb (h.1.low _ aC).2.2) 0).trans h.2.2.1, (cell_of_block ((aside_setCell w (stA Wg) v).block Cb (h.1.low _ aC).2.2) 1).trans h.2.2.2⟩)
    simp only [body_add, addFn, Option.getD_some] at hA
    have hD : ∀ (w w' : World) (es : Array Event), DC0 w w' es → GK A2 O2 A2 O2 w w' es := fun w w' es h => by obtain ⟨rfl, rfl⟩ := h; exact GK.none (by simp)
    refine goes_chg (fun _ _ h => h) hD (hA _ _ _ _ _ _ _ 10 ?_ _ ⟨⟨hF.1, hi', hc1.1, hc1.2⟩, hF.2⟩)
    clear hA hF hi' hc1 hD
    intro w' h1 h2
    walk_nrm
    refine Priv.mono (m := 3) (priv_of_goes (Dg := GK A2 O2 A2 O2) (fun _ _ _ h => h) ?_) (by omega)
    refine gt_end T ?_
    refine gt_reg T ?_
    simp only [List.size_toArray, List.length_cons, List.length_nil, Nat.reduceAdd, Nat.zero_add, List.range, List.range.loop]
    refine gt_val T (.func (.func 57) #[] #[.pointer (some ⟨Wg, 0, none⟩), .pointer (some ⟨Sb, 0, none⟩), .pointer (some ⟨Cb, 0, none⟩), .pointer (some ⟨Vb, 0, none⟩), .pointer (some ⟨Ib, 0, none⟩)]) rfl rfl hk (fun w₂ r₂ => ?_) ?_
    · refine ⟨run_of fun K hK => ?_, ?_⟩
      · go_simp; exact hK
      · rw [listed_nil (by simp [go_sem, *])]; exact T.idle _
    walk_nrm
    -- THE go STATEMENT
    refine Goes.stop (fun w₂ r₂ => ?_)
    have hF := rl ⟨h1.1, h2⟩ r₂
    have hi' := (cell_of_block (r₂.blk _ aI) 0).trans h1.2.1
    have hc1 := (cell_of_block (r₂.blk _ aC) 0).trans h1.2.2.1
    have hc2 := (cell_of_block (r₂.blk _ aC) 1).trans h1.2.2.2
    clear r₂ h1 h2
    refine ⟨rfl, ?_⟩
    rw [stepG_spawn (d := call57 Wg Sb Cb Vb Ib) (w' := w₂) (f := .func 57) (c := #[.pointer (some ⟨Wg, 0, none⟩), .pointer (some ⟨Sb, 0, none⟩), .pointer (some ⟨Cb, 0, none⟩), .pointer (some ⟨Vb, 0, none⟩), .pointer (some ⟨Ib, 0, none⟩)]) rfl rfl hk (by simp [go_sem, call57, Deferred.ofValue]) rfl]
    generalize hL : listed _ _ _ _ _ = Lx
    have hLx : Lx = #[] := by
      rw [← hL]
      simp [listed, go_sem, seen, Deferred.ofValue]
      rfl
    subst hLx
    clear hL
    refine ⟨_, _, A2, rfl, rfl, fun _ h => h, fun hpay => ?_, ?_⟩
    · rw [hval]
      refine works57 (Wg := Wg) (Sb := Sb) (Cb := Cb) (Vb := Vb) (Ib := Ib) (Mb := Mb) (N := N) (id := id) (f := f) (Bb := Bb) (off := off) (bc := bc) (v0 := u0) (v1 := u1) (v2 := u2) ⟨hF.1.sub _ hV.1, aI, aC, hF.1.sub _ hS.1, hF.1.sub _ hM.1, fun t => hF.1.sub _ (hchk.inA t)⟩ hF.1.low hF.1.hC.1 hF.1.hC.2 hCW hjn hchk.bd hchk.wf hchk.val hchk.there hchk.i0 hchk.i1 hchk.i2 hchk.blk
        ⟨hF.2, hpay, (cell_of_block (hF.1.base _ hV.1) 0).trans hV.2, hi', hc1, hc2, (cell_of_block (hF.1.base _ hS.1) 0).trans hS.2, hM.2.block (hF.1.base _ hM.1), fun t => ⟨fun q hq => (cell_of_block (hF.1.base _ (hchk.inA t)) _).trans ((hchk.row t).cells q hq)⟩⟩
    -- ON TO THE LOOP's HEAD
    · refine priv_walk (k := 7) (g' := G (b42.at ⟨#[v0, v1, .pointer (some ⟨Sb, 0, none⟩), v3, v4, .pointer (some ⟨Vb, 0, none⟩), .pointer (some ⟨Wg, 0, none⟩), .pointer (some ⟨Ib, 0, none⟩), .pointer (some ⟨Cb, 0, none⟩), v9, v10, v11, .slice (some ⟨Kb, ko, none⟩) n cc, .int .i64 n, .int .i64 (j + 1 : Nat), .bool true, .int .i64 j, .pointer (some ⟨Kb, ko + j * 2, none⟩), .agg #[.int .i64 id, .int .i64 sum], .tuple #[], .func (.func 57) #[] #[.pointer (some ⟨Wg, 0, none⟩), .pointer (some ⟨Sb, 0, none⟩), .pointer (some ⟨Cb, 0, none⟩), .pointer (some ⟨Vb, 0, none⟩), .pointer (some ⟨Ib, 0, none⟩)], .int .i64 (j + 1 : Nat), v22, v23], []⟩ [.code L42, .inLoop L42, .inBlock 0, .code R42]) cs) (fun Stop m hh => ?_) (ih (j + 1) (by omega) A2 _ w₂ ⟨_, _, _, _, _, _, _, _, _, _, _, _, _, _, _, _, _, _, rfl⟩ hF)
      have hwr : IntKind.i64.wrap ((j : Int) + 1) = ((j + 1 : Nat) : Int) := by rw [IntKind.wrap_i64]; omega
      walk_nrm
      refine gt_end T ?_
      refine gt_inBlock T ?_
      refine gt_reg T ?_
      simp only [List.size_toArray, List.length_cons, List.length_nil, Nat.reduceAdd, Nat.zero_add, List.range, List.range.loop]
      refine gt_val T (.int .i64 (j + 1 : Nat)) rfl rfl hk (fun w₂ r₂ => ?_) ?_
      · refine ⟨run_of fun K hK => ?_, ?_⟩
        · go_simp; exact hK
        · rw [listed_nil (by simp [go_sem, *])]; exact T.idle _
      walk_nrm
      refine gt_val T (.int .i64 (j + 1 : Nat)) rfl rfl hk (fun w₂ r₂ => ?_) ?_
      · refine ⟨run_of fun K hK => ?_, ?_⟩
        · go_simp; exact hK
        · rw [listed_nil (by simp [go_sem, *])]; exact T.idle _
      walk_nrm
      refine gt_end T ?_
      refine gt_inLoop T ?_
      exact hh
end Go.Proofs.Ytajheicheefpeaa

/- badOf, beside leavers: it forks, joins, and comes back with what is bad. -/
namespace Go.Proofs.Ytajheicheefpeaa
open Go.Proofs
open Go.Conc Go.RowKit
open Go.ConcN (WgLive PayAt Has AsideCell cell_of_block Full)
open Go.ConcR (KK wgBlock WgAt stA smA DC0)
open Go.Conc.Lib Go.ConcR.Gen Go.ConcN.Gen
set_option linter.unusedSimpArgs false
set_option linter.unusedVariables false

theorem infoB : (Try.prog.info? 4).map (fun i => (i.zero, i.size, i.bytes)) = some (some (.bool false), 1, 1) := by kernel_rfl

/-- What is known of check j and of its block in the store, where badOf is called. -/
structure ChkW (F : Bks) (w : World) (Kb ko : Nat) (f : Int → Option Value) (j : Nat) (id sum : Int) (th : Bool) (Bb off bc : Nat) (zs : List Int) (v0 v1 v2 : Value) : Prop where
  c0 : w.cell? ⟨Kb, ko + j * 2, none⟩ = some (.int .i64 id)
  c1 : w.cell? ⟨Kb, ko + j * 2 + 1, none⟩ = some (.int .i64 sum)
  bd : -9223372036854775808 ≤ sum ∧ sum < 9223372036854775808
  wf : (Lit.int .i64 id).wf = true
  val : (f id).getD (.agg #[.int .i64 0, .slice none 0 0, .int .i64 0]) = .agg #[v0, v1, v2]
  there : (f id).isSome = th
  i0 : ∃ x, v0 = .int .i64 x
  i1 : ∃ a l k, v1 = .slice a l k
  i2 : ∃ x, v2 = .int .i64 x
  blk : th = true → v1 = .slice (some ⟨Bb, off, none⟩) zs.length bc ∧ blockV zs = true
  row : th = true → RowC Bb off zs.length zs w
  inA : th = true → Bb < w.heap.size ∧ ¬ F Bb

/-- The world has k more blocks. -/
structure Up (w W : World) (k : Nat) : Prop where
  tape : W.tape = w.tape
  os : W.os = w.os
  output : W.output = w.output
  size : W.heap.size = w.heap.size + k
  blk : ∀ b, b < w.heap.size → W.heap[b]? = w.heap[b]?

theorem Up.refl (w : World) : Up w w 0 := ⟨rfl, rfl, rfl, rfl, fun _ _ => rfl⟩
theorem Up.at {w W : World} {k : Nat} (h : Up w W k) (d : Nat) : Up w (W.at d) k := ⟨h.tape, h.os, h.output, h.size, h.blk⟩
theorem Up.alloc {w W : World} {k : Nat} (h : Up w W k) (o : Obj) : Up w (W.alloc o) (k + 1) :=
  ⟨h.tape, h.os, h.output, by simp [h.size]; omega, fun b hb => (Below.heap_alloc _ _ _ (by rw [h.size]; omega)).trans (h.blk b hb)⟩
theorem Up.set {w W : World} {k : Nat} (h : Up w W k) (a : Addr) (v : Value) (ha : w.heap.size ≤ a.block) : Up w (W.setCell a v) k :=
  ⟨h.tape, h.os, h.output, by simp [h.size], fun b hb => ((aside_setCell W a v).block b (by omega)).trans (h.blk b hb)⟩

theorem db_alloc {F : Bks} {w : World} (o : Obj) : DB F w (w.alloc o) #[] := ⟨by simp, by simp⟩
theorem db_set {F : Bks} {w : World} {es : Array Event} (a : Addr) (v : Value) (ha : a.block < w.heap.size) (hF : ¬ F a.block) (he : ∀ e ∈ es, e = ⟨.cell a, true, false⟩) : DB F w (w.setCell a v) es :=
  ⟨by simp, fun e h => by rw [he e h]; exact .inl ⟨a, rfl, by simpa using ha, hF, rfl⟩⟩

set_option maxRecDepth 100000 in
set_option maxHeartbeats 4000000 in
theorem ok_badOf {F : Bks} {p : Nat} {Post : Value → World → Prop} {b : Frame} {a : Act} {ops : Array Oper} {i : Nat} {rest : List Nat} {o : Oper} {ats : Array TypeId} {args : Array Operand} {k : List Item} {cs : List Frame} {w : World} {ka : Option Addr} {n cc Mb N Kb ko : Nat} {f : Int → Option Value} {val : Nat → Value} {vals : List Value}
    (ho : ops[i]? = some o) (hwt : Region.wanted o (yielded ops a.tmps) = true) (hkb : b.kind ≠ .early) (hop : o.op = .call { callee := .value (.func 42), args := args, argTypes := ats }) (hargs : args.map a.eval = #[.map (some Mb), .slice ka n cc])
    (hp : 0 < p) (hpn : p - 1 + n < 2147483648) (hn : n ≤ 1048576) (hF : ∀ b, F b → b < w.heap.size) (hM : MapF w Mb N f ∧ ¬ F Mb) (hK : 0 < n → ka = some ⟨Kb, ko, none⟩ ∧ Kb < w.heap.size ∧ ¬ F Kb)
    (hc : ∀ j, j < n → ∃ id sum th Bb off bc zs v0 v1 v2, ChkW F w Kb ko f j id sum th Bb off bc zs v0 v1 v2 ∧ val j = .bool (badV th zs sum)) (hl : vals.length = n) (hv : ∀ j, j < n → vals[j]? = some (val j))
    (hnext : ∀ (w' : World) (C Wg : Nat), (∀ b, b < w.heap.size → ¬ F b → w'.heap[b]? = w.heap[b]?) → (∀ b, F b → w'.heap[b]? = w.heap[b]?) → w.heap.size ≤ C → w.heap.size ≤ Wg → C ≠ Wg → w'.heap[C]? = some (.cells vals.toArray 4) → w'.heap[Wg]? = some (.cells #[.int .u64 0, .int .u32 0] 89) →
      w'.tape = w.tape → w'.os = w.os → w'.output = w.output → Ok Try.prog (FW F Wg) (p + n) Post (G (b.at (a.put o.dst (.slice (some ⟨C, 0, none⟩) n n)) (.inRegion ops rest :: k)) cs) w') :
    Ok Try.prog F p Post (G (b.at a (.inRegion ops (i :: rest) :: k)) cs) w := by
  have T : Terms AtRel (DB F) := termsB
  have hk : b42.kind ≠ .early := by decide
  obtain ⟨i0, hi, hz0, hz1, hz2⟩ := info_parts infoB
  have hmk := fun w => run_make (P := Try.prog) w 69 4 i0 (.bool false) Try.underlying69 hi hz0 .i64 .i64 n n (by omega) (by omega) (by rw [hz2]; omega) (by omega)
  have hme := fun w es => events_make (P := Try.prog) w 69 4 i0 (.bool false) Try.underlying69 hi hz0 .i64 .i64 n n (by omega) (by omega) (by rw [hz2]; omega) (by omega) (by rw [hz2]; simp; omega) es
  refine ok_goes (Stop := Ok Try.prog F p Post) (fun _ _ h => h) (n := 40) ?_
  refine gt_enter T ho hwt hkb hop Try.func42 rfl rfl ?_
  rw [hargs]
  simp only [Try.f42, Option.getD_some, List.size_toArray, List.length_cons, List.length_nil, Nat.reduceAdd, Nat.reduceSub, Array.replicate_succ, Array.replicate_zero, List.push_toArray, List.append_toArray, List.nil_append, List.cons_append]
  refine gt_seq T ?_
  refine gt_reg T ?_
  simp only [List.size_toArray, List.length_cons, List.length_nil, Nat.reduceAdd, Nat.zero_add, List.range, List.range.loop]
  obtain ⟨B, hB⟩ : ∃ B, w.heap.size = B := ⟨_, rfl⟩
  have U := Up.refl w
  -- the box
  refine gt_new T rfl rfl hk fun w₁ r₁ => ?_
  obtain ⟨d₁, rfl⟩ := r₁
  have e0 : (w.at d₁).heap.size = B := hB
  refine ⟨.pointer (some ⟨B, 0, none⟩), (w.at d₁).alloc (.cells #[.map (some Mb)] 66), run_of fun K hK => ?_, ?_, ?_⟩
  · go_simp
    exact hK
  · rw [listed_nil (by simp [go_sem, *])]; exact db_alloc _
  replace U := (U.at d₁).alloc (.cells #[.map (some Mb)] 66)
  have hSb := heap_alloc_new (w.at d₁) (.cells #[.map (some Mb)] 66)
  rw [e0] at hSb
  generalize (w.at d₁).alloc (.cells #[.map (some Mb)] 66) = W1 at U hSb ⊢
  clear e0
  walk_nrm
  refine gt_val T (.slice none 0 0) rfl rfl hk (fun w₂ r₂ => ?_) ?_
  · refine ⟨run_of fun K hK => ?_, ?_⟩
    · go_simp; exact hK
    · rw [listed_nil (by simp [go_sem, *])]; exact T.idle _
  walk_nrm
  refine gt_end T ?_
  refine gt_seq T ?_
  refine gt_reg T ?_
  simp only [List.size_toArray, List.length_cons, List.length_nil, Nat.reduceAdd, Nat.zero_add, List.range, List.range.loop]
  refine gt_val T (.slice ka n cc) rfl rfl hk (fun w₂ r₂ => ?_) ?_
  · refine ⟨run_of fun K hK => ?_, ?_⟩
    · go_simp; exact hK
    · rw [listed_nil (by simp [go_sem, *])]; exact T.idle _
  walk_nrm
  refine gt_val T (.int .i64 n) rfl rfl hk (fun w₂ r₂ => ?_) ?_
  · refine ⟨run_of fun K hK => ?_, ?_⟩
    · go_simp; exact hK
    · rw [listed_nil (by simp [go_sem, *])]; exact T.idle _
  walk_nrm
  -- the payload
  refine gt_new T rfl rfl hk fun w₁ r₁ => ?_
  obtain ⟨d₁, rfl⟩ := r₁
  have e0 : (W1.at d₁).heap.size = B + 1 := by have := U.size; rw [hB] at this; exact this
  refine ⟨.slice (some ⟨B + 1, 0, none⟩) n n, (W1.at d₁).alloc (.cells (madeCells #[.bool false] n) 4), run_of fun K hK => ?_, ?_, ?_⟩
  · go_simp
    exact hK
  · rw [listed_nil (by simp [go_sem, *])]; exact db_alloc _
  replace U := (U.at d₁).alloc (.cells (madeCells #[.bool false] n) 4)
  have hCb := heap_alloc_new (W1.at d₁) (.cells (madeCells #[.bool false] n) 4)
  replace hSb := (Below.heap_alloc (W1.at d₁) (.cells (madeCells #[.bool false] n) 4) B (by omega)).trans hSb
  rw [e0] at hCb
  generalize (W1.at d₁).alloc (.cells (madeCells #[.bool false] n) 4) = W2 at U hSb hCb ⊢
  clear e0 hmk hme
  walk_nrm
  -- the variable
  refine gt_new T rfl rfl hk fun w₁ r₁ => ?_
  obtain ⟨d₁, rfl⟩ := r₁
  have e0 : (W2.at d₁).heap.size = B + 2 := by have := U.size; rw [hB] at this; exact this
  refine ⟨.pointer (some ⟨B + 2, 0, none⟩), (W2.at d₁).alloc (.cells #[.slice none 0 0] 69), run_of fun K hK => ?_, ?_, ?_⟩
  · go_simp
    exact hK
  · rw [listed_nil (by simp [go_sem, *])]; exact db_alloc _
  replace U := (U.at d₁).alloc (.cells #[.slice none 0 0] 69)
  have hVb := heap_alloc_new (W2.at d₁) (.cells #[.slice none 0 0] 69)
  replace hSb := (Below.heap_alloc (W2.at d₁) (.cells #[.slice none 0 0] 69) B (by omega)).trans hSb
  replace hCb := (Below.heap_alloc (W2.at d₁) (.cells #[.slice none 0 0] 69) (B + 1) (by omega)).trans hCb
  rw [e0] at hVb
  generalize (W2.at d₁).alloc (.cells #[.slice none 0 0] 69) = W3 at U hSb hCb hVb ⊢
  clear e0
  walk_nrm
  refine gt_store T rfl rfl hk fun w₁ r₁ => ?_
  obtain ⟨d₁, rfl⟩ := r₁
  have e0 : (W3.at d₁).heap.size = B + 3 := by have := U.size; rw [hB] at this; exact this
  replace hVb : (W3.at d₁).heap[B + 2]? = some (.cells #[.slice none 0 0] 69) := hVb
  have k0 : (W3.at d₁).cell? ⟨B + 2, 0, none⟩ = some (.slice none 0 0) := by simp [World.cell?, hVb]
  have z0 : (W3.at d₁).frozen? ⟨B + 2, 0, none⟩ = false := by simp [World.frozen?, hVb]
  refine ⟨(W3.at d₁).setCell ⟨B + 2, 0, none⟩ (.slice (some ⟨B + 1, 0, none⟩) n n), run_of fun K hK => ?_, db_set ⟨B + 2, 0, none⟩ _ (by simp; omega) (fun h => by have := hF _ h; simp at this; omega) fun e he => ?_, ?_⟩
  · go_simp; exact hK
  · have hm := mem_listed he
    simp [go_sem, ev_store_slice, storedEv, *] at hm
    exact hm
  replace U := (U.at d₁).set ⟨B + 2, 0, none⟩ (.slice (some ⟨B + 1, 0, none⟩) n n) (by simp; omega)
  have hVc : ((W3.at d₁).setCell ⟨B + 2, 0, none⟩ (.slice (some ⟨B + 1, 0, none⟩) n n)).cell? ⟨B + 2, 0, none⟩ = some (.slice (some ⟨B + 1, 0, none⟩) n n) := by simp [World.cell?, World.setCell, hVb, Array.getElem?_modify]
  replace hSb := ((aside_setCell (W3.at d₁) ⟨B + 2, 0, none⟩ (.slice (some ⟨B + 1, 0, none⟩) n n)).block B (by simp)).trans hSb
  replace hCb := ((aside_setCell (W3.at d₁) ⟨B + 2, 0, none⟩ (.slice (some ⟨B + 1, 0, none⟩) n n)).block (B + 1) (by simp)).trans hCb
  generalize (W3.at d₁).setCell ⟨B + 2, 0, none⟩ (.slice (some ⟨B + 1, 0, none⟩) n n) = W4 at U hSb hCb hVc ⊢
  clear e0 k0 z0 hVb
  walk_nrm
  refine gt_end T ?_
  refine gt_seq T ?_
  refine gt_reg T ?_
  simp only [List.size_toArray, List.length_cons, List.length_nil, Nat.reduceAdd, Nat.zero_add, List.range, List.range.loop]
  -- THE FORK
  refine Goes.stop fun w₁ r₁ => ?_
  obtain ⟨d₁, rfl⟩ := r₁
  have e5 : (W4.at d₁).heap.size = B + 3 := by have := U.size; rw [hB] at this; exact this
  replace U := U.at d₁
  replace hSb : (W4.at d₁).heap[B]? = some (.cells #[.map (some Mb)] 66) := hSb
  replace hCb : (W4.at d₁).heap[B + 1]? = some (.cells (madeCells #[.bool false] n) 4) := hCb
  replace hVc : (W4.at d₁).cell? ⟨B + 2, 0, none⟩ = some (.slice (some ⟨B + 1, 0, none⟩) n n) := hVc
  generalize W4.at d₁ = W5 at U hSb hCb hVc e5 ⊢
  have hFB : ∀ b, F b → b < B := fun b h => by have := hF b h; omega
  have hold : ∀ b, b < B + 3 → (W5.alloc (wgBlock 89 0 0)).heap[b]? = W5.heap[b]? := fun b h => Below.heap_alloc _ _ _ (by omega)
  have hw : ∀ b, b < B → (W5.alloc (wgBlock 89 0 0)).heap[b]? = w.heap[b]? := fun b h => (hold b (by omega)).trans (U.blk b (by omega))
  have hlast := heap_alloc_new W5 (wgBlock 89 0 0)
  obtain ⟨A0, hA0⟩ : ∃ A0 : Bks, (fun b => b < W5.heap.size ∧ b ≠ B + 1 ∧ ¬ F b) = A0 := ⟨_, rfl⟩
  have inA : ∀ b, b < B + 3 → b ≠ B + 1 → ¬ F b → A0 b := fun b h1 h2 h3 => by rw [← hA0]; exact ⟨by omega, h2, h3⟩
  have ofA : ∀ b, A0 b → b < B + 3 ∧ b ≠ B + 1 ∧ ¬ F b := fun b h => by rw [← hA0] at h; exact ⟨by have := h.1; omega, h.2⟩
  have hMlt := hM.1.lt
  refine ok_crew (ty := 89) (C := B + 1) (n := n) (val := val) (vals := vals)
    (Ret := RetW wgLink (FW42 A0 (W5.alloc (wgBlock 89 0 0)) W5.heap.size (B + 1) (B + 2)) W5.heap.size b42 ((ops22[0]?).bind (·.dst)) (.inRegion ops22 [] :: [.code tail42]) (b.at a (.inRegion ops (i :: rest) :: k) :: cs))
    (AnchW := Anch42 A0 (W5.alloc (wgBlock 89 0 0)) W5.heap.size (B + 1) (B + 2) (b.at a (.inRegion ops (i :: rest) :: k) :: cs))
    hl hv hp hpn anchW_running (fun A O g w' h => waitRound (L := wgLink) (P := Try.prog) (b₀ := b42) (ops₀ := ops22) (i₀ := 0) (rest₀ := []) (k₀ := [.code tail42]) (cs := b.at a (.inRegion ops (i :: rest) :: k) :: cs) wgLib (fun a w w' r h => ⟨h.1, h.2.rely r⟩) (fun a w x v hx h => ⟨h.1, h.2.setW x v hx⟩) g w' h)
    ⟨by omega, fun h => by have := hFB _ h; omega⟩ (fun b h => by have := hFB b h; omega) rfl (fun w₁ r₁ => ?_) (fun A O a' w₁ w' r₁ hrun hret hfull hkept hwg => ?_)
  · obtain ⟨d₂, rfl⟩ := r₁
    refine ⟨_, (stepG_value (v := .pointer (some ⟨W5.heap.size, 0, none⟩)) (w' := (W5.at d₂).alloc (wgBlock 89 0 0)) rfl rfl hk (run_of fun K hK => ?_)).trans (by rw [listed_nil (by simp [go_sem, *])]), ?_, ?_⟩
    · go_simp
      exact hK
    · exact ⟨_, (hold (B + 1) (by omega)).trans hCb, size_madeCells _ _⟩
    · rw [hA0]
      have TS : ∀ {A O : Bks}, Terms (RS 89 W5.heap.size A) (GK A O A O) := termsS
      refine priv_walk (k := 10) (g' := G (b42.at ⟨#[.map (some Mb), .slice ka n cc, .pointer (some ⟨B, 0, none⟩), undef, .slice none 0 0, .pointer (some ⟨B + 2, 0, none⟩), .pointer (some ⟨W5.heap.size, 0, none⟩), undef, undef, .slice ka n cc, .int .i64 n, .slice (some ⟨B + 1, 0, none⟩) n n, .slice ka n cc, .int .i64 n, .int .i64 (0 : Nat), undef, undef, undef, undef, undef, undef, undef, undef, undef], []⟩ [.code L42, .inLoop L42, .inBlock 0, .code R42]) (b.at a (.inRegion ops (i :: rest) :: k) :: cs)) (fun Stop m hh => ?_)
        (spawns42 (Wg := W5.heap.size) (C := B + 1) (Sb := B) (Vb := B + 2) (Kb := Kb) (ko := ko) (n := n) (cc := cc) (Mb := Mb) (N := N) (f := f) (ka := ka) (by omega) (fun h => (hK h).1) ⟨inA _ (by omega) (by omega) (fun h => by have := hFB _ h; omega), (cell_of_block (hold (B + 2) (by omega)) 0).trans hVc⟩
          ⟨inA _ (by omega) (by omega) (fun h => by have := hFB _ h; omega), by simp [World.cell?, (hold B (by omega)).trans hSb]⟩ ⟨inA _ (by omega) (by omega) hM.2, hM.1.block (hw Mb (by omega))⟩ (fun h => inA _ (by have := (hK h).2.1; omega) (by have := (hK h).2.1; omega) (hK h).2.2) (by omega) (fun j hj => ?_) n 0 (by omega) A0 _ _ ⟨_, _, _, _, _, _, _, _, _, _, _, _, _, _, _, _, _, _, rfl⟩ ⟨⟨fun b hb => rfl, fun b hb => hb, fun b hb => ?_, ?_⟩, _, _, hlast⟩)
      · have hk := hk
        walk_nrm
        refine gt_end TS ?_
        refine gt_seq TS ?_
        refine gt_seq TS ?_
        refine gt_reg TS ?_
        simp only [List.size_toArray, List.length_cons, List.length_nil, Nat.reduceAdd, Nat.zero_add, List.range, List.range.loop]
        refine gt_val TS (.slice ka n cc) rfl rfl hk (fun w₂ r₂ => ?_) ?_
        · refine ⟨run_of fun K hK => ?_, ?_⟩
          · go_simp; exact hK
          · rw [listed_nil (by simp [go_sem, *])]; exact GK.none (by simp)
        walk_nrm
        refine gt_val TS (.int .i64 n) rfl rfl hk (fun w₂ r₂ => ?_) ?_
        · refine ⟨run_of fun K hK => ?_, ?_⟩
          · go_simp; exact hK
          · rw [listed_nil (by simp [go_sem, *])]; exact GK.none (by simp)
        walk_nrm
        refine gt_val TS (.int .i64 (0 : Nat)) rfl rfl hk (fun w₂ r₂ => ?_) ?_
        · refine ⟨run_of fun K hK => ?_, ?_⟩
          · go_simp; exact hK
          · rw [listed_nil (by simp [go_sem, *])]; exact GK.none (by simp)
        walk_nrm
        refine gt_end TS ?_
        refine gt_block TS ?_
        refine gt_loop TS ?_
        exact hh
      · obtain ⟨id, sum, th, Bb, off, bc, zs, u0, u1, u2, h, hval⟩ := hc j hj
        have hKb := (hK (by omega)).2.1
        exact ⟨id, sum, th, Bb, off, bc, zs, u0, u1, u2, ⟨(cell_of_block (hw Kb (by omega)) _).trans h.c0, (cell_of_block (hw Kb (by omega)) _).trans h.c1, h.bd, h.wf, h.val, h.there, h.i0, h.i1, h.i2, h.blk,
          fun t => ⟨fun q hq => (cell_of_block (hw Bb (by have := (h.inA t).1; omega)) _).trans ((h.row t).cells q hq)⟩, fun t => inA _ (by have := (h.inA t).1; omega) (by have := (h.inA t).1; omega) (h.inA t).2⟩, hval⟩
      · have := ofA b hb
        refine ⟨?_, this.2.1, by omega⟩
        rw [World.size_alloc]; show b < W5.heap.size + 1; omega
      · refine ⟨?_, ?_⟩ <;> rw [World.size_alloc]
        · show B + 1 < W5.heap.size + 1; omega
        · show W5.heap.size < W5.heap.size + 1; omega
  · obtain ⟨a2, rfl, ⟨⟨v0, v1, v2, v3, v4, v6, v7, v8, v9, v10, v11, v12, v13, v14, v15, v16, v17, v18, v19, v20, v21, v22, v23, rfl⟩, hSF⟩, hlive⟩ := hret
    obtain ⟨d₂, rfl⟩ := r₁
    have TB : Terms AtRel (DB (FW F W5.heap.size)) := termsB
    have hV2 : w'.cell? ⟨B + 2, 0, none⟩ = some (.slice (some ⟨B + 1, 0, none⟩) n n) := (cell_of_block (hSF.base (B + 2) (inA _ (by omega) (by omega) (fun h => by have := hFB _ h; omega))) 0).trans ((cell_of_block (hold (B + 2) (by omega)) 0).trans hVc)
    have hVlt : B + 2 < w'.heap.size := by have := (hSF.low _ (hSF.sub _ (inA (B + 2) (by omega) (by omega) (fun h => by have := hFB _ h; omega)))).1; exact this
    refine ok_goes (Stop := Ok Try.prog (FW F W5.heap.size) (p + n) Post) (fun _ _ h => h) (n := 20) ?_
    simp only [ops22, tail42, R42, body42, Try.f42, Option.getD_some]
    walk_nrm
    refine gt_end TB ?_
    refine gt_seq TB ?_
    refine gt_reg TB ?_
    simp only [List.size_toArray, List.length_cons, List.length_nil, Nat.reduceAdd, Nat.zero_add, List.range, List.range.loop]
    refine gt_val TB (.slice (some ⟨B + 1, 0, none⟩) n n) rfl rfl hk (fun w₂ r₂ => ?_) ?_
    · obtain ⟨d₃, rfl⟩ := r₂
      replace hV2 : (w'.at d₃).cell? ⟨B + 2, 0, none⟩ = some (.slice (some ⟨B + 1, 0, none⟩) n n) := hV2
      refine ⟨run_of fun K hK => ?_, ⟨Nat.le_refl _, fun e he => ?_⟩⟩
      · go_simp; exact hK
      · have hm := mem_listed he
        simp [go_sem, *] at hm
        subst hm
        exact .inl ⟨_, rfl, hVlt, fun h => by rcases h with h | h; (have h' := hFB _ h; have h'' : B + 2 < B := h'; omega); (have h' : B + 2 = W5.heap.size := h; omega), rfl⟩
    walk_nrm
    refine gt_val TB (.slice (some ⟨B + 1, 0, none⟩) n n) rfl rfl hk (fun w₂ r₂ => ?_) ?_
    · refine ⟨run_of fun K hK => ?_, ?_⟩
      · go_simp; exact hK
      · rw [listed_nil (by simp [go_sem, *])]; exact TB.idle _
    walk_nrm
    refine gt_end TB ?_
    refine gt_ret TB ?_
    refine gt_leave1 TB rfl Try.func42 rfl ?_
    refine Goes.stop fun w₃ r₃ => ?_
    obtain ⟨d₃, rfl⟩ := r₃
    rw [ho]
    refine hnext (w'.at d₃) (B + 1) W5.heap.size (fun b hb hFb => ?_) (fun b hb => ?_) (by omega) (by omega) (by omega) hfull hwg ?_ ?_ ?_
    · exact (hSF.base b (inA b (by omega) (by omega) hFb)).trans (hw b (by omega))
    · exact (hkept.blk b hb).trans (hw b (by have := hFB b hb; omega))
    · exact hkept.tape.trans U.tape
    · exact hkept.os.trans U.os
    · exact hkept.output.trans U.output
end Go.Proofs.Ytajheicheefpeaa

/- Plain: a block of a store by its id; the bytes of a file by the ids of its blocks. -/
namespace Go.Proofs.Ytajheicheefpeaa
set_option linter.unusedVariables false

/-- The block with an id. -/
def atV (vs : List (Int × List Int × Int)) (i : Int) : Option (Int × List Int × Int) := vs.find? fun v => decide (v.1 = i)

/-- The bytes of a block. -/
def getR (vs : List (Int × List Int × Int)) (i : Int) : List Int × Bool := if storeV vs then (match atV vs i with | some v => (v.2.1, true) | none => ([], false)) else ([], false)

/-- An id of a file: it is there, and its block is full, unless it is the last one. -/
def idOk (vs : List (Int × List Int × Int)) (last : Bool) (i : Int) : Bool := match atV vs i with | some v => last || decide (8 ≤ v.2.1.length) | none => false

def idAt (vs : List (Int × List Int × Int)) (ids : List Int) (j : Nat) : Bool := idOk vs (decide (ids.length ≤ j + 1)) (ids.getD j 0)

/-- Ids of a file. -/
def idsV (vs : List (Int × List Int × Int)) (ids : List Int) : Bool := (List.range ids.length).all (idAt vs ids) && decide (ids.length ≤ 4)

def bytesV (vs : List (Int × List Int × Int)) (i : Int) : List Int := match atV vs i with | some v => v.2.1 | none => []

def loadL (vs : List (Int × List Int × Int)) (ids : List Int) : List Int := ids.flatMap (bytesV vs)

/-- The bytes of a file. -/
def loadR (vs : List (Int × List Int × Int)) (ids : List Int) : List Int × Bool := if storeV vs && idsV vs ids then (loadL vs ids, true) else ([], false)

theorem atV_some {vs : List (Int × List Int × Int)} {k : Nat} {v : Int × List Int × Int} {i : Int} (hk : vs[k]? = some v) (hi : v.1 = i) (hno : ∀ (j : Nat) (u : Int × List Int × Int), j < k → vs[j]? = some u → u.1 ≠ i) : atV vs i = some v := by
  unfold atV
  rw [List.find?_eq_some_iff_getElem]
  obtain ⟨h1, h2⟩ := List.getElem?_eq_some_iff.1 hk
  refine ⟨by simp [hi], k, h1, h2, fun j hj => ?_⟩
  have := hno j vs[j] hj (List.getElem?_eq_getElem _)
  simp [this]

theorem atV_none {vs : List (Int × List Int × Int)} {i : Int} (hno : ∀ (j : Nat) (u : Int × List Int × Int), vs[j]? = some u → u.1 ≠ i) : atV vs i = none := by
  unfold atV
  rw [List.find?_eq_none]
  intro v hv
  obtain ⟨j, hj, rfl⟩ := List.getElem_of_mem hv
  have := hno j vs[j] (List.getElem?_eq_getElem _)
  simp [this]

theorem atV_mem {vs : List (Int × List Int × Int)} {i : Int} {v : Int × List Int × Int} (h : atV vs i = some v) : v ∈ vs ∧ v.1 = i := by
  unfold atV at h
  exact ⟨List.mem_of_find?_eq_some h, by simpa using List.find?_some h⟩

theorem atV_valid {vs : List (Int × List Int × Int)} (hv : storeV vs = true) {i : Int} {v : Int × List Int × Int} (h : atV vs i = some v) : blockV v.2.1 = true := by
  obtain ⟨hm, _⟩ := atV_mem h
  obtain ⟨k, hk, rfl⟩ := List.getElem_of_mem hm
  have h1 := (storeV_iff.1 hv).1
  have hg : goodAt okH befH vs k = true := by
    cases hb : goodAt okH befH vs k with
    | true => rfl
    | false => rw [storeV_bad hk hb] at hv; cases hv
  have hok : okH vs[k] = true := by
    cases k with
    | zero => rwa [goodAt_zero (List.getElem?_eq_getElem hk)] at hg
    | succ k =>
      rw [goodAt_succ (by omega) (List.getElem?_eq_getElem hk) (List.getElem?_eq_getElem (by omega : k + 1 - 1 < vs.length)), Bool.and_eq_true] at hg
      exact hg.1
  unfold okH at hok
  rw [Bool.and_eq_true, Bool.and_eq_true] at hok
  exact hok.1.2

theorem idsV_bad {vs : List (Int × List Int × Int)} {ids : List Int} {j : Nat} (hj : j < ids.length) (h : idAt vs ids j = false) : idsV vs ids = false := by
  unfold idsV
  have : (List.range ids.length).all (idAt vs ids) = false := by
    rw [List.all_eq_false]
    exact ⟨j, by simpa using hj, by simp [h]⟩
  rw [this]; rfl

theorem idsV_long {vs : List (Int × List Int × Int)} {ids : List Int} (h : 4 < ids.length) : idsV vs ids = false := by
  unfold idsV
  rw [show decide (ids.length ≤ 4) = false by simp; omega, Bool.and_false]

theorem idsV_all {vs : List (Int × List Int × Int)} {ids : List Int} (h : ∀ j, j < ids.length → idAt vs ids j = true) : idsV vs ids = decide (ids.length ≤ 4) := by
  unfold idsV
  have : (List.range ids.length).all (idAt vs ids) = true := by
    rw [List.all_eq_true]
    intro j hj
    exact h j (by simpa using hj)
  rw [this]; rfl

theorem idsV_at {vs : List (Int × List Int × Int)} {ids : List Int} (h : idsV vs ids = true) {j : Nat} (hj : j < ids.length) : idAt vs ids j = true := by
  cases hb : idAt vs ids j with
  | true => rfl
  | false => rw [idsV_bad hj hb] at h; cases h

theorem idsV_len {vs : List (Int × List Int × Int)} {ids : List Int} (h : idsV vs ids = true) : ids.length ≤ 4 := by
  unfold idsV at h
  rw [Bool.and_eq_true] at h
  simpa using h.2

theorem idAt_some {vs : List (Int × List Int × Int)} {ids : List Int} {j : Nat} (h : idAt vs ids j = true) : ∃ v, atV vs (ids.getD j 0) = some v ∧ (j + 1 < ids.length → 8 ≤ v.2.1.length) := by
  unfold idAt idOk at h
  split at h
  · rename_i v hv
    refine ⟨v, hv, fun hlt => ?_⟩
    rw [show decide (ids.length ≤ j + 1) = false by simp; omega, Bool.false_or] at h
    simpa using h
  · cases h

theorem idAt_none {vs : List (Int × List Int × Int)} {ids : List Int} {j : Nat} (h : atV vs (ids.getD j 0) = none) : idAt vs ids j = false := by
  unfold idAt idOk; rw [h]

theorem idAt_short {vs : List (Int × List Int × Int)} {ids : List Int} {j : Nat} {v : Int × List Int × Int} (h : atV vs (ids.getD j 0) = some v) (hj : j + 1 < ids.length) (hl : v.2.1.length < 8) : idAt vs ids j = false := by
  unfold idAt idOk; rw [h]
  simp; omega

theorem idAt_yes {vs : List (Int × List Int × Int)} {ids : List Int} {j : Nat} {v : Int × List Int × Int} (h : atV vs (ids.getD j 0) = some v) (hl : ids.length ≤ j + 1 ∨ 8 ≤ v.2.1.length) : idAt vs ids j = true := by
  unfold idAt idOk; rw [h]
  simpa using hl

/-- The first ids of a file. -/
theorem idsV_take {vs : List (Int × List Int × Int)} {ids : List Int} (h : idsV vs ids = true) (k : Nat) : idsV vs (ids.take k) = true := by
  have hl := idsV_len h
  rw [idsV_all]
  · simp; omega
  · intro j hj
    rw [List.length_take] at hj
    obtain ⟨v, hv, hf⟩ := idAt_some (idsV_at h (j := j) (by omega))
    refine idAt_yes (v := v) ?_ ?_
    · have : (ids.take k).getD j 0 = ids.getD j 0 := by
        simp [List.getD, show j < k by omega]
      rw [this]; exact hv
    · rw [List.length_take]
      by_cases hlt : j + 1 < ids.length
      · exact .inr (hf hlt)
      · left; omega

/-- The first blocks are the first bytes. -/
theorem load_part {vs : List (Int × List Int × Int)} {ids L : List Int} (h : loadR vs ids = (L, true)) (k : Nat) : ∃ M, loadR vs (ids.take k) = (M, true) ∧ M.length ≤ L.length ∧ L.take M.length = M := by
  unfold loadR at h
  split at h
  · rename_i hc
    rw [Bool.and_eq_true] at hc
    injection h with h _
    refine ⟨loadL vs (ids.take k), ?_, ?_, ?_⟩
    · unfold loadR
      rw [hc.1, idsV_take hc.2 k]; rfl
    · rw [← h]
      unfold loadL
      conv => rhs; rw [← List.take_append_drop k ids, List.flatMap_append, List.length_append]
      omega
    · rw [← h]
      unfold loadL
      conv => lhs; rw [← List.take_append_drop k ids, List.flatMap_append]
      rw [List.take_append_drop, List.take_left']
      rfl
  · injection h with _ h; cases h

theorem bytesV_le {vs : List (Int × List Int × Int)} (hv : storeV vs = true) (i : Int) : (bytesV vs i).length ≤ 8 := by
  unfold bytesV
  split
  · rename_i v h
    exact (blockV_parts (atV_valid hv h)).2.2
  · simp

theorem getR_len (vs : List (Int × List Int × Int)) (i : Int) : (getR vs i).1.length ≤ 8 := by
  unfold getR
  split
  · rename_i h
    split
    · rename_i v hv
      exact (blockV_parts (atV_valid h hv)).2.2
    · simp
  · simp

theorem loadL_len {vs : List (Int × List Int × Int)} (hv : storeV vs = true) (ids : List Int) : (loadL vs ids).length ≤ 8 * ids.length := by
  induction ids with
  | nil => simp [loadL]
  | cons i ids ih =>
    have := bytesV_le hv i
    unfold loadL at ih ⊢
    rw [List.flatMap_cons, List.length_append, List.length_cons]
    omega

theorem loadR_len (vs : List (Int × List Int × Int)) (ids : List Int) : (loadR vs ids).1.length ≤ 32 := by
  unfold loadR
  split
  · rename_i h
    rw [Bool.and_eq_true] at h
    have := loadL_len h.1 ids
    have := idsV_len h.2
    show (loadL vs ids).length ≤ 32
    omega
  · simp

theorem loadL_succ {vs : List (Int × List Int × Int)} {ids : List Int} {k : Nat} (h : k < ids.length) : loadL vs (ids.take (k + 1)) = loadL vs (ids.take k) ++ bytesV vs (ids.getD k 0) := by
  unfold loadL
  rw [List.take_succ_eq_append_getElem h, List.flatMap_append]
  simp [List.getD, h]

end Go.Proofs.Ytajheicheefpeaa

/- Contracts of l3At, of the reference's StoreGet, of slices.Clone. -/
namespace Go.Proofs.Ytajheicheefpeaa
open Go.RowKit
set_option linter.unusedVariables false

/-- Where a block with an id is: its place, or -1. -/
def AtI (xs : List HV) (i r : Int) : Prop :=
  (r = -1 ∧ ∀ (j : Nat) (x : HV), xs[j]? = some x → x.id ≠ i) ∨ ∃ k : Nat, r = k ∧ (∃ x, xs[k]? = some x ∧ x.id = i) ∧ ∀ (j : Nat) (x : HV), j < k → xs[j]? = some x → x.id ≠ i

theorem valsH_inv {xs : List HV} {j : Nat} {v : Int × List Int × Int} (h : (valsH xs)[j]? = some v) : ∃ x, xs[j]? = some x ∧ v = x.val := by
  unfold valsH at h
  rw [List.getElem?_map] at h
  cases hx : xs[j]? with
  | none => rw [hx] at h; cases h
  | some x => rw [hx] at h; injection h with h; exact ⟨x, rfl, h.symm⟩

theorem AtI.atV {xs : List HV} {i r : Int} (h : AtI xs i r) : (r = -1 ∧ atV (valsH xs) i = none) ∨ ∃ k : Nat, r = k ∧ ∃ x, xs[k]? = some x ∧ atV (valsH xs) i = some x.val := by
  rcases h with ⟨rfl, hno⟩ | ⟨k, rfl, ⟨x, hx, hxi⟩, hno⟩
  · refine .inl ⟨rfl, atV_none (fun j u hu => ?_)⟩
    obtain ⟨x, hx, rfl⟩ := valsH_inv hu
    exact hno j x hx
  · refine .inr ⟨k, rfl, x, hx, atV_some (valsH_get hx) hxi (fun j u hj hu => ?_)⟩
    obtain ⟨y, hy, rfl⟩ := valsH_inv hu
    exact hno j y hj hy

set_option maxHeartbeats 400000 in
theorem l3At_any (a : Option Addr) (n c : Nat) (xs : List HV) (i : Int) (w : World) (hr : RdR eltH w a n xs) (hn : n ≤ 4611686018427387904) :
    Calls Try.prog 54 #[.slice a n c, .int .i64 i] w fun e w' => ∃ r : Int, e = .returned (.int .i64 r) ∧ AtI xs i r ∧ ∃ m, w' = w.drewN m := by
  have hl := Lib.hid hr.1
  go_enter Try.func54, Try.ntmps54
  go_wp2
  go_loopw [5] (fun q wr => ∃ k : Nat, k ≤ n ∧ q = .int .i64 k ∧ Hid (∀ (j : Nat) (x : HV), j < k → xs[j]? = some x → x.id ≠ i) ∧ ∃ m, wr = w.drewN m)
    (fun q _ => n - (intOf q).toNat)
  case atStart => exact ⟨0, Nat.zero_le _, rfl, Lib.hid (fun j x h => by omega), 0, rfl⟩
  case round =>
    obtain ⟨k, hk, rfl, hno, m, rfl⟩ := hrel
    by_cases hlt : k < n
    · obtain ⟨b, off, x, rfl, hbl, hx, c0, c1, c2⟩ := atH hr hlt
      have HX := Lib.hid hx
      have hk0 : (0 : Int) ≤ (k : Int) := by omega
      have hk1 : (k : Int) < (n : Int) := by omega
      clear hx
      by_cases hxi : x.id = i
      · have ht : (x.id == i) = true := by simp [hxi]
        have HR : Hid (AtI xs i k) := Lib.hid (.inr ⟨k, rfl, ⟨x, HX.out, hxi⟩, hno.out⟩)
        clear hxi
        go_wp2
        go_ret
        exact ⟨_, rfl, HR.out, _, rfl⟩
      · have ht : (x.id == i) = false := by simp [hxi]
        have HN : Hid (∀ (j : Nat) (y : HV), j < k + 1 → xs[j]? = some y → y.id ≠ i) := Lib.hid (fun j y hj hy => by
          rcases Nat.lt_or_ge j k with h | h
          · exact hno.out j y h hy
          · obtain rfl : j = k := by omega
            rw [HX.out] at hy
            injection hy with hy
            rw [← hy]; exact hxi)
        clear hxi
        go_wp2
        go_roundw
        case rel => exact ⟨k + 1, by omega, by go_num, HN, _, rfl⟩
        case measure => simp [intOf]; omega
    · obtain rfl : k = n := by omega
      have HR : Hid (AtI xs i (-1)) := Lib.hid (.inl ⟨rfl, fun j x hx => hno.out j x (by have := (List.getElem?_eq_some_iff.1 hx).1; have := hl.out; omega) hx⟩)
      go_wp2
      go_ret
      exact ⟨_, rfl, HR.out, _, rfl⟩

/-- A slice of ints of the call's own and a bool are handed back. -/
theorem getR_cases {xs : List HV} {i r : Int} (h : AtI xs i r) (hv : storeV (valsH xs) = true) : (r = -1 ∧ getR (valsH xs) i = ([], false)) ∨ ∃ k : Nat, r = k ∧ ∃ x, xs[k]? = some x ∧ getR (valsH xs) i = (x.zs, true) := by
  rcases h.atV with ⟨rfl, h1⟩ | ⟨k, rfl, x, hx, h1⟩
  · exact .inl ⟨rfl, by unfold getR; rw [hv, h1]; rfl⟩
  · exact .inr ⟨k, rfl, x, hx, by unfold getR; rw [hv, h1]; rfl⟩

theorem getR_bad {xs : List HV} {i : Int} (hv : storeV (valsH xs) = false) : getR (valsH xs) i = ([], false) := by unfold getR; rw [hv]; rfl

end Go.Proofs.Ytajheicheefpeaa

/- A store as a map of the call's own: contracts of slices.Clone and openStore. -/
namespace Go.Proofs.Ytajheicheefpeaa
open Go.RowKit Go.Maps
set_option linter.unusedVariables false

/-- An element as a value. -/
def valH (y : HV) : Value := .agg #[.int .i64 y.id, .slice y.ad y.zs.length y.cp, .int .i64 y.us]

/-- The entries of a store's map. -/
def mapOf (ys : List HV) (i : Int) : Option Value := (ys.find? fun y => decide (y.id = i)).map valH

theorem mapOf_nil : mapOf [] = fun _ => none := rfl

theorem putF_mapOf {ys : List HV} {y : HV} (h : ∀ z ∈ ys, z.id ≠ y.id) : putF (mapOf ys) y.id (valH y) = mapOf (ys ++ [y]) := by
  funext i
  unfold putF mapOf
  rw [List.find?_append]
  split
  · rename_i e; subst e
    have : ys.find? (fun z => decide (z.id = y.id)) = none := by
      rw [List.find?_eq_none]
      intro z hz
      simp [h z hz]
    rw [this]
    simp
  · rename_i e
    have e' : ¬ y.id = i := fun h => e h.symm
    cases hf : ys.find? (fun z => decide (z.id = i)) with
    | none => simp [e']
    | some z => simp

theorem mapOf_atV {ys : List HV} {i : Int} : (mapOf ys i = none ∧ atV (valsH ys) i = none) ∨ ∃ y ∈ ys, mapOf ys i = some (valH y) ∧ atV (valsH ys) i = some y.val := by
  unfold mapOf
  cases hf : ys.find? (fun y => decide (y.id = i)) with
  | none =>
    refine .inl ⟨rfl, ?_⟩
    unfold atV valsH
    rw [List.find?_map]
    have : ((fun v : Int × List Int × Int => decide (v.1 = i)) ∘ HV.val) = fun y : HV => decide (y.id = i) := rfl
    rw [this, hf]; rfl
  | some y =>
    refine .inr ⟨y, List.mem_of_find?_eq_some hf, rfl, ?_⟩
    unfold atV valsH
    rw [List.find?_map]
    have : ((fun v : Int × List Int × Int => decide (v.1 = i)) ∘ HV.val) = fun y : HV => decide (y.id = i) := rfl
    rw [this, hf]; rfl

/-- A store lies in a map of the call's own. -/
structure StoreM (w : World) (B b : Nat) (ys : List HV) : Prop where
  map : MapF w b ys.length (mapOf ys)
  blk : B ≤ b
  ins : ∀ y ∈ ys, OwnI w B y.ad y.cp y.zs

theorem StoreM.below {w w' : World} {B b : Nat} {ys : List HV} (h : StoreM w B b ys) (hb : Below w.heap.size w w') : StoreM w' B b ys :=
  ⟨h.map.below hb, h.blk, fun y hy => (h.ins y hy).below hb⟩

set_option maxHeartbeats 400000 in
theorem slClone_any (a : Option Addr) (n c : Nat) (zs : List Int) (w : World) (hr : RdI w a n zs) (hwf : WfI zs) (hn : n ≤ 1048576) :
    Calls Try.prog 55 #[.slice a n c] w (RetI w zs) := by
  have hl := Lib.hid hr.1
  have q22 : ∀ (w : World) (a : Option Addr) (n c n' c' : Nat), (binOp .eql 36 (.slice a n c) (.slice none n' c')).run Try.prog w = .ok (.bool a.isNone) w := fun w a n c n' c' => Lib.run_eql_slice_nil w _ _ a n c n' c' Try.underlying36
  cases a with
  | none =>
    by_cases hn0 : n = 0
    · subst hn0
      have hz : zs = [] := List.length_eq_zero_iff.1 hl.out
      subst hz
      go_enter Try.func55, Try.ntmps55
      go_wp2
      go_ret
      exact ⟨none, 0, rfl, ⟨(by intro z hz; cases hz), World.ownsRow_nil _ _ _ _⟩, Below.refl _ _⟩
    · obtain ⟨b, off, h, _⟩ := hr.2 0 (by omega)
      cases h
  | some ad =>
    have hcell : ∀ j u, (zs.map (Value.int .i64))[j]? = some u → (w.alloc (.cells #[] 3)).cell? (ad.add j) = some u := by
      intro j u hj
      have hjn : j < zs.length := by have := (List.getElem?_eq_some_iff.1 hj).1; simpa using this
      obtain ⟨b, off, h, hlt, hc⟩ := hr.2 j (by have := hr.1; omega)
      injection h with h
      subst h
      rw [getElem?_ints zs j hjn] at hj
      injection hj with hj
      subst hj
      rw [Addr.add_lit, World.cell?_alloc_lt w _ _ hlt]
      exact hc j (by have := hr.1; omega)
    have HC := Lib.hid hcell
    clear hcell hr
    go_enter Try.func55, Try.ntmps55
    go_wp2_with (at_builtin; refine wp_app rfl _ _ rfl rfl (OwnI.empty (Nat.le_refl _)) ad n c zs rfl hl.out HC.out hwf (by simp; omega) (by simp) ?_; intro a2 c2 w2 hO2 hG2)
    go_ret
    exact ⟨a2, c2, by simp, by simpa using hO2, ((Below.refl _ _).alloc (Nat.le_refl _) _).grown hG2 (by simp) (by intro r hr; simp [Value.ownBlock] at hr; omega)⟩

end Go.Proofs.Ytajheicheefpeaa

/- A region that draws its order: operations that are not wanted are taken first, all at once. -/
namespace Go.Proofs.Ytajheicheefpeaa
open Go.RowKit
set_option linter.unusedVariables false

/-- All these operations (each with its slot) may be taken now, one behind the other, and none is wanted. -/
def allSkip (md : Region.Mode) (ops : Array Oper) : List (Nat × Nat) → Array Bool → Act → Bool
  | [], _, _ => true
  | (i, d) :: is, l, a =>
    (match ops[i]? with | some o => decide (o.dst = some d) && !Region.wanted o (yielded ops a.tmps) | none => false) &&
    Region.free md ops l i && (Region.ready md ops l).contains i && allSkip md ops is (l.setIfInBounds i true) (a.put (some d) undef)

theorem held_nos {P : Program} {ops : Array Oper} {Q : Exit → Act → World → Prop} {md : Region.Mode} {S : World → Prop} {w : World} (hs : Region.noSelect ops = true)
    (hQ : ∀ c (a : Act) d v w, Q (.panic c) (a.put d v) w → Q (.panic c) a w) (hS : S w) : ∀ (is : List (Nat × Nat)) (fuel : Nat) (listed : Array Bool) (a : Act), allSkip md ops is listed a = true →
    wpAnyH P md ops Q S fuel (is.foldl (fun l p => l.setIfInBounds p.1 true) listed) (is.foldl (fun a p => a.put (some p.2) undef) a) w → wpAnyH P md ops Q S (fuel + is.length) listed a w
  | [], _, _, _, _, h => h
  | (i, d) :: is, fuel, listed, a, hall, h => by
    unfold allSkip at hall
    simp only [Bool.and_eq_true] at hall
    obtain ⟨⟨⟨h1, h2⟩, h3⟩, h4⟩ := hall
    cases ho : ops[i]? with
    | none => rw [ho] at h1; cases h1
    | some o =>
      rw [ho] at h1
      simp only [Bool.and_eq_true, decide_eq_true_eq, Bool.not_eq_true'] at h1
      obtain ⟨hd, hw⟩ := h1
      have := held_nos hs hQ hS is fuel _ _ h4 h
      refine wpAnyH_take ho hs h2 h3 (fun c a w => hQ c a o.dst undef w) (.inr ⟨hw, rfl⟩) hS ?_
      rw [hd]
      exact this

/-- Operation number i, whose slot is d, yields v in every world that meets S: take it first. -/
theorem held_yes {P : Program} {ops : Array Oper} {Q : Exit → Act → World → Prop} {md : Region.Mode} {S : World → Prop} {i : Nat} (d : Nat) {oi : Oper} {v : Value} {fuel : Nat} {listed : Array Bool} {a : Act} {w : World} (hi : ops[i]? = some oi) (hd : oi.dst = some d)
    (hs : Region.noSelect ops = true) (hf : Region.free md ops listed i = true) (hr : (Region.ready md ops listed).contains i = true)
    (hQ : ∀ c (a : Act) d v w, Q (.panic c) (a.put d v) w → Q (.panic c) a w) (hw : Region.wanted oi (yielded ops a.tmps) = true) (hS : S w)
    (hv : ∀ w, S w → (execOp a.eval oi).run P w = .ok (.value v) w)
    (h : wpAnyH P md ops Q S fuel (listed.setIfInBounds i true) (a.put (some d) v) w) : wpAnyH P md ops Q S (fuel + 1) listed a w :=
  wpAnyH_take hi hs hf hr (fun c a w => hQ c a oi.dst v w) (.inl ⟨hw, hv⟩) hS (by rw [hd]; exact h)

end Go.Proofs.Ytajheicheefpeaa

/- Contracts: markIntS writes k, k+1, .. into a slice of the call's own; heldIntS finds them there. -/
namespace Go.Proofs.Ytajheicheefpeaa
open Go.RowKit

/-- k, k+1, .., n numbers. -/
def seqI (k : Int) (n : Nat) : List Int := (List.range n).map fun (i : Nat) => k + (i : Int)

theorem seqI_length (k : Int) (n : Nat) : (seqI k n).length = n := by simp [seqI]
theorem seqI_getD (k : Int) (n i : Nat) (h : i < n) : (seqI k n).getD i 0 = k + i := by simp [seqI, h]

/-- A slice of ints was written over; nothing else has changed. -/
def RetMark (w : World) (B : Nat) (a : Option Addr) (c n : Nat) (k : Int) (e : Ending) (w' : World) : Prop :=
  e = .returned (.int .i64 (k + n)) ∧ OwnI w' B a c (seqI k n) ∧ w.grownBy w' (Value.slice a n c).ownBlock

theorem mark_step (k : Int) (zs : List Int) (i : Nat) (h : i < zs.length) :
    ((seqI k i ++ zs.drop i).map (Value.int .i64)).set i (.int .i64 (k + i)) = (seqI k (i + 1) ++ zs.drop (i + 1)).map (Value.int .i64) := by
  apply List.ext_getElem?
  intro j
  simp only [List.getElem?_set, List.getElem?_map, List.getElem?_append, seqI_length, List.getElem?_drop, List.length_map, List.length_append, List.length_drop]
  by_cases hj : i = j
  · subst hj
    simp [seqI, show i < i + (zs.length - i) by omega]
  · by_cases hlt : j < i
    · simp [hj, hlt, show j < i + 1 by omega, seqI]
    · simp [hj, hlt, show ¬ j < i + 1 by omega, show i + (j - i) = j by omega, show i + 1 + (j - (i + 1)) = j by omega]

theorem WfI_seq (k : Int) (n : Nat) (h0 : -1000 ≤ k) (h1 : k + n ≤ 9223372036854775807) : WfI (seqI k n) := by
  intro z hz
  simp only [seqI, List.mem_map, List.mem_range] at hz
  obtain ⟨i, hi, rfl⟩ := hz
  omega

set_option maxHeartbeats 400000 in
theorem markIntS_any (B : Nat) (a : Option Addr) (c : Nat) (zs : List Int) (k0 : Int) (w : World) (ho : OwnI w B a c zs) (h0 : 0 ≤ k0) (h1 : k0 ≤ 4611686018427387904) (hn : zs.length ≤ 1099511627776) :
    Calls Try.prog 22 #[.slice a zs.length c, .int .i64 k0] w (RetMark w B a c zs.length k0) := by
  obtain ⟨n, hnz⟩ : ∃ n, n = zs.length := ⟨_, rfl⟩
  have hown := ho.2
  rw [← hnz] at hn hown ⊢
  have HN := Lib.hid hnz
  clear hnz
  go_enter Try.func22, Try.ntmps22
  go_wp2
  go_loopw [1, 5] (fun v i wr => ∃ k : Nat, k ≤ n ∧ i = .int .i64 k ∧ v = .int .i64 (k0 + k) ∧ w.grownBy wr (Value.slice a n c).ownBlock ∧
      wr.ownsRow B 3 1 (.slice a n c) n ((seqI k0 k ++ zs.drop k).map (Value.int .i64)))
    (fun _ i _ => n - (intOf i).toNat)
  case atStart => exact ⟨0, Nat.zero_le _, rfl, by simp, World.grownBy.refl _ _, by simpa [seqI] using hown⟩
  case round =>
    obtain ⟨k, hk, rfl, rfl, hg, hor⟩ := hrel
    by_cases hlt : k < n
    · have hcase := hor.2
      rcases hcase with ⟨_, h⟩ | ⟨g, cap, cur, hv, hbg, hh, hrest⟩
      · omega
      · injection hv with hv1 hv2 hv3
        subst hv1
        clear hrest hh hv2 hv3
        have hst := hor.stored k (.int .i64 (k0 + k))
        have hfr := hor.frozenAt k
        have hold : wr.cell? ⟨g, k, none⟩ = some (.int .i64 (zs.getD k 0)) := by
          have hz : k < zs.length := by have := HN.out; omega
          rw [hor.cellAt k (by omega), List.getElem?_map, List.getElem?_append_right (by rw [seqI_length]; exact Nat.le_refl _), seqI_length, List.getElem?_drop]
          simp [hz]
        have hs1 := hst.1
        rw [mark_step k0 zs k (by have := HN.out; omega)] at hs1
        have HS := Lib.hid hs1
        have HG : Hid (w.grownBy (wr.setCell ⟨g, k, none⟩ (.int .i64 (k0 + k))) (Value.slice (some ⟨g, 0, none⟩) n c).ownBlock) := by
          refine Lib.hid ⟨?_, ?_, ?_, ?_, ?_⟩
          · exact hst.2.os.trans hg.os
          · exact hst.2.tape.trans hg.tape
          · exact hst.2.output.trans hg.output
          · exact Nat.le_trans hg.size hst.2.size
          · intro j hj hne
            rw [hst.2.block j (Nat.lt_of_lt_of_le hj hg.size) (by simpa [Value.ownBlock] using hne)]
            exact hg.block j hj hne
        clear hst hs1 hor hg ho hown
        go_wp2
        go_roundw
        case rel => exact ⟨k + 1, by omega, by go_num, by go_num, HG.out, HS.out⟩
        case measure => simp [intOf]; omega
    · obtain rfl : k = n := by omega
      go_wp2
      go_ret
      refine ⟨rfl, ⟨WfI_seq _ _ (by omega) (by omega), ?_⟩, hg⟩
      rw [seqI_length]
      have h := hor
      rw [List.drop_of_length_le (by have := HN.out; omega), List.append_nil] at h
      exact h

set_option maxHeartbeats 400000 in
theorem heldIntS_any (a : Option Addr) (n c : Nat) (k0 : Int) (w : World) (hr : RdI w a n (seqI k0 n)) (h0 : 0 ≤ k0) (h1 : k0 ≤ 4611686018427387904) (hn : n ≤ 1099511627776) :
    Calls Try.prog 23 #[.slice a n c, .int .i64 k0] w fun e w' => e = .returned (.int .i64 (k0 + n)) ∧ w = w' := by
  go_enter Try.func23, Try.ntmps23
  go_wp2
  go_loop [1, 5] (fun v i => ∃ k : Nat, k ≤ n ∧ i = .int .i64 k ∧ v = .int .i64 (k0 + k)) (fun _ i => n - (intOf i).toNat)
  case atStart => exact ⟨0, Nat.zero_le _, rfl, by simp⟩
  case round =>
    obtain ⟨k, hk, rfl, rfl⟩ := hrel
    by_cases hlt : k < n
    · obtain ⟨b, off, rfl, x, hx, hcell⟩ := hr.at_ hlt
      rw [seqI_getD _ _ _ hlt] at hx
      subst hx
      have ht : (k0 + (k : Int) != k0 + (k : Int)) = false := by simp
      go_wp2
      go_round
      case rel => exact ⟨k + 1, by omega, by go_num, by go_num⟩
      case measure => simp [intOf]; omega
    · obtain rfl : k = n := by omega
      go_wp2
      go_ret
      exact ⟨rfl, rfl⟩

end Go.Proofs.Ytajheicheefpeaa

/- Contract of markHeldS: only the blocks of what it writes over have changed. -/
namespace Go.Proofs.Ytajheicheefpeaa
open Go.RowKit
set_option linter.unusedVariables false

/-- Only blocks from lo on, ahead of hi, and new ones, have changed. -/
structure Within (lo hi : Nat) (w w' : World) : Prop where
  os : w'.os = w.os
  tape : w'.tape = w.tape
  output : w'.output = w.output
  size : w.heap.size ≤ w'.heap.size
  block : ∀ k, k < w.heap.size → k < lo ∨ hi ≤ k → w'.heap[k]? = w.heap[k]?

theorem Within.refl (lo hi : Nat) (w : World) : Within lo hi w w := ⟨rfl, rfl, rfl, Nat.le_refl _, fun _ _ _ => rfl⟩
theorem Within.grown {lo hi : Nat} {w w1 w2 : World} (h : Within lo hi w w1) {r : Option Nat} (hg : w1.grownBy w2 r) (hr : ∀ k, r = some k → lo ≤ k ∧ k < hi) : Within lo hi w w2 :=
  ⟨hg.os.trans h.os, hg.tape.trans h.tape, hg.output.trans h.output, Nat.le_trans h.size hg.size, fun k hk ho => (hg.block k (Nat.lt_of_lt_of_le hk h.size) (fun e => by have := hr k e.symm; omega)).trans (h.block k hk ho)⟩
theorem Within.below {lo hi : Nat} {w w' : World} (h : Within lo hi w w') {B : Nat} (hB : B ≤ lo) (hl : B ≤ w.heap.size) : Below B w w' :=
  ⟨h.os, h.tape, h.output, h.size, fun k hk => h.block k (by omega) (.inl (by omega))⟩
/-- What lies in blocks that have not changed is as it was. -/
theorem Within.row {lo hi : Nat} {w w' : World} (h : Within lo hi w w') {base size n : Nat} {e : TypeId} {v : Value} {xs : List Value} (ho : w.ownsRow base e size v n xs) (hk : ∀ k, v.ownBlock = some k → k < lo ∨ hi ≤ k) : w'.ownsRow base e size v n xs := by
  refine ⟨ho.1, ?_⟩
  rcases ho.2 with h1 | ⟨g, cap, cur, hv, hb, hg, hr⟩
  · exact .inl h1
  · refine .inr ⟨g, cap, cur, hv, hb, ?_, hr⟩
    rw [h.block g (Array.getElem?_eq_some_iff.1 hg).1 (hk g (by rw [hv]; rfl))]
    exact hg

theorem OwnI.kindI {w : World} {B : Nat} {a : Option Addr} {c : Nat} {zs : List Int} (h : OwnI w B a c zs) : ∀ k, (Value.slice a zs.length c).ownBlock = some k → ∃ cs fz, w.heap[k]? = some (.cells cs 3 fz) := by
  intro k hk
  rcases h.2.2 with ⟨h1, _⟩ | ⟨g, cap, cur, hv, _, hg, _⟩
  · rw [h1] at hk; cases hk
  · rw [hv] at hk
    injection hk with hk
    subst hk
    exact ⟨_, _, hg⟩

theorem OwnI.apartI {w w' : World} {B : Nat} {a : Option Addr} {c : Nat} {zs : List Int} (h : OwnI w B a c zs) {row : Option Nat} (hg : w.grownBy w' row)
    (hne : ∀ k, (Value.slice a zs.length c).ownBlock = some k → ∀ r, row = some r → k ≠ r) : OwnI w' B a c zs := by
  refine ⟨h.1, World.ownsRow.kept h.2 hg ?_⟩
  cases hv : (Value.slice a zs.length c).ownBlock with
  | none => exact .inl rfl
  | some k => exact .inr (fun e => hne k hv k e.symm rfl)

theorem OwnR.kindR {α : Type} {E : Elt α} {w : World} {B : Nat} {a : Option Addr} {c : Nat} {xs : List α} (h : OwnR E w B a c xs) : ∀ k, (Value.slice a xs.length c).ownBlock = some k → ∃ cs fz, w.heap[k]? = some (.cells cs E.ty fz) := by
  intro k hk
  rcases h.2 with ⟨h1, _⟩ | ⟨g, cap, cur, hv, _, hg, _⟩
  · rw [h1] at hk; cases hk
  · rw [hv] at hk
    injection hk with hk
    subst hk
    exact ⟨_, _, hg⟩

theorem drop_mem {α : Type} {xs : List α} {j : Nat} {x : α} (h : xs[j]? = some x) : xs.drop j = x :: xs.drop (j + 1) := by
  obtain ⟨hj, rfl⟩ := List.getElem?_eq_some_iff.1 h
  exact List.drop_eq_getElem_cons hj

theorem drop_set_after {α : Type} (xs : List α) (j : Nat) (y : α) : (xs.set j y).drop (j + 1) = xs.drop (j + 1) := by
  apply List.ext_getElem?
  intro i
  rw [List.getElem?_drop, List.getElem?_drop, List.getElem?_set_ne (by omega)]

set_option maxHeartbeats 1000000 in
theorem markHeldS_any (B hi : Nat) (a : Option Addr) (c n : Nat) (xs : List HV) (k0 : Int) (w : World) (ho : OwnH w B a c xs) (hl : xs.length = n)
    (hh : ∀ k, (Value.slice a n c).ownBlock = some k → k < hi) (hi2 : ∀ x ∈ xs, ∀ k, (Value.slice x.ad x.zs.length x.cp).ownBlock = some k → k < hi)
    (h0 : 0 ≤ k0) (h1 : k0 ≤ 1000) (hn : n ≤ 1048576) (hs : szH xs ≤ 1048576) :
    Calls Try.prog 14 #[.slice a n c, .int .i64 k0] w (fun e w' => ∃ k1 : Int, e = .returned (.int .i64 k1) ∧ (0 ≤ k1 ∧ k1 ≤ 10000000) ∧ Within B hi w w') := by
  have HL := Lib.hid hl
  have HO := Lib.hid ho
  have HH := Lib.hid hh
  have HI2 := Lib.hid hi2
  have HS := Lib.hid hs
  have hrow := ho.row
  clear ho hh hi2 hs hl
  go_enter Try.func14, Try.ntmps14
  go_wp2
  go_loopw [1, 5] (fun v i wr => ∃ j : Nat, j ≤ n ∧ i = .int .i64 j ∧ (∃ q : Int, v = .int .i64 q ∧ 0 ≤ q ∧ q ≤ 1000 + 2 * j + 1048576 ∧ Hid (q ≤ 1000 + 2 * j + szH xs - szH (xs.drop j))) ∧
      ∃ ys : List HV, Hid (ys.length = n) ∧ Hid (ys.drop j = xs.drop j) ∧ OwnR eltH wr B a c ys ∧ Hid (∀ x ∈ xs.drop j, OwnI wr B x.ad x.cp x.zs) ∧ Within B hi w wr)
    (fun _ i _ => n - (intOf i).toNat)
  case atStart => exact ⟨0, Nat.zero_le _, rfl, ⟨k0, rfl, h0, by omega, Lib.hid (by rw [List.drop_zero]; omega)⟩, xs, Lib.hid HL.out, Lib.hid rfl, hrow, Lib.hid (fun x hx => HO.out.ins x hx), Within.refl _ _ _⟩
  case round =>
    clear hrow
    obtain ⟨j, hj, rfl, ⟨q, rfl, q0, q1, hq⟩, ys, hyl, hyd, hor, hin, hwi⟩ := hrel
    by_cases hlt : j < n
    · obtain ⟨g, rfl, hBg, hgs⟩ := hor.head (by have := hyl.out; omega)
      obtain ⟨x, hx⟩ : ∃ x, xs[j]? = some x := ⟨_, List.getElem?_eq_getElem (by have := HL.out; omega)⟩
      have hyx : ys[j]? = some x := by
        have := congrArg (fun l => l[0]?) hyd.out
        simp only [List.getElem?_drop, Nat.add_zero] at this
        rw [this, hx]
      have hdx := drop_mem hx
      have hsd := szH_drop hx
      have hzn := szH_nonneg (xs.drop (j + 1))
      have hgh : g < hi := HH.out g rfl
      have hxb := hin.out x (by rw [hdx]; simp)
      have hbd : q + 1 + x.zs.length + 1 ≤ 1000 + 2 * ((j : Int) + 1) + szH xs - szH (xs.drop (j + 1)) := by have := hq.out; omega
      have hle : (x.zs.length : Int) ≤ 1048576 := by have := szH_mem (List.mem_of_getElem? hx); have := HS.out; omega
      obtain ⟨⟨c0, c1, c2⟩, f0, f1, f2⟩ := cellsH hor hyx
      have hs1 := hor.set1 j x { x with id := q } hyx 0 (.int .i64 q) (by decide) rfl
      obtain ⟨cs, hcs⟩ := hor.heapAt
      have hin1 := fun y (hy : y ∈ xs.drop j) => (hin.out y hy).set_kind hcs (by decide) hs1.2
      have hw1 := hwi.grown hs1.2 (fun k hk => by injection hk with hk; omega)
      have HBD := Lib.hid hbd
      have hHI := HI2.out x (List.mem_of_getElem? hx)
      have hap : ∀ y ∈ xs.drop (j + 1), apartH x y := by
        have hp := HO.out.apart
        have hp2 : (xs.drop j).Pairwise apartH := hp.sublist (List.drop_sublist _ _)
        rw [hdx] at hp2
        exact (List.pairwise_cons.1 hp2).1
      have hOx : OwnI (wr.setCell ⟨g, j * 3, none⟩ (.int .i64 q)) B x.ad x.cp x.zs := hin1 x (by rw [hdx]; simp)
      have HN := Lib.hid (show ∀ y ∈ xs.drop (j + 1), OwnI (wr.setCell ⟨g, j * 3, none⟩ (.int .i64 q)) B y.ad y.cp y.zs from fun y hy => hin1 y (by rw [hdx]; exact List.mem_cons_of_mem _ hy))
      have HAP := Lib.hid hap
      have HR1 : Hid (OwnR eltH (wr.setCell ⟨g, j * 3, none⟩ (.int .i64 q)) B (some ⟨g, 0, none⟩) c (ys.set j { x with id := q })) := Lib.hid hs1.1
      have HW1 : Hid (Within B hi w (wr.setCell ⟨g, j * 3, none⟩ (.int .i64 q))) := Lib.hid hw1
      have HYL : Hid ((ys.set j { x with id := q }).length = n) := Lib.hid (by rw [List.length_set]; exact hyl.out)
      have HYD : Hid ((ys.set j { x with id := q }).drop (j + 1) = xs.drop (j + 1)) := Lib.hid (by
        rw [drop_set_after]
        have := congrArg (List.drop 1) hyd.out
        rwa [List.drop_drop, List.drop_drop] at this)
      have hjl : j < ys.length := by have := hyl.out; omega
      have HJ : Hid ((ys.set j { x with id := q })[j]? = some { x with id := q }) := Lib.hid (by rw [List.getElem?_set_self hjl])
      have qa : 0 ≤ q + 1 := by omega
      have qb : q + 1 ≤ 4611686018427387904 := by omega
      have qc : x.zs.length ≤ 1099511627776 := by omega
      clear hs1 hcs hin1 hw1 hap hdx hsd hzn hor hin hwi hyx hbd hxb hx hyl hyd hq
      go_wp2_with fail
      with_reducible refine (markIntS_any B x.ad x.cp x.zs (q + 1) _ hOx qa qb qc).mono ?_
      rintro e w2 ⟨rfl, hO2, hg2⟩
      have hr2 := HR1.out.apart hg2 (fun k hk r hr => by
        intro e
        subst e
        obtain ⟨cs1, fz1, h1⟩ := OwnR.kindR HR1.out k hk
        obtain ⟨cs2, fz2, h2⟩ := hOx.kindI k hr
        rw [h1] at h2
        injection h2 with h2
        injection h2 with _ h2
        exact absurd h2 (by decide))
      have hw2 := HW1.out.grown hg2 (fun k hk => ⟨(hOx.blk k hk).1, hHI k hk⟩)
      have hn2 := fun y (hy : y ∈ xs.drop (j + 1)) => (HN.out y hy).apartI hg2 (fun k hk r hr => fun e => HAP.out y hy r k hr hk e.symm)
      obtain ⟨⟨d0, d1, d2⟩, g0, g1, g2⟩ := cellsH hr2 HJ.out
      have hs2 := hr2.set1 j { x with id := q } { x with id := q, us := q + 1 + x.zs.length } HJ.out 2 (.int .i64 (q + 1 + x.zs.length)) (by decide) rfl
      obtain ⟨cs, hcs⟩ := hr2.heapAt
      have HN2 := Lib.hid (fun y (hy : y ∈ xs.drop (j + 1)) => (hn2 y hy).set_kind hcs (by decide) hs2.2)
      have HR2 := Lib.hid hs2.1
      have HW2 := Lib.hid (hw2.grown hs2.2 (fun k hk => by injection hk with hk; omega))
      have HYL2 : Hid (((ys.set j { x with id := q }).set j { x with id := q, us := q + 1 + x.zs.length }).length = n) := Lib.hid (by rw [List.length_set]; exact HYL.out)
      have HYD2 : Hid (((ys.set j { x with id := q }).set j { x with id := q, us := q + 1 + x.zs.length }).drop (j + 1) = xs.drop (j + 1)) := Lib.hid (by rw [drop_set_after]; exact HYD.out)
      have HQ : Hid (q + 1 + x.zs.length + 1 ≤ 1000 + 2 * ((j + 1 : Nat) : Int) + szH xs - szH (xs.drop (j + 1))) := Lib.hid (by have := HBD.out; omega)
      have hq2 : q + 1 + (x.zs.length : Int) + 1 ≤ 1000 + 2 * ((j + 1 : Nat) : Int) + 1048576 := by have := HQ.out; have := HS.out; have := szH_nonneg (xs.drop (j + 1)); omega
      clear hs2 hcs hr2 hn2 hw2 hg2 hO2 hOx
      go_wp2
      go_roundw
      case rel => exact ⟨j + 1, by omega, by go_num, ⟨q + 1 + x.zs.length + 1, by go_num, by omega, hq2, HQ⟩, _, HYL2, HYD2, HR2.out, HN2, HW2.out⟩
      case measure => simp [intOf]; omega
    · obtain rfl : j = n := by omega
      go_wp2
      go_ret
      exact ⟨q, rfl, ⟨q0, by omega⟩, hwi⟩

end Go.Proofs.Ytajheicheefpeaa

/- Stores of the call's own: what stays, an element more, an element changed. -/
namespace Go.Proofs.Ytajheicheefpeaa
open Go.RowKit
set_option linter.unusedVariables false

/-- Short lists, small numbers. -/
def SmH (xs : List HV) : Prop := ∀ x ∈ xs, 1 ≤ x.zs.length ∧ x.zs.length ≤ 8 ∧ 0 ≤ x.id ∧ x.id ≤ 100 ∧ 0 ≤ x.us ∧ x.us ≤ 1000

theorem SmH.nil : SmH [] := by intro x hx; cases hx
theorem SmH.snoc {xs : List HV} {x : HV} (h : SmH xs) (hx : 1 ≤ x.zs.length ∧ x.zs.length ≤ 8 ∧ 0 ≤ x.id ∧ x.id ≤ 100 ∧ 0 ≤ x.us ∧ x.us ≤ 1000) : SmH (xs ++ [x]) := by
  intro z hz
  rcases List.mem_append.1 hz with h' | h'
  · exact h z h'
  · rw [List.mem_singleton] at h'; subst h'; exact hx
theorem SmH.set {xs : List HV} {x : HV} (h : SmH xs) (j : Nat) (hx : 1 ≤ x.zs.length ∧ x.zs.length ≤ 8 ∧ 0 ≤ x.id ∧ x.id ≤ 100 ∧ 0 ≤ x.us ∧ x.us ≤ 1000) : SmH (xs.set j x) := by
  intro z hz
  rcases List.mem_or_eq_of_mem_set hz with h' | rfl
  · exact h z h'
  · exact hx

theorem OwnH.empty {w : World} {B : Nat} (hB : B ≤ w.heap.size) : OwnH (w.alloc (.cells #[] 45)) B (some ⟨w.heap.size, 0, none⟩) 0 [] :=
  ⟨OwnR.empty eltH hB, (by intro x hx; cases hx), List.Pairwise.nil⟩

theorem OwnH.alloc {w : World} {B : Nat} {a : Option Addr} {c : Nat} {xs : List HV} (h : OwnH w B a c xs) (o : Obj) : OwnH (w.alloc o) B a c xs :=
  ⟨h.row.alloc o, fun x hx => (h.ins x hx).alloc o, h.apart⟩
theorem OwnH.drewN {w : World} {B : Nat} {a : Option Addr} {c : Nat} {xs : List HV} (h : OwnH w B a c xs) (k : Nat) : OwnH (w.drewN k) B a c xs := ⟨h.row, h.ins, h.apart⟩
theorem OwnH.grown {w w' : World} {B g : Nat} {a : Option Addr} {c : Nat} {xs : List HV} (h : OwnH w B a c xs) (hg : w.grownBy w' (some g)) (hB : g < B) : OwnH w' B a c xs :=
  ⟨h.row.grown hg hB, fun x hx => (h.ins x hx).grown hg hB, h.apart⟩

/-- A row of another kind has been written: a row of ints is kept. -/
theorem OwnI.kindKept {α : Type} {E : Elt α} {w w' : World} {B B' : Nat} {a a' : Option Addr} {c c' : Nat} {zs : List Int} {xs : List α} {L : Nat} (h : OwnI w B a c zs) (hr : OwnR E w B' a' c' xs) (hE : E.ty ≠ 3) (hL : xs.length = L)
    (hg : w.grownBy w' (Value.slice a' L c').ownBlock) : OwnI w' B a c zs := by
  subst hL
  refine h.apartI hg (fun k hk r hr' e => ?_)
  subst e
  obtain ⟨cs, fz, h1⟩ := h.kindI k hk
  obtain ⟨cs', fz', h2⟩ := hr.kindR k hr'
  rw [h1] at h2
  injection h2 with h2
  injection h2 with _ h2
  exact hE h2.symm

theorem eltH_ty : eltH.ty ≠ 3 := by decide

/-- An element more. -/
theorem OwnH.push {w w' : World} {B : Nat} {a a' : Option Addr} {c c' L : Nat} {xs : List HV} {x : HV} {o : Obj} (h : OwnH w B a c xs) (hL : xs.length = L) (hx : OwnI w B x.ad x.cp x.zs) (hap : ∀ y ∈ xs, apartH y x)
    (hg : (w.alloc o).grownBy w' (Value.slice a L c).ownBlock) (hr : OwnR eltH w' B a' c' (xs ++ [x])) : OwnH w' B a' c' (xs ++ [x]) := by
  have h1 := h.alloc o
  refine ⟨hr, fun y hy => ?_, pairwise_snoc h.apart hap⟩
  rcases List.mem_append.1 hy with hy | hy
  · exact (h1.ins y hy).kindKept h1.row eltH_ty hL hg
  · rw [List.mem_singleton] at hy
    subst hy
    exact (hx.alloc o).kindKept h1.row eltH_ty hL hg

theorem pairwise_set {α : Type} {R : α → α → Prop} {xs : List α} {j : Nat} {y : α} (h : xs.Pairwise R) (h1 : ∀ i z, i < j → xs[i]? = some z → R z y) (h2 : ∀ i z, j < i → xs[i]? = some z → R y z) : (xs.set j y).Pairwise R := by
  rw [List.pairwise_iff_getElem] at h ⊢
  intro p q hp hq hpq
  have hp' : p < xs.length := by simpa using hp
  have hq' : q < xs.length := by simpa using hq
  rw [List.getElem_set, List.getElem_set]
  split <;> split
  · omega
  · rename_i e _; subst e
    exact h2 q _ hpq (List.getElem?_eq_getElem hq')
  · rename_i _ e; subst e
    exact h1 p _ hpq (List.getElem?_eq_getElem hp')
  · exact h p q hp' hq' hpq

/-- An element's own list lies in the same place: its numbers have changed. -/
theorem OwnH.setNums {w w' : World} {B g : Nat} {c : Nat} {xs : List HV} {j : Nat} {x y : HV} (h : OwnH w B (some ⟨g, 0, none⟩) c xs) (hx : xs[j]? = some x) (hy : y.ad = x.ad ∧ y.cp = x.cp ∧ y.zs = x.zs)
    (hr : OwnR eltH w' B (some ⟨g, 0, none⟩) c (xs.set j y)) (hg : w.grownBy w' (some g)) : OwnH w' B (some ⟨g, 0, none⟩) c (xs.set j y) := by
  have hin : ∀ z ∈ xs, OwnI w' B z.ad z.cp z.zs := fun z hz => (h.ins z hz).kindKept h.row eltH_ty rfl hg
  obtain ⟨hj, hxe⟩ := List.getElem?_eq_some_iff.1 hx
  refine ⟨hr, fun z hz => ?_, pairwise_set h.apart (fun i z hi hz => ?_) (fun i z hi hz => ?_)⟩
  · rcases List.mem_or_eq_of_mem_set hz with h' | rfl
    · exact hin z h'
    · rw [hy.1, hy.2.1, hy.2.2]; exact hin x (List.mem_of_getElem? hx)
  · obtain ⟨hi', hze⟩ := List.getElem?_eq_some_iff.1 hz
    have := (List.pairwise_iff_getElem.1 h.apart) i j hi' hj hi
    rw [hze, hxe] at this
    intro r s h1 h2
    rw [hy.1, hy.2.1, hy.2.2] at h2
    exact this r s h1 h2
  · obtain ⟨hi', hze⟩ := List.getElem?_eq_some_iff.1 hz
    have := (List.pairwise_iff_getElem.1 h.apart) j i hj hi' hi
    rw [hze, hxe] at this
    intro r s h1 h2
    rw [hy.1, hy.2.1, hy.2.2] at h1
    exact this r s h1 h2

/-- An element has got another list, which lies in new memory. -/
theorem OwnH.setList {w w' : World} {B g : Nat} {c : Nat} {xs : List HV} {j : Nat} {x y : HV} (h : OwnH w B (some ⟨g, 0, none⟩) c xs) (hx : xs[j]? = some x) (hy : OwnI w B y.ad y.cp y.zs)
    (hap : ∀ z ∈ xs, apartH z y ∧ apartH y z) (hr : OwnR eltH w' B (some ⟨g, 0, none⟩) c (xs.set j y)) (hg : w.grownBy w' (some g)) : OwnH w' B (some ⟨g, 0, none⟩) c (xs.set j y) := by
  have hin : ∀ z ∈ xs, OwnI w' B z.ad z.cp z.zs := fun z hz => (h.ins z hz).kindKept h.row eltH_ty rfl hg
  refine ⟨hr, fun z hz => ?_, pairwise_set h.apart (fun i z hi hz => (hap z (List.mem_of_getElem? hz)).1) (fun i z hi hz => (hap z (List.mem_of_getElem? hz)).2)⟩
  rcases List.mem_or_eq_of_mem_set hz with h' | rfl
  · exact hin z h'
  · exact hy.kindKept h.row eltH_ty rfl hg

/-- A list that lies in blocks that are new lies apart from all that were there. -/
theorem OwnH.apartNew {w : World} {B : Nat} {a : Option Addr} {c : Nat} {xs : List HV} (h : OwnH w B a c xs) {w' : World} {B' : Nat} {x : HV} (hB : w.heap.size ≤ B') (hx : OwnI w' B' x.ad x.cp x.zs) : ∀ z ∈ xs, apartH z x ∧ apartH x z := by
  intro z hz
  have h1 := fun r hr => ((h.ins z hz).blk r hr).2
  have h2 := fun s hs => (hx.blk s hs).1
  exact ⟨fun r s hr hs => by have := h1 r hr; have := h2 s hs; omega, fun r s hr hs => by have := h1 s hs; have := h2 r hr; omega⟩

theorem OwnI.cells {w : World} {B : Nat} {ad : Addr} {c : Nat} {zs : List Int} (h : OwnI w B (some ad) c zs) : ∀ j u, (zs.map (Value.int .i64))[j]? = some u → w.cell? (ad.add j) = some u := by
  intro j u hj
  have hjn : j < zs.length := by have := (List.getElem?_eq_some_iff.1 hj).1; simpa using this
  obtain ⟨b, off, h', hlt, hc⟩ := h.rd.2 j hjn
  injection h' with h'
  subst h'
  rw [getElem?_ints zs j hjn] at hj
  injection hj with hj
  subst hj
  rw [Addr.add_lit]
  exact hc j hjn

/-- A literal of ints. -/
theorem OwnI.lit (w : World) (zs : List Int) (hwf : WfI zs) (hn : zs.length ≤ 1048576) : OwnI (w.alloc (.cells (zs.map (Value.int .i64)).toArray 3)) w.heap.size (some ⟨w.heap.size, 0, none⟩) zs.length zs := by
  refine ⟨hwf, ?_⟩
  have := World.ownsRow_lit (e := 3) (size := 1) (base := w.heap.size) w (zs.map (Value.int .i64)).toArray zs.length (Nat.le_refl _) (by unfold maxLen; omega) (by simp)
  simpa using this

end Go.Proofs.Ytajheicheefpeaa

/- Contract of openStore. -/
namespace Go.Proofs.Ytajheicheefpeaa
open Go.RowKit Go.Maps
set_option maxRecDepth 100000
set_option linter.unusedVariables false
set_option linter.unusedSimpArgs false

/-- A store was opened, or it is not valid. -/
def RetOpen (w : World) (xs : List HV) (e : Ending) (w' : World) : Prop :=
  (storeV (valsH xs) = false ∧ e = .returned (.tuple #[.map none, .bool false]) ∧ Below w.heap.size w w') ∨
  (storeV (valsH xs) = true ∧ ∃ b ys, e = .returned (.tuple #[.map (some b), .bool true]) ∧ valsH ys = valsH xs ∧ StoreM w' w.heap.size b ys ∧ Below w.heap.size w w')

theorem store_ids {xs : List HV} (h : storeV (valsH xs) = true) {k : Nat} {x : HV} (hx : xs[k]? = some x) : (1 ≤ x.id ∧ x.id ≤ 99 ∧ blockV x.zs = true) ∧ ∀ j z, j < k → xs[j]? = some z → z.id ≠ x.id := by
  obtain ⟨_, h2, h3⟩ := chain_pairwise befH_trans (storeV_iff.1 h).1
  have hv := valsH_get hx
  have hok := h2 x.val (List.mem_of_getElem? hv)
  unfold okH at hok
  rw [Bool.and_eq_true, Bool.and_eq_true] at hok
  have hid := hok.1.1
  simp only [inB, Bool.and_eq_true, decide_eq_true_eq] at hid
  refine ⟨⟨hid.1, hid.2, hok.1.2⟩, fun j z hj hz he => ?_⟩
  have hvz := valsH_get hz
  obtain ⟨hk, e1⟩ := List.getElem?_eq_some_iff.1 hv
  obtain ⟨hj', e2⟩ := List.getElem?_eq_some_iff.1 hvz
  have := (List.pairwise_iff_getElem.1 h3) j k hj' hk hj
  rw [e1, e2] at this
  simp only [befH, decide_eq_true_eq] at this
  have h4 : z.val.1 = z.id := rfl
  have h5 : x.val.1 = x.id := rfl
  omega

theorem vals_ids {xs ys : List HV} {k : Nat} (h : valsH ys = valsH (xs.take k)) {i : Int} (hn : ∀ j z, j < k → xs[j]? = some z → z.id ≠ i) : ∀ z ∈ ys, z.id ≠ i := by
  intro z hz
  have hm : z.val ∈ valsH ys := List.mem_map_of_mem hz
  rw [h] at hm
  obtain ⟨y, hy, he⟩ := List.mem_map.1 hm
  obtain ⟨j, hj, rfl⟩ := List.getElem_of_mem hy
  rw [List.length_take] at hj
  rw [List.getElem_take] at he
  have := hn j xs[j] (by omega) (List.getElem?_eq_getElem _)
  have h1 : (xs[j]).id = z.id := congrArg (fun p : Int × List Int × Int => p.1) he
  rw [← h1]; exact this

theorem vals_snoc {xs ys : List HV} {k : Nat} {x y : HV} (h : valsH ys = valsH (xs.take k)) (hx : xs[k]? = some x) (hy : y.val = x.val) : valsH (ys ++ [y]) = valsH (xs.take (k + 1)) := by
  obtain ⟨h1, h2⟩ := List.getElem?_eq_some_iff.1 hx
  rw [List.take_succ_eq_append_getElem h1, h2]
  unfold valsH at h ⊢
  rw [List.map_append, List.map_append, h, List.map_singleton, List.map_singleton, hy]

theorem blockV_wf {zs : List Int} (h : blockV zs = true) : WfI zs ∧ zs.length ≤ 8 := by
  obtain ⟨h1, _, h3⟩ := blockV_parts h
  refine ⟨fun z hz => ?_, h3⟩
  obtain ⟨k, hk, rfl⟩ := List.getElem_of_mem hz
  have := allB_at h1 hk
  simp only [List.getD, List.getElem?_eq_getElem hk, Option.getD_some] at this
  omega

theorem StoreM.push {w w' : World} {B b : Nat} {ys : List HV} {y : HV} (h : StoreM w B b ys) (hy : OwnI w B y.ad y.cp y.zs) (hne : ∀ z ∈ ys, z.id ≠ y.id) (hm : MapF w' b (ys.length + 1) (putF (mapOf ys) y.id (valH y))) (hg : w.grownBy w' (some b)) (hk : ∀ cs t fz, w.heap[b]? ≠ some (.cells cs t fz)) : StoreM w' B b (ys ++ [y]) := by
  have keep : ∀ z : HV, OwnI w B z.ad z.cp z.zs → OwnI w' B z.ad z.cp z.zs := fun z hz => hz.apartI hg (fun k hk' r hr e => by
    injection hr with hr
    subst hr
    subst e
    obtain ⟨cs, fz, h1⟩ := hz.kindI _ hk'
    exact hk cs _ fz h1)
  refine ⟨by rw [putF_mapOf hne] at hm; simpa using hm, h.blk, fun z hz => ?_⟩
  rcases List.mem_append.1 hz with hz | hz
  · exact keep z (h.ins z hz)
  · rw [List.mem_singleton] at hz; subst hz; exact keep z hy

theorem MapF.notCells {w : World} {b n : Nat} {f : Int → Option Value} (h : MapF w b n f) : ∀ cs t fz, w.heap[b]? ≠ some (.cells cs t fz) := by
  intro cs t fz e
  obtain ⟨es, clock, hb, _⟩ := h
  rw [hb] at e
  injection e with e
  cases e

set_option maxHeartbeats 1000000 in
theorem openStore_any (a : Option Addr) (n c : Nat) (xs : List HV) (w : World) (hr : RdR eltH w a n xs) (hi : InH w xs) (hs : ∀ x ∈ xs, x.zs.length ≤ 4611686018427387904) (hn : n ≤ c) (hc : c ≤ 9223372036854775807) :
    Calls Try.prog 40 #[.slice a n c] w (RetOpen w xs) := by
  have hl := Lib.hid hr.1
  have K := implStoreValid_any a n c xs w hr hi hs hn hc
  cases hv : storeV (valsH xs) with
  | false =>
    rw [hv] at K
    go_enter Try.func40, Try.ntmps40
    go_wp2_with fail
    with_reducible refine K.mono ?_
    rintro e w1 ⟨rfl, hb⟩
    go_wp2
    go_ret2
    exact .inl ⟨hv, rfl, hb⟩
  | true =>
    rw [hv] at K
    have HV1 := Lib.hid hv
    have HI := Lib.hid hi
    have hn16 : n ≤ 16 := by
      have := (chainV_iff.1 (storeV_iff.1 hv).1).1
      rw [valsH_len, hr.1] at this
      exact this
    have hmm := @run_makeMap Try.prog
    clear hv hi hs
    go_enter Try.func40, Try.ntmps40
    go_wp2_with fail
    with_reducible refine K.mono ?_
    rintro e w1 ⟨rfl, hb1⟩
    have hM0 : StoreM (w1.alloc (.map #[] 0)) w.heap.size w1.heap.size [] := ⟨MapF.made w1, hb1.size, by intro y hy; cases hy⟩
    have hb2 := hb1.alloc hb1.size (.map #[] 0)
    obtain ⟨G, hG⟩ : ∃ G, w1.heap.size = G := ⟨_, rfl⟩
    have hGw : w.heap.size ≤ G := by rw [← hG]; exact hb1.size
    clear K
    go_wp2
    rw [hG] at hM0
    generalize w1.alloc (.map #[] 0) = W0 at hM0 hb2 ⊢
    clear hG hb1
    go_loopw [13] (fun i wr => ∃ k : Nat, k ≤ n ∧ i = .int .i64 k ∧ Below w.heap.size w wr ∧ ∃ ys : List HV, Hid (ys.length = k) ∧ Hid (valsH ys = valsH (xs.take k)) ∧ StoreM wr w.heap.size G ys)
      (fun i _ => n - (intOf i).toNat)
    case atStart => exact ⟨0, Nat.zero_le _, rfl, hb2, [], Lib.hid rfl, Lib.hid rfl, hM0⟩
    case round =>
      clear hM0 hb2
      obtain ⟨k, hk, rfl, hb, ys, HYL, HYV, hM⟩ := hrel
      by_cases hlt : k < n
      · obtain ⟨b, off, x, rfl, hbl, hx, c0, c1, c2⟩ := atH (hr.below hb) hlt
        have hids := store_ids HV1.out hx
        obtain ⟨hid0, hid1, hbv⟩ := hids.1
        have hrx := (HI.out x (List.mem_of_getElem? hx)).below hb
        have hwx := (blockV_wf hbv).1
        have hl8 := (blockV_wf hbv).2
        have hlx : x.zs.length ≤ 1048576 := by omega
        have HNE := Lib.hid (vals_ids HYV.out hids.2)
        have HX := Lib.hid hx
        clear hx hids hbv
        have hk0 : (0 : Int) ≤ (k : Int) := by omega
        have hk1 : (k : Int) < (n : Int) := by omega
        obtain ⟨hHl, q0, q1, q2⟩ := one_boxH wr (.int .i64 x.id) (.slice x.ad x.zs.length x.cp) (.int .i64 x.us) 45
        have hbw := hb.alloc hb.size (.cells #[.int .i64 x.id, .slice x.ad x.zs.length x.cp, .int .i64 x.us] 45)
        have hbw1 : Below wr.heap.size wr (wr.alloc (.cells #[.int .i64 x.id, .slice x.ad x.zs.length x.cp, .int .i64 x.us] 45)) := (Below.refl _ _).alloc (Nat.le_refl _) _
        have hrx1 := hrx.below hbw1
        have hGl := hM.map.lt
        have hneG : some wr.heap.size ≠ some G := by intro e; injection e with e; omega
        have hwW : w.heap.size ≤ wr.heap.size := hb.size
        clear hrx
        go_wp2
        generalize wr.alloc (.cells #[.int .i64 x.id, .slice x.ad x.zs.length x.cp, .int .i64 x.us] 45) = W1 at hHl q0 q1 q2 hbw hbw1 hrx1 ⊢
        have hrx2 : RdI W1.drew x.ad x.zs.length x.zs := hrx1
        refine wp_region_noPanic ?_
        refine wp_region_held_drew (S := fun w' => w'.cell? ⟨wr.heap.size, 0, none⟩ = some (.int .i64 x.id) ∧ w'.cell? ⟨wr.heap.size, 1, none⟩ = some (.slice x.ad x.zs.length x.cp) ∧ w'.cell? ⟨wr.heap.size, 2, none⟩ = some (.int .i64 x.us)) (by kernel_rfl) ?_ (fun hHeld => ?_)
        · exact ⟨q0, q1, q2⟩
        refine held_yes (i := 0) 17 (v := ?_) rfl rfl (by kernel_rfl) (by kernel_rfl) (by kernel_rfl) (fun _ _ _ _ _ h => h) (by rfl) (by assumption) ?_ ?_
        rotate_left 1
        · intro w hSw
          (try dsimp only at hSw)
          first | (go_simp; done) | (go_simp; with_reducible rfl)
        try simp only [Act.put, List.setIfInBounds_toArray, List.set_cons_zero, List.set_cons_succ]
        refine held_yes (i := 1) 18 (v := ?_) rfl rfl (by kernel_rfl) (by kernel_rfl) (by kernel_rfl) (fun _ _ _ _ _ h => h) (by rfl) (by assumption) ?_ ?_
        rotate_left 1
        · intro w hSw
          (try dsimp only at hSw)
          first | (go_simp; done) | (go_simp; with_reducible rfl)
        try simp only [Act.put, List.setIfInBounds_toArray, List.set_cons_zero, List.set_cons_succ]
        refine held_yes (i := 2) 19 (v := ?_) rfl rfl (by kernel_rfl) (by kernel_rfl) (by kernel_rfl) (fun _ _ _ _ _ h => h) (by rfl) (by assumption) ?_ ?_
        rotate_left 1
        · intro w hSw
          (try dsimp only at hSw)
          first | (go_simp; done) | (go_simp; with_reducible rfl)
        try simp only [Act.put, List.setIfInBounds_toArray, List.set_cons_zero, List.set_cons_succ]
        refine held_yes (i := 3) 20 (v := ?_) rfl rfl (by kernel_rfl) (by kernel_rfl) (by kernel_rfl) (fun _ _ _ _ _ h => h) (by rfl) (by assumption) ?_ ?_
        rotate_left 1
        · intro w hSw
          (try dsimp only at hSw)
          first | (go_simp; done) | (go_simp; with_reducible rfl)
        try simp only [Act.put, List.setIfInBounds_toArray, List.set_cons_zero, List.set_cons_succ]
        refine held_yes (i := 4) 21 (v := ?_) rfl rfl (by kernel_rfl) (by kernel_rfl) (by kernel_rfl) (fun _ _ _ _ _ h => h) (by rfl) (by assumption) ?_ ?_
        rotate_left 1
        · intro w hSw
          (try dsimp only at hSw)
          first | (go_simp; done) | (go_simp; with_reducible rfl)
        try simp only [Act.put, List.setIfInBounds_toArray, List.set_cons_zero, List.set_cons_succ]
        refine held_yes (i := 5) 22 (v := ?_) rfl rfl (by kernel_rfl) (by kernel_rfl) (by kernel_rfl) (fun _ _ _ _ _ h => h) (by rfl) (by assumption) ?_ ?_
        rotate_left 1
        · intro w hSw
          (try dsimp only at hSw)
          first | (go_simp; done) | (go_simp; with_reducible rfl)
        try simp only [Act.put, List.setIfInBounds_toArray, List.set_cons_zero, List.set_cons_succ]
        refine held_yes (i := 6) 23 (v := ?_) rfl rfl (by kernel_rfl) (by kernel_rfl) (by kernel_rfl) (fun _ _ _ _ _ h => h) (by rfl) (by assumption) ?_ ?_
        rotate_left 1
        · intro w hSw
          (try dsimp only at hSw)
          first | (go_simp; done) | (go_simp; with_reducible rfl)
        try simp only [Act.put, List.setIfInBounds_toArray, List.set_cons_zero, List.set_cons_succ]
        refine held_yes (i := 8) 25 (v := ?_) rfl rfl (by kernel_rfl) (by kernel_rfl) (by kernel_rfl) (fun _ _ _ _ _ h => h) (by rfl) (by assumption) ?_ ?_
        rotate_left 1
        · intro w hSw
          (try dsimp only at hSw)
          first | (go_simp; done) | (go_simp; with_reducible rfl)
        try simp only [Act.put, List.setIfInBounds_toArray, List.set_cons_zero, List.set_cons_succ]
        refine held_yes (i := 9) 26 (v := ?_) rfl rfl (by kernel_rfl) (by kernel_rfl) (by kernel_rfl) (fun _ _ _ _ _ h => h) (by rfl) (by assumption) ?_ ?_
        rotate_left 1
        · intro w hSw
          (try dsimp only at hSw)
          first | (go_simp; done) | (go_simp; with_reducible rfl)
        try simp only [Act.put, List.setIfInBounds_toArray, List.set_cons_zero, List.set_cons_succ]
        refine wpAnyH_ready (rs := [7]) (by kernel_rfl) (by simp) ?_
        refine AllReadyH.cons rfl (fun K hK => ?_) AllReadyH.nil
        go_simp
        with_reducible refine (slClone_any x.ad x.zs.length x.cp x.zs W1.drew hrx2 hwx hlx).mono ?_
        rintro e w4 ⟨ad, cp, rfl, hO4, hb4⟩
        go_wp2_with fail
        refine hK.out _ _ ?_ (fun hHeld => ?_)
        · exact ⟨hb4.cell (p := ⟨wr.heap.size, 0, none⟩) hHl |>.trans q0, hb4.cell (p := ⟨wr.heap.size, 1, none⟩) hHl |>.trans q1, hb4.cell (p := ⟨wr.heap.size, 2, none⟩) hHl |>.trans q2⟩
        clear hK K
        try simp only [Act.put, List.setIfInBounds_toArray, List.set_cons_zero, List.set_cons_succ]
        refine held_yes (i := 10) 27 (v := ?_) rfl rfl (by kernel_rfl) (by kernel_rfl) (by kernel_rfl) (fun _ _ _ _ _ h => h) (by rfl) (by assumption) ?_ ?_
        rotate_left 1
        · intro w hSw
          (try dsimp only at hSw)
          first | (go_simp; done) | (go_simp; with_reducible rfl)
        try simp only [Act.put, List.setIfInBounds_toArray, List.set_cons_zero, List.set_cons_succ]
        have hM4 := (hM.below (show Below wr.heap.size wr W1.drew from ⟨hbw1.os, hbw1.tape, hbw1.output, hbw1.size, hbw1.block⟩)).below hb4
        refine wpAnyH_ready (rs := [11]) (by kernel_rfl) (by simp) ?_
        refine AllReadyH.cons rfl (fun K hK => ?_) AllReadyH.nil
        refine step_storeF rfl _ _ _ 66 45 rfl Try.underlying66 G _ (mapOf ys) rfl hM4.map (by unfold maxLen; have := HYL.out; omega) x.id (valH ⟨x.id, ad, cp, x.zs, x.us⟩) rfl rfl (WalkArith.wf_i64 (by omega)) ?_
        intro w5 hM5 hG5
        refine hK.out _ _ ?_ (fun hHeld => ?_)
        · exact ⟨hG5.cell (hb4.cell (p := ⟨wr.heap.size, 0, none⟩) hHl |>.trans q0) hneG, hG5.cell (hb4.cell (p := ⟨wr.heap.size, 1, none⟩) hHl |>.trans q1) hneG, hG5.cell (hb4.cell (p := ⟨wr.heap.size, 2, none⟩) hHl |>.trans q2) hneG⟩
        clear hK K
        refine wpAnyH_done (by kernel_rfl) ?_ _
        refine NoPanic.normal ?_
        have hS5 := hM4.push (y := ⟨x.id, ad, cp, x.zs, x.us⟩) (hO4.mono (show w.heap.size ≤ W1.heap.size from hbw.size)) HNE.out hM5 hG5 hM4.map.notCells
        have hb5 := ((show Below w.heap.size w W1.drew from ⟨hbw.os, hbw.tape, hbw.output, hbw.size, hbw.block⟩).trans (hb4.mono hbw.size)).grown hG5 (Nat.le_trans hbw.size hb4.size) (fun r hr => by injection hr with hr; omega)
        have HYL2 : Hid ((ys ++ [(⟨x.id, ad, cp, x.zs, x.us⟩ : HV)]).length = k + 1) := Lib.hid (by rw [List.length_append, HYL.out]; rfl)
        have HYV2 := Lib.hid (vals_snoc (y := ⟨x.id, ad, cp, x.zs, x.us⟩) HYV.out HX.out rfl)
        clear hM4 hM hM5 hG5 hO4 hb4 hbw hbw1 hb q0 q1 q2 hHl hrx1 hr
        go_wp2
        go_roundw
        case rel => exact ⟨k + 1, by omega, by go_num, hb5, _, HYL2, HYV2, hS5⟩
        case measure => simp [intOf]; omega
      · obtain rfl : k = n := by omega
        have HYF : Hid (valsH ys = valsH xs) := Lib.hid (by have := HYV.out; rwa [List.take_of_length_le (by have := hl.out; omega)] at this)
        go_wp2
        go_ret2
        exact .inr ⟨HV1.out, G, ys, rfl, HYF.out, hM, hb⟩

end Go.Proofs.Ytajheicheefpeaa

/- The kit of the texts that the laws on checks run alone: all that they reach but badOf and the group. -/
namespace Go.Proofs.Ytajheicheefpeaa
open Go.Proofs
set_option linter.unusedSimpArgs false
set_option linter.unusedVariables false

def fnsC : List FuncId := [24, 11, 9, 25, 30, 40, 41, 26, 45, 46, 55, 61, 62, 33, 32, 37, 38, 43, 44, 47, 48, 50, 51, 52, 54, 60, 18, 28, 29, 27, 8, 10, 12, 13, 14, 15, 16, 17, 19, 21, 22, 23, 31, 34, 35, 36, 39, 49, 53]

theorem fnsC_ok : (fnsC.all fun f => match Try.prog.funcs[f]? with | some fn => !(fn.name == "runtime.NumGoroutine") && !fn.body.isNone | none => false) = true := by kernel_rfl

theorem guard_int : Try.prog.eqGuardType Try.prog.depth 3 = false := by kernel_rfl
theorem guard_bool : Try.prog.eqGuardType Try.prog.depth 4 = false := by kernel_rfl
theorem guard_ints : Try.prog.eqGuardType Try.prog.depth 36 = false := by kernel_rfl
theorem guard_check : Try.prog.eqGuardType Try.prog.depth 53 = false := by kernel_rfl

noncomputable def kitC : Kit Try.prog where
  eqs := [3, 4, 36, 53]
  eqOk := by
    intro t h
    simp only [List.mem_cons, List.not_mem_nil, or_false] at h
    rcases h with rfl | rfl | rfl | rfl
    · exact EqCalm.int Try.underlying3 guard_int
    · exact EqCalm.bool Try.underlying4 guard_bool
    · exact EqCalm.slice Try.underlying36 guard_ints
    · exact EqCalm.struct Try.underlying53 (fun f hf => by
        simp only [List.mem_toArray, List.mem_cons, List.not_mem_nil, or_false] at hf
        rcases hf with rfl | rfl <;> exact ⟨_, Try.underlying3⟩) guard_check
  ints := [3, 5]
  intOk := by
    intro t h
    simp only [List.mem_cons, List.not_mem_nil, or_false] at h
    rcases h with rfl | rfl
    · exact ⟨_, Try.underlying3⟩
    · exact ⟨_, Try.underlying5⟩
  maps := [66]
  mapOk := by
    intro t h
    simp only [List.mem_cons, List.not_mem_nil, or_false] at h
    subst h
    exact ⟨_, _, _, Try.underlying66, Try.underlying3⟩
  fns := fnsC
  fnOk := by
    intro f h
    have := List.all_eq_true.1 fnsC_ok f h
    cases hf : Try.prog.funcs[f]? with
    | none => simp [hf] at this
    | some fn =>
      simp only [hf, Bool.and_eq_true, Bool.not_eq_true'] at this
      exact ⟨fn, rfl, this.1, this.2⟩

theorem bodiesC_ok : (fnsC.all fun f => match Try.prog.funcs[f]? with | some fn => (match fn.body with | some c => okCode kitC true [] c | none => false) | none => false) = true := by kernel_rfl

theorem bodiesC : Bodies kitC := by
  intro f h
  have := List.all_eq_true.1 bodiesC_ok f h
  cases hf : Try.prog.funcs[f]? with
  | none => simp [hf] at this
  | some fn =>
    simp only [hf] at this
    cases hc : fn.body with
    | none => simp [hc] at this
    | some c =>
      simp only [hc] at this
      exact ⟨fn, c, rfl, hc, this⟩
end Go.Proofs.Ytajheicheefpeaa

/- From the emptied world to the machine's: what stands in the one stands in the other; an emptied world for every world. -/
namespace Go.Proofs.Ytajheicheefpeaa
open Go.Proofs
open Go.Conc Go.RowKit
set_option linter.unusedVariables false
set_option linter.unusedSimpArgs false

section
variable {F : Nat → Prop} {w0 w : World}

theorem Sim.atD (h : Sim F w0 w) (d : Nat) : Sim F w0 (w.at d) := ⟨h.size, h.same, h.blank, h.os, h.output⟩
theorem Sim.tape (h : Sim F w0 w) (τ : TapeT) (d : Nat) : Sim F (onT w0 τ d) w := ⟨h.size, h.same, h.blank, h.os, h.output⟩

theorem MapF.sim {b n : Nat} {f : Int → Option Value} (h : MapF w0 b n f) (hS : Sim F w0 w) : MapF w b n f ∧ ¬ F b := by
  obtain ⟨es, clock, hb, hr⟩ := h
  have hn : ¬ F b := fun hf => by
    obtain ⟨c, e, _, h2⟩ := hS.blank b hf
    rw [hb] at h2
    cases h2
  exact ⟨⟨es, clock, hS.get hn hb (by simp), hr⟩, hn⟩

/-- Every world has its emptied one. -/
theorem sim_make (F : Nat → Prop) (w : World) (hF : ∀ b, F b → ∃ c e, w.heap[b]? = some (.cells c e (0, 0))) : ∃ w0, Sim F w0 w ∧ NoPend w0 ∧ w0.tape = w.tape ∧ w0.drawn = w.drawn := by
  classical
  let g : Nat → Obj → Obj := fun b o => if F b then (match o with | .cells _ e _ => .cells #[] e (0, 0) | o => o) else inert o
  refine ⟨{ w with heap := w.heap.mapIdx g }, ⟨by simp, fun b hb => ?_, fun b hb => ?_, rfl, rfl⟩, fun b c e h => ?_, rfl, rfl⟩
  · simp only [Array.getElem?_mapIdx]
    cases w.heap[b]? with
    | none => rfl
    | some o => simp [g, hb]
  · obtain ⟨c, e, h⟩ := hF b hb
    refine ⟨c, e, h, ?_⟩
    simp only [Array.getElem?_mapIdx, h]
    simp [g, hb]
  · simp only [Array.getElem?_mapIdx] at h
    obtain ⟨o, ho, hg⟩ := Option.map_eq_some_iff.1 h
    by_cases hb : F b
    · obtain ⟨c', e', h'⟩ := hF b hb
      rw [h'] at ho
      cases ho
      simp [g, hb] at hg
    · simp only [g, hb, if_false] at hg
      cases o <;> simp [inert] at hg

/-- The emptied world has only grown, where the machine's has. -/
theorem sim_below {F' : Nat → Prop} {w' w0' : World} (hS : Sim F w0 w) (hS' : Sim F' w0' w') (hz : w.heap.size ≤ w'.heap.size) (hn : ∀ b, b < w.heap.size → ¬ F b → w'.heap[b]? = w.heap[b]?) (hf : ∀ b, F b → w'.heap[b]? = w.heap[b]?)
    (hFF : ∀ b, b < w.heap.size → (F' b ↔ F b)) (hos : w'.os = w.os) (hout : w'.output = w.output) : BT w0 w0' := by
  refine ⟨by rw [hS'.os, hos, hS.os], by rw [hS'.output, hout, hS.output], by rw [hS'.size, hS.size]; exact hz, fun b hb => ?_⟩
  rw [hS.size] at hb
  by_cases h : F b
  · obtain ⟨c, e, h1, h2⟩ := hS.blank b h
    obtain ⟨c', e', h3, h4⟩ := hS'.blank b ((hFF b hb).2 h)
    rw [hf b h, h1] at h3
    cases h3
    rw [h4, h2]
  · rw [hS'.same b (fun x => h ((hFF b hb).1 x)), hS.same b h, hn b hb h]
end
end Go.Proofs.Ytajheicheefpeaa

/- ChecksBad, beside leavers. -/
namespace Go.Proofs.Ytajheicheefpeaa
open Go.Proofs
open Go.Conc Go.RowKit
open Go.ConcR (KK wgBlock WgAt stA smA DC0)
open Go.Conc.Lib Go.ConcR.Gen Go.ConcN.Gen
set_option linter.unusedSimpArgs false
set_option linter.unusedVariables false

/-- Whether check c is bad in the store. -/
def badC (vs : List (Int × List Int × Int)) (c : Int × Int) : Bool := match atV vs c.1 with
  | none => true
  | some v => blockSum v.2.1 != c.2
/-- What ChecksBad answers. -/
def badR (vs : List (Int × List Int × Int)) (cs : List (Int × Int)) : List Int := if storeV vs && checksV cs then badI cs (cs.map (badC vs)) cs.length else []

theorem badR_bad {vs : List (Int × List Int × Int)} {cs : List (Int × Int)} (h : storeV vs = false ∨ checksV cs = false) : badR vs cs = [] := by
  unfold badR
  rcases h with h | h <;> simp [h]
theorem badR_good {vs : List (Int × List Int × Int)} {cs : List (Int × Int)} (h : storeV vs = true) (h' : checksV cs = true) : badR vs cs = badI cs (cs.map (badC vs)) cs.length := by
  unfold badR
  simp [h, h']

def b20 : Frame := base 20

section
variable {la ka : Option Addr} {nl lc n cc : Nat} {xs : List HV} {chks : List (Int × Int)} {w0 : World}

/-- Behind the opening of the store. -/
def Q1 (la ka : Option Addr) (nl lc n cc : Nat) (xs : List HV) (w0 : World) (b : Bool) (T : Array Value) (w' : World) : Prop :=
  b = false ∧ BT w0 w' ∧ ((storeV (valsH xs) = false ∧ T = #[.slice la nl lc, .slice ka n cc, undef, undef, .slice none 0 0, .map none, .bool false, undef, undef, undef, .tuple #[.map none, .bool false], .slice la nl lc, .tuple #[.map none, .bool false], .map none, .bool false, undef, undef, undef, undef, undef, undef, undef, undef, undef, undef, undef, undef, undef, undef, undef, undef, undef, undef, undef, undef, undef, undef, undef, undef, undef, undef, undef]) ∨ (storeV (valsH xs) = true ∧ ∃ Mb ys, valsH ys = valsH xs ∧ StoreM w' w0.heap.size Mb ys ∧ T = #[.slice la nl lc, .slice ka n cc, undef, undef, .slice none 0 0, .map (some Mb), .bool true, undef, undef, undef, .tuple #[.map (some Mb), .bool true], .slice la nl lc, .tuple #[.map (some Mb), .bool true], .map (some Mb), .bool true, undef, undef, undef, undef, undef, undef, undef, undef, undef, undef, undef, undef, undef, undef, undef, undef, undef, undef, undef, undef, undef, undef, undef, undef, undef, undef, undef]))

noncomputable def R20_1 : Code := match body20 with | .seq _ (.seq x _) => x | _ => .skip
noncomputable def IF20 : Code := match body20 with | .seq _ (.seq _ (.seq x _)) => x | _ => .skip

set_option maxRecDepth 100000 in
set_option maxHeartbeats 1000000 in
theorem open_wp (hr : RdR eltH w0 la nl xs) (hi : InH w0 xs) (hs : ∀ x ∈ xs, x.zs.length ≤ 4611686018427387904) (hn : nl ≤ lc) (hc : lc ≤ 9223372036854775807) :
    R20_1.wp Try.prog (QW (Q1 la ka nl lc n cc xs w0)) ⟨#[.slice la nl lc, .slice ka n cc, undef, undef, .slice none 0 0, undef, undef, undef, undef, undef, undef, undef, undef, undef, undef, undef, undef, undef, undef, undef, undef, undef, undef, undef, undef, undef, undef, undef, undef, undef, undef, undef, undef, undef, undef, undef, undef, undef, undef, undef, undef, undef], []⟩ w0 := by
  have K := openStore_any la nl lc xs w0 hr hi hs hn hc
  simp only [R20_1, body20, Try.f20, Option.getD_some]
  go_wp2_with fail
  with_reducible refine K.mono ?_
  rintro e w1 (⟨hv, rfl, hb⟩ | ⟨hv, Mb, ys, rfl, hy, hM, hb⟩)
  · clear K
    have HV := Lib.hid hv
    clear hv
    go_wp2
    exact ⟨rfl, rfl, BT.of hb, .inl ⟨HV.out, rfl⟩⟩
  · clear K
    have HV := Lib.hid hv
    have HY := Lib.hid hy
    clear hv hy
    go_wp2
    exact ⟨rfl, rfl, BT.of hb, .inr ⟨HV.out, Mb, ys, HY.out, hM, rfl⟩⟩

/-- Behind the test. -/
def Q2 (la ka : Option Addr) (nl lc n cc : Nat) (chks : List (Int × Int)) (w0 : World) (Mb : Nat) (b : Bool) (T : Array Value) (w' : World) : Prop :=
  BT w0 w' ∧ ((b = true ∧ checksV chks = false ∧ T.getD 4 undef = .slice none 0 0) ∨ (b = false ∧ checksV chks = true ∧ ∃ x15 x16 x17 x18 x19 x20 x21 : Value, T = #[.slice la nl lc, .slice ka n cc, undef, undef, .slice none 0 0, .map (some Mb), .bool true, undef, undef, undef, .tuple #[.map (some Mb), .bool true], .slice la nl lc, .tuple #[.map (some Mb), .bool true], .map (some Mb), .bool true, x15, x16, x17, x18, x19, x20, x21, undef, undef, undef, undef, undef, undef, undef, undef, undef, undef, undef, undef, undef, undef, undef, undef, undef, undef, undef, undef]))

set_option maxRecDepth 100000 in
set_option maxHeartbeats 1000000 in
theorem test_wp {Mb : Nat} (hr : RdX w0 ka n chks) (hwf : WfX chks) (hn : n ≤ 4611686018427387904) :
    IF20.wp Try.prog (QW (Q2 la ka nl lc n cc chks w0 Mb)) ⟨#[.slice la nl lc, .slice ka n cc, undef, undef, .slice none 0 0, .map (some Mb), .bool true, undef, undef, undef, .tuple #[.map (some Mb), .bool true], .slice la nl lc, .tuple #[.map (some Mb), .bool true], .map (some Mb), .bool true, undef, undef, undef, undef, undef, undef, undef, undef, undef, undef, undef, undef, undef, undef, undef, undef, undef, undef, undef, undef, undef, undef, undef, undef, undef, undef, undef], []⟩ w0 := by
  have K := checksValid_any ka n cc chks w0 hr hwf hn
  obtain ⟨v, hv⟩ : ∃ v, checksV chks = v := ⟨_, rfl⟩
  rw [hv] at K
  have HV := Lib.hid hv
  clear hv
  simp only [IF20, body20, Try.f20, Option.getD_some]
  go_wp2_with fail
  with_reducible refine K.mono ?_
  rintro e w1 ⟨rfl, hb⟩
  clear K
  cases v with
  | false =>
    go_wp2
    exact ⟨rfl, BT.of hb, .inl ⟨rfl, HV.out, rfl⟩⟩
  | true =>
    go_wp2
    exact ⟨rfl, BT.of hb, .inr ⟨rfl, HV.out, _, _, _, _, _, _, _, rfl⟩⟩

set_option maxRecDepth 100000 in
set_option maxHeartbeats 1000000 in
theorem test0_wp : IF20.wp Try.prog (QW fun b T w' => b = true ∧ BT w0 w' ∧ T.getD 4 undef = .slice none 0 0) ⟨#[.slice la nl lc, .slice ka n cc, undef, undef, .slice none 0 0, .map none, .bool false, undef, undef, undef, .tuple #[.map none, .bool false], .slice la nl lc, .tuple #[.map none, .bool false], .map none, .bool false, undef, undef, undef, undef, undef, undef, undef, undef, undef, undef, undef, undef, undef, undef, undef, undef, undef, undef, undef, undef, undef, undef, undef, undef, undef, undef, undef], []⟩ w0 := by
  simp only [IF20, body20, Try.f20, Option.getD_some]
  have hb := Below.refl w0.heap.size w0
  go_wp2_with fail
  exact ⟨rfl, rfl, BT.of hb, rfl⟩
end
end Go.Proofs.Ytajheicheefpeaa

/- ChecksBad, beside leavers: from its call to its return. -/
namespace Go.Proofs.Ytajheicheefpeaa
open Go.Proofs
open Go.Conc Go.RowKit
open Go.ConcR (KK wgBlock WgAt stA smA DC0)
open Go.Conc.Lib Go.ConcR.Gen Go.ConcN.Gen
set_option linter.unusedSimpArgs false
set_option linter.unusedVariables false

theorem qw_mono {Q Q' : Bool → Array Value → World → Prop} (h : ∀ b T w, Q b T w → Q' b T w) {e : Exit} {a : Act} {w : World} (hq : QW Q e a w) : QW Q' e a w := by
  cases e <;> first | exact ⟨hq.1, h _ _ _ hq.2⟩ | exact hq
theorem Sim.noPend {F : Nat → Prop} {w0 w : World} (h : Sim F w0 w) : NoPend w0 := by
  intro b c e hb
  by_cases hf : F b
  · obtain ⟨_, _, _, h2⟩ := h.blank b hf
    rw [hb] at h2; cases h2
  · rw [h.same b hf] at hb
    obtain ⟨x, _, hx⟩ := Option.map_eq_some_iff.1 hb
    cases x <;> simp [inert] at hx
theorem BT.trans {w w1 w2 : World} (h : BT w w1) (h' : BT w1 w2) : BT w w2 := ⟨h'.os.trans h.os, h'.output.trans h.output, Nat.le_trans h.size h'.size, fun b hb => (h'.block b (Nat.lt_of_lt_of_le hb h.size)).trans (h.block b hb)⟩
theorem StoreM.onT {w : World} {B b : Nat} {ys : List HV} (h : StoreM w B b ys) (τ : TapeT) (d : Nat) : StoreM (onT w τ d) B b ys := ⟨h.map, h.blk, h.ins⟩
theorem Q1.onT {la ka : Option Addr} {nl lc n cc : Nat} {xs : List HV} {w0 w : World} {b : Bool} {T : Array Value} (h : Q1 la ka nl lc n cc xs w0 b T w) (τ : TapeT) (d : Nat) : Q1 la ka nl lc n cc xs w0 b T (Go.Proofs.Ytajheicheefpeaa.onT w τ d) :=
  ⟨h.1, ⟨h.2.1.os, h.2.1.output, h.2.1.size, h.2.1.block⟩, h.2.2.imp id fun ⟨a, Mb, ys, b, c, d⟩ => ⟨a, Mb, ys, b, c.onT _ _, d⟩⟩
theorem Q1.back {la ka : Option Addr} {nl lc n cc : Nat} {xs : List HV} {w0 w : World} {b : Bool} {T : Array Value} {τ : TapeT} {d : Nat} (h : Q1 la ka nl lc n cc xs (Go.Proofs.Ytajheicheefpeaa.onT w0 τ d) b T w) : Q1 la ka nl lc n cc xs w0 b T w :=
  ⟨h.1, ⟨h.2.1.os, h.2.1.output, h.2.1.size, h.2.1.block⟩, h.2.2⟩
theorem Q2.onT {la ka : Option Addr} {nl lc n cc Mb : Nat} {chks : List (Int × Int)} {w0 w : World} {b : Bool} {T : Array Value} (h : Q2 la ka nl lc n cc chks w0 Mb b T w) (τ : TapeT) (d : Nat) : Q2 la ka nl lc n cc chks w0 Mb b T (Go.Proofs.Ytajheicheefpeaa.onT w τ d) :=
  ⟨⟨h.1.os, h.1.output, h.1.size, h.1.block⟩, h.2⟩
theorem Q2.back {la ka : Option Addr} {nl lc n cc Mb : Nat} {chks : List (Int × Int)} {w0 w : World} {b : Bool} {T : Array Value} {τ : TapeT} {d : Nat} (h : Q2 la ka nl lc n cc chks (Go.Proofs.Ytajheicheefpeaa.onT w0 τ d) Mb b T w) : Q2 la ka nl lc n cc chks w0 Mb b T w :=
  ⟨⟨h.1.os, h.1.output, h.1.size, h.1.block⟩, h.2⟩
theorem ownI_nil (w : World) (B : Nat) : OwnI w B none 0 [] := ⟨(by intro z hz; cases hz), World.ownsRow_nil _ _ _ _⟩

/-- What is known of a check where badOf is called. -/
theorem chkW_of {F : Bks} {w0 w : World} {B Mb Kb ko n : Nat} {ys xs : List HV} {chks : List (Int × Int)} (hS : Sim F w0 w) (hM : StoreM w0 B Mb ys) (hy : valsH ys = valsH xs) (hv : storeV (valsH xs) = true) (hwc : WfX chks) (hl : chks.length = n)
    (hcell : ∀ j, j < n → w0.cell? ⟨Kb, ko + j * 2, none⟩ = some (.int .i64 (chks.getD j (0, 0)).1) ∧ w0.cell? ⟨Kb, ko + j * 2 + 1, none⟩ = some (.int .i64 (chks.getD j (0, 0)).2)) {j : Nat} (hj : j < n) :
    ∃ id sum th Bb off bc zs v0 v1 v2, ChkW F w Kb ko (mapOf ys) j id sum th Bb off bc zs v0 v1 v2 ∧ Value.bool (badC (valsH xs) (chks.getD j (0, 0))) = .bool (badV th zs sum) := by
  have hw := hwc _ (getD_mem_pair (xs := chks) (i := j) (by omega))
  obtain ⟨c0, c1⟩ := hcell j hj
  have hwf : (Lit.int .i64 (chks.getD j (0, 0)).1).wf = true := by
    have h1 := hw.1.1
    have h2 := hw.1.2
    generalize (chks.getD j (0, 0)).1 = z at h1 h2
    simp [Lit.wf, IntKind.min, IntKind.max, IntKind.signed, IntKind.bits]
    omega
  rcases mapOf_atV (ys := ys) (i := (chks.getD j (0, 0)).1) with ⟨h1, h2⟩ | ⟨y, hym, h1, h2⟩
  · refine ⟨_, _, false, 0, 0, 0, [], .int .i64 0, .slice none 0 0, .int .i64 0, ⟨(hS.cell c0).1, (hS.cell c1).1, by omega, hwf, by rw [h1]; rfl, by rw [h1]; rfl, ⟨_, rfl⟩, ⟨_, _, _, rfl⟩, ⟨_, rfl⟩, by simp, by simp, by simp⟩, ?_⟩
    rw [hy] at h2
    have e : badC (valsH xs) (chks.getD j (0, 0)) = true := by unfold badC; rw [h2]
    rw [e]; rfl
  · have hbv : blockV y.zs = true := by
      obtain ⟨q, hq, rfl⟩ := List.getElem_of_mem hym
      have hst : storeV (valsH ys) = true := by rw [hy]; exact hv
      exact (store_ids hst (List.getElem?_eq_getElem hq)).1.2.2
    obtain ⟨_, hb1, hb8⟩ := blockV_parts hbv
    obtain ⟨_, hrd⟩ := (hM.ins y hym).rd
    obtain ⟨Bb, off, had, hlt, hcs⟩ := hrd 0 (by omega)
    refine ⟨_, _, true, Bb, off, y.cp, y.zs, .int .i64 y.id, .slice y.ad y.zs.length y.cp, .int .i64 y.us, ⟨(hS.cell c0).1, (hS.cell c1).1, by omega, hwf, by rw [h1]; rfl, by rw [h1]; rfl, ⟨_, rfl⟩, ⟨_, _, _, rfl⟩, ⟨_, rfl⟩, fun _ => ⟨by rw [had], hbv⟩, fun _ => ⟨fun q hq => (hS.cell (hcs q hq)).1⟩, fun _ => ?_⟩, ?_⟩
    · have := hS.cell (hcs 0 (by omega))
      exact ⟨this.2.2, this.2.1⟩
    · rw [hy] at h2
      have e : badC (valsH xs) (chks.getD j (0, 0)) = (blockSum y.zs != (chks.getD j (0, 0)).2) := by unfold badC; rw [h2]; rfl
      rw [e]; rfl

set_option maxRecDepth 100000 in
set_option maxHeartbeats 4000000 in
theorem ok_checksBad {F : Bks} {p : Nat} {Post : Value → World → Prop} {b : Frame} {a : Act} {ops : Array Oper} {i : Nat} {rest : List Nat} {o : Oper} {ats : Array TypeId} {args : Array Operand} {k : List Item} {cs : List Frame} {w w0 : World} {la ka : Option Addr} {nl lc n cc : Nat} {xs : List HV} {chks : List (Int × Int)}
    (ho : ops[i]? = some o) (hwt : Region.wanted o (yielded ops a.tmps) = true) (hkb : b.kind ≠ .early) (hop : o.op = .call { callee := .value (.func 20), args := args, argTypes := ats }) (hargs : args.map a.eval = #[.slice la nl lc, .slice ka n cc])
    (hp : 0 < p) (hp16 : p + 16 < 2147483648) (hS : Sim F w0 w) (hF : ∀ b, F b → b < w.heap.size) (hr : RdR eltH w0 la nl xs) (hi : InH w0 xs) (hs : ∀ x ∈ xs, x.zs.length ≤ 4611686018427387904) (hnl : nl ≤ lc) (hlc : lc ≤ 9223372036854775807) (hrc : RdX w0 ka n chks) (hwc : WfX chks) (hn : n ≤ 4611686018427387904)
    (hnext : ∀ (F' : Bks) (p' : Nat) (w0' w' : World) (a' : Option Addr) (c' : Nat), Sim F' w0' w' → (∀ b, F' b → b < w'.heap.size) → Below w0.heap.size w0 w0' → OwnI w0' w0.heap.size a' c' (badR (valsH xs) chks) → p ≤ p' → p' ≤ p + 16 → (∀ b, b < w.heap.size → (F' b ↔ F b)) → Stay w w' →
      Ok Try.prog F' p' Post (G (b.at (a.put o.dst (.slice a' (badR (valsH xs) chks).length c')) (.inRegion ops rest :: k)) cs) w') :
    Ok Try.prog F p Post (G (b.at a (.inRegion ops (i :: rest) :: k)) cs) w := by
  have T : Terms AtRel (DB F) := termsB
  have hk : (base 20).kind ≠ .early := by decide
  -- a return with nothing
  have none_back : ∀ (T' : Array Value) (todo : List Item) (w0' w' : World), badR (valsH xs) chks = [] → T'.getD 4 undef = .slice none 0 0 → BT w0 w0' → Sim F w0' w' → Stay w w' →
      Ok Try.prog F p Post (G { (base 20).at ⟨T', []⟩ todo with mode := .returning } (b.at a (.inRegion ops (i :: rest) :: k) :: cs)) w' := by
    intro T' todo w0' w' hbad hT hB hS' hst
    have hz := hst.size
    refine ok_goes (Stop := Ok Try.prog F p Post) (fun _ _ h => h) (n := 1) (gt_leave1 T rfl Try.func20 rfl ?_)
    refine Goes.stop fun w₃ r₃ => ?_
    obtain ⟨d₃, rfl⟩ := r₃
    have h := hnext F p (onT w0' w0.tape w0'.drawn) (w'.at d₃) none 0 ((hS'.tape _ _).atD d₃) (fun b hb => by have := hF b hb; show b < w'.heap.size; omega) hB.below (by rw [hbad]; exact ownI_nil _ _) (Nat.le_refl _) (by omega) (fun _ _ => Iff.rfl) ⟨hst.size, hst.pend, hst.map, hst.back⟩
    rw [hbad] at h
    rw [ho]
    show Ok Try.prog F p Post (G (b.at (a.put o.dst (T'.getD 4 undef)) (.inRegion ops rest :: k)) cs) (w'.at d₃)
    rw [hT]
    exact h
  refine ok_goes (Stop := Ok Try.prog F p Post) (fun _ _ h => h) (n := 20) ?_
  refine gt_enter T ho hwt hkb hop Try.func20 rfl rfl ?_
  rw [hargs]
  simp only [Try.f20, Option.getD_some, List.size_toArray, List.length_cons, List.length_nil, Nat.reduceAdd, Nat.reduceSub, Array.replicate_succ, Array.replicate_zero, List.push_toArray, List.append_toArray, List.nil_append, List.cons_append]
  refine gt_seq T ?_
  refine gt_reg T ?_
  simp only [List.size_toArray, List.length_cons, List.length_nil, Nat.reduceAdd, Nat.zero_add, List.range, List.range.loop]
  refine gt_val T (.slice none 0 0) rfl rfl hk (fun w₂ r₂ => ?_) ?_
  · refine ⟨run_of fun K hK => ?_, ?_⟩
    · go_simp; exact hK
    · rw [listed_nil (by simp [go_sem, *])]; exact T.idle _
  walk_nrm
  refine gt_end T ?_
  refine gt_seq T ?_
  refine Goes.stop fun w₁ r₁ => ?_
  obtain ⟨d₁, rfl⟩ := r₁
  -- THE STORE IS OPENED
  refine ok_code (K := kitC) bodiesC (ret := false) (Q := Q1 la ka nl lc n cc xs w0) (fun b T w τ d h => h.onT τ d) (by kernel_rfl) ⟨_, Try.func20⟩ hS.noPend (hS.atD d₁) (fun τ d => ?_) (fun T' w0' w' hq hS' ht hz hst1 => ?_) (fun T' todo w0' w' hq _ _ _ _ => by cases hq.1)
  · have h := open_wp (ka := ka) (n := n) (cc := cc) (w0 := onT w0 τ d) hr hi hs hnl hlc
    simp only [R20_1, body20, Try.f20, Option.getD_some] at h
    exact wp_mono h fun e a w hq => qw_mono (fun b T w h => h.back) hq
  have st1 : Stay w w' := ⟨hst1.size, hst1.pend, hst1.map, hst1.back⟩
  obtain ⟨_, hB1, ⟨hv, rfl⟩ | ⟨hv, Mb, ys, hy, hM, rfl⟩⟩ := hq
  · -- NO STORE
    refine ok_goes (Stop := Ok Try.prog F p Post) (fun _ _ h => h) (n := 1) (gt_seq T ?_)
    refine Goes.stop fun w₁ r₁ => ?_
    obtain ⟨d₂, rfl⟩ := r₁
    refine ok_code (K := kitC) bodiesC (ret := true) (Q := fun b T w' => b = true ∧ BT w0' w' ∧ T.getD 4 undef = .slice none 0 0) (fun b T w τ d h => ⟨h.1, ⟨h.2.1.os, h.2.1.output, h.2.1.size, h.2.1.block⟩, h.2.2⟩) (by kernel_rfl) ⟨_, Try.func20⟩ hS'.noPend (hS'.atD d₂) (fun τ d => ?_) (fun T' w0' w' hq _ _ _ _ => by cases hq.1) (fun T' todo w0'' w'' hq hS'' ht' hz' hst2 => ?_)
    · have h := test0_wp (la := la) (nl := nl) (lc := lc) (ka := ka) (n := n) (cc := cc) (w0 := onT w0' τ d)
      simp only [IF20, body20, Try.f20, Option.getD_some] at h
      exact wp_mono h fun e a w hq => qw_mono (fun b T w h => ⟨h.1, ⟨h.2.1.os, h.2.1.output, h.2.1.size, h.2.1.block⟩, h.2.2⟩) hq
    · exact none_back T' todo w0'' w'' (badR_bad (.inl hv)) hq.2.2 (hB1.trans hq.2.1) hS'' (st1.trans ⟨hst2.size, hst2.pend, hst2.map, hst2.back⟩)
  · -- A STORE
    refine ok_goes (Stop := Ok Try.prog F p Post) (fun _ _ h => h) (n := 1) (gt_seq T ?_)
    refine Goes.stop fun w₁ r₁ => ?_
    obtain ⟨d₂, rfl⟩ := r₁
    have hrc1 : RdX w0' ka n chks := by have h := hrc.below hB1.below; exact h
    refine ok_code (K := kitC) bodiesC (ret := true) (Q := Q2 la ka nl lc n cc chks w0' Mb) (fun b T w τ d h => h.onT τ d) (by kernel_rfl) ⟨_, Try.func20⟩ hS'.noPend (hS'.atD d₂) (fun τ d => ?_) (fun T' w0'' w'' hq hS'' ht' hz' hst2 => ?_) (fun T' todo w0'' w'' hq hS'' ht' hz' hst2 => ?_)
    · have h := test_wp (la := la) (nl := nl) (lc := lc) (cc := cc) (Mb := Mb) (w0 := onT w0' τ d) hrc1 hwc hn
      simp only [IF20, body20, Try.f20, Option.getD_some] at h
      exact wp_mono h fun e a w hq => qw_mono (fun b T w h => h.back) hq
    · obtain ⟨hB2, ⟨hb, _⟩ | ⟨_, hcv, x15, x16, x17, x18, x19, x20, x21, rfl⟩⟩ := hq
      · cases hb
      have hn16 : n ≤ 16 := by
        have := hrc.1
        unfold checksV at hcv
        simp only [Bool.and_eq_true, decide_eq_true_eq] at hcv
        omega
      have hz2 : w.heap.size ≤ w''.heap.size := Nat.le_trans hz hz'
      -- TO THE FORK
      refine ok_goes (Stop := Ok Try.prog F p Post) (fun _ _ h => h) (n := 20) ?_
      refine gt_seq T ?_
      refine gt_reg T ?_
      simp only [List.size_toArray, List.length_cons, List.length_nil, Nat.reduceAdd, Nat.zero_add, List.range, List.range.loop]
      refine gt_val T (.slice none 0 0) rfl rfl hk (fun w₂ r₂ => ?_) ?_
      · refine ⟨run_of fun K hK => ?_, ?_⟩
        · go_simp; exact hK
        · rw [listed_nil (by simp [go_sem, *])]; exact T.idle _
      walk_nrm
      refine gt_end T ?_
      refine gt_seq T ?_
      refine gt_seq T ?_
      refine gt_reg T ?_
      simp only [List.size_toArray, List.length_cons, List.length_nil, Nat.reduceAdd, Nat.zero_add, List.range, List.range.loop]
      refine gt_val T (.map (some Mb)) rfl rfl hk (fun w₂ r₂ => ?_) ?_
      · refine ⟨run_of fun K hK => ?_, ?_⟩
        · go_simp; exact hK
        · rw [listed_nil (by simp [go_sem, *])]; exact T.idle _
      walk_nrm
      refine gt_val T (.slice ka n cc) rfl rfl hk (fun w₂ r₂ => ?_) ?_
      · refine ⟨run_of fun K hK => ?_, ?_⟩
        · go_simp; exact hK
        · rw [listed_nil (by simp [go_sem, *])]; exact T.idle _
      walk_nrm
      refine Goes.stop fun w₁ r₁ => ?_
      obtain ⟨d₃, rfl⟩ := r₁
      have hM2 : StoreM w0'' w0.heap.size Mb ys := by have h := hM.below (hB2.below); exact ⟨h.map, h.blk, h.ins⟩
      have hS3 : Sim F w0'' (w''.at d₃) := hS''.atD d₃
      obtain ⟨hMs, hMF⟩ := hM2.map.sim hS3
      have hrc2 : RdX w0'' ka n chks := by have h := hrc1.below hB2.below; exact h
      obtain ⟨Kb, ko, hK⟩ : ∃ Kb ko, 0 < n → ka = some ⟨Kb, ko, none⟩ ∧ Kb < w0''.heap.size ∧ ∀ j, j < n → w0''.cell? ⟨Kb, ko + j * 2, none⟩ = some (.int .i64 (chks.getD j (0, 0)).1) ∧ w0''.cell? ⟨Kb, ko + j * 2 + 1, none⟩ = some (.int .i64 (chks.getD j (0, 0)).2) := by
        by_cases h : 0 < n
        · obtain ⟨Kb, ko, h1, h2, h3⟩ := hrc2.2 0 h
          exact ⟨Kb, ko, fun _ => ⟨h1, h2, h3⟩⟩
        · exact ⟨0, 0, fun h' => absurd h' h⟩
      have hl := hrc.1
      refine ok_badOf (ka := ka) (n := n) (cc := cc) (Mb := Mb) (N := ys.length) (Kb := Kb) (ko := ko) (f := mapOf ys) (val := fun j => .bool (badC (valsH xs) (chks.getD j (0, 0)))) (vals := chks.map fun c => Value.bool (badC (valsH xs) c)) rfl rfl hk rfl (by simp [Act.eval]) hp (by omega) (by omega)
        (fun b hb => by have := hF b hb; show b < w''.heap.size; omega) ⟨hMs, hMF⟩ (fun h => ⟨(hK h).1, by have := (hK h).2.1; rw [hS3.size] at this; exact this, (hS3.cell ((hK h).2.2 0 h).1).2.1⟩)
        (fun j hj => chkW_of hS3 hM2 hy hv hwc hl (hK (by omega)).2.2 hj) (by simp [hl]) (fun j hj => by simp [List.getElem?_map, List.getElem?_eq_getElem (show j < chks.length by omega), List.getD, hl]) ?_
      intro w2 C Wg hold hFo hC hWg hCW hfull hwg ht2 hos2 hout2
      have hFB : ∀ b, F b → b < w''.heap.size := fun b hb => by have := hF b hb; omega
      obtain ⟨w0c, hSc, _, _, _⟩ := sim_make (FW F Wg) w2 (fun b hb => by
        rcases hb with hb | rfl
        · obtain ⟨c, e, h1, _⟩ := hS3.blank b hb
          exact ⟨c, e, (hFo b hb).trans h1⟩
        · exact ⟨_, _, hwg⟩)
      have st2 : Stay w w'' := st1.trans ⟨hst2.size, hst2.pend, hst2.map, hst2.back⟩
      have hw0 : (w''.at d₃).heap.size = w''.heap.size := rfl
      have st3 : Stay w w2 := st2.trans (.of (by have := (Array.getElem?_eq_some_iff.1 hwg).1; omega) fun b hb => by
        by_cases h : F b
        · exact hFo b h
        · exact hold b hb h)
      have hClt : C < w2.heap.size := (Array.getElem?_eq_some_iff.1 hfull).1
      have hWlt : Wg < w2.heap.size := (Array.getElem?_eq_some_iff.1 hwg).1
      have hnC : ¬ FW F Wg C := fun h => by
        rcases h with h | h
        · have := hFB C h; omega
        · exact hCW h
      have hB3 : BT w0'' w0c := sim_below hS3 hSc (by omega) hold hFo (fun b hb => ⟨fun h => h.resolve_right (by omega), .inl⟩) hos2 hout2
      have hCc : w0c.heap[C]? = some (.cells (chks.map fun c => Value.bool (badC (valsH xs) c)).toArray 4) := by rw [hSc.same C hnC, hfull]; rfl
      have hcells : ∀ j, j < n → w0c.cell? ⟨C, j, none⟩ = some (.bool ((chks.map (badC (valsH xs))).getD j false)) := fun j hj => by
        have hj' : j < chks.length := by omega
        simp [World.cell?, hCc, List.getElem?_map, List.getElem?_eq_getElem hj', List.getD]
      have hC0 : C < w0c.heap.size := by rw [hSc.size]; exact hClt
      have hrc3 : RdX w0c ka n chks := by have h := hrc2.below hB3.below; exact h
      have TW : Terms AtRel (DB (FW F Wg)) := termsB
      have hBad := badR_good hv hcv
      rw [hl] at hBad
      clear hCc hold hFo
      refine ok_goes (Stop := Ok Try.prog (FW F Wg) (p + n) Post) (fun _ _ h => h) (n := 10) ?_
      walk_nrm
      refine gt_val TW (.int .i64 n) rfl rfl hk (fun w₂ r₂ => ?_) ?_
      · refine ⟨run_of fun K hK => ?_, ?_⟩
        · go_simp; exact hK
        · rw [listed_nil (by simp [go_sem, *])]; exact TW.idle _
      walk_nrm
      refine gt_val TW (.int .i64 0) rfl rfl hk (fun w₂ r₂ => ?_) ?_
      · refine ⟨run_of fun K hK => ?_, ?_⟩
        · go_simp; exact hK
        · rw [listed_nil (by simp [go_sem, *])]; exact TW.idle _
      walk_nrm
      refine gt_end TW ?_
      refine Goes.stop fun w₁ r₁ => ?_
      obtain ⟨d₄, rfl⟩ := r₁
      refine ok_code (K := kitC) bodiesC (ret := false) (Q := fun b T' w' => b = false ∧ BT w0c w' ∧ ∃ a' c', T'[7]? = some (.slice a' (badI chks (chks.map (badC (valsH xs))) n).length c') ∧ OwnI w' w0c.heap.size a' c' (badI chks (chks.map (badC (valsH xs))) n) ∧ T'.size = 42)
        (fun b T w τ d ⟨h1, h2, a, c, h3, h4, h5⟩ => ⟨h1, ⟨h2.os, h2.output, h2.size, h2.block⟩, a, c, h3, h4, h5⟩) (by kernel_rfl) ⟨_, Try.func20⟩ hSc.noPend (hSc.atD d₄) (fun τ d => ?_) (fun T' w0d wd hq hSd htd hzd hst3 => ?_) (fun T' todo w0' w' hq _ _ _ _ => by cases hq.1)
      · have h := badLoop_wp (ka := ka) (n := n) (cc := cc) (C := C) (cs := chks) (bs := chks.map (badC (valsH xs))) (w := onT w0c τ d) (s0 := .slice la nl lc) (s2 := undef) (s3 := undef) (s4 := .slice none 0 0) (s5 := .map (some Mb)) (s6 := .bool true) (s8 := undef) (s9 := undef) (s10 := .tuple #[.map (some Mb), .bool true]) (s11 := .slice la nl lc) (s12 := .tuple #[.map (some Mb), .bool true]) (s13 := .map (some Mb)) (s14 := .bool true) (s15 := x15) (s16 := x16) (s17 := x17) (s18 := x18) (s19 := x19) (s20 := x20) (s21 := x21) (s22 := .map (some Mb)) (s23 := .slice ka n cc) (s27 := undef) (s28 := undef) (s29 := undef) (s30 := undef) (s31 := undef) (s32 := undef) (s33 := undef) (s34 := undef) (s35 := undef) (s36 := undef) (s37 := undef) (s38 := undef) (s39 := undef) (s40 := undef) (s41 := undef) hrc3 hwc (by omega) hC0 hcells
        simp only [BL20, body20, Try.f20, Option.getD_some] at h
        exact wp_mono h fun e a w hq => qw_mono (fun b T w ⟨h1, h2, h3⟩ => ⟨h1, ⟨h2.os, h2.output, h2.size, h2.block⟩, h3⟩) hq
      obtain ⟨_, hB4, a', c', h7, hO, h42⟩ := hq
      -- BACK WITH THE IDS
      generalize hL : (badI chks (chks.map (badC (valsH xs))) n).length = L at h7
      have e7 : T'.getD 7 undef = .slice a' L c' := by simp [Array.getD_eq_getD_getElem?, h7]
      have e41 : (T'.setIfInBounds 41 (.slice a' L c')).getD 41 undef = .slice a' L c' := by simp [Array.getD_eq_getD_getElem?, h42]
      have e4 : ((T'.setIfInBounds 41 (.slice a' L c')).setIfInBounds 4 (.slice a' L c')).getD 4 undef = .slice a' L c' := by simp [Array.getD_eq_getD_getElem?, h42]
      refine ok_goes (Stop := Ok Try.prog (FW F Wg) (p + n) Post) (fun _ _ h => h) (n := 10) ?_
      refine gt_seq TW ?_
      refine gt_reg TW ?_
      simp only [List.size_toArray, List.length_cons, List.length_nil, Nat.reduceAdd, Nat.zero_add, List.range, List.range.loop]
      refine gt_val TW (.slice a' L c') rfl rfl hk (fun w₂ r₂ => ?_) ?_
      · refine ⟨run_of fun K hK => ?_, ?_⟩
        · unfold execOp; simp [Act.eval, e7]; exact hK
        · rw [listed_nil (by unfold execOp; simp [Act.eval])]; exact TW.idle _
      show Goes Try.prog true AtRel (DB (FW F Wg)) _ _ (G ((base 20).at ⟨T'.setIfInBounds 41 (.slice a' L c'), []⟩ _) _) _
      refine gt_val TW (.slice a' L c') rfl rfl hk (fun w₂ r₂ => ?_) ?_
      · refine ⟨run_of fun K hK => ?_, ?_⟩
        · unfold execOp; simp [Act.eval, e41]; exact hK
        · rw [listed_nil (by unfold execOp; simp [Act.eval])]; exact TW.idle _
      show Goes Try.prog true AtRel (DB (FW F Wg)) _ _ (G ((base 20).at ⟨(T'.setIfInBounds 41 (.slice a' L c')).setIfInBounds 4 (.slice a' L c'), []⟩ _) _) _
      refine gt_end TW ?_
      refine gt_ret TW ?_
      refine gt_leave1 TW rfl Try.func20 rfl ?_
      refine Goes.stop fun w₃ r₃ => ?_
      obtain ⟨d₅, rfl⟩ := r₃
      have hBT := ((hB1.trans hB2).trans hB3).trans hB4
      have hzd' : w2.heap.size ≤ wd.heap.size := hzd
      have h := hnext (FW F Wg) (p + n) (onT w0d w0.tape w0d.drawn) (wd.at d₅) a' c' ((hSd.tape _ _).atD d₅) (fun b hb => by
        show b < wd.heap.size
        rcases hb with hb | rfl
        · have := hFB b hb; omega
        · omega) hBT.below (by rw [hBad]; exact hO.mono (by have := ((hB1.trans hB2).trans hB3).size; exact this)) (by omega) (by omega) (fun b hb => ⟨fun h => h.resolve_right (by have := st2.size; omega), .inl⟩) (st3.trans ⟨hst3.size, hst3.pend, hst3.map, hst3.back⟩)
      rw [hBad, hL] at h
      rw [ho]
      show Ok Try.prog (FW F Wg) (p + n) Post (G (b.at (a.put o.dst (((T'.setIfInBounds 41 (.slice a' L c')).setIfInBounds 4 (.slice a' L c')).getD 4 undef)) (.inRegion ops rest :: k)) cs) (wd.at d₅)
      rw [e4]
      exact h
    · obtain ⟨hB2, ⟨_, hcv, h4⟩ | ⟨hb, _⟩⟩ := hq
      · exact none_back T' todo w0'' w'' (badR_bad (.inr hcv)) h4 (hB1.trans hB2) hS'' (st1.trans ⟨hst2.size, hst2.pend, hst2.map, hst2.back⟩)
      · cases hb
end Go.Proofs.Ytajheicheefpeaa

/- Contracts: eqCheck, eqCheckS: whether two lists of sums are equal. -/
namespace Go.Proofs.Ytajheicheefpeaa
open Go.RowKit
set_option linter.unusedVariables false

def eqX (xs ys : List (Int × Int)) : Bool := decide (xs = ys)

theorem take_succ_eqX {xs ys : List (Int × Int)} {k : Nat} (h : xs.take k = ys.take k) (hx : k < xs.length) (hy : k < ys.length) (e : xs.getD k (0, 0) = ys.getD k (0, 0)) : xs.take (k + 1) = ys.take (k + 1) := by
  rw [List.take_succ_eq_append_getElem hx, List.take_succ_eq_append_getElem hy, h]
  simp [List.getD, hx, hy] at e
  rw [e]

theorem eqX_false {xs ys : List (Int × Int)} {k : Nat} (h : xs.getD k (0, 0) ≠ ys.getD k (0, 0)) : eqX xs ys = false := by
  simp only [eqX, decide_eq_false_iff_not]
  rintro rfl
  exact h rfl

set_option maxHeartbeats 400000 in
theorem eqCheck_any (f m f' m' : Int) (w : World) :
    Calls Try.prog 35 #[.agg #[.int .i64 f, .int .i64 m], .agg #[.int .i64 f', .int .i64 m']] w (RetB w (.bool (decide ((f, m) = (f', m'))))) := by
  by_cases h1 : f = f'
  · by_cases h2 : m = m'
    · subst h1 h2
      have t1 : (f != f) = false := by simp
      have t2 : (m != m) = false := by simp
      rw [show decide ((f, m) = (f, m)) = true by simp]
      go_enter Try.func35, Try.ntmps35
      go_wp2
      go_ret
      exact ⟨rfl, ((Below.refl _ _).alloc (Nat.le_refl _) _).alloc (by simp) _⟩
    · subst h1
      have t1 : (f != f) = false := by simp
      have t2 : (m != m') = true := by simp [h2]
      rw [show decide ((f, m) = (f, m')) = false by simp [h2]]
      clear h2
      go_enter Try.func35, Try.ntmps35
      go_wp2
      go_ret
      exact ⟨rfl, ((Below.refl _ _).alloc (Nat.le_refl _) _).alloc (by simp) _⟩
  · have t1 : (f != f') = true := by simp [h1]
    rw [show decide ((f, m) = (f', m')) = false by simp [h1]]
    clear h1
    go_enter Try.func35, Try.ntmps35
    go_wp2
    go_ret
    exact ⟨rfl, ((Below.refl _ _).alloc (Nat.le_refl _) _).alloc (by simp) _⟩

set_option maxRecDepth 100000 in
set_option maxHeartbeats 1000000 in
theorem eqCheckS_any (a a' : Option Addr) (n n' c c' : Nat) (xs ys : List (Int × Int)) (w : World) (hr : RdX w a n xs) (hr' : RdX w a' n' ys) (hw : WfX xs) (hw' : WfX ys) (hn : n ≤ 4611686018427387904) (hn' : n' ≤ 4611686018427387904) :
    Calls Try.prog 12 #[.slice a n c, .slice a' n' c'] w (RetB w (.bool (eqX xs ys))) := by
  have hl := Lib.hid hr.1
  have hl' := Lib.hid hr'.1
  by_cases hnn : n = n'
  · subst hnn
    go_enter Try.func12, Try.ntmps12
    go_wp2
    go_loopw [5] (fun i wr => ∃ k : Nat, k ≤ n ∧ i = .int .i64 k ∧ Hid (xs.take k = ys.take k) ∧ Below w.heap.size w wr)
      (fun i _ => n - (intOf i).toNat)
    case atStart => exact ⟨0, Nat.zero_le _, rfl, Lib.hid (by simp), Below.refl _ _⟩
    case round =>
      obtain ⟨k, hk, rfl, he, hbr⟩ := hrel
      by_cases hlt : k < n
      · obtain ⟨b, off, rfl, hblt, f, m, hfm, cf, cm, ⟨wf0, wf1⟩, wm0, wm1⟩ := (hr.below hbr).at_ hw hlt
        obtain ⟨b', off', rfl, hblt', f', m', hfm', cf', cm', ⟨wf0', wf1'⟩, wm0', wm1'⟩ := (hr'.below hbr).at_ hw' hlt
        have HX := Lib.hid hfm
        have HY := Lib.hid hfm'
        clear hfm hfm'
        have hk0 : (0 : Int) ≤ (k : Int) := by omega
        have hk1 : (k : Int) < (n : Int) := by omega
        by_cases hxy : (f, m) = (f', m')
        · have hs := take_succ_eqX he.out (by have := hl.out; omega) (by have := hl'.out; omega) (by rw [HX.out, HY.out, hxy])
          have HS := Lib.hid hs
          have HT : Hid (decide ((f, m) = (f', m')) = true) := Lib.hid (by simp [hxy])
          have hbd := below_drewN hbr 1
          have hbd' : Below w.heap.size w wr.drew := hbd
          clear hxy hs hbd
          go_wp2
          go_still_tail 8, (by kernel_rfl)
          change wpList _ _ _ _ _ wr.drew
          generalize wr.drew = W at hbd' ⊢
          go_wp2_with fail
          with_reducible refine (eqCheck_any f m f' m' _).mono ?_
          rintro e w2 ⟨rfl, hb2⟩
          have hb3 := hbd'.trans (hb2.mono hbd'.size)
          rw [HT.out]
          clear hb2
          go_wp2
          go_roundw
          case rel => exact ⟨k + 1, by omega, by go_num, HS, hb3⟩
          case measure => simp [intOf]; omega
        · have hf : Hid (eqX xs ys = false) := Lib.hid (eqX_false (k := k) (by rw [HX.out, HY.out]; exact hxy))
          have HT : Hid (decide ((f, m) = (f', m')) = false) := Lib.hid (by simpa using hxy)
          have hbd := below_drewN hbr 1
          have hbd' : Below w.heap.size w wr.drew := hbd
          clear hxy hbd
          go_wp2
          go_still_tail 8, (by kernel_rfl)
          change wpList _ _ _ _ _ wr.drew
          generalize wr.drew = W at hbd' ⊢
          go_wp2_with fail
          with_reducible refine (eqCheck_any f m f' m' _).mono ?_
          rintro e w2 ⟨rfl, hb2⟩
          have hb3 := hbd'.trans (hb2.mono hbd'.size)
          rw [HT.out]
          clear hb2
          go_wp2
          go_ret
          rw [hf.out]
          exact ⟨rfl, hb3⟩
      · obtain rfl : k = n := by omega
        have hyes : Hid (eqX xs ys = true) := Lib.hid (by
          have h := he.out
          rw [List.take_of_length_le (by have := hl.out; omega), List.take_of_length_le (by have := hl'.out; omega)] at h
          simp [eqX, h])
        go_wp2
        go_ret
        rw [hyes.out]
        exact ⟨rfl, hbr⟩
  · have hno : Hid (eqX xs ys = false) := Lib.hid (by
      simp only [eqX, decide_eq_false_iff_not]
      rintro rfl
      exact hnn (hl.out.symm.trans hl'.out))
    have t1 : (((n : Int) : Int) != (n' : Int)) = true := by simp; omega
    go_enter Try.func12, Try.ntmps12
    go_wp2
    go_ret
    rw [hno.out]
    exact ⟨rfl, Below.refl _ _⟩


end Go.Proofs.Ytajheicheefpeaa

/- Contract of sameChecks: whether two lists of sums are equal. -/
namespace Go.Proofs.Ytajheicheefpeaa
open Go.RowKit
set_option linter.unusedVariables false

set_option maxRecDepth 100000 in
set_option maxHeartbeats 1000000 in
theorem sameChecks_any (a a' : Option Addr) (n n' c c' : Nat) (xs ys : List (Int × Int)) (w : World) (hr : RdX w a n xs) (hr' : RdX w a' n' ys) (hw : WfX xs) (hw' : WfX ys) (hn : n ≤ 4611686018427387904) (hn' : n' ≤ 4611686018427387904) :
    Calls Try.prog 25 #[.slice a n c, .slice a' n' c'] w (fun e w' => e = .returned (.bool (eqX xs ys)) ∧ ∃ m, w' = w.drewN m) := by
  have hl := Lib.hid hr.1
  have hl' := Lib.hid hr'.1
  by_cases hnn : n = n'
  · subst hnn
    go_enter Try.func25, Try.ntmps25
    go_wp2
    go_loopw [5] (fun i wr => ∃ k : Nat, k ≤ n ∧ i = .int .i64 k ∧ Hid (xs.take k = ys.take k) ∧ ∃ m, wr = w.drewN m)
      (fun i _ => n - (intOf i).toNat)
    case atStart => exact ⟨0, Nat.zero_le _, rfl, Lib.hid (by simp), 0, rfl⟩
    case round =>
      obtain ⟨k, hk, rfl, he, q, rfl⟩ := hrel
      by_cases hlt : k < n
      · obtain ⟨b, off, rfl, hblt, f, m, hfm, cf, cm, ⟨wf0, wf1⟩, wm0, wm1⟩ := hr.at_ hw hlt
        obtain ⟨b', off', rfl, hblt', f', m', hfm', cf', cm', ⟨wf0', wf1'⟩, wm0', wm1'⟩ := hr'.at_ hw' hlt
        have HX := Lib.hid hfm
        have HY := Lib.hid hfm'
        clear hfm hfm'
        have hk0 : (0 : Int) ≤ (k : Int) := by omega
        have hk1 : (k : Int) < (n : Int) := by omega
        by_cases hxy : f = f' ∧ m = m'
        · obtain ⟨rfl, rfl⟩ := hxy
          have hs := take_succ_eqX he.out (by have := hl.out; omega) (by have := hl'.out; omega) (by rw [HX.out, HY.out])
          have HS := Lib.hid hs
          clear hs
          go_wp2
          go_quiet (fail)
          go_wp2
          go_roundw
          case rel => exact ⟨k + 1, by omega, by go_num, HS, _, rfl⟩
          case measure => simp [intOf]; omega
        · have hf : Hid (eqX xs ys = false) := Lib.hid (eqX_false (k := k) (by rw [HX.out, HY.out]; intro h; injection h with h1 h2; exact hxy ⟨h1, h2⟩))
          by_cases h1 : f = f'
          · have h2 : ¬ m = m' := fun h => hxy ⟨h1, h⟩
            subst h1
            clear hxy
            go_wp2
            go_quiet (fail)
            go_wp2
            go_ret
            rw [hf.out]
            exact ⟨rfl, q + nq, by rw [World.drewN_drewN]⟩
          · clear hxy
            go_wp2
            go_quiet (fail)
            go_wp2
            go_ret
            rw [hf.out]
            exact ⟨rfl, q + nq, by rw [World.drewN_drewN]⟩
      · obtain rfl : k = n := by omega
        have hyes : Hid (eqX xs ys = true) := Lib.hid (by
          have h := he.out
          rw [List.take_of_length_le (by have := hl.out; omega), List.take_of_length_le (by have := hl'.out; omega)] at h
          simp [eqX, h])
        go_wp2
        go_ret
        rw [hyes.out]
        exact ⟨rfl, q, rfl⟩
  · have hno : Hid (eqX xs ys = false) := Lib.hid (by
      simp only [eqX, decide_eq_false_iff_not]
      rintro rfl
      exact hnn (hl.out.symm.trans hl'.out))
    have t1 : (((n : Int) : Int) != (n' : Int)) = true := by simp; omega
    go_enter Try.func25, Try.ntmps25
    go_wp2
    go_ret
    rw [hno.out]
    exact ⟨rfl, 0, rfl⟩

end Go.Proofs.Ytajheicheefpeaa
