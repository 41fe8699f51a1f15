/- Contract of impl.readRuns: the runs that numbers tell, as a linked list, if they are those of a block. -/
import Derived.Test.YtbegmliglabpfaaPlainPack
import Derived.BigQuiet
import Derived.Deep.QuietTactic
namespace Go.Proofs.Ytbegmliglabpfaa
open Go.RowKit
set_option linter.unusedVariables false

/-- Numbers as pairs. -/
def pairsOf (rs : List Int) : List (Int × Int) := (List.range (rs.length / 2)).map fun k => (rs.getD (2 * k) 0, rs.getD (2 * k + 1) 0)

theorem pairsOf_length (rs : List Int) : (pairsOf rs).length = rs.length / 2 := by simp [pairsOf]
theorem pairsOf_getD (rs : List Int) (k : Nat) (h : k < rs.length / 2) : (pairsOf rs).getD k (0, 0) = (rs.getD (2 * k) 0, rs.getD (2 * k + 1) 0) := by
  simp [pairsOf, List.getD_eq_getElem?_getD, h]

/-- The runs fit: so many bytes are left, the last byte was another. -/
def chk : Int → Int → List (Int × Int) → Bool
  | _, _, [] => true
  | left, last, p :: t => decide (1 ≤ p.1) && decide (p.1 ≤ left) && decide (0 ≤ p.2) && decide (p.2 ≤ 255) && decide (p.2 ≠ last) && chk (left - p.1) p.2 t

def readOK (rs : List Int) : Bool := decide (rs.length ≠ 0 ∧ rs.length % 2 = 0 ∧ rs.length ≤ 16) && chk 8 (-1) (pairsOf rs)

theorem chk_drop (left last : Int) (ps : List (Int × Int)) (k : Nat) (h : k < ps.length) :
    chk left last (ps.drop k) = (decide (1 ≤ (ps.getD k (0, 0)).1) && decide ((ps.getD k (0, 0)).1 ≤ left) && decide (0 ≤ (ps.getD k (0, 0)).2) && decide ((ps.getD k (0, 0)).2 ≤ 255) && decide ((ps.getD k (0, 0)).2 ≠ last) &&
      chk (left - (ps.getD k (0, 0)).1) (ps.getD k (0, 0)).2 (ps.drop (k + 1))) := by
  have e : ps.getD k (0, 0) = ps[k] := by simp [List.getD_eq_getElem?_getD, h]
  rw [List.drop_eq_getElem_cons h, e]
  rfl

theorem Nodes.tail {w : World} {B g : Nat} {p : Int × Int} {gs : List Nat} {ps : List (Int × Int)} (h : Nodes w B (g :: gs) (p :: ps)) : Nodes w B gs ps := by
  refine ⟨by simpa using h.1, fun i hi => ?_, fun i j hij hj => ?_, fun i hi => ?_⟩
  · simpa [List.getD_eq_getElem?_getD] using h.2.1 (i + 1) (by simp; omega)
  · simpa [List.getD_eq_getElem?_getD] using h.2.2.1 (i + 1) (j + 1) (by omega) (by simp; omega)
  · simpa [List.getD_eq_getElem?_getD, nextP] using h.2.2.2 (i + 1) (by simp; omega)

/-- The runs were read, or the numbers tell none. -/
def RetRead (w : World) (rs : List Int) (e : Ending) (w' : World) : Prop :=
  Below w.heap.size w w' ∧
  ((readOK rs = true ∧ ∃ gs, e = .returned (.tuple #[.pointer (some ⟨gs.getD 0 0, 0, none⟩), .bool true]) ∧ Nodes w' w.heap.size gs (pairsOf rs)) ∨
   (readOK rs = false ∧ e = .returned (.tuple #[.pointer none, .bool false])))

set_option maxHeartbeats 2000000 in
theorem readRuns_any (a : Option Addr) (n c : Nat) (rs : List Int) (w : World) (hr : RdI w a n rs) (hwf : WfI rs) (hn : n ≤ 4611686018427387904) :
    Calls Try.prog 47 #[.slice a n c] w (RetRead w rs) := by
  have hl := Lib.hid hr.1
  by_cases h0 : n = 0
  · have hno : readOK rs = false := by have := hl.out; unfold readOK; rw [decide_eq_false (by omega)]; rfl
    have t0 : ((n : Int) == 0) = true := by simp [h0]
    have HNO := Lib.hid hno
    clear hno h0
    go_enter Try.func47, Try.ntmps47
    go_wp2
    go_ret2
    exact ⟨Below.refl _ _, .inr ⟨HNO.out, rfl⟩⟩
  · have t0 : ((n : Int) == 0) = false := by simp [h0]
    by_cases h2 : n % 2 = 0
    · have t2 : ((n : Int) % 2 != 0) = false := by simp; omega
      by_cases h16 : n ≤ 16
      · have hh0 : 0 < n := by omega
        have H2 := Lib.hid h2
        have hN0 := Nodes.one w w.heap.size (Nat.le_refl _) 0 (-1)
        have hb0 : Below w.heap.size w (w.alloc (.cells #[.int .i64 0, .int .i64 (-1), .pointer none] 42)) := (Below.refl _ _).alloc (Nat.le_refl _) _
        have HN0 := Lib.hid hN0
        have HOK : Hid (readOK rs = chk 8 (-1) (pairsOf rs)) := Lib.hid (by
          have := hl.out
          simp only [readOK]
          rw [decide_eq_true ⟨by omega, by omega, by omega⟩, Bool.true_and])
        clear h0 h2 hN0
        go_enter Try.func47, Try.ntmps47
        go_wp2_with fail
        go_loopw [5, 6, 7] (fun v lf i wr => ∃ j : Nat, j ≤ n ∧ i = .int .i64 j ∧ ∃ left : Int, 0 ≤ left ∧ left ≤ 8 ∧ lf = .int .i64 left ∧ ∃ k gs ps gl lv, v = .pointer (some ⟨gl, 0, none⟩) ∧
            Hid (j = 2 * k ∧ ps = (0, -1) :: (pairsOf rs).take k ∧ gs.getD 0 0 = w.heap.size ∧ gs.getD (ps.length - 1) 0 = gl ∧ 0 < ps.length ∧ (ps.getD (ps.length - 1) (0, 0)).2 = lv ∧ readOK rs = chk left lv ((pairsOf rs).drop k)) ∧
            Nodes wr w.heap.size gs ps ∧ Below w.heap.size w wr)
          (fun _ _ i _ => n + 2 - (intOf i).toNat)
        case atStart => exact ⟨0, Nat.zero_le _, rfl, 8, by omega, by omega, rfl, 0, [w.heap.size], [(0, -1)], _, -1, rfl, Lib.hid ⟨rfl, rfl, rfl, rfl, by simp, rfl, by rw [HOK.out]; rfl⟩, HN0.out, hb0⟩
        case round =>
          clear hb0
          obtain ⟨j, hj, rfl, left, hl0, hl1, rfl, k, gs, ps, gl, lv, rfl, hh, hN, hb⟩ := hrel
          have HN := Lib.hid hN
          have hlast := hN.last hh.out.2.2.2.2.1
          rw [hh.out.2.2.2.1, hh.out.2.2.2.2.2.1] at hlast
          have hglt : gl < wr.heap.size := (Array.getElem?_eq_some_iff.1 hlast).1
          have hglB : w.heap.size ≤ gl := by
            have := hN.2.1 (ps.length - 1) (by have := hN.1; have := hh.out.2.2.2.2.1; omega)
            rw [hh.out.2.2.2.1] at this; exact this
          have c1 : wr.cell? ⟨gl, 1, none⟩ = some (.int .i64 lv) := by rw [cell_of_row wr gl 1 _ _ (0, 0) hlast]; rfl
          have c2 : wr.cell? ⟨gl, 2, none⟩ = some (.pointer none) := by rw [cell_of_row wr gl 2 _ _ (0, 0) hlast]; rfl
          have f2 : wr.frozen? ⟨gl, 2, none⟩ = false := frozen_of_row wr gl 2 _ _ hlast
          by_cases hlt : j < n
          · have hkp : k < (pairsOf rs).length := by have := hh.out.1; have := pairsOf_length rs; have := hl.out; have := H2.out; omega
            have hj2 : j + 1 < n := by have := hh.out.1; have := H2.out; omega
            obtain ⟨b, off, rfl, hblt, hcc⟩ := hr.2 j hlt
            have hpg := pairsOf_getD rs k (by rw [← pairsOf_length]; exact hkp)
            have hchk := chk_drop left lv (pairsOf rs) k hkp
            rw [hpg, ← hh.out.2.2.2.2.2.2, ← hh.out.1] at hchk
            rw [← hh.out.1] at hpg
            obtain ⟨m, hm⟩ : ∃ m, m = rs.getD j 0 := ⟨_, rfl⟩
            obtain ⟨v, hv⟩ : ∃ v, v = rs.getD (j + 1) 0 := ⟨_, rfl⟩
            have cm := (hb.cell (p := ⟨b, off + j, none⟩) hblt).trans (hcc j hlt)
            have cv := (hb.cell (p := ⟨b, off + (j + 1), none⟩) hblt).trans (hcc (j + 1) hj2)
            rw [← hm] at cm hchk hpg
            rw [← hv] at cv hchk hpg
            have hwm := hwf.at_ (i := j) (by have := hl.out; omega)
            have hwv := hwf.at_ (i := j + 1) (by have := hl.out; omega)
            rw [← hm] at hwm
            rw [← hv] at hwv
            obtain ⟨wm0, wm1⟩ := hwm
            obtain ⟨wv0, wv1⟩ := hwv
            have j0 : (0 : Int) ≤ (j : Int) := by omega
            have j1 : (j : Int) < (n : Int) := by omega
            have j2 : (0 : Int) ≤ (j : Int) + 1 := by omega
            have j3 : (j : Int) + 1 < (n : Int) := by omega
            have HC := Lib.hid hchk
            have HPG := Lib.hid hpg
            have hglw : ¬ b = gl := by omega
            clear hm hv hchk hpg hcc hlast hN
            by_cases e1 : m < 1
            · have hno : Hid (readOK rs = false) := Lib.hid (by rw [HC.out, decide_eq_false (show ¬ 1 ≤ m by omega)]; simp)
              go_wp2_with fail
              go_quiet (fail)
              go_wp2
              go_ret2
              exact ⟨below_drewN hb _, .inr ⟨hno.out, rfl⟩⟩
            · by_cases e2 : left < m
              · have hno : Hid (readOK rs = false) := Lib.hid (by rw [HC.out, decide_eq_false (show ¬ m ≤ left by omega)]; simp)
                go_wp2_with fail
                go_quiet (fail)
                go_wp2
                go_ret2
                exact ⟨below_drewN hb _, .inr ⟨hno.out, rfl⟩⟩
              · by_cases e3 : v < 0
                · have hno : Hid (readOK rs = false) := Lib.hid (by rw [HC.out, decide_eq_false (show ¬ 0 ≤ v by omega)]; simp)
                  go_wp2_with fail
                  go_quiet (fail)
                  go_wp2
                  go_ret2
                  exact ⟨below_drewN hb _, .inr ⟨hno.out, rfl⟩⟩
                · by_cases e4 : 255 < v
                  · have hno : Hid (readOK rs = false) := Lib.hid (by rw [HC.out, decide_eq_false (show ¬ v ≤ 255 by omega)]; simp)
                    go_wp2_with fail
                    go_quiet (fail)
                    go_wp2
                    go_ret2
                    exact ⟨below_drewN hb _, .inr ⟨hno.out, rfl⟩⟩
                  · by_cases e5 : v = lv
                    · have hno : Hid (readOK rs = false) := Lib.hid (by rw [HC.out, decide_eq_false (show ¬ v ≠ lv from fun h => h e5)]; simp)
                      have t5 : (v == lv) = true := by simp [e5]
                      clear e5
                      go_wp2_with fail
                      go_quiet (fail)
                      go_wp2
                      go_ret2
                      exact ⟨below_drewN hb _, .inr ⟨hno.out, rfl⟩⟩
                    · have t5 : (v == lv) = false := by simp [e5]
                      have hok : Hid (readOK rs = chk (left - m) v ((pairsOf rs).drop (k + 1))) := Lib.hid (by
                        rw [HC.out, decide_eq_true (show 1 ≤ m by omega), decide_eq_true (show m ≤ left by omega), decide_eq_true (show 0 ≤ v by omega), decide_eq_true (show v ≤ 255 by omega), decide_eq_true (show v ≠ lv from e5)]
                        simp)
                      have hbs := hb.size
                      clear e5
                      go_wp2_with fail
                      go_quiet (fail)
                      have hNd : Nodes (wr.drewN nq) w.heap.size gs ps := HN.out
                      have c1d : (wr.drewN nq).cell? ⟨gl, 1, none⟩ = some (.int .i64 lv) := c1
                      have c2d : (wr.drewN nq).cell? ⟨gl, 2, none⟩ = some (.pointer none) := c2
                      have f2d : (wr.drewN nq).frozen? ⟨gl, 2, none⟩ = false := f2
                      have hgd : gl < (wr.drewN nq).heap.size := hglt
                      have hbd := below_drewN hb nq
                      clear c1 c2 f2 hglt hb HN cm cv hbs
                      generalize wr.drewN nq = wd at *
                      have hbs := hbd.size
                      have hres := hNd.push hh.out.2.2.2.2.1 m v
                      rw [hh.out.2.2.2.1, World.setCell_alloc_past _ _ _ _ hgd] at hres
                      have hlen : gs.length = ps.length := hNd.1
                      have HL : Hid ((gs ++ [wd.heap.size]).getD 0 0 = w.heap.size ∧ (gs ++ [wd.heap.size]).getD ((ps ++ [(m, v)]).length - 1) 0 = wd.heap.size ∧ 0 < (ps ++ [(m, v)]).length ∧
                          ((ps ++ [(m, v)]).getD ((ps ++ [(m, v)]).length - 1) (0, 0)).2 = v ∧ ps ++ [(m, v)] = (0, -1) :: (pairsOf rs).take (k + 1)) := by
                        have h0 := hh.out.2.2.2.2.1
                        have h1 := hh.out.2.2.1
                        refine Lib.hid ⟨?_, ?_, by simp, by simp [List.getD_eq_getElem?_getD], ?_⟩
                        · rw [← h1]
                          simp [List.getD_eq_getElem?_getD, show 0 < gs.length by omega]
                        · simp [List.getD_eq_getElem?_getD, ← hlen]
                        · rw [hh.out.2.1, List.take_succ_eq_append_getElem hkp, ← HPG.out]
                          simp [List.getD_eq_getElem?_getD, hkp]
                      have HR := Lib.hid hres
                      clear hlen hres hNd
                      go_wp2
                      go_roundw
                      case rel => exact ⟨j + 2, by omega, by go_num, left - m, by omega, by omega, rfl, k + 1, gs ++ [wd.heap.size], ps ++ [(m, v)], wd.heap.size, v, rfl,
                        Lib.hid ⟨by have := hh.out.1; omega, HL.out.2.2.2.2, HL.out.1, HL.out.2.1, HL.out.2.2.1, HL.out.2.2.2.1, hok.out⟩, HR.out, (hbd.setCell hglB _).alloc (by simpa [World.setCell] using hbs) _⟩
                      case measure => simp [intOf]; omega
          · have hkl : k = (pairsOf rs).length := by have := hh.out.1; have := pairsOf_length rs; have := hl.out; have := H2.out; omega
            have hk1 : 0 < k := by have := hh.out.1; omega
            have hpl : ps.length = k + 1 := by rw [hh.out.2.1]; simp; omega
            have hgl2 : gs.length = k + 1 := by rw [hN.1, hpl]
            have hok : Hid (readOK rs = true) := Lib.hid (by rw [hh.out.2.2.2.2.2.2, hkl, List.drop_of_length_le (Nat.le_refl _)]; rfl)
            have hnode := hN.2.2.2 0 (by omega)
            rw [hh.out.2.2.1] at hnode
            have hnx : nextP gs 0 = some ⟨gs.getD 1 0, 0, none⟩ := by
              simp [nextP, List.getD_eq_getElem?_getD, show 1 < gs.length by omega]
            rw [hnx] at hnode
            have c3 : wr.cell? ⟨w.heap.size, 2, none⟩ = some (.pointer (some ⟨gs.getD 1 0, 0, none⟩)) := by rw [cell_of_row wr _ 2 _ _ (0, 0) hnode]; rfl
            have hres : Hid (∃ gs', gs'.getD 0 0 = gs.getD 1 0 ∧ Nodes wr w.heap.size gs' (pairsOf rs)) := Lib.hid (by
              match gs, hgl2, hN with
              | g :: gs', _, hN =>
                refine ⟨gs', by simp [List.getD_eq_getElem?_getD], ?_⟩
                have h1 := hh.out.2.1
                rw [hkl, List.take_of_length_le (Nat.le_refl _)] at h1
                rw [h1] at hN
                exact hN.tail)
            clear hnode hnx c1 c2 f2 hlast hkl hpl hgl2
            go_wp2
            go_ret2
            obtain ⟨gs', hg', hN'⟩ := hres.out
            refine ⟨hb, .inl ⟨hok.out, gs', ?_, hN'⟩⟩
            rw [hg']; rfl
      · have hno : readOK rs = false := by have := hl.out; unfold readOK; rw [decide_eq_false (by omega)]; rfl
        have HNO := Lib.hid hno
        clear hno h0 h2
        go_enter Try.func47, Try.ntmps47
        go_wp2
        go_ret2
        exact ⟨Below.refl _ _, .inr ⟨HNO.out, rfl⟩⟩
    · have t2 : ((n : Int) % 2 != 0) = true := by rw [bne_iff_ne]; omega
      have hno : readOK rs = false := by have := hl.out; unfold readOK; rw [decide_eq_false (by omega)]; rfl
      have HNO := Lib.hid hno
      clear hno h0 h2
      go_enter Try.func47, Try.ntmps47
      go_wp2
      go_ret2
      exact ⟨Below.refl _ _, .inr ⟨HNO.out, rfl⟩⟩

end Go.Proofs.Ytbegmliglabpfaa
