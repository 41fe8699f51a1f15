/- Contract of impl.runsOf: the runs of bytes, as a linked list in new memory. -/
import Derived.Test.YtbegmliglabpfaaRuns
import Derived.Outline
namespace Go.Proofs.Ytbegmliglabpfaa
open Go.RowKit
set_option linter.unusedVariables false

def RetRuns (w : World) (zs : List Int) (e : Ending) (w' : World) : Prop :=
  ∃ gs, e = .returned (.pointer (some ⟨gs.getD 0 0, 0, none⟩)) ∧ Nodes w' w.heap.size gs (runsP zs) ∧ Below w.heap.size w w'

/-- What the last node holds. -/
theorem Nodes.last {w : World} {B : Nat} {gs : List Nat} {ps : List (Int × Int)} (h : Nodes w B gs ps) (h0 : 0 < ps.length) :
    w.heap[gs.getD (ps.length - 1) 0]? = some (.cells #[.int .i64 (ps.getD (ps.length - 1) (0, 0)).1, .int .i64 (ps.getD (ps.length - 1) (0, 0)).2, .pointer none] 42 (0, 0)) := by
  have hn : nextP gs (ps.length - 1) = none := by
    have := h.1
    simp [nextP]
    omega
  have := h.2.2.2 (ps.length - 1) (by omega)
  rwa [hn] at this

/-- The counts of runs stay small. -/
theorem pushRun_bd {ps : List (Int × Int)} {N : Nat} (h : ∀ p ∈ ps, 1 ≤ p.1 ∧ p.1 ≤ N) (x : Int) : ∀ p ∈ pushRun ps x, 1 ≤ p.1 ∧ p.1 ≤ ((N + 1 : Nat) : Int) := by
  intro p hp
  unfold pushRun at hp
  split at hp
  · rename_i hc
    have hl : 0 < ps.length := List.length_pos_iff.2 hc.1
    rcases List.mem_or_eq_of_mem_set hp with h' | rfl
    · have := h p h'; omega
    · have e : ps.getD (ps.length - 1) (0, 0) = ps[ps.length - 1] := by simp [List.getD_eq_getElem?_getD, show ps.length - 1 < ps.length by omega]
      have := h _ (e ▸ List.getElem_mem (show ps.length - 1 < ps.length by omega))
      simp only
      omega
  · rcases List.mem_append.1 hp with h' | h'
    · have := h p h'; omega
    · simp at h'; subst h'; simp only; omega

theorem runsP_bd (zs : List Int) : ∀ p ∈ runsP zs, 1 ≤ p.1 ∧ p.1 ≤ (zs.length : Int) := by
  suffices h : ∀ (k : Nat), k ≤ zs.length → ∀ p ∈ runsP (zs.take k), 1 ≤ p.1 ∧ p.1 ≤ (k : Int) by
    have := h zs.length (Nat.le_refl _)
    rwa [List.take_of_length_le (Nat.le_refl _)] at this
  intro k
  induction k with
  | zero => intro _ p hp; simp [runsP] at hp
  | succ k ih =>
    intro hk p hp
    rw [runsP_succ (by omega)] at hp
    exact pushRun_bd (ih (by omega)) _ p hp

theorem runsP_pos {zs : List Int} {k : Nat} (h : k < zs.length) : 0 < (runsP (zs.take (k + 1))).length := by
  rw [runsP_succ h]
  have := pushRun_length (runsP (zs.take k)) (zs.getD k 0)
  omega

set_option maxHeartbeats 1000000 in
theorem runsOf_any (a : Option Addr) (n c : Nat) (zs : List Int) (w : World) (hr : RdI w a n zs) (hnc : n ≤ c) (hn : n ≤ 1048576) (h1 : 1 ≤ n) :
    Calls Try.prog 45 #[.slice a n c] w (RetRuns w zs) := by
  have hl := Lib.hid hr.1
  obtain ⟨b, off, rfl, hlt, hcc⟩ := hr.2 0 (by omega)
  obtain ⟨x0, hx0⟩ : ∃ x, x = zs.getD 0 0 := ⟨_, rfl⟩
  have hc0 := hcc 0 (by omega)
  rw [← hx0, Nat.add_zero] at hc0
  have HX0 := Lib.hid hx0
  clear hx0
  obtain ⟨A, hA, hAc⟩ : ∃ A, (if c = 1 then some (⟨b, off, none⟩ : Addr) else some ⟨b, off + 1, none⟩) = A ∧ (1 < n → A = some ⟨b, off + 1, none⟩) := ⟨_, rfl, fun h => by rw [if_neg (by omega)]⟩
  have HAc := Lib.hid hAc
  clear hAc
  have hp1 : (1 : Int) ≤ (n : Int) := by omega
  have hst := Nodes.one w w.heap.size (Nat.le_refl _) 1 x0
  have hbst : Below w.heap.size w (w.alloc (.cells #[.int .i64 1, .int .i64 x0, .pointer none] 42)) := (Below.refl _ _).alloc (Nat.le_refl _) _
  have HST := Lib.hid hst
  clear hst
  go_enter Try.func45, Try.ntmps45
  go_wp2_with fail
  go_loopw [4, 16] (fun v i wr => ∃ k : Nat, k ≤ n - 1 ∧ i = .int .i64 k ∧ ∃ gs ps gl, v = .pointer (some ⟨gl, 0, none⟩) ∧ Hid (ps = runsP (zs.take (k + 1)) ∧ gs.getD 0 0 = w.heap.size ∧ gs.getD (ps.length - 1) 0 = gl ∧ 0 < ps.length) ∧
      Nodes wr w.heap.size gs ps ∧ Below w.heap.size w wr)
    (fun _ i _ => n - (intOf i).toNat)
  case atStart => exact ⟨0, Nat.zero_le _, rfl, [w.heap.size], [(1, x0)], _, rfl, Lib.hid ⟨by
    have := runsP_succ (zs := zs) (k := 0) (by have := hl.out; omega)
    rw [this, ← HX0.out]; simp [runsP, pushRun], rfl, rfl, by simp⟩, HST.out, hbst⟩
  case round =>
    clear hbst
    obtain ⟨k, hk, rfl, gs, ps, gl, rfl, hh, hN, hb⟩ := hrel
    by_cases hlt' : k < n - 1
    · have hA' := HAc.out (by omega)
      subst hA'
      clear hA
      obtain ⟨x, hx⟩ : ∃ x, x = zs.getD (k + 1) 0 := ⟨_, rfl⟩
      have hcell := hcc (k + 1) (by omega)
      rw [← hx, show off + (k + 1) = off + 1 + k by omega] at hcell
      have hcell := (hb.cell (p := ⟨b, off + 1 + k, none⟩) hlt).trans hcell
      have HX := Lib.hid hx
      clear hx
      have hlast := hN.last hh.out.2.2.2
      rw [hh.out.2.2.1] at hlast
      obtain ⟨m, hm⟩ : ∃ m, m = (ps.getD (ps.length - 1) (0, 0)).1 := ⟨_, rfl⟩
      obtain ⟨v, hv⟩ : ∃ v, v = (ps.getD (ps.length - 1) (0, 0)).2 := ⟨_, rfl⟩
      rw [← hm, ← hv] at hlast
      have hmb : 1 ≤ m ∧ m ≤ 1048576 := by
        have hp := hh.out.2.2.2
        have e : ps.getD (ps.length - 1) (0, 0) = ps[ps.length - 1] := by simp [List.getD_eq_getElem?_getD, show ps.length - 1 < ps.length by omega]
        have := runsP_bd (zs.take (k + 1)) (ps.getD (ps.length - 1) (0, 0)) (by rw [e, ← hh.out.1]; exact List.getElem_mem _)
        rw [← hm] at this
        have h3 := List.length_take_le (k + 1) zs
        omega
      obtain ⟨hm1, hm2⟩ := hmb
      have hglt : gl < wr.heap.size := (Array.getElem?_eq_some_iff.1 hlast).1
      have hglB : w.heap.size ≤ gl := by
        have := hN.2.1 (ps.length - 1) (by have := hN.1; have := hh.out.2.2.2; omega)
        rw [hh.out.2.2.1] at this; exact this
      have c0 : wr.cell? ⟨gl, 0, none⟩ = some (.int .i64 m) := by rw [cell_of_row wr gl 0 _ _ (0, 0) hlast]; rfl
      have c1 : wr.cell? ⟨gl, 1, none⟩ = some (.int .i64 v) := by rw [cell_of_row wr gl 1 _ _ (0, 0) hlast]; rfl
      have c2 : wr.cell? ⟨gl, 2, none⟩ = some (.pointer none) := by rw [cell_of_row wr gl 2 _ _ (0, 0) hlast]; rfl
      have f0 : wr.frozen? ⟨gl, 0, none⟩ = false := frozen_of_row wr gl 0 _ _ hlast
      have f2 : wr.frozen? ⟨gl, 2, none⟩ = false := frozen_of_row wr gl 2 _ _ hlast
      have HM := Lib.hid hm
      have HV := Lib.hid hv
      have HN := Lib.hid hN
      have hnx := runsP_succ (zs := zs) (k := k + 1) (by have := hl.out; omega)
      rw [← HX.out, ← hh.out.1] at hnx
      have HNX := Lib.hid hnx
      clear hm hv hN hlast hnx
      by_cases hxv : x = v
      · have ht : (x == v) = true := by simp [hxv]
        have hres := HN.out.inc hh.out.2.2.2 (m + 1)
        rw [hh.out.2.2.1, ← HV.out] at hres
        have hpush : Hid (runsP (zs.take (k + 1 + 1)) = ps.set (ps.length - 1) (m + 1, v)) := Lib.hid (by
          rw [HNX.out, pushRun, if_pos ⟨List.ne_nil_of_length_pos hh.out.2.2.2, by rw [← HV.out, hxv]⟩, ← HM.out, hxv])
        have HR := Lib.hid hres
        clear hxv hres
        go_wp2
        go_roundw
        case rel => exact ⟨k + 1, by omega, by go_num, gs, ps.set (ps.length - 1) (m + 1, v), gl, rfl, Lib.hid ⟨hpush.out.symm, hh.out.2.1, by simpa using hh.out.2.2.1, by simpa using hh.out.2.2.2⟩, HR.out, hb.setCell hglB _⟩
        case measure => simp [intOf]; omega
      · have ht : (x == v) = false := by simp [hxv]
        have hres := HN.out.push hh.out.2.2.2 1 x
        rw [hh.out.2.2.1, World.setCell_alloc_past _ _ _ _ hglt] at hres
        have hpush : Hid (runsP (zs.take (k + 1 + 1)) = ps ++ [(1, x)]) := Lib.hid (by
          rw [HNX.out, pushRun, if_neg (fun h => hxv (by rw [HV.out, h.2]))])
        have HR := Lib.hid hres
        clear hxv hres
        have hlen : gs.length = ps.length := HN.out.1
        have HL : Hid ((gs ++ [wr.heap.size]).getD 0 0 = w.heap.size ∧ (gs ++ [wr.heap.size]).getD ((ps ++ [(1, x)]).length - 1) 0 = wr.heap.size ∧ 0 < (ps ++ [(1, x)]).length) := by
          refine Lib.hid ⟨?_, ?_, by simp⟩
          · have h0 := hh.out.2.2.2
            have h1 := hh.out.2.1
            rw [← h1]
            simp [List.getD_eq_getElem?_getD, show 0 < gs.length by omega]
          · simp [List.getD_eq_getElem?_getD, ← hlen]
        clear hlen
        go_wp2
        go_roundw
        case rel => exact ⟨k + 1, by omega, by go_num, gs ++ [wr.heap.size], ps ++ [(1, x)], wr.heap.size, rfl, Lib.hid ⟨hpush.out.symm, HL.out⟩, HR.out, (hb.setCell hglB _).alloc (by simpa [World.setCell] using hb.size) _⟩
        case measure => simp [intOf]; omega
    · obtain rfl : k = n - 1 := by omega
      go_wp2
      go_ret
      refine ⟨gs, ?_, ?_, hb⟩
      · rw [hh.out.2.1]; rfl
      · have h := hh.out.1
        rw [List.take_of_length_le (by have := hl.out; omega)] at h
        rw [← h]; exact hN

end Go.Proofs.Ytbegmliglabpfaa
