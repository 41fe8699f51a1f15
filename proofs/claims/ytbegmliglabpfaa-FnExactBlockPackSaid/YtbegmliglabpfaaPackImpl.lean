/- Contract of impl.BlockPack. -/
import Derived.Test.YtbegmliglabpfaaRunsOf
import Derived.Test.YtbegmliglabpfaaSum
import Derived.Test.YtbegmliglabpfaaApp
import Derived.Deep.RegionHeld3
namespace Go.Proofs.Ytbegmliglabpfaa
open Go.RowKit
set_option linter.unusedVariables false

/-- A new slice of ints, and whether there is one. -/
def RetIB (w : World) (zs : List Int) (ok : Bool) (e : Ending) (w' : World) : Prop :=
  ∃ a c, e = .returned (.tuple #[.slice a zs.length c, .bool ok]) ∧ OwnI w' w.heap.size a c zs ∧ Below w.heap.size w w'

def packR (zs : List Int) : List Int := if blockV zs = true then packL zs else []

theorem OwnI.nil (w : World) (B : Nat) : OwnI w B none 0 [] := ⟨(by intro z hz; cases hz), World.ownsRow_nil w B 3 1⟩

theorem runsP_wf {zs : List Int} (h : WfI zs) : ∀ p ∈ runsP zs, -9223372036854775808 ≤ p.2 ∧ p.2 ≤ 9223372036854775807 := by
  suffices hs : ∀ (l : List Int) (ps : List (Int × Int)), WfI l → (∀ p ∈ ps, -9223372036854775808 ≤ p.2 ∧ p.2 ≤ 9223372036854775807) →
      ∀ p ∈ l.foldl pushRun ps, -9223372036854775808 ≤ p.2 ∧ p.2 ≤ 9223372036854775807 from hs zs [] h (by intro p hp; cases hp)
  intro l
  induction l with
  | nil => intro ps _ hps p hp; exact hps p hp
  | cons x l ih =>
    intro ps hl hps
    simp only [List.foldl_cons]
    refine ih _ (fun z hz => hl z (List.mem_cons_of_mem _ hz)) (fun p hp => ?_)
    have hx := hl x List.mem_cons_self
    unfold pushRun at hp
    split at hp
    · rcases List.mem_or_eq_of_mem_set hp with h' | rfl
      · exact hps p h'
      · exact hx
    · rcases List.mem_append.1 hp with h' | h'
      · exact hps p h'
      · simp at h'; subst h'; exact hx

theorem flatP_take {ps : List (Int × Int)} {k : Nat} (h : k < ps.length) : flatP (ps.take (k + 1)) = flatP (ps.take k) ++ [(ps.getD k (0, 0)).1, (ps.getD k (0, 0)).2] := by
  have e : ps.getD k (0, 0) = ps[k] := by simp [List.getD_eq_getElem?_getD, h]
  rw [List.take_succ_eq_append_getElem h, flatP_append, e]
  rfl

theorem wf_two {x y : Int} (h0 : -9223372036854775808 ≤ x) (h1 : x ≤ 9223372036854775807) (h2 : -9223372036854775808 ≤ y) (h3 : y ≤ 9223372036854775807) : WfI [x, y] := by
  intro z hz
  simp at hz
  omega

theorem news2 (w : World) (x y : Int) : ∀ j u, (([x, y] : List Int).map (Value.int .i64))[j]? = some u → (w.alloc (.cells #[.int .i64 x, .int .i64 y] 3)).cell? ((⟨w.heap.size, 0, none⟩ : Addr).add j) = some u := by
  intro j u hj
  rw [Addr.add_lit, cell_of_row _ w.heap.size _ _ _ (0, 0) (heap_alloc_new w _)]
  simpa using hj

def lenOfV : Value → Nat | .slice _ n _ => n | _ => 0

theorem keepCell {wr w3 : World} {B g i : Nat} {a2 : Option Addr} {c2 : Nat} {zs : List Int} {o : Obj} {v : Value} (hG : (wr.alloc o).drew.grownBy w3 (Value.slice a2 zs.length c2).ownBlock) (hO : OwnI wr B a2 c2 zs)
    (hc : wr.cell? ⟨g, i, none⟩ = some v) (hg : g < B) : w3.cell? ⟨g, i, none⟩ = some v := by
  have hlt := World.block_lt_of_cell? _ _ hc
  refine hG.cell (a := ⟨g, i, none⟩) ?_ (fun e => by have := (hO.2.lt g e.symm).1; omega)
  exact (World.cell?_alloc_lt wr o ⟨g, i, none⟩ hlt).trans hc

theorem cell_third {w : World} {g : Nat} {x y z : Value} {e : TypeId} (h : w.heap[g]? = some (.cells #[x, y, z] e (0, 0))) : w.cell? ⟨g, 2, none⟩ = some z := by
  rw [cell_of_row w g 2 _ _ (0, 0) h]; rfl

theorem packRound {w1 wd w3 : World} {g : Nat} {a2 : Option Addr} {c2 : Nat} {zs : List Int} {cs : Array Value} {o : Obj} {e : TypeId}
    (hb : Below w1.heap.size w1 wd) (hO : OwnI wd w1.heap.size a2 c2 zs) (hG : (wd.alloc o).drew.grownBy w3 (Value.slice a2 zs.length c2).ownBlock)
    (hnd : wd.heap[g]? = some (.cells cs e (0, 0))) (hg : g < w1.heap.size) : Below w1.heap.size w1 w3 ∧ w3.heap[g]? = some (.cells cs e (0, 0)) := by
  have hgl : g < wd.heap.size := (Array.getElem?_eq_some_iff.1 hnd).1
  refine ⟨(hb.alloc hb.size o).drew.grown hG (by have := hb.size; simp; omega) (fun r hr => (hO.2.lt r hr).1), ?_⟩
  rw [hG.block g (by simp; omega) (fun e => by have := (hO.2.lt g e.symm).1; omega)]
  exact (Below.heap_alloc wd o g hgl).trans hnd

set_option maxHeartbeats 1000000 in
theorem implBlockPack_any (a : Option Addr) (n c : Nat) (zs : List Int) (w : World) (hr : RdI w a n zs) (hwf : WfI zs) (hnc : n ≤ c) (hn : n ≤ 1048576) :
    Calls Try.prog 30 #[.slice a n c] w (RetIB w (packR zs) (blockV zs)) := by
  have hl := Lib.hid hr.1
  by_cases hv : blockV zs = true
  · have hp : Hid (packR zs = packL zs) := Lib.hid (by simp [packR, hv])
    rw [hp.out]
    have hlen := (blockV_parts hv).2
    have hl1 : 1 ≤ n := by have := hl.out; omega
    clear hlen
    go_enter Try.func30, Try.ntmps30
    go_wp2_with fail
    with_reducible refine (implBlockValid_any a n c zs _ hr (by omega)).mono ?_
    rintro e w' ⟨rfl, rfl⟩
    rw [hv]
    go_wp2_with fail
    with_reducible refine (runsOf_any a n c zs _ hr hnc hn hl1).mono ?_
    rintro e w1 ⟨gs, rfl, hN, hb⟩
    have HV := Lib.hid hv
    clear hv
    obtain ⟨ps, hps⟩ : ∃ ps, ps = runsP zs := ⟨_, rfl⟩
    rw [← hps] at hN
    have hpl : 0 < ps.length ∧ ps.length ≤ n := by
      have h1 := runsP_pos (zs := zs) (k := n - 1) (by have := hl.out; omega)
      rw [List.take_of_length_le (by have := hl.out; omega)] at h1
      have h2 := runsP_le zs
      rw [← hps] at h1 h2
      have := hl.out
      omega
    have HW := Lib.hid (show ∀ p ∈ ps, (1 ≤ p.1 ∧ p.1 ≤ 1048576) ∧ -9223372036854775808 ≤ p.2 ∧ p.2 ≤ 9223372036854775807 from fun p hp => by
      rw [hps] at hp
      have := runsP_bd zs p hp
      have h2 := hl.out
      exact ⟨by omega, runsP_wf hwf p hp⟩)
    have HPS := Lib.hid hps
    obtain ⟨hpl0, hpl1⟩ := hpl
    clear hps
    go_wp2_with fail
    go_loopw [4, 5] (fun v r wr => ∃ k : Nat, k ≤ ps.length ∧ r = .pointer ((gs[k]?).map fun g => ⟨g, 0, none⟩) ∧ ∃ a2 c2, v = .slice a2 (flatP (ps.take k)).length c2 ∧ OwnI wr w1.heap.size a2 c2 (flatP (ps.take k)) ∧ Below w1.heap.size w1 wr)
      (fun v _ _ => 2 * ps.length - lenOfV v)
    case atStart =>
      refine ⟨0, Nat.zero_le _, ?_, none, 0, rfl, OwnI.nil _ _, Below.refl _ _⟩
      have := hN.1
      simp [show 0 < gs.length by omega]
    case round =>
      obtain ⟨k, hk, rfl, a2, c2, rfl, hO, hb2⟩ := hrel
      have hlf := flatP_length (ps.take k)
      have hlk : (ps.take k).length = k := by simp; omega
      rw [hlk] at hlf
      have HLF := Lib.hid hlf
      clear hlf hlk
      by_cases hlt : k < ps.length
      · have hnode := (hN.below hb2).2.2.2 k hlt
        have eg : (gs[k]?).map (fun g => (⟨g, 0, Option.none⟩ : Addr)) = some ⟨gs.getD k 0, 0, Option.none⟩ := by
          have := hN.1
          simp [List.getD_eq_getElem?_getD, show k < gs.length by omega]
        rw [eg]
        obtain ⟨g, hg⟩ : ∃ g, g = gs.getD k 0 := ⟨_, rfl⟩
        obtain ⟨m, hm⟩ : ∃ m, m = (ps.getD k (0, 0)).1 := ⟨_, rfl⟩
        obtain ⟨v, hvv⟩ : ∃ v, v = (ps.getD k (0, 0)).2 := ⟨_, rfl⟩
        have hwk := HW.out (ps.getD k (0, 0)) (by
          have e : ps.getD k (0, 0) = ps[k] := by simp [List.getD_eq_getElem?_getD, hlt]
          rw [e]; exact List.getElem_mem _)
        rw [← hm, ← hvv] at hnode hwk
        rw [← hg] at hnode ⊢
        have c0 : wr.cell? ⟨g, 0, Option.none⟩ = some (.int .i64 m) := by rw [cell_of_row wr g 0 _ _ (0, 0) hnode]; rfl
        have c1 : wr.cell? ⟨g, 1, Option.none⟩ = some (.int .i64 v) := by rw [cell_of_row wr g 1 _ _ (0, 0) hnode]; rfl
        have hft := flatP_take hlt
        rw [← hm, ← hvv] at hft
        have HFT := Lib.hid hft
        have HND := Lib.hid hnode
        obtain ⟨⟨hm1, hm2⟩, hv1, hv2⟩ := hwk
        have hgl : g < w1.heap.size := by rw [hg]; exact hN.lt hlt
        clear hg hm hvv hnode eg hft
        go_wp2_with fail
        have HW2 := Lib.hid (wf_two (x := m) (y := v) (by omega) (by omega) hv1 hv2)
        have HL2 := Lib.hid (show (flatP (ps.take k)).length + 2 ≤ 1099511627776 by have := HLF.out; omega)
        have hsz := hb2.size
        go_region_held3 (fun w' => w'.cell? ⟨g, 0, Option.none⟩ = some (.int .i64 m) ∧ w'.cell? ⟨g, 1, Option.none⟩ = some (.int .i64 v))
          (first
            | go_keep
            | exact ⟨keepCell hG3 hO c0 hgl, keepCell hG3 hO c1 hgl⟩)
          ((refine step_app (by rfl) _ _ (by rfl) (by rfl) ((hO.alloc _).drew) ⟨wr.heap.size, 0, Option.none⟩ 2 2 [m, v] (by rfl) rfl (news2 _ _ _) HW2.out HL2.out (by simp; omega) ?_; intro a3 c3 w3 hO3 hG3))
        have hb3 := packRound hb2 hO hG3 HND.out hgl
        have c2' := cell_third hb3.2
        have hb3 := hb3.1
        clear hG3
        go_wp2
        go_roundw
        case rel =>
          refine ⟨k + 1, by omega, rfl, a3, c3, ?_, ?_, hb3⟩
          · rw [HFT.out]; simp
          · rw [HFT.out]; exact hO3
        case measure => have := HLF.out; simp [lenOfV]; omega
      · obtain rfl : k = ps.length := by omega
        have eg : (gs[ps.length]?).map (fun g => (⟨g, 0, Option.none⟩ : Addr)) = Option.none := by
          have := hN.1
          simp [← this]
        rw [eg]
        clear eg
        go_wp2
        go_ret2
        have e : flatP (ps.take ps.length) = packL zs := by rw [List.take_of_length_le (Nat.le_refl _), HPS.out]; rfl
        rw [e] at hO ⊢
        rw [HV.out]
        exact ⟨a2, c2, rfl, hO.mono hb.size, hb.trans (hb2.mono hb.size)⟩
  · have hv' : blockV zs = false := by simpa using hv
    have hp : Hid (packR zs = []) := Lib.hid (by simp [packR, hv])
    rw [hp.out, hv']
    clear hv
    go_enter Try.func30, Try.ntmps30
    go_wp2_with fail
    with_reducible refine (implBlockValid_any a n c zs _ hr (by omega)).mono ?_
    rintro e w' ⟨rfl, rfl⟩
    rw [hv']
    go_wp2
    go_ret2
    exact ⟨none, 0, rfl, OwnI.nil _ _, Below.refl _ _⟩

end Go.Proofs.Ytbegmliglabpfaa
