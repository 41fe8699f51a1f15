/- Contract of impl.BlockUnpack. -/
import Derived.Test.YtbegmliglabpfaaPlainUn
namespace Go.Proofs.Ytbegmliglabpfaa
open Go.RowKit
set_option linter.unusedVariables false

theorem expandP_take {ps : List (Int × Int)} {k : Nat} (h : k < ps.length) : expandP (ps.take (k + 1)) = expandP (ps.take k) ++ List.replicate (ps.getD k (0, 0)).1.toNat (ps.getD k (0, 0)).2 := by
  have e : ps.getD k (0, 0) = ps[k] := by simp [List.getD_eq_getElem?_getD, h]
  rw [List.take_succ_eq_append_getElem h, expandP_append, e]
  simp [expandP]

theorem expandP_take_le {ps : List (Int × Int)} (h : ∀ p ∈ ps, 1 ≤ p.1) (k : Nat) : ((expandP (ps.take k)).length : Int) ≤ many ps := by
  rw [many_expand ps h]
  have : expandP ps = expandP (ps.take k) ++ expandP (ps.drop k) := by rw [← expandP_append, List.take_append_drop]
  rw [this, List.length_append]
  omega

set_option maxHeartbeats 2000000 in
theorem implBlockUnpack_any (a : Option Addr) (n c : Nat) (rs : List Int) (w : World) (hr : RdI w a n rs) (hwf : WfI rs) (hn : n ≤ 4611686018427387904) :
    Calls Try.prog 34 #[.slice a n c] w (RetIB w (unR rs) (unOK rs)) := by
  have hl := Lib.hid hr.1
  go_enter Try.func34, Try.ntmps34
  go_wp2_with fail
  with_reducible refine (readRuns_any a n c rs _ hr hwf hn).mono ?_
  rintro e w1 ⟨hb, ⟨hok, gs, rfl, hN⟩ | ⟨hok, rfl⟩⟩
  · have hu : unOK rs = true := by rw [← un_iff]; exact hok
    obtain ⟨h1, h2, h3, h4, h5⟩ := readOK_facts hok
    have hR : unR rs = expandP (pairsOf rs) := by
      rw [unR, if_pos hu, exp8_eq _ (fun p hp => (h3 p hp).2.1)]
    have hpl0 : 0 < (pairsOf rs).length := by rw [pairsOf_length]; omega
    obtain ⟨ps, hps⟩ : ∃ ps, ps = pairsOf rs := ⟨_, rfl⟩
    rw [← hps] at hN h3 h5 hpl0 hR
    have HRU := Lib.hid (And.intro hR hu)
    have HP := Lib.hid h3
    have HM := Lib.hid (show ∀ k, (expandP (ps.take k)).length ≤ 8 from fun k => by
      have := expandP_take_le (fun p hp => (h3 p hp).1) k
      omega)
    clear hok hu h1 h2 h3 h4 hR hps h5
    have hO0 := OwnI.nil w1 w1.heap.size
    go_wp2_with fail
    go_loopw [6, 7] (fun v r wr => ∃ k : Nat, k ≤ ps.length ∧ r = .pointer ((gs[k]?).map fun g => ⟨g, 0, none⟩) ∧ ∃ zs a2 c2, v = .slice a2 zs.length c2 ∧ Hid (zs = expandP (ps.take k)) ∧ OwnI wr w1.heap.size a2 c2 zs ∧ Below w1.heap.size w1 wr)
      (fun v _ _ => 8 - lenOfV v)
    case atStart =>
      refine ⟨0, Nat.zero_le _, ?_, [], none, 0, rfl, Lib.hid (by simp [expandP]), hO0, Below.refl _ _⟩
      have := hN.1
      simp [show 0 < gs.length by omega]
    case round =>
      clear hO0
      obtain ⟨k, hk, rfl, zs, a2, c2, rfl, hzs, hO, hb2⟩ := hrel
      have hzl : zs.length ≤ 8 := by rw [hzs.out]; exact HM.out k
      by_cases hlt : k < ps.length
      · have hnode := (hN.below hb2).2.2.2 k hlt
        have hgl : gs.getD k 0 < w1.heap.size := hN.lt hlt
        have eg : (gs[k]?).map (fun g => (⟨g, 0, Option.none⟩ : Addr)) = some ⟨gs.getD k 0, 0, Option.none⟩ := by
          have := hN.1
          simp [List.getD_eq_getElem?_getD, show k < gs.length by omega]
        rw [eg]
        obtain ⟨g, hg⟩ : ∃ g, g = gs.getD k 0 := ⟨_, rfl⟩
        obtain ⟨m, hm⟩ : ∃ m, m = (ps.getD k (0, 0)).1 := ⟨_, rfl⟩
        obtain ⟨v, hvv⟩ : ∃ v, v = (ps.getD k (0, 0)).2 := ⟨_, rfl⟩
        have hwk := HP.out (ps.getD k (0, 0)) (by
          have e : ps.getD k (0, 0) = ps[k] := by simp [List.getD_eq_getElem?_getD, hlt]
          rw [e]; exact List.getElem_mem _)
        have hft := expandP_take hlt
        rw [← hm, ← hvv] at hnode hwk hft
        rw [← hg] at hnode hgl ⊢
        rw [← hzs.out] at hft
        have c0 : wr.cell? ⟨g, 0, Option.none⟩ = some (.int .i64 m) := by rw [cell_of_row wr g 0 _ _ (0, 0) hnode]; rfl
        have HND := Lib.hid hnode
        obtain ⟨hm1, hm2, hv1, hv2⟩ := hwk
        have HFT := Lib.hid hft
        obtain ⟨mn, rfl⟩ := Int.eq_ofNat_of_zero_le (show 0 ≤ m by omega)
        clear hg hm hvv hnode eg hft
        go_wp2_with fail
        obtain ⟨wo, rfl⟩ : ∃ wo : World, wo = wr := ⟨_, rfl⟩
        go_loopw [6, 26] (fun v' i wq => ∃ j : Nat, j ≤ mn ∧ i = .int .i64 j ∧ ∃ a3 c3, v' = .slice a3 (zs.length + j) c3 ∧ OwnI wq w1.heap.size a3 c3 (zs ++ List.replicate j v) ∧ Below w1.heap.size w1 wq ∧
            wq.heap[g]? = some (.cells #[.int .i64 (mn : Int), .int .i64 v, .pointer (nextP gs k)] 42 (0, 0)))
          (fun _ i _ => mn - (intOf i).toNat)
        case atStart => exact ⟨0, Nat.zero_le _, rfl, a2, c2, rfl, by simpa using hO, hb2, HND.out⟩
        case round =>
          obtain ⟨j, hj, rfl, a3, c3, rfl, hO3, hb3, hn3⟩ := hrel
          have hlr : (zs ++ List.replicate j v).length = zs.length + j := by simp
          by_cases hjm : j < mn
          · have c1 : wr.cell? ⟨g, 1, Option.none⟩ = some (.int .i64 v) := by rw [cell_of_row wr g 1 _ _ (0, 0) hn3]; rfl
            have HLR := Lib.hid hlr
            have HO3 := Lib.hid hO3
            have HN3 := Lib.hid hn3
            have hsz := hb3.size
            clear hlr hn3 c0
            go_wp2_with (at_builtin; go_must (refine wp_appL rfl _ _ rfl HLR.out rfl HO3.out rfl (by omega) (by omega) (by omega) (by omega) ?_); intro a4 c4 w4 hO4 hG4)
            obtain ⟨hb4, hk4⟩ := appL_below HLR.out hb3 HO3.out hG4
            have hn4 := hk4 g _ hgl HN3.out
            rw [List.append_assoc, ← List.replicate_succ'] at hO4
            go_roundw
            case rel => exact ⟨j + 1, by omega, by go_num, a4, c4, rfl, hO4, hb4, hn4⟩
            case measure => simp [intOf]; omega
          · obtain rfl : j = mn := by omega
            have c2' : wr.cell? ⟨g, 2, Option.none⟩ = some (.pointer (nextP gs k)) := cell_third hn3
            have HFL : Hid ((zs ++ List.replicate j v).length ≤ 8) := Lib.hid (by
              have := HM.out (k + 1)
              rw [HFT.out, Int.toNat_natCast] at this
              exact this)
            clear hn3 c0
            go_wp2
            go_roundw
            case rel => exact ⟨k + 1, by omega, rfl, zs ++ List.replicate j v, a3, c3, by rw [hlr], Lib.hid (by rw [HFT.out, Int.toNat_natCast]), hO3, hb3⟩
            case measure => have := HFL.out; rw [hlr] at this; simp [lenOfV]; omega
      · obtain rfl : k = ps.length := by omega
        have eg : (gs[ps.length]?).map (fun g => (⟨g, 0, Option.none⟩ : Addr)) = Option.none := by
          have := hN.1
          simp [← this]
        rw [eg]
        clear eg
        go_wp2
        go_ret2
        have e : zs = expandP ps := by rw [hzs.out, List.take_of_length_le (Nat.le_refl _)]
        rw [HRU.out.1, HRU.out.2, ← e]
        exact ⟨a2, c2, rfl, hO.mono hb.size, hb.trans (hb2.mono hb.size)⟩
  · have hu : unOK rs = false := by rw [← un_iff]; exact hok
    have hR : unR rs = [] := by rw [unR, hu]; rfl
    have HRU := Lib.hid (And.intro hR hu)
    clear hok hu hR
    go_wp2
    go_ret2
    rw [HRU.out.1, HRU.out.2]
    exact ⟨none, 0, rfl, OwnI.nil _ _, hb⟩

end Go.Proofs.Ytbegmliglabpfaa
