/- Contract of spec's SpaceTake. -/
import Derived.Test.YthcjelijpeddbaaTakeImpl
import Derived.Test.YthcjelijpeddbaaIn
namespace Go.Proofs.Ythcjelijpeddbaa
open Go.RowKit
set_option linter.unusedVariables false

/-- What spec's SpaceTake has collected after k extents. -/
def TakeAt (xs : List (Int × Int)) (m : Int) (k : Nat) (out : List (Int × Int)) (t : Int) : Prop :=
  (t = -1 ∧ out = xs.take k ∧ ∀ j, j < k → (xs.getD j (0, 0)).2 < m) ∨ (0 ≤ t ∧ ∃ R, takeX xs m = some (R, t) ∧ out ++ xs.drop k = R)

theorem TakeAt.start (xs : List (Int × Int)) (m : Int) : TakeAt xs m 0 [] (-1) := .inl ⟨rfl, rfl, fun j h => by omega⟩

theorem drop_consX {xs : List (Int × Int)} {k : Nat} (h : k < xs.length) : xs.drop k = xs.getD k (0, 0) :: xs.drop (k + 1) := by
  rw [List.drop_eq_getElem_cons h]
  simp [List.getD_eq_getElem?_getD, h]

theorem TakeAt.keep {xs : List (Int × Int)} {m t : Int} {k : Nat} {out : List (Int × Int)} {f q : Int} (h : TakeAt xs m k out t) (hk : k < xs.length) (hfm : xs.getD k (0, 0) = (f, q)) (hno : ¬ (t < 0 ∧ m ≤ q)) :
    TakeAt xs m (k + 1) (out ++ [(f, q)]) t := by
  rcases h with ⟨rfl, rfl, hj⟩ | ⟨h0, R, hR, ho⟩
  · refine .inl ⟨rfl, by rw [take_snocX hk, hfm], fun j h => ?_⟩
    rcases Nat.lt_or_ge j k with h' | h'
    · exact hj j h'
    · obtain rfl : j = k := by omega
      rw [hfm]; simp only; omega
  · refine .inr ⟨h0, R, hR, ?_⟩
    rw [drop_consX hk, hfm] at ho
    simpa using ho

theorem TakeAt.found {xs : List (Int × Int)} {m t : Int} {k : Nat} {out : List (Int × Int)} {f q : Int} (h : TakeAt xs m k out t) (hk : k < xs.length) (hfm : xs.getD k (0, 0) = (f, q)) (hf : 0 ≤ f) (ht : t < 0) (hq : m ≤ q) :
    TakeAt xs m (k + 1) (out ++ restX (f, q) m) f := by
  rcases h with ⟨rfl, rfl, hj⟩ | ⟨h0, R, hR, ho⟩
  · have := takeX_at hk hj (by rw [hfm]; exact hq)
    rw [hfm] at this
    exact .inr ⟨hf, _, this, rfl⟩
  · omega

theorem TakeAt.end_ {xs : List (Int × Int)} {m t : Int} {out : List (Int × Int)} (h : TakeAt xs m xs.length out t) : (t < 0 → takeX xs m = none) ∧ (0 ≤ t → takeX xs m = some (out, t)) := by
  rcases h with ⟨rfl, rfl, hj⟩ | ⟨h0, R, hR, ho⟩
  · exact ⟨fun _ => takeX_none hj, fun h => by omega⟩
  · refine ⟨fun h => by omega, fun _ => ?_⟩
    rw [hR, ← ho]; simp

theorem TakeAt.bd {xs : List (Int × Int)} {m t : Int} {k : Nat} {out : List (Int × Int)} (h : TakeAt xs m k out t) (hv : spaceV xs = true) (hm : 1 ≤ m) : -1 ≤ t ∧ t ≤ 100 ∧ out.length ≤ 200 := by
  rcases h with ⟨rfl, rfl, _⟩ | ⟨h0, R, hR, ho⟩
  · have := space_count hv
    refine ⟨by omega, by omega, ?_⟩
    rw [List.length_take]; omega
  · have h2 := takeX_spec hm hv hR
    have h3 := space_count h2.1
    simp only at h2 h3
    have h4 : (out ++ xs.drop k).length = R.length := by rw [ho]
    rw [List.length_append] at h4
    exact ⟨by omega, by omega, by omega⟩

theorem inB_iff (n lo hi : Int) : inB n lo hi = true ↔ lo ≤ n ∧ n ≤ hi := by simp [inB]

set_option maxHeartbeats 1000000 in
theorem specTake_bad (a : Option Addr) (n c : Nat) (xs : List (Int × Int)) (m : Int) (w : World) (hr : RdX w a n xs) (hwf : WfX xs) (hn : n ≤ 4611686018427387904) (h : ¬ (spaceV xs = true ∧ 1 ≤ m ∧ m ≤ 100)) :
    Calls Try.prog 10 #[.slice a n c, .int .i64 m] w (RetT w [] 0 false) := by
  have hcase : spaceV xs = false ∨ (spaceV xs = true ∧ inB m 1 100 = false) := by
    by_cases hv : spaceV xs = true
    · right
      refine ⟨hv, ?_⟩
      cases hc : inB m 1 100 with
      | false => rfl
      | true => exact absurd ⟨hv, (inB_iff _ _ _).1 hc⟩ h
    · left; simpa using hv
  clear h
  rcases hcase with h1 | ⟨h1, h2⟩
  · go_enter Try.func10, Try.ntmps10
    go_wp2_with fail
    with_reducible refine (specSpaceValid_any a n c xs _ hr hwf hn).mono ?_
    rintro e w2 ⟨rfl, hb2⟩
    rw [h1]
    clear h1
    go_wp2
    go_ret3
    exact ⟨_, _, rfl, OwnX.empty hb2.size, hb2.alloc hb2.size _⟩
  · go_enter Try.func10, Try.ntmps10
    go_wp2_with fail
    with_reducible refine (specSpaceValid_any a n c xs _ hr hwf hn).mono ?_
    rintro e w2 ⟨rfl, hb2⟩
    rw [h1]
    clear h1
    go_wp2_with fail
    with_reducible refine (l6In_any m 1 100 _).mono ?_
    rintro e w3 ⟨rfl, rfl⟩
    rw [h2]
    clear h2
    go_wp2
    go_ret3
    exact ⟨_, _, rfl, OwnX.empty hb2.size, hb2.alloc hb2.size _⟩

set_option maxHeartbeats 2000000 in
theorem specTake_go (a : Option Addr) (n c : Nat) (xs : List (Int × Int)) (m : Int) (w : World) (hr : RdX w a n xs) (hwf : WfX xs) (hn : n ≤ 4611686018427387904) (hv : spaceV xs = true) (hm0 : 1 ≤ m) (hm1 : m ≤ 100) :
    Calls Try.prog 10 #[.slice a n c, .int .i64 m] w (RetT w (takeR xs m).1 (takeR xs m).2.1 (takeR xs m).2.2) := by
  have hl := Lib.hid hr.1
  have HV := Lib.hid hv
  have hin := Lib.hid ((inB_iff m 1 100).2 ⟨hm0, hm1⟩)
  go_enter Try.func10, Try.ntmps10
  go_wp2_with fail
  with_reducible refine (specSpaceValid_any a n c xs _ hr hwf hn).mono ?_
  rintro e w2 ⟨rfl, hb2⟩
  rw [hv]
  clear hv
  go_wp2_with fail
  with_reducible refine (l6In_any m 1 100 _).mono ?_
  rintro e w3 ⟨rfl, rfl⟩
  rw [hin.out]
  have hO2 : OwnX (w2.alloc (.cells #[] 32)) w.heap.size (some ⟨w2.heap.size, 0, none⟩) 0 [] := OwnX.empty hb2.size
  have hb3 := hb2.alloc hb2.size (.cells #[] 32)
  go_wp2
  go_loopw [7, 8, 9] (fun v t i wr => ∃ k : Nat, k ≤ n ∧ i = .int .i64 k ∧ ∃ (zs : List (Int × Int)) (a' : Option Addr) (c' : Nat) (L : Nat) (t' : Int), v = .slice a' L c' ∧ zs.length = L ∧ t = .int .i64 t' ∧ Hid (TakeAt xs m k zs t') ∧ OwnX wr w.heap.size a' c' zs ∧ Below w.heap.size w wr)
    (fun _ _ i _ => n - (intOf i).toNat)
  case atStart => exact ⟨0, Nat.zero_le _, rfl, [], _, _, 0, -1, rfl, rfl, rfl, Lib.hid (TakeAt.start _ _), hO2, hb3⟩
  case round =>
    clear hO2 hb3 hb2
    obtain ⟨k, hk, rfl, zs, a', c', L, t, rfl, hL, rfl, hT, hO, hb⟩ := hrel
    obtain ⟨t0, t1, hz⟩ := hT.out.bd HV.out hm0
    by_cases hlt : k < n
    · obtain ⟨b, off, rfl, hblt, f, q, hfm, cf, cm, _, _, _⟩ := (hr.below hb).at_ hwf hlt
      have hkl : k < xs.length := by have := hl.out; omega
      have hmv := valid_at HV.out hkl
      rw [hfm, validX_iff] at hmv
      simp only at hmv
      obtain ⟨v0, v1, v2, v3⟩ := hmv
      by_cases hgo : t < 0 ∧ m ≤ q
      · obtain ⟨ht, hle⟩ := hgo
        have HF := Lib.hid (hT.out.found hkl hfm v0 ht hle)
        have d1 : decide (t < 0) = true := by simpa using ht
        have d2 : decide (m ≤ q) = true := by simpa using hle
        clear hfm
        by_cases hq : q = m
        · have hE : restX (f, q) m = [] := by simp [restX, hq]
          rw [hE, List.append_nil] at HF
          subst hq
          clear hE
          have hbx := hb.alloc hb.size (.cells #[.int .i64 (f + q), .int .i64 0] 32)
          go_wp2
          go_roundw
          case rel => exact ⟨k + 1, by omega, by go_num, zs, a', c', L, f, rfl, hL, rfl, HF, hO.alloc _, hbx⟩
          case measure => simp [intOf]; omega
        · have hE : restX (f, q) m = [(f + m, q - m)] := by simp [restX, hq]
          rw [hE] at HF
          have hqm : 0 < q - m := by omega
          have d3 : decide (0 < q - m) = true := by simp; omega
          clear hE hq
          have HW := Lib.hid (wfX_one (f := (f + m)) (m := (q - m)) (by omega) (by omega) (by omega) (by omega))
          have HN := Lib.hid (newX_at (wr.alloc (.cells #[.int .i64 (f + m), .int .i64 (q - m)] 32)) (f + m) (q - m) (wr.heap.size + 1) (by simp))
          have hbsz := hb.size
          go_wp2_with (at_builtin; refine wp_appX rfl _ _ rfl hL rfl ((hO.alloc _).alloc _) ⟨wr.heap.size + 1, 0, none⟩ 1 1 [((f + m), (q - m))] rfl rfl HN.out HW.out (by omega) (by simp; omega) ?_; intro a2 c2 w4 hO2 hG2)
          have hrow : ∀ r, (Value.slice a' L c').ownBlock = some r → w.heap.size ≤ r := by rw [← hL]; exact fun r hr => (hO.2.lt r hr).1
          have hb4 := ((hb.alloc hb.size (.cells #[.int .i64 (f + m), .int .i64 (q - m)] 32)).alloc (by simp; omega) (.cells #[.int .i64 (f + m), .int .i64 (q - m)] 32)).grown hG2 (by simp; omega) hrow
          have hlen2 : (zs ++ [((f + m), (q - m))]).length = L + 1 := by simp [hL]
          clear hG2 HN HW hO hb
          go_roundw
          case rel => exact ⟨k + 1, by omega, by go_num, zs ++ [((f + m), (q - m))], a2, c2, L + 1, f, rfl, hlen2, rfl, HF, hO2, hb4⟩
          case measure => simp [intOf]; omega
      · have HF := Lib.hid (hT.out.keep hkl hfm hgo)
        have hcase : (decide (t < 0) = true ∧ decide (m ≤ q) = false) ∨ decide (t < 0) = false := by
          by_cases h : t < 0
          · left; exact ⟨by simpa using h, by simp; omega⟩
          · right; simpa using h
        have hq0 : 0 < q := by omega
        clear hfm hgo
        rcases hcase with ⟨d1, d2⟩ | d1
        all_goals
          have HW := Lib.hid (wfX_one (f := f) (m := q) (by omega) (by omega) (by omega) (by omega))
          have HN := Lib.hid (newX_at (wr.alloc (.cells #[.int .i64 f, .int .i64 q] 32)) f q (wr.heap.size + 1) (by simp))
          have hbsz := hb.size
          go_wp2_with (at_builtin; refine wp_appX rfl _ _ rfl hL rfl ((hO.alloc _).alloc _) ⟨wr.heap.size + 1, 0, none⟩ 1 1 [(f, q)] rfl rfl HN.out HW.out (by omega) (by simp; omega) ?_; intro a2 c2 w4 hO2 hG2)
          have hrow : ∀ r, (Value.slice a' L c').ownBlock = some r → w.heap.size ≤ r := by rw [← hL]; exact fun r hr => (hO.2.lt r hr).1
          have hb4 := ((hb.alloc hb.size (.cells #[.int .i64 f, .int .i64 q] 32)).alloc (by simp; omega) (.cells #[.int .i64 f, .int .i64 q] 32)).grown hG2 (by simp; omega) hrow
          have hlen2 : (zs ++ [(f, q)]).length = L + 1 := by simp [hL]
          clear hG2 HN HW hO hb
          go_roundw
          case rel => exact ⟨k + 1, by omega, by go_num, zs ++ [(f, q)], a2, c2, L + 1, t, rfl, hlen2, rfl, HF, hO2, hb4⟩
          case measure => simp [intOf]; omega
    · obtain rfl : k = n := by omega
      have hT2 := hT.out
      rw [← hl.out] at hT2
      obtain ⟨e1, e2⟩ := hT2.end_
      clear hT2
      by_cases ht : t < 0
      · have HN := Lib.hid (takeR_none (e1 ht))
        have hbx := hb.alloc hb.size (.cells #[] 32)
        have hbs := hb.size
        clear e1 e2
        go_wp2
        go_ret3
        rw [HN.out]
        exact ⟨_, _, rfl, OwnX.empty hbs, hbx⟩
      · have HN := Lib.hid (takeR_some ⟨HV.out, hm0, hm1⟩ (e2 (by omega)))
        clear e1 e2
        go_wp2
        go_ret3
        rw [HN.out]
        exact ⟨a', c', by rw [hL]; rfl, hO, hb⟩

theorem specSpaceTake_any (a : Option Addr) (n c : Nat) (xs : List (Int × Int)) (m : Int) (w : World) (hr : RdX w a n xs) (hwf : WfX xs) (hn : n ≤ 4611686018427387904) :
    Calls Try.prog 10 #[.slice a n c, .int .i64 m] w (RetT w (takeR xs m).1 (takeR xs m).2.1 (takeR xs m).2.2) := by
  by_cases h : spaceV xs = true ∧ 1 ≤ m ∧ m ≤ 100
  · exact specTake_go a n c xs m w hr hwf hn h.1 h.2.1 h.2.2
  · rw [takeR_bad h]
    exact specTake_bad a n c xs m w hr hwf hn h

end Go.Proofs.Ythcjelijpeddbaa
