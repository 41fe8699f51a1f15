/- Contract of l1Cut: a text cut at its slashes. -/
import Derived.Test.YtdjpaibjelfhnaaWord
namespace Go.Proofs.Ytdjpaibjelfhnaa
open Go.RowKit
set_option linter.unusedVariables false

/-- A text cut at its slashes, as strings. -/
def cutS (s : ByteArray) : List ByteArray := (cutL (bts s)).map mkS

theorem map_mk_bts (zs : List ByteArray) : (zs.map bts).map mkS = zs := by
  rw [List.map_map]
  have : (mkS ∘ bts) = id := by funext s; exact mk_bts s
  rw [this, List.map_id]

theorem map_bts_mk (ls : List (List UInt8)) : (ls.map mkS).map bts = ls := by
  rw [List.map_map]
  have : (bts ∘ mkS) = id := by funext s; exact bts_mk s
  rw [this, List.map_id]

theorem cutL_length (l : List UInt8) : (cutL l).length ≤ l.length + 1 := by
  induction l with
  | nil => simp [cutL]
  | cons b l ih =>
    by_cases hb : b = 47
    · subst hb; rw [cutL_slash]; simp; exact ih
    · obtain ⟨p, ps, e1, e2⟩ := cutL_other l hb
      rw [e2]; rw [e1] at ih; simp at ih ⊢; omega

theorem cutS_length (s : ByteArray) : (cutS s).length ≤ s.size + 1 := by
  have := cutL_length (bts s)
  rw [bts_length] at this
  simpa [cutS] using this

/-- What l1Cut has done when it stands at k. -/
def CutAt (s : ByteArray) (zs : List ByteArray) (F k : Nat) : Prop :=
  cutL (bts s) = zs.map bts ++ cutL ((bts s).drop F) ∧ F ≤ k ∧ (∀ j, F ≤ j → j < k → (bts s)[j]? ≠ some 47) ∧ zs.length ≤ F

theorem CutAt.start (s : ByteArray) : CutAt s [] 0 0 := ⟨by simp, Nat.le_refl _, fun j h1 h2 => by omega, by simp⟩

theorem CutAt.step {s : ByteArray} {zs : List ByteArray} {F k : Nat} (h : CutAt s zs F k) (hne : (bts s)[k]? ≠ some 47) : CutAt s zs F (k + 1) := by
  obtain ⟨h1, h2, h3, h4⟩ := h
  refine ⟨h1, by omega, fun j a b => ?_, h4⟩
  rcases Nat.lt_or_ge j k with h | h
  · exact h3 j a h
  · obtain rfl : j = k := by omega
    exact hne

theorem mem_take_drop {l : List UInt8} {F m : Nat} {b : UInt8} (h : b ∈ (l.drop F).take m) : ∃ j, F ≤ j ∧ j < F + m ∧ l[j]? = some b := by
  obtain ⟨i, hi, rfl⟩ := List.getElem_of_mem h
  simp only [List.length_take, List.length_drop] at hi
  refine ⟨F + i, by omega, by omega, ?_⟩
  rw [List.getElem?_eq_getElem (by omega)]
  simp

theorem CutAt.slash {s : ByteArray} {zs : List ByteArray} {F k : Nat} (h : CutAt s zs F k) (hk : k < s.size) (he : (bts s)[k]? = some 47) : CutAt s (zs ++ [s.extract F k]) (k + 1) (k + 1) := by
  obtain ⟨h1, h2, h3, h4⟩ := h
  have hl : k < (bts s).length := by rw [bts_length]; exact hk
  refine ⟨?_, Nat.le_refl _, fun j a b => by omega, by simp; omega⟩
  have e : (bts s).drop F = ((bts s).drop F).take (k - F) ++ 47 :: (bts s).drop (k + 1) := by
    have e1 : ((bts s).drop F).drop (k - F) = (bts s).drop k := by rw [List.drop_drop]; congr 1; omega
    have e2 : (bts s).drop k = 47 :: (bts s).drop (k + 1) := by
      rw [List.drop_eq_getElem_cons hl]
      rw [List.getElem?_eq_getElem hl] at he
      injection he with he
      rw [he]
    rw [← e2, ← e1, List.take_append_drop]
  have hno : ∀ b ∈ ((bts s).drop F).take (k - F), b ≠ 47 := by
    intro b hb hc
    obtain ⟨j, j1, j2, j3⟩ := mem_take_drop hb
    subst hc
    exact h3 j j1 (by omega) j3
  rw [h1, e, cutL_first hno]
  simp [bts_extract]

theorem CutAt.end_ {s : ByteArray} {zs : List ByteArray} {F : Nat} (h : CutAt s zs F s.size) : cutS s = zs ++ [s.extract F s.size] := by
  obtain ⟨h1, h2, h3, h4⟩ := h
  have hno : ∀ b ∈ (bts s).drop F, b ≠ 47 := by
    intro b hb hc
    subst hc
    have hb' : (47 : UInt8) ∈ ((bts s).drop F).take ((bts s).length - F) := by rw [List.take_of_length_le (by rw [List.length_drop]; omega)]; exact hb
    obtain ⟨j, j1, j2, j3⟩ := mem_take_drop hb'
    exact h3 j j1 (by rw [bts_length] at j2; omega) j3
  have e : bts (s.extract F s.size) = (bts s).drop F := by rw [bts_extract, List.take_of_length_le (by rw [List.length_drop, bts_length]; omega)]
  unfold cutS
  rw [h1, cutL_none hno, List.map_append, map_mk_bts, ← e]
  simp [mk_bts]

set_option maxHeartbeats 1000000 in
theorem l1Cut_any (s : ByteArray) (w : World) (hs : s.size ≤ 1073741824) :
    Calls Try.prog 57 #[.string s] w (RetS w (cutS s)) := by
  have hO0 : OwnS (w.alloc (.cells #[] 9)) w.heap.size (some ⟨w.heap.size, 0, none⟩) 0 [] := OwnS.empty (Nat.le_refl _)
  have hb0 : Below w.heap.size w (w.alloc (.cells #[] 9)) := (Below.refl _ _).alloc (Nat.le_refl _) _
  go_enter Try.func57, Try.ntmps57
  go_wp2
  go_loopw [3, 4, 5] (fun v f i wr => ∃ k : Nat, k ≤ s.size ∧ i = .int .i64 k ∧ ∃ (zs : List ByteArray) (a' : Option Addr) (c' L F : Nat), v = .slice a' L c' ∧ zs.length = L ∧ L ≤ s.size ∧ f = .int .i64 F ∧ F ≤ k ∧ Hid (CutAt s zs F k) ∧ OwnS wr w.heap.size a' c' zs ∧ Below w.heap.size w wr)
    (fun _ _ i _ => s.size - (intOf i).toNat)
  case atStart => exact ⟨0, Nat.zero_le _, rfl, [], _, _, 0, 0, rfl, rfl, by omega, rfl, Nat.le_refl _, Lib.hid (CutAt.start _), hO0, hb0⟩
  case round =>
    clear hO0 hb0
    obtain ⟨k, hk, rfl, zs, a', c', L, F, rfl, hL, hLs, rfl, hFk, hC, hO, hb⟩ := hrel
    by_cases hlt : k < s.size
    · have hg := bts_get? s k hlt
      by_cases h47 : s[k].toNat = 47
      · have d1 : (((s[k].toNat : Nat) : Int) == 47) = true := by rw [beq_iff_eq]; omega
        have e47 : s[k] = 47 := UInt8.toNat_inj.1 (by simpa using h47)
        have HC := Lib.hid (hC.out.slash hlt (by rw [hg, e47]))
        have HN := Lib.hid (newS_at wr (s.extract F k) wr.heap.size rfl)
        have hle := HC.out.2.2.2
        simp at hle
        clear e47 h47 hg
        go_wp2_with (at_builtin; refine wp_appS rfl _ _ rfl hL rfl (hO.alloc _) ⟨wr.heap.size, 0, none⟩ 1 1 [s.extract F k] rfl rfl HN.out (by omega) (by have := hb.size; simp; omega) ?_; intro a2 c2 w2 hO2 hG2)
        have hb2 := (hb.alloc hb.size (.cells #[.string (s.extract F k)] 9)).grown hG2 (by have := hb.size; simp; omega) (by rw [← hL]; exact fun r hr => (hO.lt r hr).1)
        have hL2 : (zs ++ [s.extract F k]).length = L + 1 := by simp [hL]
        clear hG2 hO hb HN
        go_roundw
        case rel => exact ⟨k + 1, by omega, by go_num, zs ++ [s.extract F k], a2, c2, L + 1, k + 1, rfl, hL2, by omega, by go_num, Nat.le_refl _, HC, hO2, hb2⟩
        case measure => simp [intOf]; omega
      · have d1 : (((s[k].toNat : Nat) : Int) == 47) = false := by rw [beq_eq_false_iff_ne]; omega
        have HC := Lib.hid (hC.out.step (by rw [hg]; intro hc; injection hc with hc; exact h47 (by rw [hc]; rfl)))
        clear h47 hg
        go_wp2
        go_roundw
        case rel => exact ⟨k + 1, by omega, by go_num, zs, a', c', L, F, rfl, hL, hLs, rfl, by omega, HC, hO, hb⟩
        case measure => simp [intOf]; omega
    · obtain rfl : k = s.size := by omega
      have HE := Lib.hid hC.out.end_
      have HN := Lib.hid (newS_at wr (s.extract F s.size) wr.heap.size rfl)
      go_wp2_with (at_builtin; refine wp_appS rfl _ _ rfl hL rfl (hO.alloc _) ⟨wr.heap.size, 0, none⟩ 1 1 [s.extract F s.size] rfl rfl HN.out (by omega) (by have := hb.size; simp; omega) ?_; intro a2 c2 w2 hO2 hG2)
      have hb2 := (hb.alloc hb.size (.cells #[.string (s.extract F s.size)] 9)).grown hG2 (by have := hb.size; simp; omega) (by rw [← hL]; exact fun r hr => (hO.lt r hr).1)
      have hL2 : (zs ++ [s.extract F s.size]).length = L + 1 := by simp [hL]
      go_ret
      rw [HE.out]
      exact ⟨a2, c2, by rw [hL2]; rfl, hO2, hb2⟩

end Go.Proofs.Ytdjpaibjelfhnaa
