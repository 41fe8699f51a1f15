/- Contract of impl's extents: the extents of all places that are marked. -/
import Derived.Test.YthcjelijpeddbaaSpaceImpl
import Derived.Test.YthcjelijpeddbaaPlainExt
import Derived.Test.YthcjelijpeddbaaAppX
import Derived.Test.YthcjelijpeddbaaDrawX
namespace Go.Proofs.Ythcjelijpeddbaa
open Go.RowKit
set_option linter.unusedVariables false

theorem newX_at (W : World) (f m : Int) (n : Nat) (hn : W.heap.size = n) : ∀ j u, (flatX [(f, m)])[j]? = some u → (W.alloc (.cells #[.int .i64 f, .int .i64 m] 32)).cell? ((⟨n, 0, none⟩ : Addr).add j) = some u := by
  subst hn
  exact newX W f m

/-- A new slice of extents is handed back, which reads as xs. -/
def RetE (w : World) (S : Int → Bool) (e : Ending) (w' : World) : Prop :=
  ∃ xs a c, e = .returned (.slice a xs.length c) ∧ OwnX w' w.heap.size a c xs ∧ Below w.heap.size w w' ∧ spaceV xs = true ∧ ∀ p, inS xs p = (decide (0 ≤ p) && decide (p < 100) && S p)

set_option maxHeartbeats 2000000 in
theorem extents_any (g x y : Nat) (w : World) (hs : SpX w g x y) :
    Calls Try.prog 29 #[.pointer (some ⟨g, 0, none⟩)] w (RetE w (bitS x y)) := by
  go_enter Try.func29, Try.ntmps29
  go_wp2
  go_loopw [3, 4] (fun v i wr => ∃ q : Nat, q ≤ 101 ∧ i = .int .i64 (q : Int) ∧ ∃ zs a c, v = .slice a zs.length c ∧ zs.length ≤ q ∧ OwnX wr w.heap.size a c zs ∧ Hid (ExtOK (bitS x y) zs q) ∧ Below w.heap.size w wr)
    (fun _ i _ => 101 - (intOf i).toNat)
  case atStart => exact ⟨0, by omega, rfl, [], _, _, rfl, by simp, OwnX.nil _ _, Lib.hid (ExtOK.nil _), Below.refl _ _⟩
  case round =>
    obtain ⟨q, hq, rfl, zs, a, c, rfl, hz, hO, hE, hb⟩ := hrel
    by_cases hlt : q < 100
    · go_wp2_with fail
      with_reducible refine (free_any g x y q _ (hs.below hb) (by omega)).mono ?_
      rintro e w1 ⟨rfl, rfl⟩
      by_cases hS : bitS x y q = false
      · rw [hS]
        have HE := Lib.hid (hE.out.skip hS)
        clear hS
        go_wp2
        go_roundw
        case rel => exact ⟨q + 1, by omega, by go_num, zs, _, _, rfl, by omega, hO, HE, hb⟩
        case measure => simp [intOf]; omega
      · have hS' : bitS x y q = true := by simpa using hS
        rw [hS']
        have HS := Lib.hid hS'
        clear hS hS'
        go_wp2
        have hsx : SpX (wr.alloc (.cells #[.int .i64 q, .int .i64 0] 32)) g x y := hs.below (hb.alloc hb.size _)
        go_loop [4] (fun i => ∃ r : Nat, q ≤ r ∧ r ≤ 100 ∧ i = .int .i64 (r : Int) ∧ Hid (∀ p : Int, q ≤ p → p < r → bitS x y p = true)) (fun i => 101 - (intOf i).toNat)
        case atStart => exact ⟨q, Nat.le_refl _, by omega, rfl, Lib.hid (fun p h1 h2 => by omega)⟩
        case round =>
          obtain ⟨r, hr0, hr1, rfl, hin⟩ := hrel
          by_cases hgo : r < 100 ∧ bitS x y r = true
          · obtain ⟨hlt2, hS'⟩ := hgo
            have d1 : decide ((r : Int) < 100) = true := by simp; omega
            have HI : Hid (∀ p : Int, q ≤ p → p < ((r + 1 : Nat) : Int) → bitS x y p = true) := Lib.hid (fun p h1 h2 => by
              rcases Int.lt_or_le p r with h | h
              · exact hin.out p h1 h
              · obtain rfl : p = r := by omega
                exact hS')
            have HT := Lib.hid hS'
            clear hS'
            go_wp2_with fail
            with_reducible refine (free_any g x y r _ hsx (by omega)).mono ?_
            rintro e w1 ⟨rfl, rfl⟩
            rw [HT.out]
            go_wp2
            go_round
            case rel => exact ⟨r + 1, by omega, by omega, by go_num, HI⟩
            case measure => simp [intOf]; omega
          · have hqr : q < r := by
              rcases Nat.lt_or_ge q r with h | h
              · exact h
              · exfalso
                obtain rfl : q = r := by omega
                exact hgo ⟨hlt, HS.out⟩
            have hend : r < 100 → bitS x y r = false := fun h => by
              cases hc : bitS x y r with
              | false => rfl
              | true => exact absurd ⟨h, hc⟩ hgo
            have HE := Lib.hid (hE.out.snoc (r := (r : Int)) (by omega) (by omega) (by omega) hin.out (fun h => hend (by omega)))
            have HEnd := Lib.hid hend
            have HW := Lib.hid (wfX_one (f := (q : Int)) (m := (r : Int) - q) (by omega) (by omega) (by omega) (by omega))
            have HN := Lib.hid (newX_at (wr.alloc (.cells #[.int .i64 q, .int .i64 ((r : Int) - q)] 32)) q ((r : Int) - q) (wr.heap.size + 1) (by simp))
            have hbsz := hb.size
            clear hend hgo
            have hcase : (decide ((r : Int) < 100) = true ∧ Hid (r < 128 ∧ bitS x y r = false)) ∨ decide ((r : Int) < 100) = false := by
              by_cases h : r < 100
              · left; exact ⟨by simp; omega, Lib.hid ⟨by omega, HEnd.out h⟩⟩
              · right; simp; omega
            clear HEnd
            rcases hcase with ⟨d1, hSf⟩ | d1
            all_goals
              first
                | (go_wp2_with fail; (with_reducible refine (free_any g x y r _ hsx hSf.out.1).mono ?_); rintro e w1 ⟨rfl, rfl⟩; rw [hSf.out.2])
                | skip
              go_wp2_with (at_builtin; refine wp_appX rfl _ _ rfl rfl rfl ((hO.alloc _).alloc _) ⟨wr.heap.size + 1, 0, none⟩ 1 1 [((q : Int), (r : Int) - q)] rfl rfl HN.out HW.out (by omega) (by simp; omega) ?_; intro a2 c2 w2 hO2 hG2)
              have hb2 := ((hb.alloc hb.size (.cells #[.int .i64 q, .int .i64 ((r : Int) - q)] 32)).alloc (by simp; omega) (.cells #[.int .i64 q, .int .i64 ((r : Int) - q)] 32)).grown hG2 (by simp; omega) (fun r hr => (hO.2.lt r hr).1)
              have hlen2 : (zs ++ [((q : Int), (r : Int) - q)]).length = zs.length + 1 := by simp
              clear hG2 HN HW hO hb hE
              go_roundw
              case rel => exact ⟨r + 1, by omega, by go_num, zs ++ [((q : Int), (r : Int) - q)], a2, c2, by rw [hlen2], by omega, hO2, Lib.hid HE.out, hb2⟩
              case measure => simp [intOf]; omega
    · go_wp2
      go_ret
      obtain ⟨d1, d2⟩ := hE.out.done (by omega)
      exact ⟨zs, _, _, rfl, hO, hb, d1, d2⟩

end Go.Proofs.Ythcjelijpeddbaa
