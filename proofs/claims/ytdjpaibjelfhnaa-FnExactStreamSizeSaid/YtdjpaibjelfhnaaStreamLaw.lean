/- Walk of the exact law of StreamSize. -/
import Derived.Test.YtdjpaibjelfhnaaStream
import Derived.Test.YtdjpaibjelfhnaaTr
namespace Go.Proofs.Ytdjpaibjelfhnaa
open Go.RowKit
set_option linter.unusedVariables false

theorem OwnP.rdN {w : World} {B : Nat} {a : Option Addr} {c n : Nat} {xs : List PV} (h : OwnP w B a c xs) (hn : xs.length = n) : RdR eltP w a n xs := hn ▸ h.row.rd

theorem vals_size {xs ys : List PV} (h : valsP ys = valsP xs) {m : Nat} (hs : ∀ x ∈ xs, x.zs.length ≤ m) : ∀ y ∈ ys, y.zs.length ≤ m := by
  intro y hy
  have : y.val ∈ valsP ys := List.mem_map_of_mem hy
  rw [h] at this
  obtain ⟨x, hx, he⟩ := List.mem_map.1 this
  have := hs x hx
  have hz : x.zs = y.zs := by
    have := congrArg (fun p : Int × ByteArray × Bool × List Int => p.2.2.2) he
    exact this
  rw [← hz]; exact this

set_option maxHeartbeats 1000000 in
theorem FnExactStreamSize_walk (a : Option Addr) (n c : Nat) (zs : List PV) (w : World) (hri : RdR eltPL w a n zs ∧ InP w zs) (hwf : WfP zs) (hm : n ≤ maxLen) :
    Calls Try.prog 4 #[.slice a n c] w (Tr w) := by
  obtain ⟨hr, hin⟩ := hri
  have hl := Lib.hid hr.1
  by_cases hbig : 4611686018427387904 < n
  · unfold maxLen at hm
    have hz := szPartS_big a n c 1048576 w (by omega) (by omega)
    go_enter Try.func4, Try.ntmps4
    go_wp2_with fail
    with_reducible refine hz.mono ?_
    rintro e w1 ⟨rfl, hb⟩
    go_wp2
    go_ret
    exact ⟨rfl, hb⟩
  have hz := szPartS_any a n c zs 1048576 w hr hwf (by omega) (by omega) (by omega)
  have hsn := szP_nonneg zs
  by_cases hn : (1048576 : Int) - (n + szP zs) < 0
  · rw [show leftP 1048576 (n + szP zs) = -1 by unfold leftP; rw [if_pos hn]] at hz
    go_enter Try.func4, Try.ntmps4
    go_wp2_with fail
    with_reducible refine hz.mono ?_
    rintro e w1 ⟨rfl, hb⟩
    go_wp2
    go_ret
    exact ⟨rfl, hb⟩
  · have hs : ∀ x ∈ zs, x.zs.length ≤ 1048576 := by
      intro x hx
      have := szP_mem hx
      omega
    have HS := Lib.hid hs
    have hle := lenP_sz zs
    have HLE : Hid (lenP zs ≤ 1099511627776) := Lib.hid (by omega)
    clear hle
    have HI := Lib.hid hin
    have HW := Lib.hid hwf
    obtain ⟨q, hq⟩ : ∃ q, (1048576 : Int) - (n + szP zs) = q := ⟨_, rfl⟩
    rw [show leftP 1048576 (n + szP zs) = q by unfold leftP; rw [if_neg hn, hq]] at hz
    have hn2 : n ≤ 1048576 := by omega
    have d0 : decide (q < 0) = false := by simp; omega
    obtain ⟨v, hv⟩ : ∃ v, lenP zs = v := ⟨_, rfl⟩
    have PV' := Lib.hid hv
    have tq : (v != v) = false := by simp
    clear hn hq hs hv hin hwf
    go_enter Try.func4, Try.ntmps4
    go_wp2_with fail
    with_reducible refine hz.mono ?_
    rintro e w1 ⟨rfl, hb⟩
    have hb1 := hb
    have hr1 := hr.below hb
    have hI1 := HI.out.below hb
    clear hb hz
    go_wp2_with fail
    with_reducible refine (toPartS_any a n c zs _ hr1 hI1 HW.out hn2 HS.out).mono ?_
    rintro e w2 ⟨y2, a2, c2, rfl, hyl, hyv, ho2, hb⟩
    have hb2 := hb1.trans (hb.mono hb1.size)
    have hr2 := hr1.below hb
    have hI2 := hI1.below hb
    have hA2 := ho2.rdN (hyl.trans hl.out)
    have hsz := vals_size hyv HS.out
    have K := specStreamSize_any a2 n c2 y2 w2 hA2 (by omega) (by rw [lenP_vals hyv]; exact HLE.out)
    rw [lenP_vals hyv, PV'.out] at K
    rw [hl.out]
    clear hb hr1 hb1 ho2 hA2 hyl hyv hsz hI1
    go_wp2_with fail
    with_reducible refine K.mono ?_
    rintro e w3 ⟨rfl, hb⟩
    have hb3 := hb2.trans (hb.mono hb2.size)
    have hr3 := hr2.below hb
    have hI3 := hI2.below hb
    clear hb hr2 hb2 hI2 K
    go_wp2_with fail
    with_reducible refine (toPartS_any a n c zs _ hr3 hI3 HW.out hn2 HS.out).mono ?_
    rintro e w4 ⟨y4, a4, c4, rfl, hyl4, hyv4, ho4, hb⟩
    have hb4 := hb3.trans (hb.mono hb3.size)
    have hr4 := hr3.below hb
    have hI4 := hI3.below hb
    have hA4 := ho4.rdN (hyl4.trans hl.out)
    have hin4 := ho4.inn
    have hcap := ho4.row.cap
    have hsz := vals_size hyv4 HS.out
    rw [hyl4, hl.out] at hcap
    unfold maxLen at hcap
    have K := implStreamSize_any a4 n c4 y4 w4 hA4 (by omega) (by rw [lenP_vals hyv4]; exact HLE.out)
    rw [lenP_vals hyv4, PV'.out] at K
    have HSZ := Lib.hid hsz
    have HY4 := Lib.hid hyv4
    rw [hl.out]
    clear hb hr3 hb3 ho4 hyl4 hyv4 hsz hI3 hcap
    go_wp2_with fail
    with_reducible refine K.mono ?_
    rintro e w5 ⟨rfl, hb⟩
    have hb5 := hb4.trans (hb.mono hb4.size)
    have hr5 := hr4.below hb
    have hI5 := hI4.below hb
    have hA5 := hA4.below hb
    have hin5 := hin4.below hb
    clear hb hr4 hb4 hI4 K hA4 hin4
    go_wp2_with fail
    with_reducible refine (toPartS_any a n c zs _ hr5 hI5 HW.out hn2 HS.out).mono ?_
    rintro e w6 ⟨y6, a6, c6, rfl, hyl6, hyv6, ho6, hb⟩
    have hb6 := hb5.trans (hb.mono hb5.size)
    have hA6 := hA5.below hb
    have hin6 := hin5.below hb
    have hC6 := ho6.rdN (hyl6.trans hl.out)
    have hCi := ho6.inn
    have K := eqPartS_self a4 a6 n c4 c6 y4 y6 (by rw [HY4.out, hyv6]) w6 hA6 hC6 hin6 hCi (by omega) (fun x hx => by have := HSZ.out x hx; omega)
    rw [hl.out]
    clear hb hr5 hb5 ho6 hyl6 hyv6 hI5 hA5 hin5 hA6 hin6 hC6 hCi
    go_wp2_with fail
    with_reducible refine K.mono ?_
    rintro e w7 ⟨rfl, hb⟩
    have hb7 := hb6.trans (hb.mono hb6.size)
    go_wp2
    go_ret
    exact ⟨rfl, hb7⟩

end Go.Proofs.Ytdjpaibjelfhnaa
