/- Contract of the draw of parts. -/
import Derived.Test.YtdjpaibjelfhnaaDrawFile
import Derived.Test.YtdjpaibjelfhnaaDrawPath
import Derived.Test.YtdjpaibjelfhnaaPartE
import Derived.Deep.RegionHeld3
import Derived.Outline
namespace Go.Proofs.Ytdjpaibjelfhnaa
open Go.RowKit
set_option linter.unusedVariables false

theorem Drawn.comp {w wr w1 : World} {B g : Nat} {lim q : Int} (h : Drawn w wr B g lim) (h1 : Drawn wr w1 B g q) : Drawn w w1 B g q := ⟨h1.1, grownBy_trans h.2 h1.2⟩

/-- A file was drawn in the middle of a draw. -/
theorem fileD {w wr : World} {B g : Nat} {lim : Int} (h : Drawn w wr B g lim) (hl : lim ≤ 1000000000) :
    Calls Try.prog 27 #[.pointer (some ⟨g, 0, none⟩)] wr (fun e w1 => ∃ zs a c, e = .returned (.slice a zs.length c) ∧ zs.length ≤ 33 ∧ OwnI w1 wr.heap.size a c zs ∧ Drawn w w1 B g (lim + 1000) ∧ wr.grownBy w1 (some g)) := by
  obtain ⟨⟨q, hq, hrd⟩, h2⟩ := h
  refine (l91File_any B g q wr hrd (by omega)).mono ?_
  rintro e w1 ⟨zs, a, c, rfl, hz, hO, hD⟩
  exact ⟨zs, a, c, rfl, hz, hO, ⟨(hD.le (by omega)).1, grownBy_trans h2 hD.2⟩, hD.2⟩

/-- Parts were drawn. -/
def GotPa (w : World) (e : Ending) (w' : World) : Prop :=
  ∃ xs a c, e = .returned (.slice a xs.length c) ∧ xs.length ≤ 5 ∧ (∀ x ∈ xs, x.zs.length ≤ 33) ∧ OwnR eltP w' w.heap.size a c xs ∧ Below w.heap.size w w'

theorem newPa (W : World) (x : PV) : ∀ j u, (eltP.flat [x])[j]? = some u → (W.alloc (.cells #[.int .i64 x.kd, .string x.pa, .bool x.dr, .slice x.ad x.zs.length x.cp] 51)).cell? ((⟨W.heap.size, 0, none⟩ : Addr).add j) = some u := newR eltP W x _ rfl

set_option maxHeartbeats 1000000 in
theorem DrawStreamSize_any (a : Option Addr) (n c : Nat) (w : World) (h : RdC w a n) (hc : n ≤ c) (hn : n ≤ 1048576) :
    Calls Try.prog 7 #[.slice a n c] w (GotPa w) := by
  go_enter Try.func7, Try.ntmps7
  go_wp2_with fail
  with_reducible refine (l6Open_any a n c _ h hc hn).mono ?_
  rintro e w1 ⟨rfl, hR, hb1, hsz⟩
  have HS := Lib.hid hsz
  have hlt : w.heap.size < w1.heap.size := by omega
  clear hsz
  have hO1 : OwnR eltP (w1.alloc (.cells #[] 51)) w1.heap.size (some ⟨w1.heap.size, 0, none⟩) 0 [] := OwnR.empty eltP (Nat.le_refl _)
  have hD1 := (Drawn.start hR).alloc (.cells #[] 51)
  go_wp2_with fail
  refine (pickD _ hD1 (by omega)).mono ?_
  rintro e w2 ⟨N, rfl, hN0, hN1, hD2, hg2⟩
  have hO2 := hO1.grown hg2 hlt
  have hN2 := hN1 (by omega)
  clear hN1 hg2 hO1 hD1 hR
  go_wp2_with fail
  go_loopw [4, 6] (fun v i wr => ∃ k : Nat, (k : Int) ≤ N ∧ i = .int .i64 k ∧ ∃ zs a c L, v = .slice a L c ∧ zs.length = L ∧ L ≤ k ∧ Hid (∀ x ∈ zs, x.zs.length ≤ 33) ∧ OwnR eltP wr w1.heap.size a c zs ∧ Drawn w1 wr w.heap.size w.heap.size (2 + 1003 * k))
    (fun _ i _ => (N - intOf i).toNat)
  case atStart => exact ⟨0, by omega, rfl, [], _, _, 0, rfl, rfl, Nat.le_refl _, Lib.hid (by intro z hz; cases hz), hO2, hD2.le (by omega)⟩
  case round =>
    clear hO2 hD2
    obtain ⟨k, hk, rfl, zs, a, c, L, rfl, hz, hLk, hsm, hO, hD⟩ := hrel
    by_cases hlt2 : (k : Int) < N
    · go_wp2_with fail
      refine (pickD _ hD (by omega)).mono ?_
      rintro e wA ⟨x, rfl, hx0, hx1, hDA, hgA⟩
      have hOA := hO.grown hgA hlt
      have hx2 := hx1 (by omega)
      clear hx1 hgA hO hD
      go_wp2_with fail
      with_reducible refine (l91Path_any _ _ _ _ _ hDA (by omega)).mono ?_
      rintro e wB ⟨d, rfl, hd, hDB, hgB⟩
      have hOB := hOA.grown hgB hlt
      clear hgB hOA hDA
      go_wp2_with fail
      with_reducible refine (fileD hDB (by omega)).mono ?_
      rintro e wC ⟨fs, af, cf, rfl, hf, hOf, hDC, hgC⟩
      have hOC := hOB.grown hgC hlt
      have HN := Lib.hid (newPa wC ⟨1 + x, d, false, af, cf, fs⟩)
      have hsC := hDC.2.size
      clear hgC hOB hDB hOf
      go_wp2_with (at_builtin; refine wp_appR eltP rfl _ _ rfl hz rfl (hOC.alloc _) ⟨wC.heap.size, 0, none⟩ 1 1 [(⟨1 + x, d, false, af, cf, fs⟩ : PV)] rfl rfl HN.out (by omega) (by simp; omega) ?_; intro a2 c2 w2 hO2 hG2)
      have hlen2 : (zs ++ [(⟨1 + x, d, false, af, cf, fs⟩ : PV)]).length = L + 1 := by simp [hz]
      have hD2 := (hDC.alloc (.cells #[.int .i64 (1 + x), .string d, .bool false, .slice af fs.length cf] 51)).step hG2 (fun r hr => by rw [← hz] at hr; exact own_rowR hOC hlt r hr)
      have hsm2 : Hid (∀ y ∈ zs ++ [(⟨1 + x, d, false, af, cf, fs⟩ : PV)], y.zs.length ≤ 33) := Lib.hid (fun y hy => by
        rcases List.mem_append.1 hy with hy | hy
        · exact hsm.out y hy
        · rw [List.mem_singleton] at hy; subst hy; exact hf)
      clear hG2 hOC hDC hsm HN
      go_roundw
      case rel => exact ⟨k + 1, by omega, by go_num, _, a2, c2, L + 1, rfl, hlen2, by omega, hsm2, hO2, hD2.le (by omega)⟩
      case measure => simp [intOf]; omega
    · have hb2 := got_below hb1 HS.out hD.2
      go_wp2
      go_ret
      exact ⟨zs, a, c, by rw [hz]; rfl, by omega, hsm.out, hO.mono hb1.size, hb2⟩

end Go.Proofs.Ytdjpaibjelfhnaa
