/- Contract of markText: a text that only the number decides. -/
import Derived.Test.YtdjpaibjelfhnaaBaseS
import Derived.Laws.BytesArg
namespace Go.Proofs.Ytdjpaibjelfhnaa
open Go.RowKit
set_option linter.unusedVariables false

/-- The digits of k, put ahead of out. -/
def digT : Nat → Nat → ByteArray → ByteArray
  | 0, _, out => out
  | f + 1, k, out => if k = 0 then out else digT f (k / 10) (strOfNums [48 + (k : Int) % 10] ++ out)

/-- The text of a mark. -/
def markT (k : Nat) : ByteArray := ⟨#[109]⟩ ++ digT 20 k ⟨#[]⟩

theorem digT_zero (f : Nat) (o : ByteArray) : digT f 0 o = o := by cases f <;> simp [digT]
theorem digT_step {f k : Nat} (o : ByteArray) (h : 0 < k) : digT (f + 1) k o = digT f (k / 10) (strOfNums [48 + (k : Int) % 10] ++ o) := by
  rw [digT, if_neg (by omega)]

theorem run_dig (w : World) (x : Int) :
    (convert 22 9 (.slice (some ⟨w.heap.size, 0, none⟩) 1 1)).run Try.prog (w.alloc (.cells #[.int .u8 x] 5)) = .ok (.string (strOfNums [x])) (w.alloc (.cells #[.int .u8 x] 5)) :=
  run_convert_bytes_arg (P := Try.prog) (w.alloc (.cells #[.int .u8 x] 5)) 22 5 Try.underlying22 Try.underlying5 w.heap.size 0 1 1 [x] rfl
    (fun i hi => by
      obtain rfl : i = 0 := by omega
      exact cell_of_row (w.alloc (.cells #[.int .u8 x] 5)) w.heap.size 0 #[.int .u8 x] 5 (0, 0) (heap_alloc_new w (.cells #[.int .u8 x] 5))) 9 Try.underlying9

set_option maxRecDepth 100000 in
set_option maxHeartbeats 600000 in
theorem markText_any (k : Nat) (w : World) (h0 : 0 < k) (hk : k < 9223372036854775807) :
    Calls Try.prog 35 #[.int .i64 k] w fun e w' => e = .returned (.string (markT k)) ∧ Below w.heap.size w w' := by
  have d0 : decide ((k : Int) ≤ 0) = false := by simp; omega
  go_enter Try.func35, Try.ntmps35
  go_wp2
  go_loopw [0, 3] (fun i x wr => ∃ (f n : Nat) (o : ByteArray), i = .int .i64 n ∧ x = .string o ∧ o.size + f = 20 ∧ n < 9223372036854775807 ∧ Hid (n < 10 ^ f) ∧ Hid (digT f n o = digT 20 k ⟨#[]⟩) ∧ Below w.heap.size w wr) (fun i x wr => (intOf i).toNat)
  case atStart => exact ⟨20, k, ⟨#[]⟩, rfl, rfl, rfl, hk, Lib.hid (by omega), Lib.hid rfl, Below.refl _ _⟩
  case round =>
    obtain ⟨f, n, o, rfl, rfl, hsz, hn, hf, hd, hb⟩ := hrel
    by_cases hn0 : n = 0
    · subst hn0
      go_wp2
      go_ret
      have := hd.out
      rw [digT_zero] at this
      subst this
      exact ⟨rfl, hb⟩
    · have d1 : decide ((0 : Int) < (n : Int)) = true := by simp; omega
      obtain ⟨g, rfl⟩ : ∃ g, f = g + 1 := ⟨f - 1, by have := hf.out; cases f with | zero => simp at this; omega | succ f => simp⟩
      have HC := run_dig wr (48 + (n : Int) % 10)
      have hs1 := strOfNums_size [48 + (n : Int) % 10]
      have hs2 : (strOfNums [48 + (n : Int) % 10] ++ o).size = 20 - g := by rw [ByteArray.size_append, hs1]; simp; omega
      go_wp2
      go_round
      case rel => exact ⟨g, n / 10, _, by go_num, rfl, by omega, by omega, Lib.hid (by have := hf.out; rw [Nat.pow_succ] at this; omega), Lib.hid (by rw [← hd.out, digT_step _ (by omega)]), hb.alloc hb.size _⟩
      case measure => simp [intOf]; omega

theorem markText_int (x : Int) (w : World) (h0 : 0 < x) (hx : x < 9223372036854775807) :
    Calls Try.prog 35 #[.int .i64 x] w fun e w' => e = .returned (.string (markT x.toNat)) ∧ Below w.heap.size w w' := by
  have h := markText_any x.toNat w (by omega) (by omega)
  rwa [show ((x.toNat : Nat) : Int) = x by omega] at h

end Go.Proofs.Ytdjpaibjelfhnaa
