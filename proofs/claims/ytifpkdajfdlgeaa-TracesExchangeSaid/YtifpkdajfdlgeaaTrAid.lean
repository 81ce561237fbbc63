/- Contracts with a result that is written out; bits by division. -/
import Derived.Test.YtifpkdajfdlgeaaTrLevR
namespace Go.Proofs.Ytifpkdajfdlgeaa
open Go.RowKit

theorem touch_is {b : Bool} (k1 a1 k2 a2 : Int) (s1 s2 : ByteArray) (w : World) (h1 : -1000 ≤ a1) (h1' : a1 ≤ 1000) (h2 : -1000 ≤ a2) (h2' : a2 ≤ 1000) (hb : touchB a1 a2 = b) :
    Calls Try.prog 27 #[.agg #[.int .i64 k1, .int .i64 a1, .string s1], .agg #[.int .i64 k2, .int .i64 a2, .string s2]] w fun e w' => e = .returned (.bool b) ∧ Below w.heap.size w w' := by
  subst hb; exact touch_ k1 a1 k2 a2 s1 s2 w h1 h1' h2 h2'

theorem bit_div (s k : Nat) : (s : Int) / 2 ^ k = ((s / 2 ^ k : Nat) : Int) := by simp
theorem bit_div0 (s k : Nat) : (0 : Int) ≤ (s : Int) / 2 ^ k := by rw [bit_div]; exact Int.natCast_nonneg _
theorem bit_rem (s k : Nat) : ((s : Int) / 2 ^ k) % 2 = if s.testBit k = true then 1 else 0 := by
  rw [bit_div, Nat.testBit_eq_decide_div_mod_eq]
  have : s / 2 ^ k % 2 = 0 ∨ s / 2 ^ k % 2 = 1 := by omega
  rcases this with h | h
  · rw [if_neg (by simp [h])]; omega
  · rw [if_pos (by simp [h])]; omega
theorem bit_tmod (s k : Nat) : ((s : Int) / 2 ^ k).tmod 2 = if s.testBit k = true then 1 else 0 := by
  rw [Int.tmod_eq_emod_of_nonneg (bit_div0 s k)]; exact bit_rem s k
end Go.Proofs.Ytifpkdajfdlgeaa
