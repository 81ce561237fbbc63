/- Sets of works as seven words: plain. -/
import Derived.Test.YtepdgffccfcfpaaBits
namespace Go.Proofs.Ytepdgffccfcfpaa
open Go.RowKit

/-- The word k of a set. -/
def wd (S k : Nat) : Nat := S / 2 ^ (64 * k) % 2 ^ 64
theorem wd_lt (S k : Nat) : wd S k < 2 ^ 64 := Nat.mod_lt _ (Nat.two_pow_pos _)
theorem wd_bit (S k j : Nat) : (wd S k).testBit j = (decide (j < 64) && S.testBit (64 * k + j)) := by
  unfold wd
  rw [Nat.testBit_mod_two_pow, Nat.testBit_div_two_pow, Nat.add_comm]
theorem wd_or (S T k : Nat) : wd (S ||| T) k = wd S k ||| wd T k := by
  apply Nat.eq_of_testBit_eq
  intro j
  rw [Nat.testBit_or, wd_bit, wd_bit, wd_bit, Nat.testBit_or]
  cases decide (j < 64) <;> simp
theorem wd_put (S i : Nat) : wd (S ||| 2 ^ i) (i / 64) = wd S (i / 64) ||| 2 ^ (i % 64) := by
  apply Nat.eq_of_testBit_eq
  intro j
  rw [Nat.testBit_or, wd_bit, wd_bit, Nat.testBit_or, Nat.testBit_two_pow, Nat.testBit_two_pow]
  by_cases h : j < 64
  · have e : (i = 64 * (i / 64) + j) = (i % 64 = j) := by apply propext; omega
    simp [h, e]
  · have : ¬ i % 64 = j := by omega
    simp [h, this]
theorem wd_put_ne (S i k : Nat) (h : k ≠ i / 64) : wd (S ||| 2 ^ i) k = wd S k := by
  apply Nat.eq_of_testBit_eq
  intro j
  rw [wd_bit, wd_bit, Nat.testBit_or, Nat.testBit_two_pow]
  by_cases hj : j < 64
  · have : ¬ i = 64 * k + j := by omega
    simp [this]
  · simp [hj]
/-- Is the word k of one set in that of another one? -/
def winW (S T k : Nat) : Bool := decide (wd S k &&& wd T k = wd S k)
theorem winW_iff (S T k : Nat) : winW S T k = true ↔ ∀ j, j < 64 → S.testBit (64 * k + j) = true → T.testBit (64 * k + j) = true := by
  unfold winW
  rw [decide_eq_true_eq]
  constructor
  · intro h j hj hs
    have := congrArg (fun z => Nat.testBit z j) h
    simp only [Nat.testBit_and, wd_bit, hj, decide_true, Bool.true_and, hs] at this
    simpa using this
  · intro h
    apply Nat.eq_of_testBit_eq
    intro j
    rw [Nat.testBit_and, wd_bit, wd_bit]
    by_cases hj : j < 64
    · have := h j hj
      cases h1 : S.testBit (64 * k + j) <;> simp_all
    · simp [hj]
/-- Of the first n words. -/
def winN (S T : Nat) : Nat → Bool
  | 0 => true
  | n + 1 => winN S T n && winW S T n
theorem winN_iff (S T : Nat) : ∀ n, winN S T n = true ↔ ∀ i, i < 64 * n → S.testBit i = true → T.testBit i = true
  | 0 => by simp [winN]
  | n + 1 => by
    rw [winN, Bool.and_eq_true, winN_iff S T n, winW_iff]
    constructor
    · rintro ⟨h1, h2⟩ i hi hs
      rcases Nat.lt_or_ge i (64 * n) with h | h
      · exact h1 i h hs
      · have := h2 (i - 64 * n) (by omega)
        rw [show 64 * n + (i - 64 * n) = i by omega] at this
        exact this hs
    · intro h
      exact ⟨fun i hi => h i (by omega), fun j hj => h _ (by omega)⟩
theorem winN_mono (S T : Nat) : ∀ n k, k ≤ n → winN S T k = false → winN S T n = false
  | 0, k, h, hf => by obtain rfl : k = 0 := by omega
                      exact hf
  | n + 1, k, h, hf => by
    rcases Nat.lt_or_ge n k with h1 | h1
    · obtain rfl : k = n + 1 := by omega
      exact hf
    · rw [winN, winN_mono S T n k h1 hf]; rfl
theorem wraps64 : ∀ n : Int, 0 ≤ n → n < 2 ^ 64 → IntKind.u64.wrap n = n := fun n h0 h1 => by
  simp [IntKind.wrap, IntKind.bits, IntKind.signed]; omega
/-- The cells of a set. -/
def SetAt (w : World) (R off S : Nat) : Prop := ∀ k, k < 7 → w.cell? ⟨R, off + k, none⟩ = some (.int .u64 (wd S k : Nat)) ∧ w.frozen? ⟨R, off + k, none⟩ = false
end Go.Proofs.Ytepdgffccfcfpaa
