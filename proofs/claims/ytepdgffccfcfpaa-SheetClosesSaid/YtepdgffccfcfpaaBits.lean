/- Bits of whole numbers, as the walk spells them. Over any program. -/
import Derived.Test.YtepdgffccfcfpaaBase
namespace Go.Proofs.Ytepdgffccfcfpaa
open Go.RowKit

theorem wraps_u32 (n : Int) (h₀ : 0 ≤ n) (h₁ : n < 2 ^ 31) : IntKind.u32.wrap n = n := by
  simp [IntKind.wrap, IntKind.bits, IntKind.signed]; omega
theorem wraps_u64 (n : Int) (h₀ : 0 ≤ n) (h₁ : n < 2 ^ 31) : IntKind.u64.wrap n = n := by
  simp [IntKind.wrap, IntKind.bits, IntKind.signed]; omega
theorem wraps_i64 (n : Int) (h₀ : 0 ≤ n) (h₁ : n < 2 ^ 31) : IntKind.i64.wrap n = n := IntWalk.i64_in _ (by omega)

theorem bits_andnot (k : IntKind) (j : Nat) (hj : j ≤ k.bits) (hk : ∀ n : Int, 0 ≤ n → n < 2 ^ j → k.wrap n = n) (a b : Nat) (ha : a < 2 ^ j) (hb : b < 2 ^ j) :
    (bits .andNot k a b == 0) = decide (a &&& b = a) := by
  have hp : 2 ^ j ≤ 2 ^ k.bits := Nat.pow_le_pow_right (by decide) hj
  have ha' : a % 2 ^ k.bits = a := Nat.mod_eq_of_lt (Nat.lt_of_lt_of_le ha hp)
  have hb' : b % 2 ^ k.bits = b := Nat.mod_eq_of_lt (Nat.lt_of_lt_of_le hb hp)
  have cast : ∀ n : Nat, n < 2 ^ j → ((n : Nat) : Int) < 2 ^ j := fun n h => by exact_mod_cast h
  simp only [bits, BitVec.ofInt_natCast]
  have hle : (BitVec.ofNat k.bits a &&& ~~~BitVec.ofNat k.bits b).toNat < 2 ^ j := by
    rw [BitVec.toNat_and, BitVec.toNat_ofNat, ha']
    exact Nat.lt_of_le_of_lt Nat.and_le_left ha
  rw [hk _ (Int.natCast_nonneg _) (cast _ hle), Bool.eq_iff_iff]
  simp only [beq_iff_eq, decide_eq_true_eq]
  have e1 : ((BitVec.ofNat k.bits a &&& ~~~BitVec.ofNat k.bits b).toNat : Int) = 0 ↔ BitVec.ofNat k.bits a &&& ~~~BitVec.ofNat k.bits b = 0#k.bits := by
    constructor
    · intro h; apply BitVec.eq_of_toNat_eq; simp only [BitVec.toNat_zero]; omega
    · intro h; rw [h]; simp
  have e2 : a &&& b = a ↔ BitVec.ofNat k.bits a &&& BitVec.ofNat k.bits b = BitVec.ofNat k.bits a := by
    constructor
    · intro h; apply BitVec.eq_of_toNat_eq; simp only [BitVec.toNat_and, BitVec.toNat_ofNat, ha', hb', h]
    · intro h; have := congrArg BitVec.toNat h; simpa only [BitVec.toNat_and, BitVec.toNat_ofNat, ha', hb'] using this
  rw [e1, e2]
  constructor
  · intro h
    apply BitVec.eq_of_getLsbD_eq
    intro i hi
    have := congrArg (fun z => BitVec.getLsbD z i) h
    simp only [BitVec.getLsbD_and, BitVec.getLsbD_not, BitVec.getLsbD_zero, hi, decide_true, Bool.true_and] at this ⊢
    cases h1 : BitVec.getLsbD (BitVec.ofNat k.bits a) i <;> cases h2 : BitVec.getLsbD (BitVec.ofNat k.bits b) i <;> simp_all
  · intro h
    apply BitVec.eq_of_getLsbD_eq
    intro i hi
    have := congrArg (fun z => BitVec.getLsbD z i) h
    simp only [BitVec.getLsbD_and, BitVec.getLsbD_not, BitVec.getLsbD_zero, hi, decide_true, Bool.true_and] at this ⊢
    cases h1 : BitVec.getLsbD (BitVec.ofNat k.bits a) i <;> cases h2 : BitVec.getLsbD (BitVec.ofNat k.bits b) i <;> simp_all

theorem bit_at (k : IntKind) (j : Nat) (hj : j ≤ k.bits) (hj1 : 1 ≤ j) (hk : ∀ n : Int, 0 ≤ n → n < 2 ^ j → k.wrap n = n) (a i : Nat) (ha : a < 2 ^ j) :
    (bits .and k ((a : Int) / 2 ^ i) 1 == 0) = !a.testBit i := by
  have e : ((a : Int) / 2 ^ i) = ((a / 2 ^ i : Nat) : Int) := by simp
  have h1 : (1 : Nat) < 2 ^ j := Nat.one_lt_two_pow (by omega)
  have hd : a / 2 ^ i < 2 ^ j := Nat.lt_of_le_of_lt (Nat.div_le_self _ _) ha
  rw [e, show (1 : Int) = ((1 : Nat) : Int) from rfl, (bits_nat k j hj hk _ 1 hd h1).1, Nat.testBit, Nat.shiftRight_eq_div_pow, Nat.and_comm]
  rw [Bool.eq_iff_iff]
  simp only [beq_iff_eq, Bool.not_eq_true', bne_eq_false_iff_eq]
  omega
theorem bit_set (k : IntKind) (j : Nat) (hj : j ≤ k.bits) (hk : ∀ n : Int, 0 ≤ n → n < 2 ^ j → k.wrap n = n) (a i : Nat) (ha : a < 2 ^ j) (hi : i < j) :
    bits .or k (a : Int) (2 ^ i) = ((a ||| 2 ^ i : Nat) : Int) := by
  have e : (2 : Int) ^ i = ((2 ^ i : Nat) : Int) := by simp
  rw [e]
  exact (bits_nat k j hj hk a _ ha (Nat.pow_lt_pow_right (by decide) hi)).2
end Go.Proofs.Ytepdgffccfcfpaa
