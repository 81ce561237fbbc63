/- The order with a number, step by step: what is kept on the way. -/
import Derived.Test.YtifpkdajfdlgeaaTrNth
namespace Go.Proofs.Ytifpkdajfdlgeaa

theorem miss_succ (n s : Nat) : miss (n + 1) s = miss n s + (if s.testBit n = true then 0 else 1) := by
  unfold miss
  rw [List.range_succ, List.countP_append]
  congr 1
  by_cases h : s.testBit n = true <;> simp [h]
theorem miss_zero (n : Nat) : miss n 0 = n := by
  induction n with
  | zero => rfl
  | succ n ih => rw [miss_succ, ih]; simp
theorem miss_high (s k : Nat) : ∀ n, n ≤ k → miss n (s ||| 2 ^ k) = miss n s
  | 0, _ => rfl
  | n + 1, h => by
    rw [miss_succ, miss_succ, miss_high s k n (by omega), testBit_set, decide_eq_false (show ¬ k = n by omega), Bool.or_false]
theorem miss_step {s k : Nat} (h : s.testBit k = false) : ∀ n, k < n → miss n (s ||| 2 ^ k) + 1 = miss n s
  | 0, hk => by omega
  | n + 1, hk => by
    rw [miss_succ, miss_succ]
    rcases Nat.lt_or_ge k n with h1 | h1
    · have ih := miss_step h n h1
      rw [testBit_set, decide_eq_false (show ¬ k = n by omega), Bool.or_false]
      omega
    · obtain rfl : k = n := by omega
      rw [miss_high s k k (Nat.le_refl _), testBit_set, h]
      simp
theorem full_bit {n i : Nat} (hi : i < n) : (2 ^ n - 1).testBit i = true := by
  rw [Nat.testBit_two_pow_sub_one]; simpa using hi
theorem miss_full (n : Nat) : miss n (2 ^ n - 1) = 0 := by
  unfold miss
  rw [List.countP_eq_zero]
  intro i hi
  simp [full_bit (List.mem_range.1 hi)]
theorem full_of_miss {n s : Nat} (hs : s < 2 ^ n) (h : miss n s = 0) : s = 2 ^ n - 1 := by
  apply Nat.eq_of_testBit_eq
  intro i
  unfold miss at h
  rw [List.countP_eq_zero] at h
  rcases Nat.lt_or_ge i n with hi | hi
  · have := h i (List.mem_range.2 hi)
    rw [full_bit hi]; simpa using this
  · rw [Nat.testBit_lt_two_pow (Nat.lt_of_lt_of_le hs (Nat.pow_le_pow_right (by decide) hi))]
    rw [Nat.testBit_two_pow_sub_one]; simp; omega
theorem pkTo_full {n : Nat} {bef : Nat → Nat} {k : Int} (g : Nat → Int) : ∀ j, j ≤ n → pkTo g bef (2 ^ n - 1) k j = (none, k)
  | 0, _ => rfl
  | j + 1, h => by
    rw [pkTo, pkTo_full g j (by omega)]
    have : freeB bef (2 ^ n - 1) j = false := by unfold freeB; rw [full_bit (by omega)]; rfl
    simp [this]

/-- Some works are named; their set, and the number that is left. -/
structure NI (n : Nat) (bef : Nat → Nat) (k0 : Int) (s : Nat) (k : Int) (out : List Int) : Prop where
  lt : s < 2 ^ n
  lo : 0 ≤ k
  hi : k < cntN n bef s
  le : cntN n bef s ≤ 1000000000
  ms : miss n s + out.length = n
  run : nthRun n bef n 0 k0 = out ++ nthRun n bef (n - out.length) s k
theorem NI.init {n : Nat} {bef : Nat → Nat} {k : Int} (h0 : 0 ≤ k) (h1 : k < cntN n bef 0) (h2 : cntN n bef 0 ≤ 1000000000) : NI n bef k 0 k [] :=
  ⟨Nat.two_pow_pos _, h0, h1, h2, by rw [miss_zero]; rfl, by simp⟩
theorem NI.step {n : Nat} {bef : Nat → Nat} {k0 : Int} {s : Nat} {k : Int} {out : List Int} (h : NI n bef k0 s k out) (hl : out.length < n) :
    ∃ i r, pkTo (cntN n bef) bef s k n = (some i, r) ∧ i < n ∧ freeB bef s i = true ∧ NI n bef k0 (s ||| 2 ^ i) r (out ++ [(i : Int)]) := by
  have hne : s ≠ 2 ^ n - 1 := by
    rintro rfl
    have := h.ms
    rw [miss_full] at this
    omega
  obtain ⟨i, r, h1, h2, h3, h4, h5, h6, _⟩ := pkTo_some hne h.lo h.hi h.le
  refine ⟨i, r, h1, h2, h3, Nat.or_lt_two_pow h.lt (Nat.pow_lt_pow_right (by decide) h2), h4, h5, h6, ?_, ?_⟩
  · have := miss_step (freeB_bit h3) n h2
    have := h.ms
    simp; omega
  · rw [h.run, show n - out.length = n - (out ++ [(i : Int)]).length + 1 by simp; omega, nthRun, h1]
    simp
theorem NI.done {n : Nat} {bef : Nat → Nat} {k0 : Int} {s : Nat} {k : Int} {out : List Int} (h : NI n bef k0 s k out) (hl : ¬ out.length < n) : s = 2 ^ n - 1 ∧ nthRun n bef n 0 k0 = out ∧ out.length = n := by
  have hm := h.ms
  have hln : out.length = n := by omega
  refine ⟨full_of_miss h.lt (by omega), ?_, hln⟩
  rw [h.run, hln, Nat.sub_self, nthRun, List.append_nil]

def nthX (p : Int) (ws : List GW) (k : Int) : Int := if cntdErr p ws ≠ 0 then cntdErr p ws else if k < 0 then 7 else if cntdNum p ws ≤ k then 4 else 0
def nthL (p : Int) (ws : List GW) (k : Int) : List Int := if nthX p ws k = 0 then nthRun ws.length (befW ws) ws.length 0 k else []
theorem cntd_ok {p : Int} {ws : List GW} (h : cntdErr p ws = 0) : errSheet p ws = 0 ∧ ws.length ≤ 16 ∧ cntN ws.length (befW ws) 0 ≤ 1000000000 ∧ cntdNum p ws = cntN ws.length (befW ws) 0 := by
  have h1 : cntdNum p ws = cntN ws.length (befW ws) 0 := by unfold cntdNum; rw [if_pos h]
  unfold cntdErr at h
  split at h
  · rename_i h2; exact absurd h h2
  · rename_i h2
    split at h
    · omega
    · split at h
      · omega
      · exact ⟨by omega, by omega, by omega, h1⟩
end Go.Proofs.Ytifpkdajfdlgeaa
