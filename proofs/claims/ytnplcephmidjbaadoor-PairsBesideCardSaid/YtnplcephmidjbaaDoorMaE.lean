/- Texts of this claim, laid together: PrTz, PrMex. -/
import Derived.Test.YtnplcephmidjbaaDoorMaA
import Derived.Shelf.Spec.TrailingZeros
import Derived.Test.YtnplcephmidjbaaDoorRows
/- The library's TrailingZeros over this program; the table that it reads is as its text lays it. -/
namespace Go.Proofs.YtnplcephmidjbaaDoor
open Go.RowKit Go.Proofs

/-- The library's table is there. -/
def Tz (w : World) : Prop := ∀ j, j < 64 → w.cell? ⟨1, j, none⟩ = some (.int .u8 (Lib.deBruijn64tab.getD j 0))
theorem Tz.later {B : Nat} {w w' : World} (h : Tz w) (hb : Below B w w') (hB : w.heap.size ≤ B) : Tz w' := fun j hj => below_at hb hB (h j hj)
set_option maxHeartbeats 1000000 in
theorem tz64_core_ (x k idx : Nat) (w : World) (hx0 : ((x : Int) == 0) = false)
    (key : IntKind.u64.wrap (bits BinOp.and IntKind.u64 (x : Int) (IntKind.u64.wrap (-(x : Int))) * 285870213051353865) / 288230376151711744 = (idx : Int))
    (hi : idx < 64) (hk : k < 64) (hcell : w.cell? ⟨1, idx, none⟩ = some (.int .u8 k)) :
    Calls Tryd.prog 45 #[.int .u64 x] w fun e w' => e = .returned (.int .i64 k) ∧ w = w' := by
  go_enter Tryd.func45, Tryd.ntmps45
  go_wp2_with (simp only [key])
  go_ret
  exact ⟨rfl, rfl⟩
theorem tz64_zero_ (w : World) : Calls Tryd.prog 45 #[.int .u64 0] w fun e w' => e = .returned (.int .i64 64) ∧ w = w' := by
  go_enter Tryd.func45, Tryd.ntmps45
  go_wp2
  go_ret
  exact ⟨rfl, rfl⟩
theorem tz64_ (x : Nat) (hx : x < 18446744073709551616) (w : World) (hT : Tz w) :
    Calls Tryd.prog 45 #[.int .u64 x] w fun e w' => e = .returned (.int .i64 (Lib.ctz 64 x)) ∧ w = w' := by
  by_cases hx0 : x = 0
  · subst hx0
    exact tz64_zero_ w
  · obtain ⟨hlow, hk⟩ := Lib.lowest_bit 64 x hx0 hx
    obtain ⟨hi, htab⟩ := Lib.deBruijn64_at _ hk
    have hcell := hT _ hi
    rw [htab] at hcell
    exact tz64_core_ x _ _ w (by simp; omega) (tz64_key x _ hx hx0 hlow) hi hk hcell
theorem tz_ (x : Nat) (hx : x < 18446744073709551616) (w : World) (hT : Tz w) :
    Calls Tryd.prog 28 #[.int .u64 x] w fun e w' => e = .returned (.int .i64 (Lib.ctz 64 x)) ∧ w = w' := by
  have c64 := tz64_ x hx w hT
  have hw : IntKind.u64.wrap (x : Int) = (x : Int) := by rw [IntKind.wrap_u64]; omega
  have HX := Lib.hid hx
  clear hx
  go_enter Tryd.func28, Tryd.ntmps28
  go_wp2_with (go_at_call 45; refine c64.mono ?_; rintro e w' ⟨rfl, rfl⟩)
  go_ret
  exact ⟨rfl, rfl⟩
/-- The trailing zeros are the least bit that is there. -/
theorem ctz_iff {x i : Nat} (hx : x < 2 ^ 64) (h : x.testBit i = true) (hl : ∀ j, j < i → x.testBit j = false) : Lib.ctz 64 x = i := by
  have hx0 : x ≠ 0 := fun h0 => by rw [h0] at h; simp at h
  unfold Lib.ctz
  rw [if_neg hx0]
  obtain ⟨m, hm, hk⟩ := Lib.ctzFrom_spec 64 x (by omega) hx
  generalize Lib.ctzFrom 64 x = k at *
  have hb : ∀ j, x.testBit j = (decide (k ≤ j) && (2 * m + 1).testBit (j - k)) := fun j => by
    rw [hm, Nat.mul_comm, Nat.testBit_mul_two_pow]
  rcases Nat.lt_trichotomy k i with h1 | h1 | h1
  · have h2 := hl k h1
    rw [hb k, decide_eq_true (Nat.le_refl _), Nat.sub_self, Bool.true_and] at h2
    simp [Nat.testBit_zero] at h2
  · exact h1
  · rw [hb i, decide_eq_false (by omega)] at h
    simp at h
end Go.Proofs.YtnplcephmidjbaaDoor
/- The least number that is not in a list; which bobbins hang in which places; in plain Lean. -/
namespace Go.Proofs.YtnplcephmidjbaaDoor

/-- The least number that is not in a list, as it is looked for. -/
def lsR (l : List Int) : Nat → Nat
  | 0 => 0
  | i + 1 => if (lsR l i : Int) ∈ l then lsR l i + 1 else lsR l i
def leastL (l : List Int) : Nat := lsR l l.length
theorem lsR_all (l : List Int) : ∀ i, ∀ j, j < lsR l i → (j : Int) ∈ l
  | 0, j, h => by unfold lsR at h; omega
  | i + 1, j, h => by
    unfold lsR at h
    split at h
    · rename_i hm
      rcases Nat.lt_succ_iff_lt_or_eq.1 h with h | rfl
      · exact lsR_all l i j h
      · exact hm
    · exact lsR_all l i j h
theorem lsR_or (l : List Int) : ∀ i, lsR l i = i ∨ ¬ (lsR l i : Int) ∈ l
  | 0 => .inl rfl
  | i + 1 => by
    have e : lsR l (i + 1) = if (lsR l i : Int) ∈ l then lsR l i + 1 else lsR l i := rfl
    by_cases hm : (lsR l i : Int) ∈ l
    · rw [e, if_pos hm]
      rcases lsR_or l i with h | h
      · exact .inl (by omega)
      · exact absurd hm h
    · rw [e, if_neg hm]; exact .inr hm
theorem lsR_le (l : List Int) : ∀ i, lsR l i ≤ i
  | 0 => Nat.le_refl _
  | i + 1 => by
    have := lsR_le l i
    unfold lsR
    split <;> omega
theorem few : ∀ (n : Nat) (l : List Int), (∀ j, j < n → (j : Int) ∈ l) → n ≤ l.length
  | 0, _, _ => Nat.zero_le _
  | n + 1, l, h => by
    have hn := h n (by omega)
    have := few n (l.erase (n : Int)) fun j hj => (List.mem_erase_of_ne (by omega)).2 (h j (by omega))
    rw [List.length_erase_of_mem hn] at this
    have := List.length_pos_of_mem hn
    omega
theorem leastL_mex (l : List Int) : ¬ (leastL l : Int) ∈ l ∧ ∀ j, j < leastL l → (j : Int) ∈ l := by
  refine ⟨?_, lsR_all l l.length⟩
  intro hm
  rcases lsR_or l l.length with h | h
  · have := few (l.length + 1) l fun j hj => by
      rcases Nat.lt_succ_iff_lt_or_eq.1 hj with hj | rfl
      · exact lsR_all l l.length j (by omega)
      · unfold leastL at hm; rw [h] at hm; exact hm
    omega
  · exact h hm
theorem leastL_le (l : List Int) : leastL l ≤ l.length := lsR_le l _
theorem leastL_is {l : List Int} {m : Nat} (h1 : ¬ (m : Int) ∈ l) (h2 : ∀ j, j < m → (j : Int) ∈ l) : leastL l = m := by
  obtain ⟨g1, g2⟩ := leastL_mex l
  rcases Nat.lt_trichotomy (leastL l) m with h | h | h
  · exact absurd (h2 _ h) g1
  · exact h
  · exact absurd (g2 _ h) h1

/-- What hangs in the first m places in use: as bits, as a list. -/
def hldB (u : Nat → Bool) (out : Nat → Int) : Nat → Nat
  | 0 => 0
  | m + 1 => if 0 ≤ out m ∧ u m = true then hldB u out m ||| 2 ^ (out m).toNat else hldB u out m
def hldL (u : Nat → Bool) (out : Nat → Int) : Nat → List Int
  | 0 => []
  | m + 1 => if 0 ≤ out m ∧ u m = true then hldL u out m ++ [out m] else hldL u out m
theorem hldL_len (u : Nat → Bool) (out : Nat → Int) : ∀ m, (hldL u out m).length ≤ m
  | 0 => Nat.le_refl _
  | m + 1 => by
    have := hldL_len u out m
    unfold hldL
    split
    · simp; omega
    · omega
theorem hldL_mem (u : Nat → Bool) (out : Nat → Int) (x : Int) : ∀ m, x ∈ hldL u out m ↔ ∃ p, p < m ∧ 0 ≤ out p ∧ u p = true ∧ out p = x
  | 0 => by unfold hldL; simp
  | m + 1 => by
    have ih := hldL_mem u out x m
    unfold hldL
    by_cases hc : 0 ≤ out m ∧ u m = true
    · rw [if_pos hc, List.mem_append, ih, List.mem_singleton]
      constructor
      · rintro (⟨p, h1, h2⟩ | h)
        · exact ⟨p, by omega, h2⟩
        · exact ⟨m, by omega, hc.1, hc.2, h.symm⟩
      · rintro ⟨p, h1, h2, h3, h4⟩
        rcases Nat.lt_succ_iff_lt_or_eq.1 h1 with h1 | rfl
        · exact .inl ⟨p, h1, h2, h3, h4⟩
        · exact .inr h4.symm
    · rw [if_neg hc, ih]
      constructor
      · rintro ⟨p, h1, h2⟩; exact ⟨p, by omega, h2⟩
      · rintro ⟨p, h1, h2, h3, h4⟩
        rcases Nat.lt_succ_iff_lt_or_eq.1 h1 with h1 | rfl
        · exact ⟨p, h1, h2, h3, h4⟩
        · exact absurd ⟨h2, h3⟩ hc
theorem hldB_bit (u : Nat → Bool) (out : Nat → Int) (j : Nat) : ∀ m, (hldB u out m).testBit j = true ↔ (j : Int) ∈ hldL u out m
  | 0 => by unfold hldB hldL; simp
  | m + 1 => by
    have ih := hldB_bit u out j m
    unfold hldB hldL
    by_cases hc : 0 ≤ out m ∧ u m = true
    · rw [if_pos hc, if_pos hc, Nat.testBit_or, Bool.or_eq_true, ih, List.mem_append, List.mem_singleton, Nat.testBit_two_pow, decide_eq_true_eq]
      refine or_congr Iff.rfl ?_
      omega
    · rw [if_neg hc, if_neg hc, ih]
theorem hldB_lt (u : Nat → Bool) (out : Nat → Int) {N : Nat} (ho : ∀ p, out p < N) : ∀ m, hldB u out m < 2 ^ N
  | 0 => Nat.two_pow_pos _
  | m + 1 => by
    have ih := hldB_lt u out ho m
    have := ho m
    unfold hldB
    split
    · exact Nat.or_lt_two_pow ih (Nat.pow_lt_pow_right (by decide) (by omega))
    · exact ih
/-- The least number that is free, by bits. -/
theorem ctz_least {u : Nat → Bool} {out : Nat → Int} {m : Nat} (hm : m ≤ 24) (ho : ∀ p, out p < 60) : Lib.ctz 64 (2 ^ 64 - (hldB u out m + 1)) = leastL (hldL u out m) := by
  have hlt : hldB u out m < 2 ^ 64 := Nat.lt_of_lt_of_le (hldB_lt u out (N := 60) (by simpa using ho) m) (Nat.pow_le_pow_right (by decide) (by decide))
  obtain ⟨g1, g2⟩ := leastL_mex (hldL u out m)
  have hle := Nat.le_trans (leastL_le (hldL u out m)) (hldL_len u out m)
  refine ctz_iff (by have := Nat.two_pow_pos 64; omega) ?_ ?_
  · rw [Nat.testBit_two_pow_sub_succ hlt, decide_eq_true (by omega), Bool.true_and]
    cases h : (hldB u out m).testBit (leastL (hldL u out m)) with
    | false => rfl
    | true => exact absurd ((hldB_bit u out _ m).1 h) g1
  · intro j hj
    rw [Nat.testBit_two_pow_sub_succ hlt, (hldB_bit u out j m).2 (g2 j hj)]
    simp

/-- A work takes a bobbin for a place that has none; each work for its two places; all works. -/
def shV (P : Nat) (u : Nat → Bool) (out : Nat → Int) (p : Nat) : Nat → Int := if 0 ≤ out p then out else updF out p (leastL (hldL u out P) : Int)
def shK (P : Nat) (q : Nat → Nat) (u : Nat → Nat → Bool) (out : Nat → Int) (k : Nat) : Nat → Nat → Int
  | 0 => out
  | j + 1 => shV P (u k) (shK P q u out k j) (q k + j)
def shR (P : Nat) (q : Nat → Nat) (u : Nat → Nat → Bool) : Nat → Nat → Int
  | 0 => fun _ => -1
  | k + 1 => shK P q u (shR P q u k) k 2
theorem shV_range {P : Nat} (hP : P ≤ 24) {u : Nat → Bool} {out : Nat → Int} {p : Nat} (h : ∀ x, -1 ≤ out x ∧ out x < 60) : ∀ x, -1 ≤ shV P u out p x ∧ shV P u out p x < 60 := fun x => by
  have h1 := Nat.le_trans (leastL_le (hldL u out P)) (hldL_len u out P)
  unfold shV
  split
  · exact h x
  · unfold updF
    split
    · omega
    · exact h x
theorem shK_range {P : Nat} (hP : P ≤ 24) {q : Nat → Nat} {u : Nat → Nat → Bool} {out : Nat → Int} {k : Nat} (h : ∀ x, -1 ≤ out x ∧ out x < 60) : ∀ j, ∀ x, -1 ≤ shK P q u out k j x ∧ shK P q u out k j x < 60
  | 0 => h
  | j + 1 => shV_range hP (shK_range hP h j)
theorem shR_range {P : Nat} (hP : P ≤ 24) (q : Nat → Nat) (u : Nat → Nat → Bool) : ∀ k, ∀ x, -1 ≤ shR P q u k x ∧ shR P q u k x < 60
  | 0 => fun x => by unfold shR; omega
  | k + 1 => shK_range hP (shR_range hP q u k) 2
end Go.Proofs.YtnplcephmidjbaaDoor
