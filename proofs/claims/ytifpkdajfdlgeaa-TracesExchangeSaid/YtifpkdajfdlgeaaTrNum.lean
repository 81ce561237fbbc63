/- Orders and their numbers: how many there are at most and at least; the number of the order with a number; greater numbers are greater orders. -/
import Derived.Test.YtifpkdajfdlgeaaTrNth2

namespace Go.Proofs.Ytifpkdajfdlgeaa

/-- The factorial. -/
def fac : Nat → Int
  | 0 => 1
  | n + 1 => (n + 1 : Nat) * fac n
theorem fac_pos : ∀ n, 1 ≤ fac n
  | 0 => by simp [fac]
  | n + 1 => by
    have h := fac_pos n
    rw [fac]
    have : (1 : Int) * 1 ≤ ((n + 1 : Nat) : Int) * fac n := Int.mul_le_mul (by omega) h (by omega) (by omega)
    omega
theorem fac_mono : ∀ n, fac n ≤ fac (n + 1) := fun n => by
  have h := fac_pos n
  rw [fac]
  have : (1 : Int) * fac n ≤ ((n + 1 : Nat) : Int) * fac n := Int.mul_le_mul_of_nonneg_right (by omega) (by omega)
  omega
theorem fac_le {n m : Nat} (h : n ≤ m) : fac n ≤ fac m := by
  induction m with
  | zero => obtain rfl : n = 0 := by omega
            exact Int.le_refl _
  | succ m ih =>
    rcases Nat.lt_or_ge n (m + 1) with h1 | h1
    · have := ih (by omega); have := fac_mono m; omega
    · obtain rfl : n = m + 1 := by omega
      exact Int.le_refl _

/-- Each term of the sum is at most G: so the sum is at most the works that are not done, times G. -/
theorem accF_le {g : Nat → Int} {bef : Nat → Nat} {s : Nat} {G : Int} (hG : 0 ≤ G) (hg : ∀ k, s.testBit k = false → g (s ||| 2 ^ k) ≤ G) : ∀ n, accF g bef s n ≤ (miss n s : Int) * G
  | 0 => by simp [accF, miss]
  | n + 1 => by
    have ih := accF_le (bef := bef) hG hg n
    rw [accF, miss_succ]
    by_cases hf : freeB bef s n = true
    · have hb := freeB_bit hf
      have := hg n hb
      rw [if_pos hf, hb]
      simp only [Bool.false_eq_true, if_false]
      have : ((miss n s + 1 : Nat) : Int) * G = (miss n s : Int) * G + G := by push_cast; rw [Int.add_mul, Int.one_mul]
      omega
    · rw [if_neg hf]
      split
      · exact ih
      · have : ((miss n s + 1 : Nat) : Int) * G = (miss n s : Int) * G + G := by push_cast; rw [Int.add_mul, Int.one_mul]
        omega
theorem miss_any (s k : Nat) (h : s.testBit k = false) (n : Nat) : miss n (s ||| 2 ^ k) ≤ miss n s := by
  rcases Nat.lt_or_ge k n with h1 | h1
  · have := miss_step h n h1; omega
  · rw [miss_high s k n h1]; exact Nat.le_refl _
theorem cntN_le_fac (n : Nat) (bef : Nat → Nat) : ∀ m s, miss n s = m → s < 2 ^ n → cntN n bef s ≤ fac m := by
  intro m
  induction m with
  | zero =>
    intro s hm hs
    rw [full_of_miss hs hm, cntN_full]
    simp [fac]
  | succ m ih =>
    intro s hm hs
    have hne : s ≠ 2 ^ n - 1 := by rintro rfl; rw [miss_full] at hm; omega
    rw [cntN_step n bef s hne]
    have hacc : ∀ j, j ≤ n → accF (cntN n bef) bef s j ≤ (miss j s : Int) * fac m := by
      intro j
      induction j with
      | zero => intro _; simp [accF, miss]
      | succ j ihj =>
        intro hj
        have ih1 := ihj (by omega)
        have hp := fac_pos m
        have e : ((miss j s + 1 : Nat) : Int) * fac m = (miss j s : Int) * fac m + fac m := by push_cast; rw [Int.add_mul, Int.one_mul]
        rw [accF, miss_succ]
        by_cases hf : freeB bef s j = true
        · have hb := freeB_bit hf
          have h1 := miss_step hb n (by omega)
          have h2 := ih (s ||| 2 ^ j) (by omega) (Nat.or_lt_two_pow hs (Nat.pow_lt_pow_right (by decide) (by omega)))
          rw [if_pos hf, hb]
          simp only [Bool.false_eq_true, if_false]
          omega
        · rw [if_neg hf]
          split
          · exact ih1
          · omega
    have h := hacc n (Nat.le_refl _)
    rw [hm] at h
    rw [fac]
    exact h
theorem fac_12 : fac 12 = 479001600 := by decide
/-- Some work is free as long as not all is done: the first one that is not done. -/
theorem some_free {ws : List GW} {s : Nat} (hs : s < 2 ^ ws.length) (hne : s ≠ 2 ^ ws.length - 1) : ∃ i, i < ws.length ∧ freeB (befW ws) s i = true := by
  have hm : miss ws.length s ≠ 0 := fun h => hne (full_of_miss hs h)
  have hex : ∃ i, i < ws.length ∧ s.testBit i = false := by
    unfold miss at hm
    by_cases hx : ∃ i, i < ws.length ∧ s.testBit i = false
    · exact hx
    · exfalso
      apply hm
      rw [List.countP_eq_zero]
      intro i hi
      have : ¬ s.testBit i = false := fun h => hx ⟨i, List.mem_range.1 hi, h⟩
      simpa using this
  obtain ⟨a, ha, hd⟩ := hex
  obtain ⟨i, h1, h2, h3⟩ := least_true (fun i => !s.testBit i) a (by simpa using hd)
  refine ⟨i, by omega, ?_⟩
  rw [freeB_frK, Bool.and_eq_true]
  refine ⟨h2, (frK_iff ws s i i).2 fun k hk => .inl ?_⟩
  have := h3 k hk
  simpa using this
theorem accF_ge {g : Nat → Int} {bef : Nat → Nat} {s : Nat} (hg : ∀ t, 0 ≤ g t) {i : Nat} (hf : freeB bef s i = true) (h1 : 1 ≤ g (s ||| 2 ^ i)) : ∀ n, i < n → 1 ≤ accF g bef s n := by
  intro n hn
  have h2 := accF_mono (bef := bef) (s := s) hg n (i + 1) hn
  have h3 := (accF_bounds (bef := bef) (s := s) hg i).1
  rw [accF, if_pos hf] at h2
  omega
theorem cntN_ge_one (ws : List GW) : ∀ m s, miss ws.length s = m → s < 2 ^ ws.length → 1 ≤ cntN ws.length (befW ws) s := by
  intro m
  induction m with
  | zero => intro s hm hs; rw [full_of_miss hs hm, cntN_full]; exact Int.le_refl _
  | succ m ih =>
    intro s hm hs
    have hne : s ≠ 2 ^ ws.length - 1 := by rintro rfl; rw [miss_full] at hm; omega
    obtain ⟨i, hi, hf⟩ := some_free hs hne
    rw [cntN_step _ _ s hne]
    have h1 := miss_step (freeB_bit hf) ws.length hi
    exact accF_ge (fun t => (cntN_bounds _ _ t).1) hf (ih _ (by omega) (Nat.or_lt_two_pow hs (Nat.pow_lt_pow_right (by decide) hi))) _ hi

/-- Below the limit the sum of what is passed over is what a rank adds. -/
theorem lowK_accF {g : Nat → Int} {bef : Nat → Nat} {s : Nat} (hg : ∀ t, 0 ≤ g t) {N : Nat} (hN : accF g bef s N ≤ 1000000000) : ∀ {j : Nat}, j ≤ N → lowK g bef s j = accF g bef s j
  | 0, _ => rfl
  | j + 1, h => by
    have ih := lowK_accF hg hN (j := j) (by omega)
    have hb := accF_mono (bef := bef) (s := s) hg N (j + 1) h
    rw [accF] at hb
    rw [lowK, accF, ih]
    split
    · rename_i hf
      rw [if_pos hf] at hb
      omega
    · rfl

/-- The order with a number, from a set on: as many works as are left, each one in its range, and the number of it is the number. -/
theorem nth_rank {n : Nat} {bef : Nat → Nat} : ∀ (f s : Nat) (k : Int), miss n s = f → s < 2 ^ n → 0 ≤ k → k < cntN n bef s → cntN n bef s ≤ 1000000000 →
    (nthRun n bef f s k).length = f ∧ (∀ x ∈ nthRun n bef f s k, 0 ≤ x ∧ x < n) ∧ rkRun (cntN n bef) bef s (nthRun n bef f s k) = some k
  | 0, s, k, hm, hs, hk, hlt, hle => by
    have hf := full_of_miss hs hm
    rw [hf, cntN_full] at hlt
    simp only [nthRun, rkRun, List.length_nil, List.not_mem_nil, false_implies, implies_true, true_and, Option.some.injEq]
    omega
  | f + 1, s, k, hm, hs, hk, hlt, hle => by
    have hne : s ≠ 2 ^ n - 1 := by rintro rfl; rw [miss_full] at hm; omega
    obtain ⟨i, r, h1, h2, h3, h4, h5, h6, h7⟩ := pkTo_some hne hk hlt hle
    have hstep := miss_step (freeB_bit h3) n h2
    obtain ⟨g1, g2, g3⟩ := nth_rank f (s ||| 2 ^ i) r (by omega) (Nat.or_lt_two_pow hs (Nat.pow_lt_pow_right (by decide) h2)) h4 h5 h6
    rw [cntN_step n bef s hne] at hle
    have hlow := lowK_accF (bef := bef) (s := s) (fun t => (cntN_bounds n bef t).1) hle (j := i) (by omega)
    rw [nthRun, h1]
    refine ⟨by simp [g1], fun x hx => ?_, ?_⟩
    · rcases List.mem_cons.1 hx with rfl | hx
      · omega
      · exact g2 x hx
    · rw [rkRun, Int.toNat_natCast, if_pos h3, g3, hlow]
      simp only [Option.map_some, Option.some.injEq]
      omega

/-- Lists of one length: where they differ first, the first one is less. -/
def lexLt : List Int → List Int → Prop
  | x :: l, y :: m => x < y ∨ (x = y ∧ lexLt l m)
  | _, _ => False
theorem pkTo_le {g : Nat → Int} {bef : Nat → Nat} {s : Nat} (hg : ∀ t, 0 ≤ g t) {N : Nat} (hN : accF g bef s N ≤ 1000000000) {k1 k2 : Int} (h0 : 0 ≤ k1) (hk : k1 ≤ k2) {i1 i2 : Nat} {r1 r2 : Int}
    (h1 : pkTo g bef s k1 N = (some i1, r1)) (h2 : pkTo g bef s k2 N = (some i2, r2)) : i1 < i2 ∧ k1 < k2 ∨ i1 = i2 ∧ r1 ≤ r2 ∧ (r1 = r2 → k1 = k2) := by
  obtain ⟨a1, a2, a3, a4, _⟩ := pkTo_found h1
  obtain ⟨b1, b2, b3, b4, _⟩ := pkTo_found h2
  obtain ⟨a5, a6⟩ := pkTo_none hg h0 hN (by omega) a4
  obtain ⟨b5, b6⟩ := pkTo_none hg (by omega) hN (by omega) b4
  rcases Nat.lt_trichotomy i1 i2 with h | h | h
  · left
    have hm := accF_mono (bef := bef) (s := s) hg i2 (i1 + 1) h
    rw [accF, if_pos a2] at hm
    have hM := accF_mono (bef := bef) (s := s) hg N (i1 + 1) a1
    rw [accF, if_pos a2] at hM
    omega
  · subst h
    right
    omega
  · exfalso
    have hm := accF_mono (bef := bef) (s := s) hg i1 (i2 + 1) h
    rw [accF, if_pos b2] at hm
    have hM := accF_mono (bef := bef) (s := s) hg N (i2 + 1) b1
    rw [accF, if_pos b2] at hM
    omega
theorem nth_lex {n : Nat} {bef : Nat → Nat} : ∀ (f s : Nat) (k1 k2 : Int), miss n s = f → s < 2 ^ n → 0 ≤ k1 → k1 ≤ k2 → k2 < cntN n bef s → cntN n bef s ≤ 1000000000 →
    (nthRun n bef f s k1 = nthRun n bef f s k2 ∧ k1 = k2) ∨ (lexLt (nthRun n bef f s k1) (nthRun n bef f s k2) ∧ k1 < k2)
  | 0, s, k1, k2, hm, hs, h0, hk, hlt, hle => by
    have hf := full_of_miss hs hm
    rw [hf, cntN_full] at hlt
    exact .inl ⟨rfl, by omega⟩
  | f + 1, s, k1, k2, hm, hs, h0, hk, hlt, hle => by
    have hne : s ≠ 2 ^ n - 1 := by rintro rfl; rw [miss_full] at hm; omega
    obtain ⟨i1, r1, a1, a2, a3, a4, a5, a6, _⟩ := pkTo_some hne h0 (show k1 < cntN n bef s by omega) hle
    obtain ⟨i2, r2, b1, b2, b3, b4, b5, b6, _⟩ := pkTo_some hne (show 0 ≤ k2 by omega) hlt hle
    have hle2 := hle
    rw [cntN_step n bef s hne] at hle2
    rcases pkTo_le (fun t => (cntN_bounds n bef t).1) hle2 h0 hk a1 b1 with ⟨h, h'⟩ | ⟨h, h', h''⟩
    · right
      rw [nthRun, nthRun, a1, b1]
      exact ⟨.inl (by omega), h'⟩
    · subst h
      have hstep := miss_step (freeB_bit a3) n a2
      rw [nthRun, nthRun, a1, b1]
      rcases nth_lex f (s ||| 2 ^ i1) r1 r2 (by omega) (Nat.or_lt_two_pow hs (Nat.pow_lt_pow_right (by decide) a2)) a4 h' b5 b6 with ⟨g1, g2⟩ | ⟨g1, g2⟩
      · left
        exact ⟨by simp only [g1], h'' g2⟩
      · right
        refine ⟨.inr ⟨rfl, g1⟩, ?_⟩
        rcases Int.lt_or_eq_of_le hk with h | h
        · exact h
        · subst h
          rw [a1] at b1
          simp only [Prod.mk.injEq] at b1
          omega
/-- Where two lists differ first. -/
theorem lexLt_at : ∀ {a b : List Int}, lexLt a b → ∀ y, (∀ z, z < y → a.getD z 0 = b.getD z 0) → y < a.length → y < b.length → a.getD y 0 ≠ b.getD y 0 → a.getD y 0 < b.getD y 0
  | [], _, h, _, _, _, _, _ => by cases h
  | _ :: _, [], h, _, _, _, _, _ => by cases h
  | x :: l, z :: m, h, y, hz, h1, h2, hne => by
    cases y with
    | zero =>
      simp at hne ⊢
      rcases h with h | ⟨h, _⟩
      · exact h
      · exact absurd h hne
    | succ y =>
      rcases h with h | ⟨_, h⟩
      · have := hz 0 (by omega); simp at this; omega
      · have := lexLt_at h y (fun t ht => by have := hz (t + 1) (by omega); simpa using this) (by simpa using h1) (by simpa using h2) (by simpa using hne)
        simpa using this

/-- The levels as a ladder: less than every later work that touches; 0, or one more than an earlier one that touches. -/
theorem lev_less {ws : List GW} {i k : Nat} (hi : 0 ≤ (ws.getD i gw0).pl) (hk : k < i) (ht : touchB (ws.getD k gw0).pl (ws.getD i gw0).pl = true) : lvK ws k < lvK ws i := by
  rw [← levTo_lv ws i hi]
  have h : ∀ n, k < n → lvK ws k + 1 ≤ levTo ws i n := by
    intro n
    induction n with
    | zero => intro h; omega
    | succ n ih =>
      intro h
      rw [levTo]
      rcases Nat.lt_or_ge k n with h1 | h1
      · have := ih h1; split <;> omega
      · obtain rfl : k = n := by omega
        rw [if_pos ht]; omega
  have := h i hk
  omega
theorem lev_below {ws : List GW} {i : Nat} (hi : 0 ≤ (ws.getD i gw0).pl) : lvK ws i = 0 ∨ ∃ k, k < i ∧ touchB (ws.getD k gw0).pl (ws.getD i gw0).pl = true ∧ lvK ws k = lvK ws i - 1 := by
  rw [← levTo_lv ws i hi]
  have h : ∀ n, levTo ws i n = 0 ∨ ∃ k, k < n ∧ touchB (ws.getD k gw0).pl (ws.getD i gw0).pl = true ∧ lvK ws k = levTo ws i n - 1 := by
    intro n
    induction n with
    | zero => exact .inl rfl
    | succ n ih =>
      rw [levTo]
      split
      · rename_i ht
        rcases Int.lt_or_le (levTo ws i n) (lvK ws n + 1) with h1 | h1
        · exact .inr ⟨n, by omega, ht, by omega⟩
        · rcases ih with h | ⟨k, h2, h3, h4⟩
          · exact .inl (by have := (lvK_bd ws n).1; omega)
          · exact .inr ⟨k, by omega, h3, by omega⟩
      · rcases ih with h | ⟨k, h2, h3, h4⟩
        · exact .inl h
        · exact .inr ⟨k, by omega, h3, h4⟩
  exact h i
end Go.Proofs.Ytifpkdajfdlgeaa
