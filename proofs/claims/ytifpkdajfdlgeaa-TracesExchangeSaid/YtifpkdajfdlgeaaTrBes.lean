/- Two sheets beside each other: how many orders. Plain arithmetic. -/
import Derived.Test.YtifpkdajfdlgeaaTrNum
namespace Go.Proofs.Ytifpkdajfdlgeaa

/-- In how many ways a things and b things can be mixed. -/
def mix : Nat → Nat → Int
  | 0, _ => 1
  | _ + 1, 0 => 1
  | a + 1, b + 1 => mix a (b + 1) + mix (a + 1) b
theorem mix_pos : ∀ a b, 1 ≤ mix a b
  | 0, _ => by simp [mix]
  | a + 1, 0 => by simp [mix]
  | a + 1, b + 1 => by
    have h1 := mix_pos a (b + 1)
    have h2 := mix_pos (a + 1) b
    rw [mix]; omega
theorem mix_zero (a : Nat) : mix a 0 = 1 := by cases a <;> simp [mix]
theorem mix_le : ∀ a b, mix a b ≤ ((2 ^ (a + b) : Nat) : Int)
  | 0, b => by
    have : 0 < 2 ^ (0 + b) := Nat.two_pow_pos _
    simp only [mix]; omega
  | a + 1, 0 => by
    have : 0 < 2 ^ (a + 1 + 0) := Nat.two_pow_pos _
    simp only [mix]; omega
  | a + 1, b + 1 => by
    have h1 := mix_le a (b + 1)
    have h2 := mix_le (a + 1) b
    have e1 : 2 ^ (a + 1 + (b + 1)) = 2 ^ (a + (b + 1)) + 2 ^ (a + 1 + b) := by
      rw [show a + 1 + (b + 1) = (a + b + 1) + 1 by omega, Nat.pow_succ, show a + (b + 1) = a + b + 1 by omega, show a + 1 + b = a + b + 1 by omega]; omega
    rw [mix, e1]; omega
theorem mix_both : ∀ n a b, a + b ≤ n → mix a (b + 1) * ((b : Int) + 1) = mix a b * ((a : Int) + b + 1) ∧ mix (a + 1) b * ((a : Int) + 1) = mix a b * ((a : Int) + b + 1)
  | 0, a, b, h => by
    obtain rfl : a = 0 := by omega
    obtain rfl : b = 0 := by omega
    simp [mix]
  | n + 1, a, b, h => by
    constructor
    · cases a with
      | zero => simp [mix]
      | succ a =>
        obtain ⟨p, q⟩ := mix_both n a b (by omega)
        rw [mix, Int.add_mul, p, ← q]
        push_cast
        rw [← Int.mul_add]
        congr 1
        try omega
    · cases b with
      | zero => rw [mix_zero, mix_zero]; simp
      | succ b =>
        obtain ⟨p, q⟩ := mix_both n a b (by omega)
        rw [mix, Int.add_mul, q, ← p]
        push_cast
        rw [← Int.mul_add]
        congr 1
        try omega
theorem mix_step (a b : Nat) : mix a b * ((a : Int) + ((b : Int) + 1)) / ((b : Int) + 1) = mix a (b + 1) := by
  rw [← Int.add_assoc, ← (mix_both (a + b) a b (Nat.le_refl _)).1]
  exact Int.mul_ediv_cancel _ (by omega)

/-- Both sets as one. -/
def comb (n sa sb : Nat) : Nat := 2 ^ n * sb + sa
theorem comb_bit {n sa : Nat} (h : sa < 2 ^ n) (sb i : Nat) : (comb n sa sb).testBit i = if i < n then sa.testBit i else sb.testBit (i - n) := by
  unfold comb; exact Nat.testBit_two_pow_mul_add sb h i
theorem comb_left {n sa i : Nat} (h : sa < 2 ^ n) (hi : i < n) (sb : Nat) : comb n sa sb ||| 2 ^ i = comb n (sa ||| 2 ^ i) sb := by
  have h2 : sa ||| 2 ^ i < 2 ^ n := Nat.or_lt_two_pow h (Nat.pow_lt_pow_right (by decide) hi)
  apply Nat.eq_of_testBit_eq
  intro k
  rw [testBit_set, comb_bit h, comb_bit h2, testBit_set]
  by_cases hk : k < n
  · rw [if_pos hk, if_pos hk]
  · rw [if_neg hk, if_neg hk, decide_eq_false (show ¬ i = k by omega), Bool.or_false]
theorem comb_right {n sa : Nat} (h : sa < 2 ^ n) (sb j : Nat) : comb n sa sb ||| 2 ^ (n + j) = comb n sa (sb ||| 2 ^ j) := by
  apply Nat.eq_of_testBit_eq
  intro k
  rw [testBit_set, comb_bit h, comb_bit h, testBit_set]
  by_cases hk : k < n
  · rw [if_pos hk, if_pos hk, decide_eq_false (show ¬ n + j = k by omega), Bool.or_false]
  · rw [if_neg hk, if_neg hk]
    congr 1
    rw [decide_eq_decide]; omega
theorem comb_lt {n m sa sb : Nat} (h : sa < 2 ^ n) (h2 : sb < 2 ^ m) : comb n sa sb < 2 ^ (n + m) := by
  unfold comb
  rw [Nat.pow_add]
  have : 2 ^ n * (sb + 1) ≤ 2 ^ n * 2 ^ m := Nat.mul_le_mul_left _ h2
  rw [Nat.mul_add] at this
  omega
theorem miss_comb {n sa : Nat} (h : sa < 2 ^ n) (sb : Nat) : ∀ m, miss (n + m) (comb n sa sb) = miss n sa + miss m sb
  | 0 => by
    have e : ∀ k, k ≤ n → miss k (comb n sa sb) = miss k sa := by
      intro k
      induction k with
      | zero => intro _; rfl
      | succ k ih => intro hk; rw [miss_succ, miss_succ, ih (by omega), comb_bit h, if_pos (show k < n by omega)]
    rw [show n + 0 = n from rfl, e n (Nat.le_refl _)]
    simp [miss]
  | m + 1 => by
    rw [show n + (m + 1) = (n + m) + 1 by omega, miss_succ, miss_comb h sb m, miss_succ, comb_bit h, if_neg (show ¬ n + m < n by omega), show n + m - n = m by omega]
    omega

/-- The second sheet's works stand p places further right, behind the first one's. -/
def besW (p : Int) (ws vs : List GW) : List GW := ws ++ vs.map fun x => ⟨x.kind, x.pl + p, x.word⟩
section
variable {p : Int} {ws vs : List GW}
theorem besW_length : (besW p ws vs).length = ws.length + vs.length := by simp [besW]
theorem besW_left {i : Nat} (h : i < ws.length) : (besW p ws vs).getD i gw0 = ws.getD i gw0 := by
  simp [besW, List.getD_eq_getElem?_getD, List.getElem?_append_left h]
theorem besW_right {j : Nat} (h : j < vs.length) : ((besW p ws vs).getD (ws.length + j) gw0).pl = (vs.getD j gw0).pl + p := by
  simp [besW, List.getD_eq_getElem?_getD, h]
theorem touch_shift (a b p : Int) : touchB (a + p) (b + p) = touchB a b := by
  unfold touchB; rw [decide_eq_decide]; omega

variable (hws : ∀ x ∈ ws, 0 ≤ x.pl ∧ x.pl ≤ p - 2) (hvs : ∀ x ∈ vs, 0 ≤ x.pl)
theorem free_left {sa : Nat} (h : sa < 2 ^ ws.length) (sb : Nat) {i : Nat} (hi : i < ws.length) : freeB (befW (besW p ws vs)) (comb ws.length sa sb) i = freeB (befW ws) sa i := by
  rw [freeB_frK, freeB_frK, comb_bit h, if_pos hi]
  congr 1
  rw [Bool.eq_iff_iff, frK_iff, frK_iff]
  refine forall_congr' fun k => imp_congr_right fun hk => ?_
  rw [comb_bit h, if_pos (by omega), besW_left (by omega), besW_left hi]
include hws hvs in
theorem free_right {sa : Nat} (h : sa < 2 ^ ws.length) (sb : Nat) {j : Nat} (hj : j < vs.length) : freeB (befW (besW p ws vs)) (comb ws.length sa sb) (ws.length + j) = freeB (befW vs) sb j := by
  rw [freeB_frK, freeB_frK, comb_bit h, if_neg (by omega), show ws.length + j - ws.length = j by omega]
  congr 1
  rw [Bool.eq_iff_iff, frK_iff, frK_iff]
  constructor
  · intro hh k hk
    have := hh (ws.length + k) (by omega)
    rw [comb_bit h, if_neg (by omega), show ws.length + k - ws.length = k by omega, besW_right (by omega), besW_right hj, touch_shift] at this
    exact this
  · intro hh k hk
    rw [comb_bit h, besW_right hj]
    by_cases hkn : k < ws.length
    · right
      rw [besW_left hkn, getD_pl hkn, getD_pl hj]
      have h1 := hws ws[k] (List.getElem_mem hkn)
      have h2 := hvs vs[j] (List.getElem_mem hj)
      unfold touchB
      simp only [decide_eq_false_iff_not]
      omega
    · rw [if_neg hkn]
      obtain ⟨k', rfl⟩ : ∃ k', k = ws.length + k' := ⟨k - ws.length, by omega⟩
      rw [show ws.length + k' - ws.length = k' by omega, besW_right (by omega), touch_shift]
      exact hh k' (by omega)
theorem lowK_left {G F : Nat → Int} {sa : Nat} (h : sa < 2 ^ ws.length) (sb : Nat) (c : Int) (hc : ∀ i, i < ws.length → freeB (befW ws) sa i = true → G (comb ws.length sa sb ||| 2 ^ i) = c * F (sa ||| 2 ^ i)) :
    ∀ n, n ≤ ws.length → lowK G (befW (besW p ws vs)) (comb ws.length sa sb) n = c * lowK F (befW ws) sa n
  | 0, _ => by simp [lowK]
  | n + 1, hn => by
    have ih := lowK_left h sb c hc n (by omega)
    rw [lowK, lowK, ih, free_left h sb (by omega)]
    split
    · rename_i hf
      rw [hc n (by omega) hf, Int.mul_add]
    · rfl
include hws hvs in
theorem lowK_right {G H : Nat → Int} {sa : Nat} (h : sa < 2 ^ ws.length) (sb : Nat) (c : Int) (hc : ∀ j, j < vs.length → freeB (befW vs) sb j = true → G (comb ws.length sa sb ||| 2 ^ (ws.length + j)) = c * H (sb ||| 2 ^ j)) :
    ∀ m, m ≤ vs.length → lowK G (befW (besW p ws vs)) (comb ws.length sa sb) (ws.length + m) = lowK G (befW (besW p ws vs)) (comb ws.length sa sb) ws.length + c * lowK H (befW vs) sb m
  | 0, _ => by simp [lowK]
  | m + 1, hm => by
    have ih := lowK_right h sb c hc m (by omega)
    rw [show ws.length + (m + 1) = (ws.length + m) + 1 by omega, lowK, lowK, ih, free_right hws hvs h sb (by omega)]
    split
    · rename_i hf
      rw [hc m (by omega) hf, Int.mul_add]
      omega
    · rfl
end

/-- Below the limit: the count is the sum of the counts behind. -/
theorem cnt_low {n : Nat} {bef : Nat → Nat} (hn : n ≤ 12) {s : Nat} (hs : s < 2 ^ n) (hne : s ≠ 2 ^ n - 1) : cntN n bef s = lowK (cntN n bef) bef s n := by
  have h1 := cntN_le_fac n bef (miss n s) s rfl hs
  have h2 := fac_le (show miss n s ≤ 12 by have := miss_le n s; omega)
  rw [fac_12] at h2
  have h3 := cntN_step n bef s hne
  rw [h3] at h1 ⊢
  exact (lowK_accF (fun t => (cntN_bounds n bef t).1) (N := n) (by omega) (Nat.le_refl _)).symm
theorem low_full {n : Nat} {bef : Nat → Nat} (g : Nat → Int) : ∀ j, j ≤ n → lowK g bef (2 ^ n - 1) j = 0
  | 0, _ => rfl
  | j + 1, h => by
    rw [lowK, low_full g j (by omega), if_neg]
    unfold freeB
    rw [full_bit (by omega)]
    simp
theorem bes_count {p : Int} {ws vs : List GW} (hws : ∀ x ∈ ws, 0 ≤ x.pl ∧ x.pl ≤ p - 2) (hvs : ∀ x ∈ vs, 0 ≤ x.pl) (h12 : ws.length + vs.length ≤ 12) : ∀ t sa sb, miss ws.length sa + miss vs.length sb = t → sa < 2 ^ ws.length → sb < 2 ^ vs.length →
    cntN (ws.length + vs.length) (befW (besW p ws vs)) (comb ws.length sa sb) = mix (miss ws.length sa) (miss vs.length sb) * cntN ws.length (befW ws) sa * cntN vs.length (befW vs) sb := by
  intro t
  induction t with
  | zero =>
    intro sa sb ht h1 h2
    have g1 := full_of_miss h1 (show miss ws.length sa = 0 by omega)
    have g2 := full_of_miss h2 (show miss vs.length sb = 0 by omega)
    have g3 : comb ws.length sa sb = 2 ^ (ws.length + vs.length) - 1 := full_of_miss (comb_lt h1 h2) (by rw [miss_comb h1]; omega)
    rw [g3, cntN_full, g1, g2, cntN_full, cntN_full, miss_full, miss_full]
    simp [mix]
  | succ t ih =>
    intro sa sb ht h1 h2
    have hne : comb ws.length sa sb ≠ 2 ^ (ws.length + vs.length) - 1 := fun h => by
      have := miss_comb h1 sb vs.length
      rw [h, miss_full] at this
      omega
    rw [cnt_low h12 (comb_lt h1 h2) hne]
    have hl := lowK_left (p := p) (vs := vs) (G := cntN (ws.length + vs.length) (befW (besW p ws vs))) (F := cntN ws.length (befW ws)) h1 sb (mix (miss ws.length sa - 1) (miss vs.length sb) * cntN vs.length (befW vs) sb) (fun i hi hf => by
      have hst := miss_step (freeB_bit hf) ws.length hi
      rw [comb_left h1 hi, ih (sa ||| 2 ^ i) sb (by omega) (Nat.or_lt_two_pow h1 (Nat.pow_lt_pow_right (by decide) hi)) h2, show miss ws.length (sa ||| 2 ^ i) = miss ws.length sa - 1 by omega]
      rw [Int.mul_assoc, Int.mul_assoc, Int.mul_comm (cntN ws.length _ _)]) ws.length (Nat.le_refl _)
    have hr := lowK_right hws hvs (G := cntN (ws.length + vs.length) (befW (besW p ws vs))) (H := cntN vs.length (befW vs)) h1 sb (mix (miss ws.length sa) (miss vs.length sb - 1) * cntN ws.length (befW ws) sa) (fun j hj hf => by
      have hst := miss_step (freeB_bit hf) vs.length hj
      rw [comb_right h1, ih sa (sb ||| 2 ^ j) (by omega) h1 (Nat.or_lt_two_pow h2 (Nat.pow_lt_pow_right (by decide) hj)), show miss vs.length (sb ||| 2 ^ j) = miss vs.length sb - 1 by omega]) vs.length (Nat.le_refl _)
    rw [hr, hl]
    rcases Nat.eq_zero_or_pos (miss ws.length sa) with ha | ha
    · have g1 := full_of_miss h1 ha
      have hbn : sb ≠ 2 ^ vs.length - 1 := fun h => by rw [h, miss_full] at ht; omega
      rw [← cnt_low (by omega) h2 hbn, ha]
      rw [g1, low_full _ _ (Nat.le_refl _)]
      simp [mix]
    · have han : sa ≠ 2 ^ ws.length - 1 := fun h => by rw [h, miss_full] at ha; omega
      rw [← cnt_low (by omega) h1 han]
      rcases Nat.eq_zero_or_pos (miss vs.length sb) with hb | hb
      · have g2 := full_of_miss h2 hb
        rw [hb]
        rw [g2, low_full _ _ (Nat.le_refl _), mix_zero, mix_zero, cntN_full]
        simp
      · have hbn : sb ≠ 2 ^ vs.length - 1 := fun h => by rw [h, miss_full] at hb; omega
        rw [← cnt_low (by omega) h2 hbn]
        obtain ⟨x, hx⟩ : ∃ x, miss ws.length sa = x + 1 := ⟨miss ws.length sa - 1, by omega⟩
        obtain ⟨y, hy⟩ : ∃ y, miss vs.length sb = y + 1 := ⟨miss vs.length sb - 1, by omega⟩
        rw [hx, hy, mix]
        simp only [Nat.add_sub_cancel]
        generalize cntN ws.length (befW ws) sa = F
        generalize cntN vs.length (befW vs) sb = H
        have e : mix x (y + 1) * H * F = mix x (y + 1) * F * H := by rw [Int.mul_assoc, Int.mul_comm H F, ← Int.mul_assoc]
        rw [e, Int.add_mul, Int.add_mul]
theorem bes_all {p : Int} {ws vs : List GW} (hws : ∀ x ∈ ws, 0 ≤ x.pl ∧ x.pl ≤ p - 2) (hvs : ∀ x ∈ vs, 0 ≤ x.pl) (h12 : ws.length + vs.length ≤ 12) :
    cntN (besW p ws vs).length (befW (besW p ws vs)) 0 = mix ws.length vs.length * cntN ws.length (befW ws) 0 * cntN vs.length (befW vs) 0 := by
  have h := bes_count hws hvs h12 (ws.length + vs.length) 0 0 (by rw [miss_zero, miss_zero]) (Nat.two_pow_pos _) (Nat.two_pow_pos _)
  rw [miss_zero, miss_zero] at h
  rw [besW_length]
  simpa [comb] using h
theorem errSheet_iff {p : Int} {ws : List GW} : errSheet p ws = 0 ↔ p ≤ 24 ∧ ws.length ≤ 400 ∧ 2 ≤ p ∧ ∀ x ∈ ws, longW x = false ∧ badW p x = false ∧ formW x.word = false := by
  constructor
  · intro h
    unfold errSheet at h
    split at h
    · omega
    · rename_i h1
      split at h
      · omega
      · rename_i h2
        split at h
        · omega
        · rename_i h3
          split at h
          · omega
          · rename_i h4
            refine ⟨by omega, by omega, by omega, fun x hx => ⟨?_, ?_, ?_⟩⟩
            · have := List.any_eq_false.1 (by simpa using (show ¬ ws.any longW = true from fun h => h1 (.inr (.inr h)))) x hx; simpa using this
            · have := List.any_eq_false.1 (by simpa using h3) x hx; simpa using this
            · have := List.any_eq_false.1 (by simpa using h4) x hx; simpa using this
  · rintro ⟨h1, h2, h3, h4⟩
    have g1 : ws.any longW = false := List.any_eq_false.2 fun x hx => by rw [(h4 x hx).1]; simp
    have g2 : ws.any (badW p) = false := List.any_eq_false.2 fun x hx => by rw [(h4 x hx).2.1]; simp
    have g3 : ws.any (fun x => formW x.word) = false := List.any_eq_false.2 fun x hx => by rw [(h4 x hx).2.2]; simp
    unfold errSheet
    rw [g1, g2, g3, if_neg (by simp; omega), if_neg (by omega)]
    rfl
theorem bes_ok {p q : Int} {ws vs : List GW} (h1 : errSheet p ws = 0) (h2 : errSheet q vs = 0) (h24 : p + q ≤ 24) (hl : ws.length + vs.length ≤ 12) : errSheet (p + q) (besW p ws vs) = 0 := by
  obtain ⟨a1, a2, a3, a4⟩ := errSheet_iff.1 h1
  obtain ⟨b1, b2, b3, b4⟩ := errSheet_iff.1 h2
  refine errSheet_iff.2 ⟨h24, by rw [besW_length]; omega, by omega, fun x hx => ?_⟩
  unfold besW at hx
  rcases List.mem_append.1 hx with hx | hx
  · obtain ⟨g1, g2, g3⟩ := a4 x hx
    refine ⟨g1, ?_, g3⟩
    unfold badW at g2 ⊢
    simp only [decide_eq_false_iff_not] at g2 ⊢
    intro h
    apply g2
    rcases h with h | h | h | h
    · exact .inl h
    · exact .inr (.inl h)
    · exact .inr (.inr (.inl (by omega)))
    · exact .inr (.inr (.inr h))
  · obtain ⟨y, hy, rfl⟩ := List.mem_map.1 hx
    obtain ⟨g1, g2, g3⟩ := b4 y hy
    refine ⟨g1, ?_, g3⟩
    unfold badW at g2 ⊢
    simp only [decide_eq_false_iff_not] at g2 ⊢
    intro h
    apply g2
    rcases h with h | h | h | h
    · exact .inl h
    · exact .inr (.inl (by omega))
    · exact .inr (.inr (.inl (by omega)))
    · exact .inr (.inr (.inr h))
theorem div_all {W N M : Int} (hW : 1 ≤ W) (hN : 1 ≤ N) : (W * N * M) % W = 0 ∧ (W * N * M) / W = N * M ∧ (N * M) % N = 0 ∧ (N * M) / N = M := by
  refine ⟨?_, ?_, Int.mul_emod_right N M, Int.mul_ediv_cancel_left M (by omega)⟩
  · rw [Int.mul_assoc]; exact Int.mul_emod_right W _
  · rw [Int.mul_assoc]; exact Int.mul_ediv_cancel_left _ (by omega)
theorem numsB {p : Int} {ws : List GW} (he : errSheet p ws = 0) (h12 : ws.length ≤ 12) : cntdErr p ws = 0 ∧ cntdNum p ws = cntN ws.length (befW ws) 0 ∧ 1 ≤ cntN ws.length (befW ws) 0 ∧ cntN ws.length (befW ws) 0 ≤ 479001600 := by
  have h1 := cntN_ge_one ws ws.length 0 (miss_zero _) (Nat.two_pow_pos _)
  have h2 := cntN_le_fac ws.length (befW ws) ws.length 0 (miss_zero _) (Nat.two_pow_pos _)
  have h3 := fac_le h12
  rw [fac_12] at h3
  have hc : cntdErr p ws = 0 := by unfold cntdErr; rw [if_neg (by rw [he]; simp), if_neg (by omega), if_neg (by omega)]
  exact ⟨hc, (cntd_ok hc).2.2.2, h1, by omega⟩
end Go.Proofs.Ytifpkdajfdlgeaa
