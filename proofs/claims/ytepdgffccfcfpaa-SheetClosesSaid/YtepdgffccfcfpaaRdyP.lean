/- Works that are ready do not touch; one more is done: plain. -/
import Derived.Test.YtepdgffccfcfpaaRClosed
import Derived.Test.YtepdgffccfcfpaaRLn
import Derived.Test.YtepdgffccfcfpaaSReady
import Derived.Test.YtepdgffccfcfpaaAnyP
import Derived.Test.YtepdgffccfcfpaaChn
namespace Go.Proofs.Ytepdgffccfcfpaa
open Go.RowKit

theorem getD_at {l : List Int} {j : Nat} (h : j < l.length) : l.getD j 0 = l[j] := by simp [List.getD_eq_getElem?_getD, h]
theorem asc_mono {n : Nat} {l : List Int} (ha : Asc n l) : ∀ (j i : Nat) (hj : j < l.length), (h : i < j) → l[i]'(by omega) < l[j]
  | 0, _, _, h => by omega
  | j + 1, i, hj, h => by
    have h1 := (ha (j + 1) hj).2.2
    rw [getD_at hj, Nat.add_sub_cancel, getD_at (show j < l.length by omega)] at h1
    have h1' : l[j]'(by omega) < l[j + 1] := by
      rcases h1 with h1 | h1
      · omega
      · exact h1
    by_cases e : i = j
    · subst e; exact h1'
    · exact Int.lt_trans (asc_mono ha j i (by omega) (by omega)) h1'
theorem asc_rng {n : Nat} {l : List Int} (ha : Asc n l) {j : Nat} (hj : j < l.length) : 0 ≤ l[j] ∧ l[j] < n := by
  have := ha j hj
  unfold AscAt at this
  rw [getD_at hj] at this
  exact ⟨this.1, this.2.1⟩
theorem asc_lt {n : Nat} {l : List Int} (ha : Asc n l) {j b : Nat} (hj : j < l.length) (hb : (bitsL (l.take j)).testBit b = true) : b < l[j].toNat := by
  obtain ⟨x, hx, rfl⟩ := (bitsL_bit _ b).1 hb
  obtain ⟨i, hi, rfl⟩ := List.mem_iff_getElem.1 hx
  have hij : i < j := by simp at hi; omega
  rw [List.getElem_take]
  have h1 := asc_mono ha j i hj hij
  have h2 := asc_rng ha (show i < l.length by omega)
  have h3 := asc_rng ha hj
  omega
theorem asc_pop {n : Nat} {l : List Int} (ha : Asc n l) : ∀ j, j ≤ l.length → popB (bitsL (l.take j)) n = j
  | 0, _ => by simp [bitsL, popB_zero]
  | j + 1, h => by
    have hj : j < l.length := by omega
    rw [List.take_succ_eq_append_getElem hj, bitsL_snoc, popB_or, asc_pop ha j (by omega), if_pos]
    · have := asc_rng ha hj; omega
    · cases hb : (bitsL (l.take j)).testBit l[j].toNat with
      | false => rfl
      | true => have := asc_lt ha hj hb; omega
theorem asc_len {n : Nat} {l : List Int} (ha : Asc n l) : popB (bitsL l) n = l.length := by
  have := asc_pop ha l.length (Nat.le_refl _)
  rwa [List.take_of_length_le (Nat.le_refl _)] at this
theorem popB_full {S : Nat} : ∀ {n : Nat}, (∀ t, t < n → S.testBit t = true) → popB S n = n
  | 0, _ => rfl
  | n + 1, h => by
    rw [popB, popB_full (n := n) (fun t ht => h t (by omega)), if_pos (h n (by omega))]
theorem mem_rdy {P k : Nat} {ws : List GW} {l : List Int} {x : Int} : x ∈ rdyTo P ws l k ↔ ∃ i : Nat, i < k ∧ rdyB P ws l i = true ∧ x = i := by
  unfold rdyTo
  simp only [List.mem_map, List.mem_filter, List.mem_range]
  exact ⟨fun ⟨i, ⟨h1, h2⟩, h3⟩ => ⟨i, h1, h2, h3.symm⟩, fun ⟨i, h1, h2, h3⟩ => ⟨i, ⟨h1, h2⟩, h3.symm⟩⟩
theorem pair_cast {l : List Nat} (h : l.Pairwise (· < ·)) : (l.map fun (i : Nat) => (i : Int)).Pairwise (· < ·) := by
  rw [List.pairwise_map]
  exact h.imp fun h => by omega
theorem rdy_mono {P k : Nat} {ws : List GW} {l : List Int} {a b : Nat} (ha : a < (rdyTo P ws l k).length) (hb : b < (rdyTo P ws l k).length) (h : a < b) : (rdyTo P ws l k)[a] < (rdyTo P ws l k)[b] :=
  List.pairwise_iff_getElem.1 (pair_cast (List.Pairwise.filter _ (List.pairwise_lt_range))) a b ha hb h
section
variable {P : Nat} {ws : List GW} {l : List Int}
theorem cl_of (hcl : clErr P ws l = 0) : errSheet P ws = 0 ∧ Asc ws.length l ∧ ClS (plsOf ws) (bitsL l) := by
  obtain ⟨h1, h2, h3⟩ := clErr_zero hcl
  obtain ⟨_, _, hn, _⟩ := okAll h1
  exact ⟨h1, h2, (clo_iff hn h2).1 h3⟩
theorem rdy_nil (hcl : clErr P ws l = 0) : rdyTo P ws l ws.length = [] ↔ l.length = ws.length := by
  obtain ⟨h1, h2, h3⟩ := cl_of hcl
  obtain ⟨_, _, hn, _⟩ := okAll h1
  have hp := asc_len h2
  constructor
  · intro h
    by_cases hall : ∀ t, t < ws.length → (bitsL l).testBit t = true
    · rw [popB_full hall] at hp; exact hp.symm
    · exfalso
      have hex : ∃ t, t < ws.length ∧ (bitsL l).testBit t = false := by
        by_cases hh : ∃ t, t < ws.length ∧ (bitsL l).testBit t = false
        · exact hh
        · refine absurd (fun t ht => ?_) hall
          cases hb : (bitsL l).testBit t with
          | true => rfl
          | false => exact absurd ⟨t, ht, hb⟩ hh
      obtain ⟨t, ht, hb⟩ := hex
      obtain ⟨k, hk, ⟨hk1, hk2⟩, hk3⟩ := least_of (fun t => t < ws.length ∧ (bitsL l).testBit t = false) t ⟨ht, hb⟩
      have : (k : Int) ∈ rdyTo P ws l ws.length := mem_rdy.2 ⟨k, hk1, (rdyB_iff hn hk1).2 ⟨hk2, fun a hab => by
        cases hb2 : (bitsL l).testBit a with
        | true => rfl
        | false => exact absurd ⟨by have := hab.lt; omega, hb2⟩ (hk3 a hab.lt)⟩, rfl⟩
      rw [h] at this; cases this
  · intro h
    have hall := popB_all (n := ws.length) (S := bitsL l) (by omega)
    cases hr : rdyTo P ws l ws.length with
    | nil => rfl
    | cons x xs =>
      obtain ⟨i, hi, hb, _⟩ := mem_rdy.1 (show x ∈ rdyTo P ws l ws.length by rw [hr]; exact List.mem_cons_self ..)
      have := ((rdyB_iff hn hi).1 hb).1
      rw [hall i hi] at this; cases this
theorem rdy_apart (hcl : clErr P ws l = 0) {i k : Nat} (hi : i < ws.length) (hri : rdyB P ws l i = true) (hrk : rdyB P ws l k = true) (h : k < i) : tP (plsOf ws k) (plsOf ws i) = false := by
  obtain ⟨h1, _, _⟩ := cl_of hcl
  obtain ⟨_, _, hn, _⟩ := okAll h1
  cases ht : tP (plsOf ws k) (plsOf ws i) with
  | false => rfl
  | true =>
    have h4 := ((rdyB_iff hn hi).1 hri).2 k (.one h ht)
    have h5 := ((rdyB_iff hn (show k < ws.length by omega)).1 hrk).1
    rw [h4] at h5; cases h5
/-- The list of a set. -/
def lstTo (S k : Nat) : List Int := ((List.range k).filter fun i => S.testBit i).map fun (i : Nat) => (i : Int)
theorem lstTo_yes {S k : Nat} (h : S.testBit k = true) : lstTo S (k + 1) = lstTo S k ++ [(k : Int)] := by unfold lstTo; simp [List.range_succ, List.filter_append, h]
theorem lstTo_no {S k : Nat} (h : S.testBit k = false) : lstTo S (k + 1) = lstTo S k := by unfold lstTo; simp [List.range_succ, List.filter_append, h]
theorem lstTo_le (S k : Nat) : (lstTo S k).length ≤ k := by
  unfold lstTo
  have := List.length_filter_le (fun i => S.testBit i) (List.range k)
  simpa using this
theorem mem_lst {S k : Nat} {x : Int} : x ∈ lstTo S k ↔ ∃ i : Nat, i < k ∧ S.testBit i = true ∧ x = i := by
  unfold lstTo
  simp only [List.mem_map, List.mem_filter, List.mem_range]
  exact ⟨fun ⟨i, ⟨h1, h2⟩, h3⟩ => ⟨i, h1, h2, h3.symm⟩, fun ⟨i, h1, h2, h3⟩ => ⟨i, ⟨h1, h2⟩, h3.symm⟩⟩
theorem lst_asc (S n : Nat) : Asc n (lstTo S n) := fun i hi => by
  have hp := List.pairwise_iff_getElem.1 (pair_cast (List.Pairwise.filter (fun i => S.testBit i) (List.pairwise_lt_range (n := n))))
  unfold AscAt
  rw [getD_at hi]
  obtain ⟨k, h1, _, h3⟩ := mem_lst.1 (List.getElem_mem hi)
  refine ⟨by omega, by omega, ?_⟩
  by_cases e : i = 0
  · exact .inl e
  · refine .inr ?_
    rw [getD_at (show i - 1 < (lstTo S n).length by omega)]
    exact hp (i - 1) i (by show i - 1 < (lstTo S n).length; omega) hi (by omega)
theorem lst_bits {S n : Nat} (hS : ∀ b, S.testBit b = true → b < n) : bitsL (lstTo S n) = S := by
  apply Nat.eq_of_testBit_eq
  intro b
  have h : (bitsL (lstTo S n)).testBit b = true ↔ S.testBit b = true := by
    rw [bitsL_bit]
    constructor
    · rintro ⟨x, hx, rfl⟩
      obtain ⟨i, _, h2, rfl⟩ := mem_lst.1 hx
      simpa using h2
    · intro h
      exact ⟨b, mem_lst.2 ⟨b, hS b h, h, rfl⟩, by simp⟩
  cases h1 : (bitsL (lstTo S n)).testBit b <;> cases h2 : S.testBit b <;> simp [h1, h2] at h ⊢
/-- What lies in a place after a set. -/
def IsAt (P : Nat) (pls : Nat → Nat) (S q : Nat) (v : Int) : Prop :=
  (∃ t, S.testBit t = true ∧ tk pls t q ∧ (∀ t', S.testBit t' = true → tk pls t' q → t' ≤ t) ∧ v = (P : Int) + 2 * t + q - pls t) ∨ ((∀ t, S.testBit t = true → ¬ tk pls t q) ∧ v = q)
theorem isAt_uniq {pls : Nat → Nat} {S q : Nat} {v v' : Int} (h : IsAt P pls S q v) (h' : IsAt P pls S q v') : v = v' := by
  rcases h with ⟨t, h1, h2, h3, rfl⟩ | ⟨h1, rfl⟩ <;> rcases h' with ⟨t', g1, g2, g3, rfl⟩ | ⟨g1, rfl⟩
  · have e1 := h3 t' g1 g2
    have e2 := g3 t h1 h2
    obtain rfl : t = t' := by omega
    rfl
  · exact absurd h2 (g1 t h1)
  · exact absurd g2 (h1 t' g1)
  · rfl
theorem line_isAt (ha : Asc ws.length l) (q : Nat) : ∀ j, j ≤ l.length → IsAt P (plsOf ws) (bitsL (l.take j)) q ((l.take j).foldl (atStep P ws q) q)
  | 0, _ => .inr ⟨fun t h => by simp [bitsL] at h, rfl⟩
  | j + 1, h => by
    have hj : j < l.length := by omega
    have ih := line_isAt ha q j (by omega)
    have hlt := fun b (hb : (bitsL (l.take j)).testBit b = true) => asc_lt ha hj hb
    rw [List.take_succ_eq_append_getElem hj, bitsL_snoc, List.foldl_append]
    show IsAt P (plsOf ws) _ q (atStep P ws q ((l.take j).foldl (atStep P ws q) q) l[j])
    generalize (l.take j).foldl (atStep P ws q) q = v at *
    generalize bitsL (l.take j) = S at *
    unfold atStep
    generalize l[j].toNat = x at *
    have hbit : ∀ t, (S ||| 2 ^ x).testBit t = true ↔ S.testBit t = true ∨ x = t := fun t => by
      rw [Nat.testBit_or, Nat.testBit_two_pow, Bool.or_eq_true, decide_eq_true_eq]
    have htk : takesB (plsOf ws x : Nat) q = true ↔ tk (plsOf ws) x q := by
      unfold takesB tk
      rw [decide_eq_true_eq]
      omega
    by_cases ht : tk (plsOf ws) x q
    · rw [if_pos (htk.2 ht)]
      exact .inl ⟨x, (hbit x).2 (.inr rfl), ht, fun t' h1 _ => by
        rcases (hbit t').1 h1 with h1 | h1
        · have := hlt t' h1; omega
        · omega, rfl⟩
    · rw [if_neg (fun h => ht (htk.1 h))]
      rcases ih with ⟨t, h1, h2, h3, h4⟩ | ⟨h1, h2⟩
      · exact .inl ⟨t, (hbit t).2 (.inl h1), h2, fun t' g1 g2 => by
          rcases (hbit t').1 g1 with g1 | g1
          · exact h3 t' g1 g2
          · subst g1; exact absurd g2 ht, h4⟩
      · exact .inr ⟨fun t g1 g2 => by
          rcases (hbit t).1 g1 with g1 | g1
          · exact h1 t g1 g2
          · subst g1; exact ht g2, h2⟩
theorem lineG_isAt (ha : Asc ws.length l) (q : Nat) : IsAt P (plsOf ws) (bitsL l) q (lineG P ws l q) := by
  have := line_isAt (P := P) ha q l.length (Nat.le_refl _)
  rwa [List.take_of_length_le (Nat.le_refl _), ← lineG_ref] at this
/-- One more work that is ready. -/
structure More (P : Nat) (ws : List GW) (l : List Int) (k : Nat) (m : List Int) : Prop where
  asc : Asc ws.length m
  bits : bitsL m = bitsL l ||| 2 ^ k
  cl : clErr P ws m = 0
theorem more_of (hcl : clErr P ws l = 0) {k : Nat} (hk : k < ws.length) (hr : rdyB P ws l k = true) : More P ws l k (lstTo (bitsL l ||| 2 ^ k) ws.length) := by
  obtain ⟨h1, h2, h3⟩ := cl_of hcl
  obtain ⟨_, _, hn, _⟩ := okAll h1
  have hb : ∀ b, (bitsL l ||| 2 ^ k).testBit b = true → b < ws.length := fun b hb => by
    rw [Nat.testBit_or, Nat.testBit_two_pow, Bool.or_eq_true, decide_eq_true_eq] at hb
    rcases hb with hb | hb
    · exact bit_lt h2 hb
    · omega
  have hbits := lst_bits hb
  have hA := lst_asc (bitsL l ||| 2 ^ k) ws.length
  have hput := h3.put ((rdyB_iff hn hk).1 hr).2
  refine ⟨hA, hbits, clErr_ok h1 hA ?_⟩
  rw [hbits]
  exact fun x hx hS a ha => hput x hS a ((setsOf_bef hx a).1 ha)
theorem more_line (hcl : clErr P ws l = 0) {k : Nat} (hk : k < ws.length) (hr : rdyB P ws l k = true) {m : List Int} (hm : More P ws l k m) (q : Nat) :
    lineG P ws m q = if takesB (plsOf ws k : Nat) q = true then (P : Int) + 2 * k + q - (plsOf ws k : Nat) else lineG P ws l q := by
  obtain ⟨h1, h2, h3⟩ := cl_of hcl
  obtain ⟨_, _, hn, _⟩ := okAll h1
  obtain ⟨hnk, hbef⟩ := (rdyB_iff hn hk).1 hr
  have h4 := lineG_isAt (P := P) hm.asc q
  have h5 := lineG_isAt (P := P) h2 q
  rw [hm.bits] at h4
  have hbit : ∀ t, (bitsL l ||| 2 ^ k).testBit t = true ↔ (bitsL l).testBit t = true ∨ k = t := fun t => by
    rw [Nat.testBit_or, Nat.testBit_two_pow, Bool.or_eq_true, decide_eq_true_eq]
  have htk : takesB (plsOf ws k : Nat) q = true ↔ tk (plsOf ws) k q := by
    unfold takesB tk
    rw [decide_eq_true_eq]
    omega
  refine isAt_uniq h4 ?_
  by_cases ht : tk (plsOf ws) k q
  · rw [if_pos (htk.2 ht)]
    exact .inl ⟨k, (hbit k).2 (.inr rfl), ht, fun t' g1 g2 => by
      rcases (hbit t').1 g1 with g1 | g1
      · rcases Nat.lt_or_ge k t' with h | h
        · have := h3 t' g1 k (.one h (tk_touch ht g2))
          rw [hnk] at this; cases this
        · exact h
      · omega, rfl⟩
  · rw [if_neg (fun h => ht (htk.1 h))]
    rcases h5 with ⟨t, g1, g2, g3, g4⟩ | ⟨g1, g2⟩
    · exact .inl ⟨t, (hbit t).2 (.inl g1), g2, fun t' e1 e2 => by
        rcases (hbit t').1 e1 with e1 | e1
        · exact g3 t' e1 e2
        · subst e1; exact absurd e2 ht, g4⟩
    · exact .inr ⟨fun t e1 e2 => by
        rcases (hbit t).1 e1 with e1 | e1
        · exact g1 t e1 e2
        · subst e1; exact ht e2, g2⟩
theorem more_still (hcl : clErr P ws l = 0) {k : Nat} {m : List Int} (hm : More P ws l k m) {x : Int} (hx : x ∈ rdyTo P ws l ws.length) (hne : x ≠ k) : x ∈ rdyTo P ws m ws.length := by
  obtain ⟨h1, h2, h3⟩ := cl_of hcl
  obtain ⟨_, _, hn, _⟩ := okAll h1
  obtain ⟨i, hi, hr, rfl⟩ := mem_rdy.1 hx
  obtain ⟨hni, hbef⟩ := (rdyB_iff hn hi).1 hr
  refine mem_rdy.2 ⟨i, hi, (rdyB_iff hn hi).2 ⟨?_, fun a ha => ?_⟩, rfl⟩
  · rw [hm.bits, Nat.testBit_or, Nat.testBit_two_pow, hni]
    simp
    omega
  · rw [hm.bits, Nat.testBit_or, hbef a ha]
    rfl
end
end Go.Proofs.Ytepdgffccfcfpaa
