/- Before and Chain say the same; a chain is one; a list with one more work in its place: plain. -/
import Derived.Test.YtepdgffccfcfpaaRdyP
import Derived.Test.YtepdgffccfcfpaaChnX
namespace Go.Proofs.Ytepdgffccfcfpaa
open Go.RowKit

theorem rch_append {T : Nat → Nat → Bool} {j b : Nat} (hj : j < b) (ht : T j b = true) : ∀ {n i : Nat}, Rch T j n i → Rch T b (n + 1) i
  | 0, i, h => by
    have : i = j := h
    subst this
    exact ⟨b, hj, Nat.le_refl _, ht, rfl⟩
  | n + 1, i, h => by
    obtain ⟨k, h1, h2, h3, h4⟩ := h
    exact ⟨k, h1, by omega, h3, rch_append hj ht h4⟩
theorem tch_tP {P : Nat} {ws : List GW} (hok : errSheet P ws = 0) {a b : Nat} (ha : a < ws.length) (hb : b < ws.length) : tch ws a b = tP (plsOf ws a) (plsOf ws b) := by
  obtain ⟨_, _, _, hall⟩ := okAll hok
  rw [← tP_touchO ha hb (hall _ (List.getElem_mem ha)).2.1 (hall _ (List.getElem_mem hb)).2.1]
  unfold tch
  simp [List.getD_eq_getElem?_getD, ha, hb]
theorem rch_bef {P : Nat} {ws : List GW} (hok : errSheet P ws = 0) {b : Nat} (hb : b < ws.length) : ∀ {n i : Nat}, Rch (tch ws) b (n + 1) i → Bef (plsOf ws) i b
  | 0, i, h => by
    obtain ⟨k, h1, h2, h3, h4⟩ := h
    have : k = b := h4
    subst this
    exact .one h1 (by rw [← tch_tP hok (by omega) hb]; exact h3)
  | n + 1, i, h => by
    obtain ⟨k, h1, h2, h3, h4⟩ := h
    exact (Bef.one h1 (by rw [← tch_tP hok (by omega) (by omega)]; exact h3)).trans (rch_bef hok hb h4)
theorem bef_rch {P : Nat} {ws : List GW} (hok : errSheet P ws = 0) {i b : Nat} (hb : b < ws.length) (h : Bef (plsOf ws) i b) : ∃ n, Rch (tch ws) b (n + 1) i := by
  induction h with
  | one h1 t => exact ⟨0, _, h1, Nat.le_refl _, by rw [tch_tP hok (by omega) hb]; exact t, rfl⟩
  | step h1 hj t ih =>
    obtain ⟨n, hn⟩ := ih (by omega)
    exact ⟨n + 1, rch_append hj (by rw [tch_tP hok (by omega) hb]; exact t) hn⟩
/-- The places of a chain. -/
theorem chn_path {T : Nat → Nat → Bool} {b : Nat} : ∀ {n i : Nat} {l : List Int}, Dst T b n i → Chn T b n i l →
    (∀ j, (h : j < ((i : Int) :: l).length) → ∃ y : Nat, ((i : Int) :: l)[j] = y ∧ y ≤ b ∧ (0 < j → ∃ x : Nat, ((i : Int) :: l)[j - 1]'(by omega) = x ∧ x < y ∧ T x y = true)) ∧ ((i : Int) :: l)[l.length]'(by simp) = b
  | 0, i, l, hd, h => by
    have hl : l = [] := h
    subst hl
    have hi := dst_zero.1 hd
    subst hi
    refine ⟨fun j hj => ?_, rfl⟩
    have : j = 0 := by simpa using hj
    subst this
    exact ⟨i, rfl, Nat.le_refl _, fun h => by omega⟩
  | n + 1, i, l, hd, h => by
    obtain ⟨k, l', ⟨h1, h2, h3, h4, _⟩, rfl, h5⟩ := h
    obtain ⟨g1, g2⟩ := chn_path h4 h5
    refine ⟨fun j hj => ?_, ?_⟩
    · rcases j with _ | j
      · exact ⟨i, rfl, by omega, fun h => by omega⟩
      · obtain ⟨y, e1, e2, e3⟩ := g1 j (by simpa using hj)
        refine ⟨y, by simpa using e1, e2, fun _ => ?_⟩
        rcases j with _ | j
        · have e1' : (k : Int) = (y : Int) := by simpa using e1
          have : y = k := by omega
          subst this
          exact ⟨i, rfl, h1, h3⟩
        · obtain ⟨x, f1, f2, f3⟩ := e3 (by omega)
          exact ⟨x, by simpa using f1, f2, f3⟩
    · simpa using g2
/-- What the law asks of Chain. -/
structure ChnOk (ws : List GW) (a b : Nat) (z : Bool) (x : Int) (l : List Int) : Prop where
  err : (x == 0) = z
  nil : x ≠ 0 → l = []
  stp : ∀ j, (h : j < l.length) → ∃ y : Nat, l[j] = y ∧ y < ws.length ∧ (0 < j → ∃ q : Nat, l[j - 1]'(by omega) = q ∧ q < y ∧ q < ws.length ∧ tch ws q y = true)
  ends : x = 0 → 2 ≤ l.length ∧ (∀ h : 0 < l.length, l[0] = (a : Int)) ∧ ∀ h : 0 < l.length, l[l.length - 1]'(by omega) = (b : Int)
  len : l.length ≤ 401
theorem chn_ok {P : Nat} {ws : List GW} {a b : Nat} {x : Int} {l : List Int} (hn : ws.length ≤ 400) (hb : b < ws.length) (he : askErr P ws [(a : Int), b] = 0) (h : ChnIs P ws a b x l) : ChnOk ws a b (befB P ws a b) x l := by
  have hok : errSheet P ws = 0 := by
    unfold askErr at he
    split at he
    · assumption
    · rename_i h0; exact absurd he h0
  have hiff := befB_iff he
  simp only [Int.toNat_natCast] at hiff
  rcases h with ⟨h1, _⟩ | ⟨_, ⟨rfl, rfl, h2⟩ | ⟨rfl, h2, n, l', h3, h4, rfl⟩⟩
  · exact absurd he h1
  · have hz : befB P ws a b = false := by
      cases hb2 : befB P ws a b with
      | false => rfl
      | true =>
        have hbef := hiff.1 hb2
        obtain ⟨n, hr⟩ := bef_rch hok hb hbef
        rcases h2 with h2 | h2
        · have := hbef.lt; omega
        · exact absurd hr (by simpa using h2 (n + 1))
    exact ⟨by rw [hz]; rfl, fun _ => rfl, fun j h => absurd h (by simp), fun h => absurd h (by decide), by simp⟩
  · simp only [Int.toNat_natCast] at h3 h4
    have hz : befB P ws a b = true := hiff.2 (rch_bef hok hb h3.1)
    obtain ⟨g1, g2⟩ := chn_path h3 h4
    have hl := chn_len h4
    have hd := dst_le h3
    refine ⟨by rw [hz]; rfl, fun h => absurd rfl h, fun j hj => ?_, fun _ => ⟨by simp; omega, fun _ => rfl, fun _ => ?_⟩, by simp; omega⟩
    · obtain ⟨y, e1, e2, e3⟩ := g1 j hj
      exact ⟨y, e1, by omega, fun h => by
        obtain ⟨q, f1, f2, f3⟩ := e3 h
        exact ⟨q, f1, f2, by omega, f3⟩⟩
    · simpa using g2
/-- A list with one more work, in its place. -/
structure InsAt (l : List Int) (r : Int) (m : List Int) : Prop where
  ex : ∃ j, j ≤ l.length ∧ m = l.take j ++ r :: l.drop j ∧ (∀ x ∈ l.take j, x < r) ∧ ∀ x ∈ l.drop j, r < x
theorem asc_pair {n : Nat} {l : List Int} (ha : Asc n l) : l.Pairwise (· < ·) := List.pairwise_iff_getElem.2 fun i j _ hj h => asc_mono ha j i hj h
theorem asc_of_pair {n : Nat} {m : List Int} (hp : m.Pairwise (· < ·)) (hr : ∀ x ∈ m, 0 ≤ x ∧ x < n) : Asc n m := fun i hi => by
  unfold AscAt
  rw [getD_at hi]
  obtain ⟨h1, h2⟩ := hr _ (List.getElem_mem hi)
  refine ⟨h1, h2, ?_⟩
  by_cases e : i = 0
  · exact .inl e
  · refine .inr ?_
    rw [getD_at (show i - 1 < m.length by omega)]
    exact List.pairwise_iff_getElem.1 hp (i - 1) i (by omega) hi (by omega)
theorem ins_more {P : Nat} {ws : List GW} {l m : List Int} {k : Nat} (hcl : clErr P ws l = 0) (hk : k < ws.length) (hr : rdyB P ws l k = true) (h : InsAt l k m) : More P ws l k m := by
  obtain ⟨h1, h2, h3⟩ := cl_of hcl
  obtain ⟨_, _, hn, _⟩ := okAll h1
  obtain ⟨j, hj, rfl, hlo, hhi⟩ := h.ex
  have hp := asc_pair h2
  have hmem : ∀ x, x ∈ l.take j ++ (k : Int) :: l.drop j ↔ x ∈ l ∨ x = k := fun x => by
    rw [List.mem_append, List.mem_cons]
    constructor
    · rintro (h | h | h)
      · exact .inl (List.mem_of_mem_take h)
      · exact .inr h
      · exact .inl (List.mem_of_mem_drop h)
    · rintro (h | h)
      · rw [← List.take_append_drop j l, List.mem_append] at h
        rcases h with h | h
        · exact .inl h
        · exact .inr (.inr h)
      · exact .inr (.inl h)
  have hrng : ∀ x ∈ l, 0 ≤ x ∧ x < ws.length := fun x hx => by
    obtain ⟨i, hi, rfl⟩ := List.mem_iff_getElem.1 hx
    exact asc_rng h2 hi
  have hA : Asc ws.length (l.take j ++ (k : Int) :: l.drop j) := by
    refine asc_of_pair ?_ fun x hx => ?_
    · rw [List.pairwise_append, List.pairwise_cons]
      refine ⟨hp.sublist (List.take_sublist _ _), ⟨hhi, hp.sublist (List.drop_sublist _ _)⟩, fun x hx y hy => ?_⟩
      rcases List.mem_cons.1 hy with rfl | hy
      · exact hlo x hx
      · exact Int.lt_trans (hlo x hx) (hhi y hy)
    · rcases (hmem x).1 hx with hx | rfl
      · exact hrng x hx
      · omega
  have hbits : bitsL (l.take j ++ (k : Int) :: l.drop j) = bitsL l ||| 2 ^ k := by
    apply Nat.eq_of_testBit_eq
    intro b
    have hi : (bitsL (l.take j ++ (k : Int) :: l.drop j)).testBit b = true ↔ (bitsL l ||| 2 ^ k).testBit b = true := by
      rw [bitsL_bit, Nat.testBit_or, Nat.testBit_two_pow, Bool.or_eq_true, decide_eq_true_eq, bitsL_bit]
      constructor
      · rintro ⟨x, hx, e⟩
        rcases (hmem x).1 hx with hx | rfl
        · exact .inl ⟨x, hx, e⟩
        · exact .inr (by simpa using e)
      · rintro (⟨x, hx, e⟩ | e)
        · exact ⟨x, (hmem x).2 (.inl hx), e⟩
        · exact ⟨k, (hmem _).2 (.inr rfl), by simpa using e⟩
    cases g1 : (bitsL (l.take j ++ (k : Int) :: l.drop j)).testBit b <;> cases g2 : (bitsL l ||| 2 ^ k).testBit b <;> simp only [g1, g2] at hi ⊢ <;> simp at hi
  have hput := h3.put ((rdyB_iff hn hk).1 hr).2
  refine ⟨hA, hbits, clErr_ok h1 hA ?_⟩
  rw [hbits]
  exact fun x hx hS a ha => hput x hS a ((setsOf_bef hx a).1 ha)
/-- While the list is made: nothing is put in yet, or it is. -/
def InsT (l : List Int) (r : Int) (k : Nat) (m : List Int) : Bool → Prop
  | false => m = l.take k ∧ ∀ x ∈ l.take k, x < r
  | true => ∃ j, j ≤ k ∧ m = l.take j ++ r :: (l.take k).drop j ∧ (∀ x ∈ l.take j, x < r) ∧ ∀ x ∈ l.drop j, r < x
theorem insT_len {l : List Int} {r : Int} {k : Nat} {m : List Int} {z : Bool} (h : InsT l r k m z) : m.length ≤ l.length + 1 := by
  cases z with
  | false => rw [h.1]; simp; omega
  | true => obtain ⟨j, _, rfl, _⟩ := h; simp; omega
theorem insT_low {l : List Int} {r : Int} {k : Nat} {m : List Int} (hk : k < l.length) (h : InsT l r k m false) (hx : l[k] < r) : InsT l r (k + 1) (m ++ [l[k]]) false := by
  obtain ⟨rfl, h2⟩ := h
  refine ⟨(List.take_succ_eq_append_getElem hk).symm, fun x hm => ?_⟩
  rw [List.take_succ_eq_append_getElem hk, List.mem_append] at hm
  rcases hm with hm | hm
  · exact h2 x hm
  · rw [List.mem_singleton] at hm; subst hm; exact hx
theorem insT_here {n : Nat} {l : List Int} {r : Int} {k : Nat} {m : List Int} (ha : Asc n l) (hk : k < l.length) (h : InsT l r k m false) (hx : r < l[k]) : InsT l r (k + 1) (m ++ [r] ++ [l[k]]) true := by
  obtain ⟨rfl, h2⟩ := h
  refine ⟨k, by omega, ?_, h2, fun x hm => ?_⟩
  · rw [List.take_succ_eq_append_getElem hk, List.drop_append_of_le_length (by simp; omega)]
    simp
  · obtain ⟨i, hi, rfl⟩ := List.mem_iff_getElem.1 hm
    rw [List.getElem_drop]
    rcases Nat.eq_zero_or_pos i with e | e
    · subst e; simpa using hx
    · exact Int.lt_trans hx (asc_mono ha (k + i) k (by simp at hi; omega) (by omega))
theorem insT_past {l : List Int} {r : Int} {k : Nat} {m : List Int} (hk : k < l.length) (h : InsT l r k m true) : InsT l r (k + 1) (m ++ [l[k]]) true := by
  obtain ⟨j, hj, rfl, h1, h2⟩ := h
  refine ⟨j, by omega, ?_, h1, h2⟩
  rw [List.take_succ_eq_append_getElem hk, List.drop_append_of_le_length (by simp; omega)]
  simp
theorem insT_end {l : List Int} {r : Int} {m : List Int} : (InsT l r l.length m true → InsAt l r m) ∧ (InsT l r l.length m false → InsAt l r (m ++ [r])) := by
  constructor
  · rintro ⟨j, hj, rfl, h1, h2⟩
    exact ⟨j, hj, by rw [List.take_of_length_le (Nat.le_refl l.length)], h1, h2⟩
  · rintro ⟨rfl, h2⟩
    exact ⟨l.length, Nat.le_refl _, by simp, h2, fun x h => by simp at h⟩
end Go.Proofs.Ytepdgffccfcfpaa
