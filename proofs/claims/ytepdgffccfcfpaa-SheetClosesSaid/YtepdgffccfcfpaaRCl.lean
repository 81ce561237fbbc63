/- Closed sets, ready works and Before, by the relation itself: plain. -/
import Derived.Test.YtepdgffccfcfpaaROrd
import Derived.Test.YtepdgffccfcfpaaSBefore
namespace Go.Proofs.Ytepdgffccfcfpaa
open Go.RowKit

theorem bitsL_go (b : Nat) : ∀ (l : List Int) (S : Nat), (l.foldl (fun S x => S ||| 2 ^ x.toNat) S).testBit b = true ↔ S.testBit b = true ∨ ∃ x ∈ l, x.toNat = b
  | [], S => by simp
  | x :: l, S => by
    rw [List.foldl_cons, bitsL_go b l, Nat.testBit_or, Bool.or_eq_true, Nat.testBit_two_pow, decide_eq_true_eq]
    constructor
    · rintro ((h | h) | ⟨y, hy, h⟩)
      · exact .inl h
      · exact .inr ⟨x, by simp, h⟩
      · exact .inr ⟨y, by simp [hy], h⟩
    · rintro (h | ⟨y, hy, h⟩)
      · exact .inl (.inl h)
      · rcases List.mem_cons.1 hy with e | e
        · subst e; exact .inl (.inr h)
        · exact .inr ⟨y, e, h⟩
theorem bitsL_bit (l : List Int) (b : Nat) : (bitsL l).testBit b = true ↔ ∃ x ∈ l, x.toNat = b := by
  unfold bitsL
  rw [bitsL_go]
  simp
theorem clo_iff {P : Nat} {ws : List GW} (hn : ws.length ≤ 400) {l : List Int} (ha : Asc ws.length l) : Clo (setsOf P ws) l ↔ ClS (plsOf ws) (bitsL l) := by
  have hin : ∀ x ∈ l, 0 ≤ x ∧ x < ws.length := fun x hx => by
    obtain ⟨i, hi, rfl⟩ := List.mem_iff_getElem.1 hx
    have := ha i hi
    unfold AscAt at this
    rw [show l.getD i 0 = l[i] by simp [List.getD_eq_getElem?_getD, hi]] at this
    exact ⟨this.1, this.2.1⟩
  constructor
  · intro h b hb a hab
    obtain ⟨x, hx, hxb⟩ := (bitsL_bit l b).1 hb
    obtain ⟨r1, r2⟩ := hin x hx
    obtain ⟨i, hi, rfl⟩ := List.mem_iff_getElem.1 hx
    have h1 := h i hi
    rw [show l.getD i 0 = l[i] by simp [List.getD_eq_getElem?_getD, hi], win_bef (by omega) hn, hxb] at h1
    exact h1 a hab
  · intro h i hi
    have hx := List.getElem_mem hi
    obtain ⟨r1, r2⟩ := hin _ hx
    rw [show l.getD i 0 = l[i] by simp [List.getD_eq_getElem?_getD, hi], win_bef (by omega) hn]
    exact h _ ((bitsL_bit l _).2 ⟨_, hx, rfl⟩)
theorem rdyB_iff {P : Nat} {ws : List GW} (hn : ws.length ≤ 400) {l : List Int} {i : Nat} (hi : i < ws.length) : rdyB P ws l i = true ↔ (bitsL l).testBit i = false ∧ ∀ a, Bef (plsOf ws) a i → (bitsL l).testBit a = true := by
  unfold rdyB
  rw [Bool.and_eq_true, win_bef hi hn]
  simp
theorem befB_iff {p a b : Int} {ws : List GW} (h : askErr p ws [a, b] = 0) : befB p ws a b = true ↔ Bef (plsOf ws) a.toNat b.toNat := by
  have hb : b.toNat < ws.length := by
    unfold askErr at h
    split at h
    · split at h
      · cases h
      · rename_i g
        simp [badI] at g
        omega
    · rename_i g; exact absurd h g
  unfold befB
  rw [h, Bool.and_eq_true, setsOf_bef hb]
  simp
end Go.Proofs.Ytepdgffccfcfpaa
