/- What is before a work: through the last works in its places, or through all that touch it. -/
import Derived.Test.YtepdgffccfcfpaaEarlier
namespace Go.Proofs.Ytepdgffccfcfpaa

/-- Do two works touch, by their places? -/
def tP (a b : Nat) : Bool := decide (a ≤ b + 1 ∧ b ≤ a + 1)
/-- Is a before k? -/
inductive Bef (pls : Nat → Nat) : Nat → Nat → Prop
  | one {a k : Nat} (h : a < k) (t : tP (pls a) (pls k) = true) : Bef pls a k
  | step {a j k : Nat} (h : Bef pls a j) (hj : j < k) (t : tP (pls j) (pls k) = true) : Bef pls a k
theorem Bef.lt {pls : Nat → Nat} {a k : Nat} (h : Bef pls a k) : a < k := by
  induction h with
  | one h _ => exact h
  | step _ hj _ ih => omega
theorem Bef.trans {pls : Nat → Nat} {a b c : Nat} (h : Bef pls a b) (k : Bef pls b c) : Bef pls a c := by
  induction k with
  | one hj t => exact .step h hj t
  | step _ hj t ih => exact .step ih hj t
/-- Does the work take the place? -/
def tk (pls : Nat → Nat) (j q : Nat) : Prop := pls j = q ∨ pls j + 1 = q
theorem tk_touch {pls : Nat → Nat} {a b q : Nat} (h : tk pls a q) (k : tk pls b q) : tP (pls a) (pls b) = true := by
  unfold tk at h k; unfold tP; rw [decide_eq_true_eq]; omega
theorem touch_tk {pls : Nat → Nat} {a b : Nat} (h : tP (pls a) (pls b) = true) : tk pls a (pls b) ∨ tk pls a (pls b + 1) := by
  unfold tP at h; rw [decide_eq_true_eq] at h; unfold tk; omega
/-- The last work before k that takes the place, or -1. -/
def LastAt (pls : Nat → Nat) (k q : Nat) (f : Int) : Prop := (f = -1 ∧ ∀ j, j < k → ¬ tk pls j q) ∨ ∃ m : Nat, f = m ∧ m < k ∧ tk pls m q ∧ ∀ j, j < k → tk pls j q → j ≤ m
theorem LastAt.next {pls : Nat → Nat} {k q : Nat} {f : Int} (h : LastAt pls k q f) (hn : ¬ tk pls k q) : LastAt pls (k + 1) q f := by
  rcases h with ⟨h1, h2⟩ | ⟨m, h1, h2, h3, h4⟩
  · exact .inl ⟨h1, fun j hj ht => by
      rcases Nat.lt_or_ge j k with g | g
      · exact h2 j g ht
      · obtain rfl : j = k := by omega
        exact hn ht⟩
  · exact .inr ⟨m, h1, by omega, h3, fun j hj ht => by
      rcases Nat.lt_or_ge j k with g | g
      · exact h4 j g ht
      · obtain rfl : j = k := by omega
        exact absurd ht hn⟩
theorem LastAt.now {pls : Nat → Nat} {k q : Nat} (ht : tk pls k q) : LastAt pls (k + 1) q (k : Int) := .inr ⟨k, rfl, by omega, ht, fun j hj _ => by omega⟩
theorem fr_last {P : Nat} (pls : Nat → Nat) : ∀ k q, LastAt pls k q ((eWork P pls k).fr q)
  | 0, q => .inl ⟨rfl, fun j hj => by omega⟩
  | k + 1, q => by
    have ih := fr_last (P := P) pls k q
    show LastAt pls (k + 1) q (updF (updF (eWork P pls k).fr (pls k + 0) k) (pls k + 1) k q)
    unfold updF
    by_cases h1 : q = pls k + 1
    · rw [if_pos h1]; exact LastAt.now (.inr h1.symm)
    · rw [if_neg h1]
      by_cases h2 : q = pls k + 0
      · rw [if_pos h2]; exact LastAt.now (.inl (by omega))
      · rw [if_neg h2]; exact ih.next (by unfold tk; omega)
theorem fr_one {P : Nat} (pls : Nat → Nat) (k : Nat) : (sdS P (pls k) k (eWork P pls k) 1).fr (pls k + 1) = (eWork P pls k).fr (pls k + 1) := by
  show updF (eWork P pls k).fr (pls k + 0) k (pls k + 1) = _
  unfold updF; rw [if_neg (by omega)]
/-- What the sets say of the works before n. -/
def SetsOk (pls : Nat → Nat) (n : Nat) (F : Nat → Nat) : Prop := (∀ b, b < n → ∀ a, (F b).testBit a = true ↔ Bef pls a b) ∧ ∀ b, n ≤ b → F b = 0
/-- What one end puts into a set. -/
theorem ea_side {F : Nat → Nat} {x : El} {k : Nat} (hto : x.to = k) :
    (∀ b, b ≠ k → eaStep F x b = F b) ∧ ∀ a, (eaStep F x k).testBit a = true ↔ (F k).testBit a = true ∨ ∃ m : Nat, x.fr = m ∧ (a = m ∨ (F m).testBit a = true) := by
  unfold eaStep
  by_cases h : 0 ≤ x.fr
  · obtain ⟨m, hm⟩ := Int.eq_ofNat_of_zero_le h
    rw [if_pos ⟨h, by omega⟩, hto, hm, Int.toNat_natCast, Int.toNat_natCast]
    refine ⟨fun b hb => by unfold updS; rw [if_neg hb], fun a => ?_⟩
    unfold updS
    rw [if_pos rfl, Nat.testBit_or, Nat.testBit_or, Nat.testBit_two_pow]
    simp only [Bool.or_eq_true, decide_eq_true_eq]
    constructor
    · rintro ((h | h) | h)
      · exact .inl h
      · exact .inr ⟨m, rfl, .inl h.symm⟩
      · exact .inr ⟨m, rfl, .inr h⟩
    · rintro (h | ⟨m', h1, h | h⟩)
      · exact .inl (.inl h)
      · have : m = m' := by omega
        subst this
        exact .inl (.inr h.symm)
      · have : m = m' := by omega
        subst this
        exact .inr h
  · rw [if_neg (fun e => h e.1)]
    refine ⟨fun b _ => rfl, fun a => ⟨.inl, ?_⟩⟩
    rintro (h2 | ⟨m, h1, _⟩)
    · exact h2
    · omega
theorem sets_ok {P : Nat} (pls : Nat → Nat) : ∀ k, SetsOk pls k (eaF (eList P pls k))
  | 0 => ⟨fun b hb => by omega, fun _ _ => rfl⟩
  | k + 1 => by
    obtain ⟨ih1, ih2⟩ := sets_ok (P := P) pls k
    have hl : eList P pls (k + 1) = (eList P pls k ++ [(eWork P pls k).el (pls k + 0) k 0]) ++ [(sdS P (pls k) k (eWork P pls k) 1).el (pls k + 1) k 1] := rfl
    rw [hl, eaF_snoc, eaF_snoc]
    have f0 := fr_last (P := P) pls k (pls k + 0)
    have f1 := fr_last (P := P) pls k (pls k + 1)
    obtain ⟨a1, a2⟩ := ea_side (F := eaF (eList P pls k)) (x := (eWork P pls k).el (pls k + 0) k 0) (k := k) rfl
    generalize hF : eaF (eList P pls k) = F at *
    generalize hG : eaStep F ((eWork P pls k).el (pls k + 0) k 0) = G at *
    obtain ⟨b1, b2⟩ := ea_side (F := G) (x := (sdS P (pls k) k (eWork P pls k) 1).el (pls k + 1) k 1) (k := k) rfl
    have e1 : ((sdS P (pls k) k (eWork P pls k) 1).el (pls k + 1) k 1).fr = (eWork P pls k).fr (pls k + 1) := fr_one pls k
    rw [e1] at b2
    have e0 : ((eWork P pls k).el (pls k + 0) k 0).fr = (eWork P pls k).fr (pls k + 0) := rfl
    rw [e0] at a2
    -- through the last work of a place
    have key : ∀ (q : Nat) (f : Int), LastAt pls k q f → tk pls k q → ∀ a, (∃ m : Nat, f = m ∧ (a = m ∨ (F m).testBit a = true)) ↔ ∃ j, j < k ∧ tk pls j q ∧ (a = j ∨ Bef pls a j) := by
      intro q f hf hq a
      rcases hf with ⟨h1, h2⟩ | ⟨m, h1, h2, h3, h4⟩
      · constructor
        · rintro ⟨m, h, _⟩; omega
        · rintro ⟨j, hj, ht, _⟩; exact absurd ht (h2 j hj)
      · constructor
        · rintro ⟨m', h, h5⟩
          have : m = m' := by omega
          subst this
          exact ⟨m, h2, h3, h5.imp_right fun h => (ih1 m h2 a).1 h⟩
        · rintro ⟨j, hj, ht, h5⟩
          refine ⟨m, h1, ?_⟩
          rcases Nat.lt_or_ge j m with g | g
          · right
            rw [ih1 m h2]
            have hjm : Bef pls j m := .one g (tk_touch ht h3)
            rcases h5 with rfl | h5
            · exact hjm
            · exact h5.trans hjm
          · have := h4 j hj ht
            obtain rfl : j = m := by omega
            exact h5.imp_right fun h => (ih1 j h2 a).2 h
    have q0 : tk pls k (pls k + 0) := .inl rfl
    have q1 : tk pls k (pls k + 1) := .inr rfl
    refine ⟨fun b hb a => ?_, fun b hb => ?_⟩
    · by_cases hbk : b = k
      · subst hbk
        have hGm : ∀ m : Nat, (eWork P pls b).fr (pls b + 1) = m → G m = F m := fun m hm => a1 m (fun e => by have := fr_work (P := P) (n := b) pls b (Nat.le_refl _) (pls b + 1); omega)
        rw [b2, a2, ih2 b (Nat.le_refl _), key _ _ f0 q0]
        have : (∃ m : Nat, (eWork P pls b).fr (pls b + 1) = m ∧ (a = m ∨ (G m).testBit a = true)) ↔ ∃ m : Nat, (eWork P pls b).fr (pls b + 1) = m ∧ (a = m ∨ (F m).testBit a = true) := by
          constructor
          · rintro ⟨m, h1, h2⟩; rw [hGm m h1] at h2; exact ⟨m, h1, h2⟩
          · rintro ⟨m, h1, h2⟩; rw [← hGm m h1] at h2; exact ⟨m, h1, h2⟩
        rw [this, key _ _ f1 q1]
        simp only [Nat.zero_testBit, Bool.false_eq_true, false_or]
        constructor
        · rintro (⟨j, hj, ht, h⟩ | ⟨j, hj, ht, h⟩)
          · rcases h with rfl | h
            · exact .one hj (tk_touch ht q0)
            · exact .step h hj (tk_touch ht q0)
          · rcases h with rfl | h
            · exact .one hj (tk_touch ht q1)
            · exact .step h hj (tk_touch ht q1)
        · intro h
          cases h with
          | one hj t =>
            rcases touch_tk t with g | g
            · exact .inl ⟨a, hj, g, .inl rfl⟩
            · exact .inr ⟨a, hj, g, .inl rfl⟩
          | step h hj t =>
            rcases touch_tk t with g | g
            · exact .inl ⟨_, hj, g, .inr h⟩
            · exact .inr ⟨_, hj, g, .inr h⟩
      · rw [b1 b hbk, a1 b hbk]
        exact ih1 b (by omega) a
    · rw [b1 b (by omega), a1 b (by omega)]
      exact ih2 b (by omega)
/-- The ends at the bottom put nothing. -/
theorem ea_ends {F : Nat → Nat} (s : Ln) : ∀ j, (eEnds s j).foldl eaStep F = F
  | 0 => rfl
  | j + 1 => by
    rw [eEnds_succ, List.foldl_append, ea_ends s j]
    show eaStep F (s.el j (-1) j) = F
    unfold eaStep
    rw [if_neg (fun h => by have := h.2; simp [Ln.el] at this)]
/-- What the program's sets say: what is before each work. -/
theorem eaF_bef {P n : Nat} (pls : Nat → Nat) {b : Nat} (hb : b < n) (a : Nat) : (eaF (eAll P pls n) b).testBit a = true ↔ Bef pls a b := by
  have : eaF (eAll P pls n) = eaF (eList P pls n) := by
    unfold eaF eAll
    rw [List.foldl_append, ea_ends]
  rw [this]
  exact (sets_ok pls n).1 b hb a
end Go.Proofs.Ytepdgffccfcfpaa
