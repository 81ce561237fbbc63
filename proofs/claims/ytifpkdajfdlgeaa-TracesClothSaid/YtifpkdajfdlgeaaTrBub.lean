/- The exchanges of the first neighbours that stand in the wrong order, as a plain function. -/
import Derived.Test.YtifpkdajfdlgeaaBase
namespace Go.Proofs.Ytifpkdajfdlgeaa

def invB (t : List Int) (p : Nat) : Bool := decide (p + 1 < t.length ∧ t.getD (p + 1) 0 < t.getD p 0)
def fi (t : List Int) : Nat → Option Nat
  | 0 => none
  | n + 1 => match fi t n with | some p => some p | none => if invB t n = true then some n else none
theorem fi_none {t : List Int} : ∀ {n : Nat}, (∀ k, k < n → invB t k = false) → fi t n = none
  | 0, _ => rfl
  | n + 1, h => by rw [fi, fi_none fun k hk => h k (by omega)]; simp [h n (by omega)]
theorem fi_some {t : List Int} {p : Nat} (hp : invB t p = true) (hf : ∀ k, k < p → invB t k = false) : ∀ {n : Nat}, p < n → fi t n = some p
  | 0, h => by omega
  | n + 1, h => by
    rw [fi]
    rcases Nat.lt_or_ge p n with h1 | h1
    · rw [fi_some hp hf h1]
    · obtain rfl : p = n := by omega
      rw [fi_none hf]; simp [hp]
def sw (t : List Int) (p : Nat) : List Int := (t.set p (t.getD (p + 1) 0)).set (p + 1) (t.getD p 0)
def bub : Nat → List Int → Option (List Int)
  | 0, t => match fi t t.length with | none => some [] | some _ => none
  | f + 1, t => match fi t t.length with | none => some [] | some p => (bub f (sw t p)).map ((p : Int) :: ·)

theorem inv_lt {t : List Int} {p : Nat} (h : invB t p = true) : p + 1 < t.length := by unfold invB at h; simp at h; exact h.1
theorem bub_done {t : List Int} (f : Nat) (h : ∀ k, k < t.length → invB t k = false) : bub f t = some [] := by
  cases f <;> rw [bub, fi_none h]
theorem bub_full {t : List Int} {p : Nat} (hp : invB t p = true) (hf : ∀ k, k < p → invB t k = false) : bub 0 t = none := by
  rw [bub, fi_some hp hf (by have := inv_lt hp; omega)]
theorem bub_step {t : List Int} {p : Nat} (f : Nat) (hp : invB t p = true) (hf : ∀ k, k < p → invB t k = false) : bub (f + 1) t = (bub f (sw t p)).map ((p : Int) :: ·) := by
  rw [bub, fi_some hp hf (by have := inv_lt hp; omega)]
theorem sw_length (t : List Int) (p : Nat) : (sw t p).length = t.length := by simp [sw]
theorem sw_get (t : List Int) (p i : Nat) (hp : p + 1 < t.length) : (sw t p).getD i 0 = if i = p + 1 then t.getD p 0 else if i = p then t.getD (p + 1) 0 else t.getD i 0 := by
  unfold sw
  simp only [List.getD_eq_getElem?_getD, List.getElem?_set, List.length_set]
  by_cases h1 : i = p + 1
  · subst h1; simp [hp]
  · by_cases h2 : i = p
    · subst h2; simp [show i < t.length by omega]
    · simp [h1, h2, Ne.symm h1, Ne.symm h2]
theorem sw_first {t : List Int} {p : Nat} (hp : p + 1 < t.length) (hf : ∀ k, k < p → invB t k = false) : ∀ k, k < p - 1 → invB (sw t p) k = false := by
  intro k hk
  have := hf k (by omega)
  unfold invB at this ⊢
  rw [sw_length, sw_get t p _ hp, sw_get t p _ hp, if_neg (by omega), if_neg (by omega), if_neg (by omega), if_neg (by omega)]
  exact this
/-- No number stands twice. -/
def InjL (t : List Int) : Prop := ∀ i j, i < t.length → j < t.length → t.getD i 0 = t.getD j 0 → i = j
theorem InjL.sw {t : List Int} {p : Nat} (h : InjL t) (hp : p + 1 < t.length) : InjL (sw t p) := by
  intro i j hi hj he
  rw [sw_length] at hi hj
  have hs : ∀ k, (Go.Proofs.Ytifpkdajfdlgeaa.sw t p).getD k 0 = t.getD (if k = p + 1 then p else if k = p then p + 1 else k) 0 := fun k => by
    rw [sw_get t p k hp]; split
    · rfl
    · split <;> rfl
  rw [hs, hs] at he
  have hb : ∀ k, k < t.length → (if k = p + 1 then p else if k = p then p + 1 else k) < t.length := fun k hk => by split <;> (try split) <;> omega
  have := h _ _ (hb i hi) (hb j hj) he
  split at this <;> split at this <;> (try split at this) <;> (try split at this) <;> omega
theorem InjL.lt {t : List Int} {p : Nat} (h : InjL t) (hp : p + 1 < t.length) : invB t p = decide (t.getD (p + 1) 0 < t.getD p 0) ∧ (invB t p = false ↔ t.getD p 0 < t.getD (p + 1) 0) := by
  unfold invB
  have hne : t.getD p 0 ≠ t.getD (p + 1) 0 := fun he => by have := h p (p + 1) (by omega) hp he; omega
  constructor
  · rw [decide_eq_decide]; omega
  · rw [decide_eq_false_iff_not]; omega
end Go.Proofs.Ytifpkdajfdlgeaa
