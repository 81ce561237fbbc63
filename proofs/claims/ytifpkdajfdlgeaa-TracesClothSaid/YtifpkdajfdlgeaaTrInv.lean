/- Pairs in the wrong order: each exchange makes them one fewer. -/
import Derived.Test.YtifpkdajfdlgeaaTrPerm
namespace Go.Proofs.Ytifpkdajfdlgeaa

/-- How many pairs stand in the wrong order. -/
def inv : List Int → Nat
  | [] => 0
  | x :: t => t.countP (fun y => decide (y < x)) + inv t
theorem inv_snoc (x : Int) : ∀ l : List Int, inv (l ++ [x]) = inv l + l.countP (fun y => decide (x < y))
  | [] => by simp [inv]
  | y :: l => by
    have ih := inv_snoc x l
    rw [List.cons_append, inv, ih, inv, List.countP_append, List.countP_cons, List.countP_cons, List.countP_nil]
    split <;> omega
theorem inv_swap {a b : Int} (h : b < a) (post : List Int) : ∀ pre : List Int, inv (pre ++ a :: b :: post) = inv (pre ++ b :: a :: post) + 1
  | [] => by
    simp only [List.nil_append, inv, List.countP_cons]
    rw [decide_eq_true h, decide_eq_false (show ¬ a < b by omega)]
    simp
    omega
  | x :: pre => by
    have ih := inv_swap h post pre
    rw [List.cons_append, List.cons_append, inv, inv, ih]
    have hp : (pre ++ a :: b :: post).Perm (pre ++ b :: a :: post) := List.Perm.append_left pre (List.Perm.swap b a post)
    rw [hp.countP_eq]
    omega
theorem inv_split {α : Type} (l : List α) {p : Nat} (h : p + 1 < l.length) : l = l.take p ++ l[p] :: l[p + 1] :: l.drop (p + 2) := by
  rw [← List.drop_eq_getElem_cons (by omega), ← List.drop_eq_getElem_cons (by omega), List.take_append_drop]
theorem inv_set {α : Type} (a b : α) (post : List α) : ∀ (pre : List α), ((pre ++ a :: b :: post).set pre.length b).set (pre.length + 1) a = pre ++ b :: a :: post
  | [] => rfl
  | x :: pre => by simp
theorem sw_split (t : List Int) {p : Nat} (h : p + 1 < t.length) : sw t p = t.take p ++ t[p + 1] :: t[p] :: t.drop (p + 2) := by
  have h3 := inv_set t[p] t[p + 1] (t.drop (p + 2)) (t.take p)
  rw [List.length_take, Nat.min_eq_left (by omega), ← inv_split t h] at h3
  rw [← h3]
  unfold sw
  simp [List.getD_eq_getElem?_getD, h, show p < t.length by omega]
theorem inv_sw {t : List Int} {p : Nat} (h : invB t p = true) : inv t = inv (sw t p) + 1 := by
  have hp := inv_lt h
  rw [sw_split t hp]
  have h2 := inv_split t hp
  have hlt : t[p + 1] < t[p] := by
    unfold invB at h
    simp [List.getD_eq_getElem?_getD, hp, show p < t.length by omega] at h
    exact h
  have h3 := inv_swap hlt (t.drop (p + 2)) (t.take p)
  rw [← h2] at h3
  exact h3
theorem adj_cons {x : Int} {t : List Int} (h : ∀ k, k < (x :: t).length → invB (x :: t) k = false) : ∀ k, k < t.length → invB t k = false := by
  intro k hk
  have := h (k + 1) (by simp; omega)
  unfold invB at this ⊢
  simpa using this
theorem adj_le : ∀ (t : List Int) (x : Int), (∀ k, k < (x :: t).length → invB (x :: t) k = false) → ∀ y ∈ t, x ≤ y
  | [], _, _, _, hy => by cases hy
  | z :: t, x, h, y, hy => by
    have h0 := h 0 (by simp)
    unfold invB at h0
    simp at h0
    rcases List.mem_cons.1 hy with rfl | hy
    · exact h0
    · exact Int.le_trans h0 (adj_le t z (adj_cons h) y hy)
theorem inv_sorted : ∀ t : List Int, (∀ k, k < t.length → invB t k = false) → inv t = 0
  | [], _ => rfl
  | x :: t, h => by
    rw [inv, inv_sorted t (adj_cons h), Nat.add_zero, List.countP_eq_zero]
    intro y hy
    have := adj_le t x h y hy
    simp
    omega
/-- The exchanges that were made, one after the other, until there is nothing left to do. -/
def Ch : List Int → List Int → Prop
  | t, [] => ∀ k, k < t.length → invB t k = false
  | t, x :: out => ∃ p : Nat, x = p ∧ invB t p = true ∧ Ch (sw t p) out
theorem bub_ok : ∀ (f : Nat) (t : List Int), inv t ≤ f → ∃ out, bub f t = some out ∧ out.length = inv t ∧ Ch t out := by
  intro f
  induction f with
  | zero =>
    intro t h
    have hn : ∀ k, k < t.length → invB t k = false := fun k _ => by
      cases hk : invB t k with
      | false => rfl
      | true => have := inv_sw hk; omega
    exact ⟨[], bub_done 0 hn, by simp; omega, hn⟩
  | succ f ih =>
    intro t h
    by_cases hn : ∀ k, k < t.length → invB t k = false
    · exact ⟨[], bub_done _ hn, (inv_sorted t hn).symm, hn⟩
    · obtain ⟨k, hk⟩ : ∃ k, invB t k = true := by
        apply Classical.byContradiction
        intro hc
        apply hn
        intro k _
        cases hk : invB t k with
        | false => rfl
        | true => exact absurd ⟨k, hk⟩ hc
      obtain ⟨m, _, hm, hf⟩ := least_true (invB t) k hk
      have h1 := inv_sw hm
      obtain ⟨out, h2, h3, h4⟩ := ih (sw t m) (by omega)
      exact ⟨(m : Int) :: out, by rw [bub_step f hm hf, h2]; rfl, by simp; omega, ⟨m, rfl, hm, h4⟩⟩
/-- At most so many pairs. -/
def tri : Nat → Nat
  | 0 => 0
  | n + 1 => n + tri n
theorem inv_tri : ∀ t : List Int, inv t ≤ tri t.length
  | [] => Nat.le_refl _
  | x :: t => by
    have h1 := inv_tri t
    have h2 := List.countP_le_length (p := fun y => decide (y < x)) (l := t)
    rw [inv, List.length_cons, tri]
    omega
theorem tri_mono : ∀ {n m : Nat}, n ≤ m → tri n ≤ tri m := by
  intro n m h
  induction m with
  | zero => obtain rfl : n = 0 := by omega
            exact Nat.le_refl _
  | succ m ih =>
    rcases Nat.lt_or_ge m n with h1 | h1
    · obtain rfl : n = m + 1 := by omega
      exact Nat.le_refl _
    · have := ih h1
      rw [tri]; omega
theorem tri_80 : tri 80 = 3160 := by decide
end Go.Proofs.Ytifpkdajfdlgeaa
