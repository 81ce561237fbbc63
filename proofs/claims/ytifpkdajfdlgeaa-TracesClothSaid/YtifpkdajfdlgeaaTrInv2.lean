/- A permutation has as many pairs in the wrong order as its inverse. -/
import Derived.Test.YtifpkdajfdlgeaaTrInv
namespace Go.Proofs.Ytifpkdajfdlgeaa

/-- Pairs of places that f puts in one order and g in the other. -/
def dbl (n : Nat) (F : Nat → Nat → Nat) : Nat := ((List.range n).map fun a => ((List.range n).map fun b => F a b).sum).sum
theorem sum_add (f g : Nat → Nat) : ∀ l : List Nat, (l.map fun a => f a + g a).sum = (l.map f).sum + (l.map g).sum
  | [] => rfl
  | a :: l => by
    have ih := sum_add f g l
    simp only [List.map_cons, List.sum_cons]
    omega
theorem sum_zero : ∀ l : List Nat, (l.map fun _ => (0 : Nat)).sum = 0
  | [] => rfl
  | a :: l => by rw [List.map_cons, List.sum_cons, sum_zero l]
theorem sum_comm (F : Nat → Nat → Nat) (m : List Nat) : ∀ l : List Nat, (l.map fun a => (m.map fun b => F a b).sum).sum = (m.map fun b => (l.map fun a => F a b).sum).sum
  | [] => by simpa using (sum_zero m).symm
  | a :: l => by
    have ih := sum_comm F m l
    simp only [List.map_cons, List.sum_cons]
    rw [ih, sum_add (fun b => F a b) (fun b => (l.map fun a => F a b).sum) m]
theorem dbl_comm (n : Nat) (F : Nat → Nat → Nat) : dbl n F = dbl n fun a b => F b a := sum_comm F _ _
/-- A permutation of the places. -/
theorem perm_range {n : Nat} {l : List Nat} (hn : l.Nodup) (hb : ∀ x ∈ l, x < n) (ha : ∀ i, i < n → i ∈ l) : l.Perm (List.range n) := by
  rw [List.perm_iff_count]
  intro a
  rw [hn.count, List.nodup_range.count]
  by_cases h : a < n
  · rw [if_pos (ha a h), if_pos (List.mem_range.2 h)]
  · rw [if_neg (fun h2 => h (hb a h2)), if_neg (fun h2 => h (List.mem_range.1 h2))]
theorem dbl_perm {n : Nat} {s : Nat → Nat} (h : ((List.range n).map s).Perm (List.range n)) (F : Nat → Nat → Nat) : dbl n (fun a b => F (s a) (s b)) = dbl n F := by
  unfold dbl
  have h1 : ∀ a, ((List.range n).map fun b => F a (s b)).sum = ((List.range n).map fun b => F a b).sum := fun a => by
    have := (h.map (F a)).sum_nat
    rw [List.map_map] at this
    exact this
  have h2 : ((List.range n).map fun a => ((List.range n).map fun b => F (s a) (s b)).sum).sum = ((List.range n).map fun a => ((List.range n).map fun b => F (s a) b).sum).sum := by
    congr 1
    exact List.map_congr_left fun a _ => h1 (s a)
  rw [h2]
  have := (h.map (fun a => ((List.range n).map fun b => F a b).sum)).sum_nat
  rw [List.map_map] at this
  exact this
/-- The pairs in the wrong order, as a sum. -/
theorem sum_range_snoc (f : Nat → Nat) (n : Nat) : ((List.range (n + 1)).map f).sum = ((List.range n).map f).sum + f n := by
  rw [List.range_succ, List.map_append, List.sum_append]; simp
theorem countP_sum (x : Int) (l : List Int) : ∀ k, k ≤ l.length → (l.take k).countP (fun y => decide (x < y)) = ((List.range k).map fun j => if x < l.getD j 0 then 1 else 0).sum
  | 0, _ => by simp
  | k + 1, h => by
    have ih := countP_sum x l k (by omega)
    rw [sum_range_snoc, ← ih, List.take_succ_eq_append_getElem h, List.countP_append, List.countP_cons, List.countP_nil]
    have e : l.getD k 0 = l[k] := by simp [List.getD_eq_getElem?_getD, show k < l.length by omega]
    rw [e]
    simp
theorem inv_sum (l : List Int) : ∀ k, k ≤ l.length → inv (l.take k) = ((List.range k).map fun i => ((List.range i).map fun j => if l.getD i 0 < l.getD j 0 then 1 else 0).sum).sum
  | 0, _ => by simp [inv]
  | k + 1, h => by
    have ih := inv_sum l k (by omega)
    have e : l.getD k 0 = l[k] := by simp [List.getD_eq_getElem?_getD, show k < l.length by omega]
    rw [sum_range_snoc, ← ih, List.take_succ_eq_append_getElem h, inv_snoc, ← e, countP_sum _ l k (by omega)]
theorem sum_below (g : Nat → Nat) (i : Nat) : ∀ n, i ≤ n → ((List.range n).map fun k => if k < i then g k else 0).sum = ((List.range i).map g).sum := by
  intro n h
  induction n with
  | zero => obtain rfl : i = 0 := by omega
            rfl
  | succ n ih =>
    rcases Nat.lt_or_ge n i with h1 | h1
    · obtain rfl : i = n + 1 := by omega
      congr 1
      exact List.map_congr_left fun k hk => if_pos (List.mem_range.1 hk)
    · rw [sum_range_snoc, ih (by omega), if_neg (by omega), Nat.add_zero]
theorem dbl_congr {n : Nat} {F G : Nat → Nat → Nat} (h : ∀ a b, a < n → b < n → F a b = G a b) : dbl n F = dbl n G := by
  unfold dbl
  congr 1
  refine List.map_congr_left fun a ha => ?_
  congr 1
  exact List.map_congr_left fun b hb => h a b (List.mem_range.1 ha) (List.mem_range.1 hb)
theorem inv_dbl (l : List Int) : inv l = dbl l.length fun i k => if k < i ∧ l.getD i 0 < l.getD k 0 then 1 else 0 := by
  have h := inv_sum l l.length (Nat.le_refl _)
  rw [List.take_length] at h
  rw [h]
  unfold dbl
  congr 1
  refine List.map_congr_left fun i hi => ?_
  rw [← sum_below _ i l.length (by have := List.mem_range.1 hi; omega)]
  congr 1
  refine List.map_congr_left fun k _ => ?_
  show _ = if k < i ∧ l.getD i 0 < l.getD k 0 then 1 else 0
  by_cases h1 : k < i
  · by_cases h2 : l.getD i 0 < l.getD k 0
    · rw [if_pos h1, if_pos h2, if_pos ⟨h1, h2⟩]
    · rw [if_pos h1, if_neg h2, if_neg (fun h => h2 h.2)]
  · rw [if_neg h1, if_neg (fun h => h1 h.1)]
theorem inv_toK {l : List Int} (h : PermL l) : inv (toK l l.length) = inv l := by
  have hat : ∀ i, i < l.length → ∃ k : Nat, l.getD i 0 = k ∧ k < l.length := fun i hi => by
    obtain ⟨k, h1, h2⟩ := h.at_ hi
    exact ⟨k, by rw [← h1]; simp [List.getD_eq_getElem?_getD, hi], h2⟩
  have hto : ∀ i, i < l.length → (toK l l.length).getD (l.getD i 0).toNat 0 = i := fun i hi => toK_at h l.length i (Nat.le_refl _) hi
  have hmem : ∀ k, k < l.length → ∃ i, i < l.length ∧ (l.getD i 0).toNat = k := fun k hk => by
    obtain ⟨i, hi, he⟩ := List.getElem_of_mem (h.all hk)
    exact ⟨i, hi, by rw [List.getD_eq_getElem?_getD, List.getElem?_eq_getElem hi, Option.getD_some, he]; rfl⟩
  have hp : ((List.range l.length).map fun i => (l.getD i 0).toNat).Perm (List.range l.length) := by
    refine perm_range ?_ (fun x hx => ?_) (fun k hk => ?_)
    · refine List.pairwise_map.2 ?_
      refine List.Pairwise.imp_of_mem ?_ List.nodup_range
      intro a b ha hb hab he
      have h1 := hto a (List.mem_range.1 ha)
      have h2 := hto b (List.mem_range.1 hb)
      rw [he, h2] at h1
      exact hab (by omega)
    · obtain ⟨i, hi, rfl⟩ := List.mem_map.1 hx
      obtain ⟨k, h1, h2⟩ := hat i (List.mem_range.1 hi)
      show (l.getD i 0).toNat < _
      rw [h1]; simpa using h2
    · obtain ⟨i, hi, he⟩ := hmem k hk
      exact List.mem_map.2 ⟨i, List.mem_range.2 hi, he⟩
  rw [inv_dbl, inv_dbl l, toK_length]
  have h3 := dbl_perm hp (fun a b => if (toK l l.length).getD b 0 < (toK l l.length).getD a 0 ∧ a < b then 1 else 0)
  refine (dbl_comm _ _).trans (Eq.trans (dbl_congr fun a b _ _ => ?_) (h3.symm.trans (dbl_congr fun a b ha hb => ?_)))
  · show (if a < b ∧ (toK l l.length).getD b 0 < (toK l l.length).getD a 0 then 1 else 0) = _
    simp only [And.comm]
  · obtain ⟨x, h4, _⟩ := hat a ha
    obtain ⟨y, h5, _⟩ := hat b hb
    simp only [hto a ha, hto b hb]
    rw [h4, h5]
    simp
end Go.Proofs.Ytifpkdajfdlgeaa
