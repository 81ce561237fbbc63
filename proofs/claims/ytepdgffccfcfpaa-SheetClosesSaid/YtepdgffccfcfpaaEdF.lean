/- Edges laid at their numbers. -/
import Derived.Test.YtepdgffccfcfpaaEdPure
namespace Go.Proofs.Ytepdgffccfcfpaa
open Go.RowKit

structure E4 where
  fr : Int
  out : Int
  to : Int
  inn : Int
deriving DecidableEq
def El.e4 (x : El) : E4 := ⟨x.fr, x.out, x.to, x.inn⟩
def e40 : E4 := ⟨0, 0, 0, 0⟩
/-- Each edge at its number. -/
def outF (l : List El) : Nat → E4 := l.foldl (fun g x => updF g x.idx.toNat x.e4) (fun _ => e40)
theorem outF_snoc (l : List El) (x : El) : outF (l ++ [x]) = updF (outF l) x.idx.toNat x.e4 := by unfold outF; rw [List.foldl_append]; rfl
def fCell (g : Nat → E4) (j : Nat) : Value := if j % 4 = 0 then .int .i64 (g (j / 4)).fr else if j % 4 = 1 then .int .i64 (g (j / 4)).out else if j % 4 = 2 then .int .i64 (g (j / 4)).to else .int .i64 (g (j / 4)).inn
def fCells (m : Nat) (g : Nat → E4) : Array Value := ((List.range (m * 4)).map (fCell g)).toArray
/-- Block R holds m edges, with their ends. -/
def FB (w : World) (R m : Nat) (g : Nat → E4) : Prop := w.heap[R]? = some (.cells (fCells m g) 46 (0, 0))
section
variable {w w' : World} {R m : Nat} {g : Nat → E4}
theorem FB.lt (e : FB w R m g) : R < w.heap.size := lt_of_block e
theorem FB.free (e : FB w R m g) (j : Nat) : w.frozen? ⟨R, j, none⟩ = false := frozen_of_row _ _ j _ _ e
theorem FB.at_ (e : FB w R m g) {p : Nat} (hp : p < m) : w.cell? ⟨R, p * 4, none⟩ = some (.int .i64 (g p).fr) ∧ w.cell? ⟨R, p * 4 + 1, none⟩ = some (.int .i64 (g p).out) ∧ w.cell? ⟨R, p * 4 + 2, none⟩ = some (.int .i64 (g p).to) ∧ w.cell? ⟨R, p * 4 + 3, none⟩ = some (.int .i64 (g p).inn) := by
  have key : ∀ j, j < m * 4 → w.cell? ⟨R, j, none⟩ = some (fCell g j) := fun j hj => by
    rw [cell_of_row w R j _ _ _ e]; simp [fCells, hj]
  refine ⟨?_, ?_, ?_, ?_⟩
  · rw [key _ (by omega)]; unfold fCell; rw [if_pos (by omega), show p * 4 / 4 = p by omega]
  · rw [key _ (by omega)]; unfold fCell; rw [if_neg (by omega), if_pos (by omega), show (p * 4 + 1) / 4 = p by omega]
  · rw [key _ (by omega)]; unfold fCell; rw [if_neg (by omega), if_neg (by omega), if_pos (by omega), show (p * 4 + 2) / 4 = p by omega]
  · rw [key _ (by omega)]; unfold fCell; rw [if_neg (by omega), if_neg (by omega), if_neg (by omega), show (p * 4 + 3) / 4 = p by omega]
theorem FB.put (e : FB w R m g) (p : Nat) (x : E4) : FB ((((w.setCell ⟨R, p * 4, none⟩ (.int .i64 x.fr)).setCell ⟨R, p * 4 + 1, none⟩ (.int .i64 x.out)).setCell ⟨R, p * 4 + 2, none⟩ (.int .i64 x.to)).setCell ⟨R, p * 4 + 3, none⟩ (.int .i64 x.inn)) R m (updF g p x) := by
  have h1 := heap_setCell_same w R (p * 4) _ _ (.int .i64 x.fr) e
  have h2 := heap_setCell_same _ R (p * 4 + 1) _ _ (.int .i64 x.out) h1
  have h3 := heap_setCell_same _ R (p * 4 + 2) _ _ (.int .i64 x.to) h2
  have h4 := heap_setCell_same _ R (p * 4 + 3) _ _ (.int .i64 x.inn) h3
  refine Eq.trans h4 ?_
  clear h1 h2 h3 h4 e
  congr 2
  apply Array.ext'
  simp only [fCells, Array.toList_setIfInBounds]
  apply List.ext_getElem
  · simp
  · intro j h1 h2
    rw [List.getElem_set, List.getElem_set, List.getElem_set, List.getElem_set]
    simp only [List.getElem_map, List.getElem_range]
    unfold fCell updF
    by_cases c3 : p * 4 + 3 = j
    · subst c3; rw [if_pos rfl, if_neg (by omega), if_neg (by omega), if_neg (by omega), if_pos (by omega)]
    · rw [if_neg c3]
      by_cases c2 : p * 4 + 2 = j
      · subst c2; rw [if_pos rfl, if_neg (by omega), if_neg (by omega), if_pos (by omega), if_pos (by omega)]
      · rw [if_neg c2]
        by_cases c1 : p * 4 + 1 = j
        · subst c1; rw [if_pos rfl, if_neg (by omega), if_pos (by omega), if_pos (by omega)]
        · rw [if_neg c1]
          by_cases c0 : p * 4 = j
          · subst c0; rw [if_pos rfl, if_pos (by omega), if_pos (by omega)]
          · rw [if_neg c0, if_neg (show ¬ j / 4 = p by omega)]
theorem fCells_zero (m : Nat) : madeCells #[Value.int .i64 0, .int .i64 0, .int .i64 0, .int .i64 0] (m * 4) = fCells m (fun _ => e40) := by
  rw [eCells_zero]
  unfold eCells fCells
  refine congrArg List.toArray (List.map_congr_left fun j _ => ?_)
  unfold eCell fCell e40
  simp only
  split
  · rfl
  · split
    · rfl
    · split <;> rfl
end
/-- The numbers of the edges in the line. -/
def IdxB (P N : Nat) (s : Ln) : Prop := ∀ p, p < P → 0 ≤ s.idx p ∧ s.idx p < N
theorem IdxB.step {P N : Nat} {s : Ln} (h : IdxB P N s) (k q side : Nat) (hk : P + 2 * k + side < N) : IdxB P N (eStep P s k q side) := fun p hp => by
  unfold eStep Ln.put updF
  simp only
  split
  · omega
  · exact h p hp
theorem idx_work {P n N : Nat} (pls : Nat → Nat) (hN : P + 2 * n ≤ N) : ∀ k, k ≤ n → IdxB P N (eWork P pls k)
  | 0, _ => fun p hp => by unfold eWork ln0; simp only; omega
  | k + 1, hk => by
    have ih := idx_work pls hN k (by omega)
    exact (ih.step k _ 0 (by omega)).step k _ 1 (by omega)
theorem idx_all {P n : Nat} (pls : Nat → Nat) (hpl : ∀ k, k < n → pls k + 2 ≤ P) : ∀ x ∈ eAll P pls n, 0 ≤ x.idx ∧ x.idx < (P + 2 * n : Nat) := by
  have hl : ∀ k, k ≤ n → ∀ x ∈ eList P pls k, 0 ≤ x.idx ∧ x.idx < (P + 2 * n : Nat) := by
    intro k
    induction k with
    | zero => intro _ x hx; cases hx
    | succ k ih =>
      intro hk x hx
      have h1 := idx_work pls (show P + 2 * n ≤ P + 2 * n by omega) k (by omega)
      have h2 := h1.step k (pls k + 0) 0 (by omega)
      have hp := hpl k (by omega)
      rw [eList, sdL, sdL, sdL] at hx
      rcases List.mem_append.1 hx with hx | hx
      · rcases List.mem_append.1 hx with hx | hx
        · exact ih (by omega) x hx
        · rw [List.mem_singleton.1 hx]
          exact h1 (pls k + 0) (by omega)
      · rw [List.mem_singleton.1 hx]
        exact h2 (pls k + 1) (by omega)
  intro x hx
  rcases List.mem_append.1 hx with hx | hx
  · exact hl n (Nat.le_refl _) x hx
  · obtain ⟨p, hp, rfl⟩ := List.mem_map.1 hx
    exact idx_work pls (Nat.le_refl _) n (Nat.le_refl _) p (List.mem_range.1 hp)
end Go.Proofs.Ytepdgffccfcfpaa
