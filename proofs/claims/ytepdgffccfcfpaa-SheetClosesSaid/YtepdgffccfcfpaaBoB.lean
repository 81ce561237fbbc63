/- A block of bools; a matrix of bools. -/
import Derived.Test.YtepdgffccfcfpaaApp1
namespace Go.Proofs.Ytepdgffccfcfpaa
open Go.RowKit

/-- Block R holds m bools. -/
def BoB (w : World) (R m : Nat) (g : Nat → Bool) : Prop := w.heap[R]? = some (.cells ((List.range m).map fun p => Value.bool (g p)).toArray 4 (0, 0))
section
variable {w w' : World} {R m : Nat} {g g' : Nat → Bool}
theorem BoB.lt (h : BoB w R m g) : R < w.heap.size := lt_of_block h
theorem BoB.at_ (h : BoB w R m g) {p : Nat} (hp : p < m) : w.cell? ⟨R, p, none⟩ = some (.bool (g p)) := by
  rw [cell_of_row w R p _ _ _ h]; simp [hp]
theorem BoB.free (h : BoB w R m g) (p : Nat) : w.frozen? ⟨R, p, none⟩ = false := frozen_of_row _ _ p _ _ h
theorem BoB.put (h : BoB w R m g) (p : Nat) (z : Bool) : BoB (w.setCell ⟨R, p, none⟩ (.bool z)) R m (fun q => if q = p then z else g q) := by
  refine Eq.trans (heap_setCell_same w R p _ _ (.bool z) h) ?_
  congr 2
  apply Array.ext'
  simp only [Array.toList_setIfInBounds]
  apply List.ext_getElem
  · simp
  · intro j h1 h2
    rw [List.getElem_set]
    simp only [List.getElem_map, List.getElem_range]
    by_cases c : p = j
    · subst c; simp
    · rw [if_neg c, if_neg (fun e => c e.symm)]
theorem BoB.congr (h : BoB w R m g) (he : ∀ p, p < m → g p = g' p) : BoB w R m g' := by
  unfold BoB at h ⊢
  rw [h]
  congr 3
  apply List.map_congr_left
  intro p hp
  rw [he p (List.mem_range.1 hp)]
theorem BoB.later (h : BoB w R m g) (hb : Below w.heap.size w w') : BoB w' R m g := (hb.block R h.lt).trans h
theorem BoB.kept (h : BoB w R m g) {row : Option Nat} (hg : w.grownBy w' row) (hne : some R ≠ row) : BoB w' R m g := (hg.block R h.lt hne).trans h
theorem BoB.other (h : BoB w R m g) {p : Addr} (hp : p.block ≠ R) (u : Value) : BoB (w.setCell p u) R m g := (heap_setCell_other w p R u (fun e => hp e.symm)).trans h
theorem boCells_zero (m : Nat) : madeCells #[Value.bool false] m = ((List.range m).map fun _ => Value.bool false).toArray := by
  apply Array.ext'
  apply List.ext_getElem
  · simp [madeCells]
  · intro j h1 h2
    simp [madeCells, Nat.mod_one]
theorem BoB.made (w : World) (m : Nat) : BoB (w.alloc (.cells (madeCells #[Value.bool false] m) 4)) w.heap.size m (fun _ => false) := by
  unfold BoB
  rw [heap_alloc_new, boCells_zero]
/-- The slice at A reads as n rows of n bools. -/
def MatB (w : World) (A : Option Addr) (n : Nat) (M : Nat → Nat → Bool) : Prop :=
  ∀ b, b < n → ∃ g o R, A = some ⟨g, o, none⟩ ∧ g < w.heap.size ∧ w.cell? ⟨g, o + b, none⟩ = some (.slice (some ⟨R, 0, none⟩) n n) ∧ R < w.heap.size ∧ ∀ a, a < n → w.cell? ⟨R, a, none⟩ = some (.bool (M b a))
theorem MatB.later {A : Option Addr} {n : Nat} {M : Nat → Nat → Bool} (h : MatB w A n M) (hb : Below w.heap.size w w') : MatB w' A n M := fun b hbn => by
  obtain ⟨g, o, R, h1, h2, h3, h4, h5⟩ := h b hbn
  exact ⟨g, o, R, h1, Nat.lt_of_lt_of_le h2 hb.size, below_at hb (Nat.le_refl _) h3, Nat.lt_of_lt_of_le h4 hb.size, fun a ha => below_at hb (Nat.le_refl _) (h5 a ha)⟩
end
theorem infoB_Try : (Try.prog.info? 4).map (fun i => (i.zero, i.size, i.bytes)) = some (some (Value.bool false), 1, 1) := by kernel_rfl
theorem infoBs_Try : (Try.prog.info? 74).map (fun i => (i.zero, i.size, i.bytes)) = some (some (Value.slice none 0 0), 1, 24) := by kernel_rfl

/-- One row is put behind the others. -/
theorem wpList_appB_Try {ops : Array Oper} {rest : List Oper} {o : Oper} {a : Act} {Q : Exit → Act → World → Prop} {w : World} (hgd : o.guard = none) (s x : Operand)
    (ho : o.op = .call { callee := .builtin .append, args := #[s, x], argTypes := #[75, 75] })
    (base : Nat) (v : Value) (xs : List Value) (hs : a.eval s = v) (hown : w.ownsRow base 74 1 v xs.length xs) (b : Nat) (A : Option Addr) (n c : Nat) (hx : a.eval x = .slice (some ⟨b, 0, none⟩) 1 1)
    (hb : w.heap[b]? = some (.cells #[Value.slice A n c] 74 (0, 0))) (hn : xs.length ≤ 1000000) (hbase : base ≤ w.heap.size)
    (h : ∀ g cap w', w'.ownsRow base 74 1 (.slice (some ⟨g, 0, none⟩) (xs.length + 1) cap) (xs ++ [Value.slice A n c]).length (xs ++ [Value.slice A n c]) → w.grownBy w' v.ownBlock → (v.ownBlock = some g ∨ g = w.heap.size) → g < w'.heap.size →
      wpList Try.prog ops Q rest (a.put o.dst (.slice (some ⟨g, 0, none⟩) (xs.length + 1) cap)) w') : wpList Try.prog ops Q (o :: rest) a w := by
  obtain ⟨i0, hi, hz0, hz1, hz2⟩ := info_parts infoBs_Try
  refine wpList_append_lies w hgd s x 75 ho base 74 i0 _ 1 24 Try.underlying75 hi hz0 hz1 hz2 rfl (by omega) v xs.length xs hs hown ⟨b, 0, none⟩ 1 1 [Value.slice A n c] hx rfl
    (World.news_of_block hb) (fun u hu => by simp at hu; subst hu; rfl) (by omega) (by unfold maxLen; omega) (by omega) hbase w.heap.size rfl fun g cap w' h2 h3 h4 h5 => h g cap w' ?_ h3 h4 h5
  rw [List.length_append]
  exact h2
end Go.Proofs.Ytepdgffccfcfpaa
