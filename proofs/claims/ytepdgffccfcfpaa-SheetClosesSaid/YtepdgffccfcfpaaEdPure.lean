/- The edges of a sheet in the order in which they end: plain, and the cells that hold them. -/
import Derived.Test.YtepdgffccfcfpaaOwn
namespace Go.Proofs.Ytepdgffccfcfpaa
open Go.RowKit

def updF {α : Type} (f : Nat → α) (i : Nat) (v : α) : Nat → α := fun q => if q = i then v else f q
/-- An edge: its number, where it begins and where it ends. -/
structure El where
  idx : Int
  fr : Int
  out : Int
  to : Int
  inn : Int
/-- The line: for each place the edge that lies there. -/
structure Ln where
  fr : Nat → Int
  out : Nat → Int
  idx : Nat → Int
def ln0 : Ln := ⟨fun _ => -1, fun p => p, fun p => p⟩
def Ln.el (s : Ln) (p : Nat) (to inn : Int) : El := ⟨s.idx p, s.fr p, s.out p, to, inn⟩
def Ln.put (s : Ln) (p : Nat) (fr out idx : Int) : Ln := ⟨updF s.fr p fr, updF s.out p out, updF s.idx p idx⟩
/-- The place q gets the edge that leaves the work k at that side. -/
def eStep (P : Nat) (s : Ln) (k q side : Nat) : Ln := s.put q k side (P + 2 * k + side)
/-- One work: its left side, then its right side. -/
def sdS (P q k : Nat) (s : Ln) : Nat → Ln
  | 0 => s
  | sd + 1 => eStep P (sdS P q k s sd) k (q + sd) sd
def sdL (P q k : Nat) (s : Ln) (L : List El) : Nat → List El
  | 0 => L
  | sd + 1 => sdL P q k s L sd ++ [(sdS P q k s sd).el (q + sd) k sd]
def eWork (P : Nat) (pls : Nat → Nat) : Nat → Ln
  | 0 => ln0
  | k + 1 => sdS P (pls k) k (eWork P pls k) 2
/-- What has come before the work k. -/
def eList (P : Nat) (pls : Nat → Nat) : Nat → List El
  | 0 => []
  | k + 1 => sdL P (pls k) k (eWork P pls k) (eList P pls k) 2
theorem sdL_le (P q k : Nat) (s : Ln) (L : List El) : ∀ {a b : Nat}, a ≤ b → sdL P q k s L a <+: sdL P q k s L b := by
  intro a b h
  induction b with
  | zero => obtain rfl : a = 0 := by omega
            exact List.prefix_refl _
  | succ b ih =>
    rcases Nat.lt_or_ge a (b + 1) with h1 | h1
    · exact (ih (by omega)).trans (List.prefix_append _ _)
    · obtain rfl : a = b + 1 := by omega
      exact List.prefix_refl _
/-- The ends at the bottom, of the first j places. -/
def eEnds (s : Ln) (j : Nat) : List El := (List.range j).map fun p => s.el p (-1) p
def eAll (P : Nat) (pls : Nat → Nat) (n : Nat) : List El := eList P pls n ++ eEnds (eWork P pls n) P
theorem eEnds_succ (s : Ln) (j : Nat) : eEnds s (j + 1) = eEnds s j ++ [s.el j (-1) j] := by simp [eEnds, List.range_succ]
theorem eList_le (P : Nat) (pls : Nat → Nat) : ∀ {k n : Nat}, k ≤ n → eList P pls k <+: eList P pls n := by
  intro k n h
  induction n with
  | zero => obtain rfl : k = 0 := by omega
            exact List.prefix_refl _
  | succ n ih =>
    rcases Nat.lt_or_ge k (n + 1) with h1 | h1
    · exact (ih (by omega)).trans (sdL_le P (pls n) n _ (eList P pls n) (show 0 ≤ 2 by omega))
    · obtain rfl : k = n + 1 := by omega
      exact List.prefix_refl _
theorem eAll_side (P : Nat) (pls : Nat → Nat) {k n sd : Nat} (h : k < n) (hs : sd < 2) :
    sdL P (pls k) k (eWork P pls k) (eList P pls k) sd ++ [(sdS P (pls k) k (eWork P pls k) sd).el (pls k + sd) k sd] <+: eAll P pls n := by
  have h1 : sdL P (pls k) k (eWork P pls k) (eList P pls k) (sd + 1) <+: eList P pls (k + 1) := sdL_le _ _ _ _ _ (by omega)
  exact (h1.trans (eList_le P pls (show k + 1 ≤ n by omega))).trans (List.prefix_append _ _)
theorem eEnds_le (s : Ln) {j P : Nat} (h : j ≤ P) : eEnds s j <+: eEnds s P := by
  induction P with
  | zero => obtain rfl : j = 0 := by omega
            exact List.prefix_refl _
  | succ P ih =>
    rcases Nat.lt_or_ge j (P + 1) with h1 | h1
    · rw [eEnds_succ]; exact (ih (by omega)).trans (List.prefix_append _ _)
    · obtain rfl : j = P + 1 := by omega
      exact List.prefix_refl _
theorem eAll_end (P : Nat) (pls : Nat → Nat) (n : Nat) {j : Nat} (h : j < P) : (eList P pls n ++ eEnds (eWork P pls n) j) ++ [(eWork P pls n).el j (-1) j] <+: eAll P pls n := by
  rw [List.append_assoc, ← eEnds_succ]
  exact (List.prefix_append_right_inj _).2 (eEnds_le _ (by omega))

/-- The cells of edges of which the ends are not known. -/
def eCell (g h : Nat → Int) (j : Nat) : Value := if j % 4 = 0 then .int .i64 (g (j / 4)) else if j % 4 = 1 then .int .i64 (h (j / 4)) else .int .i64 0
def eCells (m : Nat) (g h : Nat → Int) : Array Value := ((List.range (m * 4)).map (eCell g h)).toArray
/-- Block R holds m edges. -/
def EdB (w : World) (R m : Nat) (g h : Nat → Int) : Prop := w.heap[R]? = some (.cells (eCells m g h) 46 (0, 0))
section
variable {w w' : World} {R m : Nat} {g h : Nat → Int}
theorem EdB.lt (e : EdB w R m g h) : R < w.heap.size := lt_of_block e
theorem EdB.free (e : EdB w R m g h) (j : Nat) : w.frozen? ⟨R, j, none⟩ = false := frozen_of_row _ _ j _ _ e
theorem EdB.at_ (e : EdB w R m g h) {p : Nat} (hp : p < m) : w.cell? ⟨R, p * 4, none⟩ = some (.int .i64 (g p)) ∧ w.cell? ⟨R, p * 4 + 1, none⟩ = some (.int .i64 (h p)) ∧ w.cell? ⟨R, p * 4 + 2, none⟩ = some (.int .i64 0) ∧ w.cell? ⟨R, p * 4 + 3, none⟩ = some (.int .i64 0) := by
  have key : ∀ j, j < m * 4 → w.cell? ⟨R, j, none⟩ = some (eCell g h j) := fun j hj => by
    rw [cell_of_row w R j _ _ _ e]; simp [eCells, hj]
  refine ⟨?_, ?_, ?_, ?_⟩
  · rw [key _ (by omega)]; unfold eCell; rw [if_pos (by omega), show p * 4 / 4 = p by omega]
  · rw [key _ (by omega)]; unfold eCell; rw [if_neg (by omega), if_pos (by omega), show (p * 4 + 1) / 4 = p by omega]
  · rw [key _ (by omega)]; unfold eCell; rw [if_neg (by omega), if_neg (by omega)]
  · rw [key _ (by omega)]; unfold eCell; rw [if_neg (by omega), if_neg (by omega)]
theorem EdB.put (e : EdB w R m g h) (p : Nat) (a b : Int) : EdB ((((w.setCell ⟨R, p * 4, none⟩ (.int .i64 a)).setCell ⟨R, p * 4 + 1, none⟩ (.int .i64 b)).setCell ⟨R, p * 4 + 2, none⟩ (.int .i64 0)).setCell ⟨R, p * 4 + 3, none⟩ (.int .i64 0)) R m (updF g p a) (updF h p b) := by
  have h1 := heap_setCell_same w R (p * 4) _ _ (.int .i64 a) e
  have h2 := heap_setCell_same _ R (p * 4 + 1) _ _ (.int .i64 b) h1
  have h3 := heap_setCell_same _ R (p * 4 + 2) _ _ (.int .i64 0) h2
  have h4 := heap_setCell_same _ R (p * 4 + 3) _ _ (.int .i64 0) h3
  refine Eq.trans h4 ?_
  clear h1 h2 h3 h4 e
  congr 2
  apply Array.ext'
  simp only [eCells, Array.toList_setIfInBounds]
  apply List.ext_getElem
  · simp
  · intro j h1 h2
    rw [List.getElem_set, List.getElem_set, List.getElem_set, List.getElem_set]
    simp only [List.getElem_map, List.getElem_range]
    unfold eCell updF
    by_cases c3 : p * 4 + 3 = j
    · subst c3; rw [if_pos rfl, if_neg (by omega), if_neg (by omega)]
    · rw [if_neg c3]
      by_cases c2 : p * 4 + 2 = j
      · subst c2; rw [if_pos rfl, if_neg (by omega), if_neg (by omega)]
      · rw [if_neg c2]
        by_cases c1 : p * 4 + 1 = j
        · subst c1; rw [if_pos rfl, if_neg (by omega), if_pos (by omega), if_pos (by omega)]
        · rw [if_neg c1]
          by_cases c0 : p * 4 = j
          · subst c0; rw [if_pos rfl, if_pos (by omega), if_pos (by omega)]
          · rw [if_neg c0]
            by_cases d0 : j % 4 = 0
            · rw [if_pos d0, if_pos d0, if_neg (by omega)]
            · rw [if_neg d0, if_neg d0]
              by_cases d1 : j % 4 = 1
              · rw [if_pos d1, if_pos d1, if_neg (by omega)]
              · rw [if_neg d1, if_neg d1]
theorem eCells_zero (m : Nat) : madeCells #[Value.int .i64 0, .int .i64 0, .int .i64 0, .int .i64 0] (m * 4) = eCells m (fun _ => 0) (fun _ => 0) := by
  apply Array.ext'
  apply List.ext_getElem
  · simp [madeCells, eCells]
  · intro j h1 h2
    have e : ∀ q, q < 4 → (#[Value.int .i64 0, .int .i64 0, .int .i64 0, .int .i64 0] : Array Value)[q]! = .int .i64 0 := fun q hq => by
      obtain rfl | rfl | rfl | rfl : q = 0 ∨ q = 1 ∨ q = 2 ∨ q = 3 := by omega
      all_goals rfl
    simp only [madeCells, eCells, Array.toList_map, Array.toList_range, List.getElem_map, List.getElem_range]
    unfold eCell
    rw [show (#[Value.int .i64 0, .int .i64 0, .int .i64 0, .int .i64 0] : Array Value).size = 4 from rfl, e (j % 4) (by omega)]
    split
    · rfl
    · split <;> rfl
end
end Go.Proofs.Ytepdgffccfcfpaa
