/- The reference's greedy match, as a plain function. -/
import Derived.Test.YtifpkdajfdlgeaaTrRef
namespace Go.Proofs.Ytifpkdajfdlgeaa
open Go.RowKit

def hitB (ws : List GW) (ds : List Bool) (x : GW) (k : Nat) : Bool := decide (ws.getD k ⟨0, 0, ByteArray.empty⟩ = x) && readyB ws ds k
/-- The first work among k that equals x and is ready, or -1. -/
def seek (ws : List GW) (ds : List Bool) (x : GW) : Nat → Int
  | 0 => -1
  | k + 1 => if seek ws ds x k < 0 ∧ hitB ws ds x k = true then (k : Int) else seek ws ds x k
theorem seek_hit {ws : List GW} {ds : List Bool} {x : GW} {k : Nat} (h : seek ws ds x k < 0) (hh : hitB ws ds x k = true) : seek ws ds x (k + 1) = k := by
  rw [seek, if_pos ⟨h, hh⟩]
theorem seek_miss {ws : List GW} {ds : List Bool} {x : GW} {k : Nat} (hh : hitB ws ds x k = false) : seek ws ds x (k + 1) = seek ws ds x k := by
  rw [seek, if_neg (by rw [hh]; rintro ⟨_, h⟩; cases h)]
theorem seek_stay {ws : List GW} {ds : List Bool} {x : GW} : ∀ n k, k ≤ n → 0 ≤ seek ws ds x k → seek ws ds x n = seek ws ds x k
  | 0, k, hk, _ => by obtain rfl : k = 0 := by omega
                      rfl
  | n + 1, k, hk, h => by
    rcases Nat.lt_or_ge k (n + 1) with h1 | h1
    · have ih := seek_stay n k (by omega) h
      rw [seek, if_neg (by rw [ih]; omega), ih]
    · obtain rfl : k = n + 1 := by omega
      rfl
theorem seek_neg {ws : List GW} {ds : List Bool} {x : GW} : ∀ n, -1 ≤ seek ws ds x n
  | 0 => by simp [seek]
  | n + 1 => by rw [seek]; split
                · omega
                · exact seek_neg n
/-- What was found was a hit, and no earlier one was. -/
theorem seek_some {ws : List GW} {ds : List Bool} {x : GW} : ∀ n, 0 ≤ seek ws ds x n → ∃ i : Nat, seek ws ds x n = i ∧ i < n ∧ hitB ws ds x i = true
  | 0, h => by simp [seek] at h
  | n + 1, h => by
    rw [seek] at h ⊢
    split
    · rename_i h1; exact ⟨n, rfl, by omega, h1.2⟩
    · rename_i h1
      rw [if_neg h1] at h
      obtain ⟨i, h2, h3, h4⟩ := seek_some n h
      exact ⟨i, h2, by omega, h4⟩
theorem seek_none {ws : List GW} {ds : List Bool} {x : GW} : ∀ n, seek ws ds x n < 0 → ∀ i, i < n → hitB ws ds x i = false
  | 0, _, i, hi => by omega
  | n + 1, h, i, hi => by
    rw [seek] at h
    split at h
    · omega
    · rename_i h1
      rcases Nat.lt_or_ge i n with h2 | h2
      · exact seek_none n h i h2
      · obtain rfl : i = n := by omega
        cases hh : hitB ws ds x i with
        | false => rfl
        | true => exact absurd ⟨h, hh⟩ h1
/-- A first hit is what is found. -/
theorem seek_first {ws : List GW} {ds : List Bool} {x : GW} {n i : Nat} (hi : i < n) (hh : hitB ws ds x i = true) (hf : ∀ k, k < i → hitB ws ds x k = false) : seek ws ds x n = i := by
  have h0 : ∀ k, k ≤ i → seek ws ds x k < 0 := by
    intro k
    induction k with
    | zero => intro _; simp [seek]
    | succ k ih => intro hk; rw [seek_miss (hf k (by omega))]; exact ih (by omega)
  have h1 := seek_hit (h0 i (Nat.le_refl _)) hh
  rw [seek_stay n (i + 1) (by omega) (by rw [h1]; omega), h1]

def gRun (ws : List GW) : List Bool → List GW → Option (List Int)
  | _, [] => some []
  | ds, x :: l => if seek ws ds x ws.length < 0 then none else (gRun ws (ds.set (seek ws ds x ws.length).toNat true) l).map (seek ws ds x ws.length :: ·)
def matchG (p : Int) (ws : List GW) (q : Int) (vs : List GW) : Option (List Int) :=
  if p = q ∧ ws.length = vs.length then gRun ws (List.replicate ws.length false) vs else none

/-- Block D holds these bools. -/
def DoneB (w : World) (D : Nat) (ds : List Bool) : Prop := w.heap[D]? = some (.cells (ds.map Value.bool).toArray 4 (0, 0))
theorem DoneB.rd {w : World} {D : Nat} {ds : List Bool} (h : DoneB w D ds) (hl : ds.length ≤ 281474976710656) : RdB w (some ⟨D, 0, none⟩) ds :=
  ⟨hl, fun _ => ⟨D, 0, rfl, lt_of_block h, fun j hj => by
    rw [show 0 + j = j by omega, cell_of_row w D j _ _ _ h]
    have : j < ds.length := by omega
    simp [List.getD_eq_getElem?_getD, this]⟩⟩
theorem DoneB.set {w : World} {D i : Nat} {ds : List Bool} (h : DoneB w D ds) : DoneB (w.setCell ⟨D, i, none⟩ (.bool true)) D (ds.set i true) := by
  unfold DoneB
  rw [heap_setCell_same w D i _ _ _ h]
  simp [List.map_set]
theorem DoneB.later {w w' : World} {B D : Nat} {ds : List Bool} (h : DoneB w D ds) (hb : Below B w w') (hB : D < B) : DoneB w' D ds := (hb.block D hB).trans h
theorem DoneB.kept {w w' : World} {D : Nat} {row : Option Nat} {ds : List Bool} (h : DoneB w D ds) (hg : w.grownBy w' row) (hr : some D ≠ row) : DoneB w' D ds := (hg.block D (lt_of_block h) hr).trans h
theorem DoneB.made (w : World) (n : Nat) : DoneB (w.alloc (.cells (madeCells #[.bool false] n) 4)) w.heap.size (List.replicate n false) := by
  unfold DoneB
  rw [heap_alloc_new, show madeCells #[Value.bool false] n = Array.replicate n (.bool false) by apply Array.ext'; rw [toList_madeCells_one]; simp]
  simp
end Go.Proofs.Ytifpkdajfdlgeaa
