/- Exchanges of neighbours that do not touch; a row of works of the call's own that is written. -/
import Derived.Test.YtifpkdajfdlgeaaOwnW2
import Derived.Laws.OwnMore
namespace Go.Proofs.Ytifpkdajfdlgeaa
open Go.RowKit

def nw : GW := ⟨0, 0, ByteArray.empty⟩
/-- The works p and p + 1 change places. -/
def swW (ws : List GW) (p : Nat) : List GW := (ws.set p (ws.getD (p + 1) nw)).set (p + 1) (ws.getD p nw)
theorem swW_length (ws : List GW) (p : Nat) : (swW ws p).length = ws.length := by simp [swW]
def exP (ws : List GW) (x : Int) : Nat := (x % ((ws.length : Int) - 1)).toNat
def exStep (ws : List GW) (x : Int) : List GW := if 1 < ws.length then (if touchB (ws.getD (exP ws x) nw).pl (ws.getD (exP ws x + 1) nw).pl = true then ws else swW ws (exP ws x)) else ws
theorem exStep_length (ws : List GW) (x : Int) : (exStep ws x).length = ws.length := by
  unfold exStep
  split
  · split
    · rfl
    · exact swW_length _ _
  · rfl
def exW (ws : List GW) (at' : List Int) : List GW := at'.foldl exStep ws
theorem exW_length : ∀ (at' : List Int) (ws : List GW), (exW ws at').length = ws.length
  | [], _ => rfl
  | x :: at', ws => by
    show (exW (exStep ws x) at').length = _
    rw [exW_length at', exStep_length]
theorem exW_short {ws : List GW} (h : ¬ 1 < ws.length) : ∀ at' : List Int, exW ws at' = ws
  | [] => rfl
  | x :: at' => by
    show exW (exStep ws x) at' = ws
    have : exStep ws x = ws := by unfold exStep; rw [if_neg h]
    rw [this, exW_short h at']
theorem exW_succ (ws : List GW) (at' : List Int) {j : Nat} (h : j < at'.length) : exW ws (at'.take (j + 1)) = exStep (exW ws (at'.take j)) at'[j] := by
  rw [List.take_succ_eq_append_getElem h]
  unfold exW
  rw [List.foldl_append]
  rfl
theorem exP_lt {ws : List GW} (h : 1 < ws.length) (x : Int) : exP ws x + 1 < ws.length := by
  unfold exP
  have h1 := Int.emod_nonneg x (show (ws.length : Int) - 1 ≠ 0 by omega)
  have h2 := Int.emod_lt_of_pos x (show 0 < (ws.length : Int) - 1 by omega)
  omega
theorem mem_swW {ws : List GW} {p : Nat} (h : p + 1 < ws.length) {z : GW} (hz : z ∈ swW ws p) : z ∈ ws := by
  unfold swW at hz
  have e1 : ws.getD (p + 1) nw = ws[p + 1] := by simp [List.getD_eq_getElem?_getD, h]
  have e2 : ws.getD p nw = ws[p] := by simp [List.getD_eq_getElem?_getD, show p < ws.length by omega]
  rw [e1, e2] at hz
  rcases List.mem_or_eq_of_mem_set hz with hz | rfl
  · rcases List.mem_or_eq_of_mem_set hz with hz | rfl
    · exact hz
    · exact List.getElem_mem _
  · exact List.getElem_mem _
theorem mem_exStep {ws : List GW} {x : Int} {z : GW} (hz : z ∈ exStep ws x) : z ∈ ws := by
  unfold exStep at hz
  split at hz
  · rename_i h
    split at hz
    · exact hz
    · exact mem_swW (exP_lt h x) hz
  · exact hz
theorem mem_exW : ∀ (at' : List Int) {ws : List GW} {z : GW}, z ∈ exW ws at' → z ∈ ws
  | [], _, _, h => h
  | x :: at', ws, z, h => mem_exStep (mem_exW at' (show z ∈ exW (exStep ws x) at' from h))

/-- A work stored into the cells of works. -/
theorem worksC_set (z : GW) : ∀ (ws : List GW) (i : Nat), worksC (ws.set i z) = (((worksC ws).set (i * 3) (.int .i64 z.kind)).set (i * 3 + 1) (.int .i64 z.pl)).set (i * 3 + 2) (.string z.word)
  | [], i => by simp [worksC]
  | x :: ws, 0 => by simp [worksC]
  | x :: ws, i + 1 => by
    have ih := worksC_set z ws i
    have e : ∀ y (ys : List GW), worksC (y :: ys) = .int .i64 y.kind :: .int .i64 y.pl :: .string y.word :: worksC ys := fun y ys => by simp [worksC]
    rw [List.set_cons_succ, e, e, ih, show (i + 1) * 3 = (i * 3) + 1 + 1 + 1 by omega, show i * 3 + 1 + 1 + 1 + 1 = (i * 3 + 1) + 1 + 1 + 1 by omega, show i * 3 + 1 + 1 + 1 + 2 = (i * 3 + 2) + 1 + 1 + 1 by omega]
    simp only [List.set_cons_succ]
theorem own_putW {w : World} {base g n cap : Nat} {e : TypeId} {ws : List GW} (h : w.ownsRow base e 3 (.slice (some ⟨g, 0, none⟩) n cap) n (worksC ws)) (i : Nat) (z : GW) :
    (((w.setCell ⟨g, i * 3, none⟩ (.int .i64 z.kind)).setCell ⟨g, i * 3 + 1, none⟩ (.int .i64 z.pl)).setCell ⟨g, i * 3 + 2, none⟩ (.string z.word)).ownsRow base e 3 (.slice (some ⟨g, 0, none⟩) n cap) n (worksC (ws.set i z)) := by
  rw [worksC_set]
  exact ((((h.stored _ _).1).stored _ _).1.stored _ _).1
theorem own_someW {w : World} {base n c : Nat} {e : TypeId} {A : Option Addr} {xs : List Value} (h : w.ownsRow base e 3 (.slice A n c) n xs) (h0 : 0 < n) : ∃ g, A = some ⟨g, 0, none⟩ ∧ base ≤ g ∧ g < w.heap.size := by
  have hlt := h.lt
  rcases h.2 with ⟨h1, _⟩ | ⟨g, cap, cur, h1, _, _, _⟩
  · injection h1; omega
  · injection h1 with h2 h3 h4
    subst h2
    obtain ⟨h5, h6⟩ := hlt g rfl
    exact ⟨g, rfl, h5, h6⟩
theorem own_workW {w : World} {base g n cap : Nat} {e : TypeId} {ws : List GW} (h : w.ownsRow base e 3 (.slice (some ⟨g, 0, none⟩) n cap) n (worksC ws)) {i : Nat} (hi : i < ws.length) :
    w.cell? ⟨g, i * 3, none⟩ = some (.int .i64 (ws.getD i nw).kind) ∧ w.cell? ⟨g, i * 3 + 1, none⟩ = some (.int .i64 (ws.getD i nw).pl) ∧ w.cell? ⟨g, i * 3 + 2, none⟩ = some (.string (ws.getD i nw).word) ∧
    w.frozen? ⟨g, i * 3, none⟩ = false ∧ w.frozen? ⟨g, i * 3 + 1, none⟩ = false ∧ w.frozen? ⟨g, i * 3 + 2, none⟩ = false := by
  have hc : ∀ j, j < ws.length * 3 → w.cell? ⟨g, j, none⟩ = some (cellsW ws j) := fun j hj => by
    have h9 := h.cells (g := g) rfl j (cellsW ws j) (worksC_get ws j hj)
    rw [← h9]
    by_cases h0 : j = 0
    · subst h0; simp [Addr.add]
    · simp [Addr.add, h0]
  refine ⟨?_, ?_, ?_, h.frozenAt _, h.frozenAt _, h.frozenAt _⟩
  · rw [hc _ (by omega)]; simp [cellsW, nw]
  · rw [hc _ (by omega)]; unfold cellsW; rw [show (i * 3 + 1) / 3 = i by omega, show (i * 3 + 1) % 3 = 1 by omega]; rfl
  · rw [hc _ (by omega)]; unfold cellsW; rw [show (i * 3 + 2) / 3 = i by omega, show (i * 3 + 2) % 3 = 2 by omega]; rfl
theorem heap_three {w : World} {g S : Nat} (hne : ¬ S = g) (a b c : Nat) (x y z : Value) : (((w.setCell ⟨g, a, none⟩ x).setCell ⟨g, b, none⟩ y).setCell ⟨g, c, none⟩ z).heap[S]? = w.heap[S]? := by
  rw [Below.heap_setCell _ ⟨g, c, none⟩ z S hne, Below.heap_setCell _ ⟨g, b, none⟩ y S hne, Below.heap_setCell _ ⟨g, a, none⟩ x S hne]
theorem below_three {w0 w : World} {B g : Nat} (h : Below B w0 w) (hB : B ≤ g) (a b c : Nat) (x y z : Value) : Below B w0 (((w.setCell ⟨g, a, none⟩ x).setCell ⟨g, b, none⟩ y).setCell ⟨g, c, none⟩ z) :=
  ((h.setCell (p := ⟨g, a, none⟩) hB _).setCell (p := ⟨g, b, none⟩) hB _).setCell (p := ⟨g, c, none⟩) hB _
/-- Two works that are stored: the row, the other blocks, what lies below. -/
theorem swap_facts {w0 w : World} {base B g n cap S P : Nat} {e : TypeId} {ws : List GW} (h : w.ownsRow base e 3 (.slice (some ⟨g, 0, none⟩) n cap) n (worksC ws)) (hne : ¬ S = g) (hb : Below B w0 w) (hB : B ≤ g) (z1 z2 : GW) :
    ((((((w.setCell ⟨g, P * 3, none⟩ (.int .i64 z2.kind)).setCell ⟨g, P * 3 + 1, none⟩ (.int .i64 z2.pl)).setCell ⟨g, P * 3 + 2, none⟩ (.string z2.word)).setCell ⟨g, (P + 1) * 3, none⟩ (.int .i64 z1.kind)).setCell ⟨g, (P + 1) * 3 + 1, none⟩ (.int .i64 z1.pl)).setCell ⟨g, (P + 1) * 3 + 2, none⟩ (.string z1.word)).drew.ownsRow base e 3 (.slice (some ⟨g, 0, none⟩) n cap) n (worksC ((ws.set P z2).set (P + 1) z1)) ∧
    ((((((w.setCell ⟨g, P * 3, none⟩ (.int .i64 z2.kind)).setCell ⟨g, P * 3 + 1, none⟩ (.int .i64 z2.pl)).setCell ⟨g, P * 3 + 2, none⟩ (.string z2.word)).setCell ⟨g, (P + 1) * 3, none⟩ (.int .i64 z1.kind)).setCell ⟨g, (P + 1) * 3 + 1, none⟩ (.int .i64 z1.pl)).setCell ⟨g, (P + 1) * 3 + 2, none⟩ (.string z1.word)).drew.heap[S]? = w.heap[S]? ∧
    Below B w0 ((((((w.setCell ⟨g, P * 3, none⟩ (.int .i64 z2.kind)).setCell ⟨g, P * 3 + 1, none⟩ (.int .i64 z2.pl)).setCell ⟨g, P * 3 + 2, none⟩ (.string z2.word)).setCell ⟨g, (P + 1) * 3, none⟩ (.int .i64 z1.kind)).setCell ⟨g, (P + 1) * 3 + 1, none⟩ (.int .i64 z1.pl)).setCell ⟨g, (P + 1) * 3 + 2, none⟩ (.string z1.word)).drew :=
  ⟨(own_putW (own_putW h P z2) (P + 1) z1).drew, by rw [show ∀ v : World, v.drew.heap = v.heap from fun _ => rfl, heap_three hne, heap_three hne], (below_three (below_three hb hB _ _ _ _ _ _) hB _ _ _ _ _ _).drew⟩
end Go.Proofs.Ytifpkdajfdlgeaa
