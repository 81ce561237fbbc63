/- Package traces: Orders; the examples' sheets. -/
import Derived.Test.YtifpkdajfdlgeaaTrCnted
namespace Go.Proofs.Ytifpkdajfdlgeaa
open Go.RowKit

set_option maxHeartbeats 1000000 in
theorem tOrders_ (p : Int) (A : Option Addr) (c : Nat) (ws : List GW) (w : World) (ha : ShIn w p A ws) (hcap : ws.length ≤ c) :
    Calls Try.prog 23 #[shV p A c ws] w fun e w' => e = .returned (.tuple #[.int .i64 (cntdNum p ws), .int .i64 (cntdErr p ws)]) ∧ Below w.heap.size w w' := by
  have HA := Lib.hid ha; clear ha
  have hb2 : Below w.heap.size w (w.alloc (.cells #[.int .i64 p, .slice A ws.length c] 24)) := (Below.refl _ _).alloc (Nat.le_refl _) _
  have HB2 := Lib.hid hb2; clear hb2
  unfold shV
  go_enter Try.func23, Try.ntmps23
  go_wp2_with (go_at_call 49; refine (tcounted_ _ p A c ws _ (HA.out.later HB2.out (Nat.le_refl _)) hcap (by go_simp) (by go_simp)).mono ?_; rintro e w1 ⟨v, rfl, hb1, _⟩)
  go_ret2
  exact ⟨rfl, HB2.out.trans (hb1.mono (by simp))⟩

def wCT : ByteArray := ⟨#[67, 84]⟩
def wCTC : ByteArray := ⟨#[67, 84, 67]⟩
def firstL : List GW := [⟨1, 0, wCT⟩, ⟨1, 2, wCTC⟩, ⟨1, 1, wCT⟩]
def secondL : List GW := [⟨1, 2, wCTC⟩, ⟨1, 0, wCT⟩, ⟨1, 1, wCT⟩]
def ExPost (l : List GW) (w : World) (e : Ending) (w' : World) : Prop := ∃ g c, e = .returned (shV 4 (some ⟨g, 0, none⟩) c l) ∧ RdW w' (some ⟨g, 0, none⟩) l ∧ Below w.heap.size w w' ∧ l.length ≤ c ∧ w.heap.size ≤ g

theorem rd_block {w : World} {g t : Nat} {cs : Array Value} {n : Nat} {l : List GW} (hg : w.heap[g]? = some (.cells cs t (0, 0))) (hl : l.length = n) (hc : ∀ j, j < n * 3 → cs[j]? = some (cellsW l j)) (hn : n ≤ 1000) (hf : ∀ x ∈ l, x.fits) :
    RdW w (some ⟨g, 0, none⟩) l :=
  ⟨by omega, hf, fun _ => ⟨g, 0, rfl, lt_of_block hg, fun j hj => by rw [cell_of_row w g (0 + j) cs t _ hg, Nat.zero_add]; exact hc j (by omega)⟩⟩

theorem firstL_fits : ∀ x ∈ firstL, x.fits := by intro x hx; simp [firstL] at hx; rcases hx with rfl | rfl | rfl <;> (unfold GW.fits; decide)
theorem secondL_fits : ∀ x ∈ secondL, x.fits := by intro x hx; simp [secondL] at hx; rcases hx with rfl | rfl | rfl <;> (unfold GW.fits; decide)

set_option maxHeartbeats 1000000 in
theorem first_ (w : World) : Calls Try.prog 41 #[] w (ExPost firstL w) := by
  go_enter Try.func41, Try.ntmps41
  go_wp2
  refine bodyPost_ret (v := shV 4 (some ⟨w.heap.size + 1, 0, none⟩) 3 firstL) (by simp [results, Try.results41, go_sem]; rfl) rfl ⟨_, 3, rfl, rd_block (n := 3) (heap_alloc2_new _ _ _) rfl (fun j hj => ?_) (by decide) firstL_fits, ((Below.refl _ _).alloc (Nat.le_refl _) _).alloc (by simp) _, by decide, by omega⟩
  obtain rfl | rfl | rfl | rfl | rfl | rfl | rfl | rfl | rfl : j = 0 ∨ j = 1 ∨ j = 2 ∨ j = 3 ∨ j = 4 ∨ j = 5 ∨ j = 6 ∨ j = 7 ∨ j = 8 := by omega
  all_goals rfl

theorem rd_cells {w : World} {g : Nat} {l : List GW} (h : RdW w (some ⟨g, 0, none⟩) l) (j : Nat) (hj : j < l.length * 3) : w.cell? ⟨g, j, none⟩ = some (cellsW l j) := by
  obtain ⟨b, off, e, _, hc⟩ := h.2.2 (by omega)
  injection e with e
  injection e with e1 e2
  subst e1; subst e2
  have := hc j hj
  rwa [Nat.zero_add] at this

theorem fieldWorks_Try (x : Value) (A : Option Addr) (n c : Nat) (W : World) : (Instr.field 24 (.agg #[x, .slice A n c]) 1).run Try.prog W = .ok (.slice A n c) W := by kernel_rfl

set_option maxRecDepth 100000 in
set_option maxHeartbeats 1000000 in
theorem second_ (w : World) : Calls Try.prog 42 #[] w (ExPost secondL w) := by
  have hfw := fieldWorks_Try
  go_enter Try.func42, Try.ntmps42
  go_wp2_with (go_at_call 41; refine (first_ _).mono ?_; rintro e w1 ⟨g, c, rfl, hr, hb, hc, hgw⟩; unfold shV; rw [show firstL.length = 3 from rfl] at *; have hne : w.heap.size ≠ g := (by simp at hgw; omega); have q0 := hb.cell (p := ⟨w.heap.size, 0, none⟩) (by simp); have q1 := hb.cell (p := ⟨w.heap.size, 1, none⟩) (by simp); have q2 := hb.frozen (p := ⟨w.heap.size, 0, none⟩) (by simp); have q3 := hb.frozen (p := ⟨w.heap.size, 1, none⟩) (by simp); simp at q0 q1 q2 q3; have g0 : w1.cell? ⟨g, 0, none⟩ = some (.int .i64 1) := rd_cells hr 0 (by decide); have g1 : w1.cell? ⟨g, 1, none⟩ = some (.int .i64 0) := rd_cells hr 1 (by decide); have g2 : w1.cell? ⟨g, 2, none⟩ = some (.string ⟨#[67, 84]⟩) := rd_cells hr 2 (by decide); have g3 : w1.cell? ⟨g, 3, none⟩ = some (.int .i64 1) := rd_cells hr 3 (by decide); have g4 : w1.cell? ⟨g, 4, none⟩ = some (.int .i64 2) := rd_cells hr 4 (by decide); have g5 : w1.cell? ⟨g, 5, none⟩ = some (.string ⟨#[67, 84, 67]⟩) := rd_cells hr 5 (by decide); have g6 : w1.cell? ⟨g, 6, none⟩ = some (.int .i64 1) := rd_cells hr 6 (by decide); have g7 : w1.cell? ⟨g, 7, none⟩ = some (.int .i64 1) := rd_cells hr 7 (by decide); have g8 : w1.cell? ⟨g, 8, none⟩ = some (.string ⟨#[67, 84]⟩) := rd_cells hr 8 (by decide); have HR := Lib.hid hr; clear hr; have hgs := World.block_lt_of_cell? w1 _ g0; have hws := World.block_lt_of_cell? w1 _ q0; simp only at hgs hws)
  go_region_held3 (fun w' => w'.cell? ⟨g, 0, none⟩ = some (.int .i64 1) ∧ w'.cell? ⟨g, 1, none⟩ = some (.int .i64 0) ∧ w'.cell? ⟨g, 2, none⟩ = some (.string ⟨#[67, 84]⟩) ∧ w'.cell? ⟨g, 3, none⟩ = some (.int .i64 1) ∧ w'.cell? ⟨g, 4, none⟩ = some (.int .i64 2) ∧ w'.cell? ⟨g, 5, none⟩ = some (.string ⟨#[67, 84, 67]⟩) ∧ w'.cell? ⟨g, 6, none⟩ = some (.int .i64 1) ∧ w'.cell? ⟨g, 7, none⟩ = some (.int .i64 1) ∧ w'.cell? ⟨g, 8, none⟩ = some (.string ⟨#[67, 84]⟩)) (go_keep) (fail)
  go_wp2
  have hX : (((w1.setCell ⟨w.heap.size, 0, none⟩ (.int .i64 4)).setCell ⟨w.heap.size, 1, none⟩ (.slice (some ⟨w1.heap.size, 0, none⟩) 3 3)).heap.size) = w1.heap.size := by simp
  generalize hX1 : (w1.setCell ⟨w.heap.size, 0, none⟩ (.int .i64 4)).setCell ⟨w.heap.size, 1, none⟩ (.slice (some ⟨w1.heap.size, 0, none⟩) 3 3) = X at *
  have r0 : X.cell? ⟨w.heap.size, 0, none⟩ = some (.int .i64 4) := by rw [← hX1, World.cell?_setCell_other _ _ _ _ (by simp), World.cell?_setCell_same _ _ _ q0]
  have r1 : X.cell? ⟨w.heap.size, 1, none⟩ = some (.slice (some ⟨w1.heap.size, 0, none⟩) 3 3) := by
    rw [← hX1, World.cell?_setCell_same (u := .slice none 0 0)]
    rw [World.cell?_setCell_other _ _ _ _ (by simp)]; exact q1
  have hbX : Below w.heap.size w X := by
    rw [← hX1]
    exact ((((Below.refl _ _).alloc (Nat.le_refl _) _).trans (hb.mono (by simp))).setCell (Nat.le_refl _) _).setCell (Nat.le_refl _) _
  have hwX : w.heap.size < X.heap.size := by omega
  clear hX1
  refine bodyPost_ret (v := shV 4 (some ⟨w1.heap.size, 0, none⟩) 3 secondL) (by simp [results, Try.results42, go_sem, r0, r1, hwX]; rfl) rfl ⟨_, 3, rfl, rd_block (n := 3) (heap_new_at X _ _ hX.symm) rfl (fun j hj => ?_) (by decide) secondL_fits, (hbX.alloc (by omega) _).drew, by decide, by simp at hb; have := hb.size; simp at this; omega⟩
  obtain rfl | rfl | rfl | rfl | rfl | rfl | rfl | rfl | rfl : j = 0 ∨ j = 1 ∨ j = 2 ∨ j = 3 ∨ j = 4 ∨ j = 5 ∨ j = 6 ∨ j = 7 ∨ j = 8 := by omega
  all_goals rfl
end Go.Proofs.Ytifpkdajfdlgeaa
