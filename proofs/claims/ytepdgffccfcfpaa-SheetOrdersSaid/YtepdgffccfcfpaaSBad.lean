/- The program's Reorder and Edges of a sheet that is not valid. -/
import Derived.Test.YtepdgffccfcfpaaSBefore
namespace Go.Proofs.Ytepdgffccfcfpaa
open Go.RowKit

set_option maxRecDepth 100000 in
set_option maxHeartbeats 4000000 in
theorem sReorder_bad (p : Int) (A L : Option Addr) (c lc : Nat) (ws : List GW) (l : List Int) (w : World) (hsh : ShIn w p A ws) (he : errSheet p ws ≠ 0) :
    Calls Try.prog 26 #[.agg #[.int .i64 p, .slice A ws.length c], .slice L l.length lc] w (ShPost 0 [] (errSheet p ws) w) := by
  have hb2 : Below w.heap.size w ((w.alloc (.cells #[.int .i64 p, .slice A ws.length c] 24)).alloc (.cells #[.int .i64 0, .slice none 0 0] 24)) := ((Below.refl _ _).alloc (Nat.le_refl _) _).alloc (by simp) _
  obtain ⟨hp1, hp2, ha⟩ := hsh
  have HA := Lib.hid ha; have HB2 := Lib.hid hb2; clear ha hb2
  go_enter Try.func26, Try.ntmps26
  go_wp2_with fail
  refine (sCheck_ _ _ _ _ _ hp1 hp2 (HA.out.later HB2.out (Nat.le_refl _))).mono ?_
  rintro e w1 ⟨rfl, hb1⟩
  have c0 : w1.cell? ⟨w.heap.size + 1, 0, none⟩ = some (.int .i64 0) := below_at hb1 (Nat.le_refl _) (by go_simp)
  have c1 : w1.cell? ⟨w.heap.size + 1, 1, none⟩ = some (.slice none 0 0) := below_at hb1 (Nat.le_refl _) (by go_simp)
  have f0 : w1.frozen? ⟨w.heap.size + 1, 0, none⟩ = false := (hb1.frozen (p := ⟨w.heap.size + 1, 0, none⟩) (by simp)).trans (by go_simp)
  have f1 : w1.frozen? ⟨w.heap.size + 1, 1, none⟩ = false := (hb1.frozen (p := ⟨w.heap.size + 1, 1, none⟩) (by simp)).trans (by go_simp)
  have hs1 : w.heap.size + 1 < w1.heap.size := by have := hb1.size; simp at this; omega
  have Y1 := Lib.hid (HB2.out.trans (hb1.mono (by simp; omega))); clear hb1
  generalize hge : errSheet p ws = E at *
  have HGE := Lib.hid hge; clear hge
  go_wp2
  refine bodyPost_ret (v := .tuple #[.agg #[.int .i64 0, .slice none 0 0], .int .i64 E]) (by simp [results, Try.results26, go_sem, c0, c1]) rfl ⟨none, 0, ?_, rdW_nil _, (Y1.out.setCell (by show w.heap.size ≤ w.heap.size + 1; omega) _).setCell (by show w.heap.size ≤ w.heap.size + 1; omega) _, Nat.le_refl _⟩
  try rw [HGE.out]
  rfl

set_option maxRecDepth 100000 in
set_option maxHeartbeats 4000000 in
theorem sEdges_bad (p : Int) (A : Option Addr) (c : Nat) (ws : List GW) (w : World) (hsh : ShIn w p A ws) (he : errSheet p ws ≠ 0) :
    Calls Try.prog 12 #[.agg #[.int .i64 p, .slice A ws.length c]] w fun e w' => e = .returned (.tuple #[.slice none 0 0, .int .i64 (errSheet p ws)]) ∧ Below w.heap.size w w' := by
  have hb2 : Below w.heap.size w (w.alloc (.cells #[.int .i64 p, .slice A ws.length c] 24)) := (Below.refl _ _).alloc (Nat.le_refl _) _
  obtain ⟨hp1, hp2, ha⟩ := hsh
  have HA := Lib.hid ha; have HB2 := Lib.hid hb2; clear ha hb2
  go_enter Try.func12, Try.ntmps12
  go_wp2_with fail
  refine (sCheck_ _ _ _ _ _ hp1 hp2 (HA.out.later HB2.out (Nat.le_refl _))).mono ?_
  rintro e w1 ⟨rfl, hb1⟩
  have hs1 : w.heap.size < w1.heap.size := by have := hb1.size; simp at this; omega
  have Y1 := Lib.hid (HB2.out.trans (hb1.mono (by simp))); clear hb1
  generalize hge : errSheet p ws = E at *
  have HGE := Lib.hid hge; clear hge
  go_wp2
  go_ret2
  refine ⟨?_, Y1.out⟩
  try rw [HGE.out]
  rfl
end Go.Proofs.Ytepdgffccfcfpaa
