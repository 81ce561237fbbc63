/- Package traces: check, row, match, Same, Match. -/
import Derived.Test.YtifpkdajfdlgeaaCheckS
import Derived.Deep.RegionHeld3
namespace Go.Proofs.Ytifpkdajfdlgeaa
open Go.RowKit

def orErr (a b : Int) : Int := if a = 0 then b else a

set_option maxHeartbeats 400000 in
theorem cmpOr_ (b : Nat) (x y : Int) (w : World) (hc : w.heap[b]? = some (.cells #[.int .i64 x, .int .i64 y] 27 (0, 0))) :
    Calls Try.prog 61 #[.slice (some ⟨b, 0, none⟩) 2 2] w fun e w' => e = .returned (.int .i64 (orErr x y)) ∧ w = w' := by
  have c0 : w.cell? ⟨b, 0, none⟩ = some (.int .i64 x) := cell_of_row w b 0 _ _ _ hc
  have c1 : w.cell? ⟨b, 1, none⟩ = some (.int .i64 y) := cell_of_row w b 1 _ _ _ hc
  clear hc
  go_enter Try.func61, Try.ntmps61
  go_wp2
  go_loop [8] (fun i => ∃ k : Nat, i = .int .i64 k ∧ k ≤ 2 ∧ (0 < k → x = 0) ∧ (1 < k → y = 0)) (fun i => 2 - (intOf i).toNat)
  case atStart => exact ⟨0, rfl, by omega, fun h => absurd h (by omega), fun h => absurd h (by omega)⟩
  case round =>
    obtain ⟨k, rfl, hk, h0, h1⟩ := hrel
    have H0 := Lib.hid h0; clear h0
    have H1 := Lib.hid h1; clear h1
    obtain rfl | rfl | rfl : k = 0 ∨ k = 1 ∨ k = 2 := by omega
    · by_cases hx : x = 0
      · have hb : (x != 0) = false := by simpa using hx
        have HX := Lib.hid hx; clear hx
        go_wp2
        go_round
        case rel => exact ⟨1, by go_num, by omega, fun _ => HX.out, fun h => absurd h (by omega)⟩
        case measure => simp [intOf]
      · have hb : (x != 0) = true := by simpa using hx
        have HX := Lib.hid hx; clear hx
        go_wp2
        go_ret
        exact ⟨ret_int (by unfold orErr; rw [if_neg HX.out]), rfl⟩
    · by_cases hx : y = 0
      · have hb : (y != 0) = false := by simpa using hx
        have HX := Lib.hid hx; clear hx
        go_wp2
        go_round
        case rel => exact ⟨2, by go_num, by omega, fun _ => H0.out (by omega), fun _ => HX.out⟩
        case measure => simp [intOf]
      · have hb : (y != 0) = true := by simpa using hx
        have HX := Lib.hid hx; clear hx
        go_wp2
        go_ret
        exact ⟨ret_int (by unfold orErr; rw [if_pos (H0.out (by omega))]), rfl⟩
    · go_wp2
      go_ret
      exact ⟨ret_int (by unfold orErr; rw [if_pos (H0.out (by omega)), H1.out (by omega)]), rfl⟩

set_option maxHeartbeats 1000000 in
theorem tcheck_ (ba bb : Nat) (p q : Int) (A B : Option Addr) (c d : Nat) (ws vs : List GW) (w : World)
    (hp : -9223372036854775808 ≤ p) (hp' : p ≤ 9223372036854775807) (hq : -9223372036854775808 ≤ q) (hq' : q ≤ 9223372036854775807) (ha : RdW w A ws) (hb : RdW w B vs)
    (a0 : w.cell? ⟨ba, 0, none⟩ = some (.int .i64 p)) (a1 : w.cell? ⟨ba, 1, none⟩ = some (.slice A ws.length c))
    (b0 : w.cell? ⟨bb, 0, none⟩ = some (.int .i64 q)) (b1 : w.cell? ⟨bb, 1, none⟩ = some (.slice B vs.length d)) :
    Calls Try.prog 43 #[.pointer (some ⟨ba, 0, none⟩), .pointer (some ⟨bb, 0, none⟩)] w fun e w' => e = .returned (.int .i64 (orErr (errSheet p ws) (errSheet q vs))) ∧ Below w.heap.size w w' := by
  have HA := Lib.hid ha; clear ha
  have HB := Lib.hid hb; clear hb
  have keep0 : ∀ w1, Below w.heap.size w w1 → Below w.heap.size w w1 ∧ w1.cell? ⟨ba, 0, none⟩ = some (.int .i64 p) ∧ w1.cell? ⟨ba, 1, none⟩ = some (.slice A ws.length c) ∧
      w1.cell? ⟨bb, 0, none⟩ = some (.int .i64 q) ∧ w1.cell? ⟨bb, 1, none⟩ = some (.slice B vs.length d) := fun w1 hb => by
    exact ⟨hb, below_at hb (Nat.le_refl _) a0, below_at hb (Nat.le_refl _) a1, below_at hb (Nat.le_refl _) b0, below_at hb (Nat.le_refl _) b1⟩
  have KEEP := Lib.hid keep0; clear keep0
  go_enter Try.func43, Try.ntmps43
  go_wp2
  go_region_held3 (fun w1 => Below w.heap.size w w1 ∧ w1.cell? ⟨ba, 0, none⟩ = some (.int .i64 p) ∧ w1.cell? ⟨ba, 1, none⟩ = some (.slice A ws.length c) ∧ w1.cell? ⟨bb, 0, none⟩ = some (.int .i64 q) ∧ w1.cell? ⟨bb, 1, none⟩ = some (.slice B vs.length d))
    ((refine KEEP.out _ ?_; first | exact (Below.refl _ _).drew | exact ‹Below w.heap.size w _ ∧ _›.1.trans (hb1.mono ‹Below w.heap.size w _ ∧ _›.1.size) | exact ‹Below w.heap.size w _ ∧ _›.1.alloc ‹Below w.heap.size w _ ∧ _›.1.size _ | exact ‹Below w.heap.size w _ ∧ _›.1))
    (first | (go_at_call 50; refine (sCheck_ _ _ _ _ _ (by assumption) (by assumption) (by first | exact HA.out.later ‹Below w.heap.size w _ ∧ _›.1 (Nat.le_refl _) | exact HB.out.later ‹Below w.heap.size w _ ∧ _›.1 (Nat.le_refl _))).mono ?_; rintro e w1 ⟨rfl, hb1⟩) | (go_at_call 61; go_must (refine (cmpOr_ _ _ _ _ (heap_alloc_new _ _)).mono ?_); rintro e w2 ⟨rfl, rfl⟩))
  go_wp2
  go_ret
  exact ⟨rfl, ‹Below w.heap.size w _ ∧ _›.1⟩
end Go.Proofs.Ytifpkdajfdlgeaa
