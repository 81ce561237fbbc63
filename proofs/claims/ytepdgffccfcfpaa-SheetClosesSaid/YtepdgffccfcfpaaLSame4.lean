/- The law's same, at two lists of edges that read alike. -/
import Derived.Test.YtepdgffccfcfpaaRSame4
namespace Go.Proofs.Ytepdgffccfcfpaa
open Go.RowKit

set_option maxRecDepth 100000 in
set_option maxHeartbeats 1000000 in
theorem same4_ (A B : Option Addr) (c d n : Nat) (g : Nat → Int) (w : World) (hn : n ≤ 281474976710656) (ha : Rd w A 4 n fun j => .int .i64 (g j)) (hb : Rd w B 4 n fun j => .int .i64 (g j)) :
    Calls Try.prog 16 #[.slice A n c, .slice B n d] w fun e w' => e = .returned (.bool true) ∧ Below w.heap.size w w' := by
  have HA := Lib.hid ha; have HB := Lib.hid hb; clear ha hb
  go_enter Try.func16, Try.ntmps16
  go_wp2
  go_loopw [5] (fun iv wr => ∃ j : Nat, iv = .int .i64 j ∧ j ≤ n ∧ Below w.heap.size w wr) (fun iv _ => n - (intOf iv).toNat)
  case atStart => exact ⟨0, rfl, Nat.zero_le _, Below.refl _ _⟩
  case round =>
    obtain ⟨j, rfl, hj, hb3⟩ := hrel
    by_cases hlt : j < n
    · obtain ⟨b, off, rfl, hbL, hg⟩ := (HA.out.later hb3 (Nat.le_refl _)) (by omega)
      obtain ⟨b', off', rfl, hbL', hg'⟩ := (HB.out.later hb3 (Nat.le_refl _)) (by omega)
      have x1 : (0 : Int) ≤ (j : Int) := by omega
      have x2 : (j : Int) < (n : Int) := by omega
      have g0 := hg (j * 4) (by omega)
      have g1 := hg (j * 4 + 1) (by omega)
      have g2 := hg (j * 4 + 2) (by omega)
      have g3 := hg (j * 4 + 3) (by omega)
      have h0 := hg' (j * 4) (by omega)
      have h1 := hg' (j * 4 + 1) (by omega)
      have h2 := hg' (j * 4 + 2) (by omega)
      have h3 := hg' (j * 4 + 3) (by omega)
      rw [← Nat.add_assoc] at g1 g2 g3 h1 h2 h3
      clear hg hg'
      generalize g (j * 4) = z0 at *
      generalize g (j * 4 + 1) = z1 at *
      generalize g (j * 4 + 2) = z2 at *
      generalize g (j * 4 + 3) = z3 at *
      have HB3 := Lib.hid hb3; clear hb3
      go_wp2
      go_quiet (fail)
      go_wp2
      go_roundw
      case rel => exact ⟨j + 1, by go_num, by omega, below_drewN HB3.out _⟩
      case measure => simp [intOf]; omega
    · have HB3 := Lib.hid hb3; clear hb3
      go_wp2
      go_ret
      exact ⟨rfl, HB3.out⟩
end Go.Proofs.Ytepdgffccfcfpaa
