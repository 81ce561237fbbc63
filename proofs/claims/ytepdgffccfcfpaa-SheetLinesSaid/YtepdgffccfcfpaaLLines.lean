/- The law SheetLines returns true. -/
import Derived.Test.YtepdgffccfcfpaaEx4
import Derived.Test.YtepdgffccfcfpaaRLine
import Derived.Test.YtepdgffccfcfpaaRReady
import Derived.Test.YtepdgffccfcfpaaLFar4
namespace Go.Proofs.Ytepdgffccfcfpaa
open Go.RowKit

set_option maxRecDepth 100000 in
set_option maxHeartbeats 4000000 in
theorem lawLines_ (p : Int) (A L : Option Addr) (c lc : Nat) (ws : List GW) (l : List Int) (w : World) (ha : ShIn w p A ws) (hl : RdI w L l) :
    Calls Try.prog 4 #[.agg #[.int .i64 p, .slice A ws.length c], .slice L l.length lc] w fun e w' => e = .returned (.bool true) ∧ Below w.heap.size w w' := by
  have hln := hl.1
  have hb2 : Below w.heap.size w (w.alloc (.cells #[.int .i64 p, .slice A ws.length c] 24)) := (Below.refl _ _).alloc (Nat.le_refl _) _
  have Y0 := Lib.hid hb2; clear hb2
  have X0 := Lib.hid (Box1.made w p A c ws.length 24)
  have HA := Lib.hid ha; have HL := Lib.hid hl; clear ha hl
  go_enter Try.func4, Try.ntmps4
  go_wp2_with fail
  refine (far4_ p A c ws _ (HA.out.rd.later Y0.out (Nat.le_refl _))).mono ?_; rintro e w1 ⟨z, rfl, _, hb1⟩
  cases z
  rotate_left
  · have X1 := Lib.hid (X0.out.later hb1); have Y1 := Lib.hid (Y0.out.trans (hb1.mono Y0.out.size)); clear hb1; obtain ⟨c1, c2, s1⟩ := X1.out
    go_wp2_with fail
    clear c1 c2 s1
    refine (shown_ _).mono ?_; rintro e w8 ⟨rfl, hb1⟩
    go_wp2
    go_ret
    exact ⟨rfl, Y1.out.trans (hb1.mono Y1.out.size)⟩
  · by_cases hbig : (1000 : Int) < (l.length : Int)
    · have X1 := Lib.hid (X0.out.later hb1); have Y1 := Lib.hid (Y0.out.trans (hb1.mono Y0.out.size)); clear hb1; obtain ⟨c1, c2, s1⟩ := X1.out
      go_wp2_with fail
      clear c1 c2 s1
      refine (shown_ _).mono ?_; rintro e w8 ⟨rfl, hb1⟩
      go_wp2
      go_ret
      exact ⟨rfl, Y1.out.trans (hb1.mono Y1.out.size)⟩
    · have X1 := Lib.hid (X0.out.later hb1); have Y1 := Lib.hid (Y0.out.trans (hb1.mono Y0.out.size)); clear hb1; obtain ⟨c1, c2, s1⟩ := X1.out
      go_wp2_with fail
      clear c1 c2 s1
      refine (sLine_ p A L c lc ws l _ (HA.out.later Y1.out (Nat.le_refl _)) (HL.out.later Y1.out (Nat.le_refl _))).mono ?_; rintro e w2 ⟨_, rfl, ⟨L1, k1, rfl, hL1⟩, hb1⟩
      have HL1 := Lib.hid hL1; clear hL1
      have X2 := Lib.hid (X1.out.later hb1); have Y2 := Lib.hid (Y1.out.trans (hb1.mono Y1.out.size)); clear hb1; obtain ⟨c1, c2, s1⟩ := X2.out
      go_wp2_with fail
      clear c1 c2 s1
      refine (rLine_ p A L c lc ws l _ (HA.out.later Y2.out (Nat.le_refl _)) (HL.out.later Y2.out (Nat.le_refl _))).mono ?_; rintro e w3 ⟨_, rfl, ⟨L2, k2, rfl, hL2⟩, hb1⟩
      have HL2 := Lib.hid hL2; have HM1 := Lib.hid (HL1.out.later hb1 (Nat.le_refl _)); clear hL2 HL1
      have X3 := Lib.hid (X2.out.later hb1); have Y3 := Lib.hid (Y2.out.trans (hb1.mono Y2.out.size)); clear hb1; obtain ⟨c1, c2, s1⟩ := X3.out
      go_wp2_with fail
      clear c1 c2 s1
      refine (sReady_ p A L c lc ws l _ (HA.out.later Y3.out (Nat.le_refl _)) (HL.out.later Y3.out (Nat.le_refl _))).mono ?_; rintro e w4 ⟨_, rfl, ⟨L3, k3, rfl, hL3⟩, hb1⟩
      have HL3 := Lib.hid hL3; have HN1 := Lib.hid (HM1.out.later hb1 (Nat.le_refl _)); have HN2 := Lib.hid (HL2.out.later hb1 (Nat.le_refl _)); clear hL3 HM1 HL2
      have X4 := Lib.hid (X3.out.later hb1); have Y4 := Lib.hid (Y3.out.trans (hb1.mono Y3.out.size)); clear hb1; obtain ⟨c1, c2, s1⟩ := X4.out
      go_wp2_with fail
      clear c1 c2 s1
      refine (rReady_ p A L c lc ws l _ (HA.out.later Y4.out (Nat.le_refl _)) (HL.out.later Y4.out (Nat.le_refl _))).mono ?_; rintro e w5 ⟨_, rfl, ⟨L4, k4, rfl, hL4⟩, hb1⟩
      have HL4 := Lib.hid hL4; have HO1 := Lib.hid (HN1.out.later hb1 (Nat.le_refl _)); have HO2 := Lib.hid (HN2.out.later hb1 (Nat.le_refl _)); have HO3 := Lib.hid (HL3.out.later hb1 (Nat.le_refl _)); clear hL4 HN1 HN2 HL3
      have Y5 := Lib.hid (Y4.out.trans (hb1.mono Y4.out.size)); clear hb1
      generalize clErr p ws l = E at *
      generalize lineL p ws l = ll at *
      generalize readyL p ws l = rl at *
      go_wp2_with fail
      refine (sameInts_ L1 L2 k1 k2 ll ll _ HO1.out HO2.out).mono ?_; rintro e w6 ⟨rfl, hb1⟩
      have HP3 := Lib.hid (HO3.out.later hb1 (Nat.le_refl _)); have HP4 := Lib.hid (HL4.out.later hb1 (Nat.le_refl _)); clear HO3 HL4
      rw [show decide (ll = ll) = true from decide_eq_true rfl]
      have Y6 := Lib.hid (Y5.out.trans (hb1.mono Y5.out.size)); clear hb1
      go_wp2_with fail
      refine (sameInts_ L3 L4 k3 k4 rl rl _ HP3.out HP4.out).mono ?_; rintro e w7 ⟨rfl, hb1⟩
      rw [show decide (rl = rl) = true from decide_eq_true rfl]
      have Y7 := Lib.hid (Y6.out.trans (hb1.mono Y6.out.size)); clear hb1
      go_wp2_with fail
      refine (shown_ _).mono ?_; rintro e w8 ⟨rfl, hb1⟩
      have Y8 := Lib.hid (Y7.out.trans (hb1.mono Y7.out.size)); clear hb1
      go_wp2
      go_ret
      exact ⟨rfl, Y8.out⟩
end Go.Proofs.Ytepdgffccfcfpaa
