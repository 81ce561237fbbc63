/- The law SheetChains returns true. -/
import Derived.Test.YtepdgffccfcfpaaEx4
import Derived.Test.YtepdgffccfcfpaaRChain
import Derived.Test.YtepdgffccfcfpaaLFar4
namespace Go.Proofs.Ytepdgffccfcfpaa
open Go.RowKit

set_option maxRecDepth 100000 in
set_option maxHeartbeats 4000000 in
theorem lawChains_ (p a b : Int) (A : Option Addr) (c : Nat) (ws : List GW) (w : World) (ha : ShIn w p A ws) :
    Calls Try.prog 5 #[.agg #[.int .i64 p, .slice A ws.length c], .int .i64 a, .int .i64 b] w fun e w' => e = .returned (.bool true) ∧ Below w.heap.size w w' := by
  have hb2 : Below w.heap.size w (w.alloc (.cells #[.int .i64 p, .slice A ws.length c] 24)) := (Below.refl _ _).alloc (Nat.le_refl _) _
  have Y0 := Lib.hid hb2; clear hb2
  have X0 := Lib.hid (Box1.made w p A c ws.length 24)
  have HA := Lib.hid ha; clear ha
  go_enter Try.func5, Try.ntmps5
  go_wp2_with fail
  refine (far4_ p A c ws _ (HA.out.rd.later Y0.out (Nat.le_refl _))).mono ?_; rintro e w1 ⟨z, rfl, _, hb1⟩
  cases z
  rotate_left
  · have X1 := Lib.hid (X0.out.later hb1); have Y1 := Lib.hid (Y0.out.trans (hb1.mono Y0.out.size)); clear hb1; obtain ⟨c1, c2, s1⟩ := X1.out
    go_wp2_with fail
    clear c1 c2 s1
    refine (shown_ _).mono ?_; rintro e w8 ⟨rfl, hb1⟩
    go_wp2
    go_ret
    exact ⟨rfl, Y1.out.trans (hb1.mono Y1.out.size)⟩
  · have X1 := Lib.hid (X0.out.later hb1); have Y1 := Lib.hid (Y0.out.trans (hb1.mono Y0.out.size)); clear hb1; obtain ⟨c1, c2, s1⟩ := X1.out
    go_wp2_with fail
    clear c1 c2 s1
    refine (sBefore_ p a b A c ws _ (HA.out.later Y1.out (Nat.le_refl _))).mono ?_; rintro e w2 ⟨rfl, hb1⟩
    have X2 := Lib.hid (X1.out.later hb1); have Y2 := Lib.hid (Y1.out.trans (hb1.mono Y1.out.size)); clear hb1; obtain ⟨c1, c2, s1⟩ := X2.out
    go_wp2_with fail
    clear c1 c2 s1
    refine (rBefore_ p a b A c ws _ (HA.out.later Y2.out (Nat.le_refl _))).mono ?_; rintro e w3 ⟨rfl, hb1⟩
    have X3 := Lib.hid (X2.out.later hb1); have Y3 := Lib.hid (Y2.out.trans (hb1.mono Y2.out.size)); clear hb1; obtain ⟨c1, c2, s1⟩ := X3.out
    go_wp2_with fail
    clear c1 c2 s1
    refine (sChain_ p a b A c ws _ (HA.out.later Y3.out (Nat.le_refl _))).mono ?_; rintro e w4 ⟨_, x, l, rfl, ⟨L1, k1, rfl, hL1⟩, hb1, hch1⟩
    have HL1 := Lib.hid hL1; have HCH1 := Lib.hid hch1; clear hL1 hch1
    have X4 := Lib.hid (X3.out.later hb1); have Y4 := Lib.hid (Y3.out.trans (hb1.mono Y3.out.size)); clear hb1; obtain ⟨c1, c2, s1⟩ := X4.out
    go_wp2_with fail
    clear c1 c2 s1
    refine (rChain_ p a b A c ws _ (HA.out.later Y4.out (Nat.le_refl _))).mono ?_; rintro e w5 ⟨_, x', l', rfl, ⟨L2, k2, rfl, hL2⟩, hb1, hch2⟩
    obtain ⟨hx, hl⟩ := chnIs_uniq hch2 HCH1.out
    subst hx; subst hl
    have HM1 := Lib.hid (HL1.out.later hb1 (Nat.le_refl _))
    have Y5 := Lib.hid (Y4.out.trans (hb1.mono Y4.out.size)); clear hb1 HL1 HCH1 hch2
    have HL2 := Lib.hid hL2; clear hL2
    generalize befB p ws a b = bv at *
    generalize askErr p ws [a, b] = E at *
    go_wp2_with fail
    refine (sameInts_ L1 L2 k1 k2 l' l' _ HM1.out HL2.out).mono ?_; rintro e w6 ⟨rfl, hb1⟩
    rw [show decide (l' = l') = true from decide_eq_true rfl]
    have Y6 := Lib.hid (Y5.out.trans (hb1.mono Y5.out.size)); clear hb1
    go_wp2_with fail
    refine (shown_ _).mono ?_; rintro e w8 ⟨rfl, hb1⟩
    have Y8 := Lib.hid (Y6.out.trans (hb1.mono Y6.out.size)); clear hb1
    go_wp2
    go_ret
    exact ⟨rfl, Y8.out⟩
end Go.Proofs.Ytepdgffccfcfpaa
