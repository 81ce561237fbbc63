/- Texts of this claim, laid together: PrLBnd. -/
import Derived.Test.YtnplcephmidjbaaDoorMaT
import Derived.Test.YtnplcephmidjbaaDoorMaW
/- The law PairsBound returns true. -/
namespace Go.Proofs.YtnplcephmidjbaaDoor
open Go.RowKit

set_option maxRecDepth 100000 in
set_option maxHeartbeats 4000000 in
theorem lawBnd_ (p : Int) (A : Option Addr) (c : Nat) (ws : List GW) (w : World) (ha : ShIn w p A ws) (hT : Tz w) :
    Calls Tryd.prog 5 #[.agg #[.int .i64 p, .slice A ws.length c]] w fun e w' => e = .returned (.bool true) ∧ Below w.heap.size w w' := by
  have hb2 : Below w.heap.size w (w.alloc (.cells #[.int .i64 p, .slice A ws.length c] 24)) := (Below.refl _ _).alloc (Nat.le_refl _) _
  have Y0 := Lib.hid hb2; clear hb2
  have X0 := Lib.hid (Box1.made w p A c ws.length 24)
  have HA := Lib.hid ha; have HT := Lib.hid hT; clear ha hT
  by_cases h20 : 20 < (ws.length : Int)
  by_cases h4 : (ws.length : Int) ≤ 400
  all_goals
    go_enter Tryd.func5, Tryd.ntmps5
    go_wp2_with fail
    refine (far12_ p A c ws _ (HA.out.rd.later Y0.out (Nat.le_refl _))).mono ?_; rintro e w1 ⟨z, rfl, _, hb1⟩
    cases z
    rotate_left
    · have X1 := Lib.hid (X0.out.later hb1); have Y1 := Lib.hid (Y0.out.trans (hb1.mono Y0.out.size)); clear hb1; obtain ⟨c1, c2, s1⟩ := X1.out
      go_wp2_with fail
      clear c1 c2 s1
      refine (shown_ _ (HT.out.later Y1.out (Nat.le_refl _))).mono ?_; rintro e w8 ⟨rfl, hb1⟩
      go_wp2
      go_ret
      exact ⟨rfl, Y1.out.trans (hb1.mono Y1.out.size)⟩
  · have X1 := Lib.hid (X0.out.later hb1); have Y1 := Lib.hid (Y0.out.trans (hb1.mono Y0.out.size)); clear hb1; obtain ⟨c1, c2, s1⟩ := X1.out
    go_wp2_with fail
    clear c1 c2 s1
    refine (shown_ _ (HT.out.later Y1.out (Nat.le_refl _))).mono ?_; rintro e w8 ⟨rfl, hb1⟩
    go_wp2
    go_ret
    exact ⟨rfl, Y1.out.trans (hb1.mono Y1.out.size)⟩
  all_goals
    have X1 := Lib.hid (X0.out.later hb1); have Y1 := Lib.hid (Y0.out.trans (hb1.mono Y0.out.size)); clear hb1; obtain ⟨c1, c2, s1⟩ := X1.out
    go_wp2_with fail
    clear c1 c2 s1
    refine (pBound_ p A c ws _ (HA.out.later Y1.out (Nat.le_refl _)) (HT.out.later Y1.out (Nat.le_refl _))).mono ?_; rintro e w2 ⟨v1, rfl, hv1, hb1⟩
    have Y2 := Lib.hid (Y1.out.trans (hb1.mono Y1.out.size))
    have X2 := Lib.hid (X1.out.later hb1)
    obtain ⟨c1, c2, s1⟩ := X2.out
    obtain ⟨B1, d1, rfl, hv1⟩ := hv1
    have V1 := Lib.hid hv1
    clear hv1 hb1
    go_wp2_with fail
    have b0 := (Below.refl w2.heap.size w2).alloc (Nat.le_refl _) (.cells #[.int .i64 (bndW p ws : Int), .slice B1 (bndL p ws).length d1] 37)
    refine (rBound_ p A c ws _ (HA.out.later (Y2.out.trans (b0.mono Y2.out.size)) (Nat.le_refl _))).mono ?_; rintro e w3 ⟨v2, rfl, hv2, hb1⟩
    have hb3 := b0.trans (hb1.mono (by simp))
    have Y3 := Lib.hid (Y2.out.trans (hb3.mono Y2.out.size))
    obtain ⟨B2, d2, rfl, hv2⟩ := hv2
    have V2 := Lib.hid hv2
    have V1b := Lib.hid (V1.out.later hb3 (Nat.le_refl _))
    have m0 : w3.cell? ⟨w2.heap.size, 0, none⟩ = some (.int .i64 (bndW p ws : Int)) := below_at hb1 (Nat.le_refl _) (by go_simp)
    have m1 : w3.cell? ⟨w2.heap.size, 1, none⟩ = some (.slice B1 (bndL p ws).length d1) := below_at hb1 (Nat.le_refl _) (by go_simp)
    have ms := World.block_lt_of_cell? _ _ m0
    clear hv2 hb1 hb3 b0 c1 c2 s1 V1
    generalize bndX p ws = E at *
    generalize bndW p ws = K at *
    generalize bndL p ws = L at *
    go_wp2_with fail
    have b0 := (Below.refl w3.heap.size w3).alloc (Nat.le_refl _) (.cells #[.int .i64 (K : Int), .slice B2 L.length d2] 37)
    refine (sameV_ _ ⟨B1, d1, rfl, V1b.out.later b0 (Nat.le_refl _)⟩ ⟨B2, d2, rfl, V2.out.later b0 (Nat.le_refl _)⟩).mono ?_; rintro e w4 ⟨rfl, hb1⟩
    have hb3 := b0.trans (hb1.mono (by simp))
    have Y4 := Lib.hid (Y3.out.trans (hb3.mono Y3.out.size))
    clear V1b V2 m0 m1 ms b0 hb1 hb3
    go_wp2_with fail
    refine (shown_ _ (HT.out.later Y4.out (Nat.le_refl _))).mono ?_; rintro e w5 ⟨rfl, hb1⟩
    have Y5 := Lib.hid (Y4.out.trans (hb1.mono Y4.out.size)); clear hb1
    go_wp2_with fail
    go_ret
    exact ⟨rfl, Y5.out⟩
end Go.Proofs.YtnplcephmidjbaaDoor
