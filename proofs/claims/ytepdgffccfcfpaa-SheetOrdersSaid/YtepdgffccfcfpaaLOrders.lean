/- The law SheetOrders returns true. -/
import Derived.Test.YtepdgffccfcfpaaEx4
import Derived.Test.YtepdgffccfcfpaaRReorder
import Derived.Test.YtepdgffccfcfpaaSBad
import Derived.Test.YtepdgffccfcfpaaRSame4
import Derived.Test.YtepdgffccfcfpaaLFar4
namespace Go.Proofs.Ytepdgffccfcfpaa
open Go.RowKit

theorem sReorder_ (p : Int) (A L : Option Addr) (c lc : Nat) (ws : List GW) (l : List Int) (w : World) (hsh : ShIn w p A ws) (hl : RdI w L l) :
    Calls Try.prog 26 #[.agg #[.int .i64 p, .slice A ws.length c], .slice L l.length lc] w (ShPost (reoP p ws l) (reoV p ws l) (reoX p ws l) w) := by
  by_cases he : errSheet p ws = 0
  · obtain ⟨hp2, hp24, hn, _⟩ := okAll he
    obtain ⟨P, rfl⟩ := Int.eq_ofNat_of_zero_le (show 0 ≤ p by omega)
    have hiff : reOk P ws l ↔ ordQ ws l = true := by
      rw [reOk_iff hn]
      unfold ordQ
      rw [Bool.and_eq_true, decide_eq_true_eq]
      exact ⟨fun h => ⟨h.2, h.1⟩, fun h => ⟨h.2, h.1⟩⟩
    refine (sReorder_ok P A L c lc ws l w he hsh.rd hl).mono ?_
    rintro e w' ⟨h1, h2⟩
    by_cases ho : ordQ ws l = true
    · have hx : reoX P ws l = 0 := by unfold reoX; rw [if_pos he, if_pos ho]
      have := h1 (hiff.2 ho)
      unfold reoP reoV
      rw [if_pos hx, if_pos hx, hx]
      exact this
    · have hx : reoX P ws l = 4 := by unfold reoX; rw [if_pos he, if_neg ho]
      have := h2 (fun h => ho (hiff.1 h))
      unfold reoP reoV
      rw [if_neg (by rw [hx]; decide), if_neg (by rw [hx]; decide), hx]
      exact this
  · have hx : reoX p ws l = errSheet p ws := by unfold reoX; rw [if_neg he]
    unfold reoP reoV
    rw [if_neg (by rw [hx]; exact he), if_neg (by rw [hx]; exact he), hx]
    exact sReorder_bad p A L c lc ws l w hsh he

set_option maxRecDepth 100000 in
set_option maxHeartbeats 4000000 in
theorem lawOrders4_ (p : Int) (A L : Option Addr) (c lc : Nat) (ws : List GW) (l : List Int) (w : World) (ha : ShIn w p A ws) (hl : RdI w L l) :
    Calls Try.prog 6 #[.agg #[.int .i64 p, .slice A ws.length c], .slice L l.length lc] w fun e w' => e = .returned (.bool true) ∧ Below w.heap.size w w' := by
  have hln := hl.1
  have hb2 : Below w.heap.size w (w.alloc (.cells #[.int .i64 p, .slice A ws.length c] 24)) := (Below.refl _ _).alloc (Nat.le_refl _) _
  have Y0 := Lib.hid hb2; clear hb2
  have X0 := Lib.hid (Box1.made w p A c ws.length 24)
  have HA := Lib.hid ha; have HL := Lib.hid hl; clear ha hl
  go_enter Try.func6, Try.ntmps6
  go_wp2_with fail
  refine (far4_ p A c ws _ (HA.out.rd.later Y0.out (Nat.le_refl _))).mono ?_; rintro e w1 ⟨z, rfl, _, hb1⟩
  cases z
  rotate_left
  · have X1 := Lib.hid (X0.out.later hb1); have Y1 := Lib.hid (Y0.out.trans (hb1.mono Y0.out.size)); clear hb1; obtain ⟨c1, c2, s1⟩ := X1.out
    go_wp2_with fail
    clear c1 c2 s1
    refine (shown_ _).mono ?_; rintro e w8 ⟨rfl, hb1⟩
    go_wp2
    go_ret
    exact ⟨rfl, Y1.out.trans (hb1.mono Y1.out.size)⟩
  · by_cases hbig : (2000 : Int) < (l.length : Int)
    · have X1 := Lib.hid (X0.out.later hb1); have Y1 := Lib.hid (Y0.out.trans (hb1.mono Y0.out.size)); clear hb1; obtain ⟨c1, c2, s1⟩ := X1.out
      go_wp2_with fail
      clear c1 c2 s1
      refine (shown_ _).mono ?_; rintro e w8 ⟨rfl, hb1⟩
      go_wp2
      go_ret
      exact ⟨rfl, Y1.out.trans (hb1.mono Y1.out.size)⟩
    · have X1 := Lib.hid (X0.out.later hb1); have Y1 := Lib.hid (Y0.out.trans (hb1.mono Y0.out.size)); clear hb1; obtain ⟨c1, c2, s1⟩ := X1.out
      go_wp2_with fail
      clear c1 c2 s1
      refine (sReorder_ p A L c lc ws l _ (HA.out.later Y1.out (Nat.le_refl _)) (HL.out.later Y1.out (Nat.le_refl _))).mono ?_; rintro e w2 ⟨B1, k1, rfl, hL1, hb1, hd1⟩
      generalize hq : reoP p ws l = q at *
      generalize hgv : reoV p ws l = vs at *
      generalize hge : reoX p ws l = E at *
      have X2 := Lib.hid (X1.out.later hb1)
      have Y2 := Lib.hid (Y1.out.trans (hb1.mono Y1.out.size)); clear hb1
      obtain ⟨c1, c2, s1⟩ := X2.out
      have hA3 : Below w2.heap.size w2 (w2.alloc (.cells #[.int .i64 q, .slice B1 vs.length k1] 24)) := (Below.refl _ _).alloc (Nat.le_refl _) _
      have HL1 := Lib.hid hL1; have HA3 := Lib.hid hA3; have HGV := Lib.hid hgv; have HQ := Lib.hid hq; have HGE := Lib.hid hge; clear hL1 hA3 hgv hq hge
      go_wp2_with fail
      refine (rReorder_ p A L c lc ws l _ (HA.out.later (Y2.out.trans (HA3.out.mono Y2.out.size)) (Nat.le_refl _)) (HL.out.later (Y2.out.trans (HA3.out.mono Y2.out.size)) (Nat.le_refl _))).mono ?_
      rw [HQ.out, HGV.out, HGE.out]
      rintro e w4 ⟨B2, k2, rfl, hL2, hb1, hd2⟩
      have hb4 : Below w2.heap.size w2 w4 := HA3.out.trans (hb1.mono (by simp))
      have e0 : w4.cell? ⟨w2.heap.size, 0, none⟩ = some (.int .i64 q) := below_at hb1 (Nat.le_refl _) (by go_simp)
      have e1 : w4.cell? ⟨w2.heap.size, 1, none⟩ = some (.slice B1 vs.length k1) := below_at hb1 (Nat.le_refl _) (by go_simp)
      have e2 : w2.heap.size < w4.heap.size := by have := hb1.size; simp at this; omega
      have hM1 := HL1.out.later hb4 (Nat.le_refl _)
      have Y4 := Lib.hid (Y2.out.trans (hb4.mono Y2.out.size))
      clear c1 c2 s1 hb1 hb4
      have hA5 : Below w4.heap.size w4 (w4.alloc (.cells #[.int .i64 q, .slice B2 vs.length k2] 24)) := (Below.refl _ _).alloc (Nat.le_refl _) _
      have HM1 := Lib.hid hM1; have HL2 := Lib.hid hL2; have HA5 := Lib.hid hA5; clear hM1 hL2 hA5
      go_wp2_with fail
      refine (rSame4_ q B1 B2 k1 k2 vs _ (HM1.out.later HA5.out (Nat.le_refl _)) (HL2.out.later HA5.out (Nat.le_refl _))).mono ?_
      rintro e w6 ⟨rfl, hb1⟩
      have Y6 := Lib.hid (Y4.out.trans ((HA5.out.trans (hb1.mono (by simp))).mono Y4.out.size)); clear hb1
      go_wp2_with fail
      refine (shown_ _).mono ?_; rintro e w8 ⟨rfl, hb1⟩
      have Y8 := Lib.hid (Y6.out.trans (hb1.mono Y6.out.size)); clear hb1
      go_wp2
      go_ret
      exact ⟨rfl, Y8.out⟩
end Go.Proofs.Ytepdgffccfcfpaa
