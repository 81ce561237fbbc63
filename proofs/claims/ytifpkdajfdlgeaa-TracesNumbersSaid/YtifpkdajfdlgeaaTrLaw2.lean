/- The law TracesLeast: its walk. -/
import Derived.Test.YtifpkdajfdlgeaaTrLstR
import Derived.Test.YtifpkdajfdlgeaaTrLstT
namespace Go.Proofs.Ytifpkdajfdlgeaa
open Go.RowKit

def Box1 (w w1 : World) (p : Int) (A : Option Addr) (c n : Nat) : Prop :=
  w1.cell? ⟨w.heap.size, 0, none⟩ = some (.int .i64 p) ∧ w1.cell? ⟨w.heap.size, 1, none⟩ = some (.slice A n c) ∧ w.heap.size < w1.heap.size
theorem Box1.later {w w1 w2 : World} {p : Int} {A : Option Addr} {c n : Nat} (h : Box1 w w1 p A c n) (hb : Below w1.heap.size w1 w2) : Box1 w w2 p A c n :=
  ⟨below_at hb (Nat.le_refl _) h.1, below_at hb (Nat.le_refl _) h.2.1, Nat.lt_of_lt_of_le h.2.2 hb.size⟩
theorem Box1.made (w : World) (p : Int) (A : Option Addr) (c n : Nat) : Box1 w (w.alloc (.cells #[.int .i64 p, .slice A n c] 24)) p A c n :=
  ⟨by go_simp, by go_simp, by simp⟩

set_option maxRecDepth 100000 in
set_option maxHeartbeats 2000000 in
theorem lawLeast_ (p : Int) (A : Option Addr) (c : Nat) (ws : List GW) (w : World) (ha : ShIn w p A ws) :
    Calls Try.prog 8 #[.agg #[.int .i64 p, .slice A ws.length c]] w fun e w' => e = .returned (.bool true) ∧ Below w.heap.size w w' := by
  have hla := ha.rd.1
  have hb2 : Below w.heap.size w (w.alloc (.cells #[.int .i64 p, .slice A ws.length c] 24)) := (Below.refl _ _).alloc (Nat.le_refl _) _
  have Y0 := Lib.hid hb2; clear hb2
  have X0 := Lib.hid (Box1.made w p A c ws.length)
  have HA := Lib.hid ha; have HLA := Lib.hid hla; clear ha hla
  by_cases f1 : farB ws.length 80 = true
  · go_enter Try.func8, Try.ntmps8
    go_wp2_with fail
    refine (far_ p A c ws 80 _ HLA.out).mono ?_; rintro e w1 ⟨rfl, hb1⟩
    rw [f1]
    have X1 := Lib.hid (X0.out.later hb1); have Y1 := Lib.hid (Y0.out.trans (hb1.mono Y0.out.size)); clear hb1; obtain ⟨c1, c2, s1⟩ := X1.out
    go_wp2_with fail
    clear c1 c2 s1
    refine (awake_ _).mono ?_; rintro e w8 ⟨rfl, hb1⟩
    go_wp2
    go_ret
    exact ⟨rfl, Y1.out.trans (hb1.mono Y1.out.size)⟩
  · have f1' : farB ws.length 80 = false := by simpa using f1
    clear f1
    go_enter Try.func8, Try.ntmps8
    go_wp2_with fail
    refine (far_ p A c ws 80 _ HLA.out).mono ?_; rintro e w1 ⟨rfl, hb1⟩
    rw [f1']
    have X1 := Lib.hid (X0.out.later hb1); have Y1 := Lib.hid (Y0.out.trans (hb1.mono Y0.out.size)); clear hb1; obtain ⟨c1, c2, s1⟩ := X1.out
    go_wp2_with fail
    clear c1 c2 s1
    refine (tLeast_ p A c ws _ (HA.out.later Y1.out (Nat.le_refl _))).mono ?_; rintro e w2 ⟨_, rfl, ⟨L1, k1, rfl, hL1⟩, hb1⟩
    have HL1 := Lib.hid hL1; clear hL1
    have X2 := Lib.hid (X1.out.later hb1); have Y2 := Lib.hid (Y1.out.trans (hb1.mono Y1.out.size)); clear hb1; obtain ⟨c1, c2, s1⟩ := X2.out
    go_wp2_with fail
    clear c1 c2 s1
    refine (rLeast_ p A c ws _ (HA.out.later Y2.out (Nat.le_refl _))).mono ?_; rintro e w3 ⟨_, rfl, ⟨L2, k2, rfl, hL2⟩, hb1⟩
    have HL2 := Lib.hid hL2; have HM1 := Lib.hid (HL1.out.later hb1 (Nat.le_refl _)); clear hL2 HL1
    have X3 := Lib.hid (X2.out.later hb1); have Y3 := Lib.hid (Y2.out.trans (hb1.mono Y2.out.size)); clear hb1; obtain ⟨c1, c2, s1⟩ := X3.out
    go_wp2_with fail
    clear c1 c2 s1
    refine (tLevels_ p A c ws _ (HA.out.later Y3.out (Nat.le_refl _))).mono ?_; rintro e w4 ⟨_, rfl, ⟨L3, k3, rfl, hL3⟩, hb1⟩
    have HL3 := Lib.hid hL3; have HN1 := Lib.hid (HM1.out.later hb1 (Nat.le_refl _)); have HN2 := Lib.hid (HL2.out.later hb1 (Nat.le_refl _)); clear hL3 HM1 HL2
    have X4 := Lib.hid (X3.out.later hb1); have Y4 := Lib.hid (Y3.out.trans (hb1.mono Y3.out.size)); clear hb1; obtain ⟨c1, c2, s1⟩ := X4.out
    go_wp2_with fail
    clear c1 c2 s1
    refine (rLevels_ p A c ws _ (HA.out.later Y4.out (Nat.le_refl _))).mono ?_; rintro e w5 ⟨_, rfl, ⟨L4, k4, rfl, hL4⟩, hb1⟩
    have HL4 := Lib.hid hL4; have HO1 := Lib.hid (HN1.out.later hb1 (Nat.le_refl _)); have HO2 := Lib.hid (HN2.out.later hb1 (Nat.le_refl _)); have HO3 := Lib.hid (HL3.out.later hb1 (Nat.le_refl _)); clear hL4 HN1 HN2 HL3
    have Y5 := Lib.hid (Y4.out.trans (hb1.mono Y4.out.size)); clear hb1
    go_wp2_with fail
    refine (sameIntsR_ L1 L2 k1 k2 _ _ HO1.out HO2.out).mono ?_; rintro e w6 ⟨rfl, hb1⟩
    have HP3 := Lib.hid (HO3.out.later hb1 (Nat.le_refl _)); have HP4 := Lib.hid (HL4.out.later hb1 (Nat.le_refl _)); clear HO3 HL4
    have Y6 := Lib.hid (Y5.out.trans (hb1.mono Y5.out.size)); clear hb1
    go_wp2_with fail
    refine (sameIntsR_ L3 L4 k3 k4 _ _ HP3.out HP4.out).mono ?_; rintro e w7 ⟨rfl, hb1⟩
    have Y7 := Lib.hid (Y6.out.trans (hb1.mono Y6.out.size)); clear hb1
    go_wp2_with fail
    refine (awake_ _).mono ?_; rintro e w8 ⟨rfl, hb1⟩
    have Y8 := Lib.hid (Y7.out.trans (hb1.mono Y7.out.size)); clear hb1
    go_wp2
    go_ret
    exact ⟨ret_bool (by simp), Y8.out⟩
end Go.Proofs.Ytifpkdajfdlgeaa
