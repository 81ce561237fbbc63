/- The law TracesKnown: its walk. The examples' specifications are reckoned. -/
import Derived.Test.YtifpkdajfdlgeaaTrLaw6
import Derived.Test.YtifpkdajfdlgeaaTrSwapT
namespace Go.Proofs.Ytifpkdajfdlgeaa
open Go.RowKit

def thirdL : List GW := [⟨1, 0, wCTC⟩, ⟨1, 2, wCTC⟩, ⟨1, 1, wCT⟩]
theorem thirdL_fits : ∀ x ∈ thirdL, x.fits := by intro x hx; simp [thirdL] at hx; rcases hx with rfl | rfl | rfl <;> (unfold GW.fits; decide)
theorem kn_sw : swapsL (matchErr 4 firstL 4 secondL) (matchL 4 firstL 4 secondL) = [0] := by kernel_rfl
theorem kn_sx : swapsX (matchErr 4 firstL 4 secondL) (matchL 4 firstL 4 secondL) = 0 := by kernel_rfl
theorem kn_ls : leastR 4 secondL = [1, 0, 2] := by kernel_rfl
theorem kn_e1 : errSheet 4 firstL = 0 := by kernel_rfl
theorem kn_e2 : errSheet 4 secondL = 0 := by kernel_rfl
theorem kn_lv : levsL 4 firstL = [0, 0, 1] := by kernel_rfl
theorem kn_n1 : nthL 4 firstL 1 = [1, 0, 2] := by kernel_rfl
theorem kn_x1 : nthX 4 firstL 1 = 0 := by kernel_rfl
theorem kn_x2 : nthX 4 firstL 2 = 4 := by kernel_rfl
theorem kn_r1 : rankN 4 firstL [1, 0, 2] = 1 := by kernel_rfl
theorem kn_y1 : rankX 4 firstL [1, 0, 2] = 0 := by kernel_rfl
theorem kn_y2 : rankX 4 firstL [2, 0, 1] = 4 := by kernel_rfl
theorem kn_sm : sameE 4 firstL 4 thirdL = false := by kernel_rfl
theorem kn_bo : bothErr 4 firstL 4 thirdL = 0 := by kernel_rfl

/-- A list that was just laid. -/
theorem rdI_new (w : World) (xs : List Int) (hn : xs.length ≤ 1000) : RdI (w.alloc (.cells (ints xs).toArray 3)) (some ⟨w.heap.size, 0, none⟩) xs :=
  rdI_block (heap_alloc_new _ _) (fun j hj => by simp [ints, List.getD_eq_getElem?_getD, hj]) hn
theorem sameNew_ (A : Option Addr) (c d : Nat) (xs : List Int) (w : World) (ha : RdI w A xs) (hn : xs.length ≤ 1000) :
    Calls Try.prog 19 #[.slice A xs.length c, .slice (some ⟨w.heap.size, 0, none⟩) xs.length d] (w.alloc (.cells (ints xs).toArray 3)) fun e w' => e = .returned (.bool true) ∧ Below w.heap.size w w' :=
  (sameIntsR_ A (some ⟨w.heap.size, 0, none⟩) c d xs _ (ha.later ((Below.refl _ _).alloc (Nat.le_refl _) _) (Nat.le_refl _)) (rdI_new w xs hn)).mono fun _ _ ⟨he, hb⟩ =>
    ⟨he, ((Below.refl _ _).alloc (Nat.le_refl _) _).trans (hb.mono (by simp))⟩

def ExPostF (l : List GW) (w : World) (e : Ending) (w' : World) : Prop := ∃ g c, e = .returned (shV 4 (some ⟨g, 0, none⟩) c l) ∧ RdW w' (some ⟨g, 0, none⟩) l ∧ Below w.heap.size w w' ∧ l.length ≤ c ∧ w.heap.size ≤ g ∧ ∀ j, w'.frozen? ⟨g, j, none⟩ = false
set_option maxHeartbeats 1000000 in
theorem firstF_ (w : World) : Calls Try.prog 41 #[] w (ExPostF firstL w) := by
  go_enter Try.func41, Try.ntmps41
  go_wp2
  refine bodyPost_ret (v := shV 4 (some ⟨w.heap.size + 1, 0, none⟩) 3 firstL) (by simp [results, Try.results41, go_sem]; rfl) rfl ⟨_, 3, rfl, rd_block (n := 3) (heap_alloc2_new _ _ _) rfl (fun j hj => ?_) (by decide) firstL_fits, ((Below.refl _ _).alloc (Nat.le_refl _) _).alloc (by simp) _, by decide, by omega, fun j => frozen_of_row _ _ j _ _ (heap_alloc2_new _ _ _)⟩
  obtain rfl | rfl | rfl | rfl | rfl | rfl | rfl | rfl | rfl : j = 0 ∨ j = 1 ∨ j = 2 ∨ j = 3 ∨ j = 4 ∨ j = 5 ∨ j = 6 ∨ j = 7 ∨ j = 8 := by omega
  all_goals rfl

set_option maxRecDepth 100000 in
set_option maxHeartbeats 2000000 in
theorem lawKnown_ (w : World) : Calls Try.prog 12 #[] w fun e w' => e = .returned (.bool true) ∧ Below w.heap.size w w' := by
  go_enter Try.func12, Try.ntmps12
  go_wp2_with fail
  refine (first_ _).mono ?_; rintro e w1 ⟨g1, c1, rfl, r1, b1, l1, _⟩; unfold shV
  go_wp2_with fail
  refine (second_ _).mono ?_; rintro e w2 ⟨g2, c2, rfl, r2, b2, l2, _⟩; unfold shV
  have HA := Lib.hid (r1.later b2 (Nat.le_refl _)); have HB := Lib.hid r2
  have B2 := Lib.hid (b1.trans (b2.mono b1.size))
  have hg1 : g1 < w2.heap.size := rdW_ne HA.out (by decide) g1 0 rfl
  clear r1 r2 b1 b2
  have X0 := Lib.hid (BoxS.made w2 4 4 (some ⟨g1, 0, none⟩) (some ⟨g2, 0, none⟩) c1 c2 firstL.length secondL.length)
  have Y0 : Hid (Below w2.heap.size w2 ((w2.alloc (.cells #[.int .i64 4, .slice (some ⟨g1, 0, none⟩) firstL.length c1] 24)).alloc (.cells #[.int .i64 4, .slice (some ⟨g2, 0, none⟩) secondL.length c2] 24))) := ((Below.refl _ _).alloc (Nat.le_refl _) _).alloc (by simp) _
  go_wp2_with fail
  refine (tSwaps_ 4 4 _ _ _ _ firstL secondL _ ⟨by omega, by omega, HA.out.later Y0.out (Nat.le_refl _)⟩ ⟨by omega, by omega, HB.out.later Y0.out (Nat.le_refl _)⟩).mono ?_
  rw [kn_sw, kn_sx]
  rintro e w3 ⟨_, rfl, ⟨L1, k1, rfl, h1⟩, hb1⟩
  have H1 := Lib.hid h1; clear h1
  have X1 := Lib.hid (X0.out.later hb1); have Y1 := Lib.hid (Y0.out.trans (hb1.mono Y0.out.size)); clear hb1; obtain ⟨c1, c2, c3, c4, s1, s2⟩ := X1.out
  go_wp2_with fail
  clear c1 c2 c3 c4 s1 s2
  refine (tLeast_ 4 _ _ secondL _ ⟨by omega, by omega, HB.out.later Y1.out (Nat.le_refl _)⟩).mono ?_
  rw [kn_ls, kn_e2]
  rintro e w4 ⟨_, rfl, ⟨L2, k2, rfl, h2⟩, hb1⟩
  have H2 := Lib.hid h2; have I1 := Lib.hid (H1.out.later hb1 (Nat.le_refl _)); clear h2 H1
  have X2 := Lib.hid (X1.out.later hb1); have Y2 := Lib.hid (Y1.out.trans (hb1.mono Y1.out.size)); clear hb1; obtain ⟨c1, c2, c3, c4, s1, s2⟩ := X2.out
  go_wp2_with fail
  clear c1 c2 c3 c4 s1 s2
  refine (tLevels_ 4 _ _ firstL _ ⟨by omega, by omega, HA.out.later Y2.out (Nat.le_refl _)⟩).mono ?_
  rw [kn_lv, kn_e1]
  rintro e w5 ⟨_, rfl, ⟨L3, k3, rfl, h3⟩, hb1⟩
  have H3 := Lib.hid h3; have J1 := Lib.hid (I1.out.later hb1 (Nat.le_refl _)); have J2 := Lib.hid (H2.out.later hb1 (Nat.le_refl _)); clear h3 I1 H2
  have X3 := Lib.hid (X2.out.later hb1); have Y3 := Lib.hid (Y2.out.trans (hb1.mono Y2.out.size)); clear hb1; obtain ⟨c1, c2, c3, c4, s1, s2⟩ := X3.out
  go_wp2_with fail
  clear c1 c2 c3 c4 s1 s2
  refine (tNth_ 4 _ _ firstL 1 _ ⟨by omega, by omega, HA.out.later Y3.out (Nat.le_refl _)⟩ l1 (by omega) (by omega)).mono ?_
  rw [kn_n1, kn_x1]
  rintro e w6 ⟨_, rfl, ⟨L4, k4, rfl, h4⟩, hb1⟩
  have H4 := Lib.hid h4; have K1 := Lib.hid (J1.out.later hb1 (Nat.le_refl _)); have K2 := Lib.hid (J2.out.later hb1 (Nat.le_refl _)); have K3 := Lib.hid (H3.out.later hb1 (Nat.le_refl _)); clear h4 J1 J2 H3
  have X4 := Lib.hid (X3.out.later hb1); have Y4 := Lib.hid (Y3.out.trans (hb1.mono Y3.out.size)); clear hb1; obtain ⟨c1, c2, c3, c4, s1, s2⟩ := X4.out
  go_wp2_with fail
  clear c1 c2 c3 c4 s1 s2
  refine (sameNew_ L1 k1 _ [0] w6 K1.out (by decide)).mono ?_; rintro e w7 ⟨rfl, hb1⟩
  have M2 := Lib.hid (K2.out.later hb1 (Nat.le_refl _)); have M3 := Lib.hid (K3.out.later hb1 (Nat.le_refl _)); have M4 := Lib.hid (H4.out.later hb1 (Nat.le_refl _)); clear K1 K2 K3 H4
  have X5 := Lib.hid (X4.out.later hb1); have Y5 := Lib.hid (Y4.out.trans (hb1.mono Y4.out.size)); clear hb1; obtain ⟨c1, c2, c3, c4, s1, s2⟩ := X5.out
  go_wp2_with fail
  clear c1 c2 c3 c4 s1 s2
  refine (sameNew_ L2 k2 _ [1, 0, 2] w7 M2.out (by decide)).mono ?_; rintro e w8 ⟨rfl, hb1⟩
  have N3 := Lib.hid (M3.out.later hb1 (Nat.le_refl _)); have N4 := Lib.hid (M4.out.later hb1 (Nat.le_refl _)); clear M2 M3 M4
  have X6 := Lib.hid (X5.out.later hb1); have Y6 := Lib.hid (Y5.out.trans (hb1.mono Y5.out.size)); clear hb1; obtain ⟨c1, c2, c3, c4, s1, s2⟩ := X6.out
  go_wp2_with fail
  clear c1 c2 c3 c4 s1 s2
  refine (sameNew_ L3 k3 _ [0, 0, 1] w8 N3.out (by decide)).mono ?_; rintro e w9 ⟨rfl, hb1⟩
  have O4 := Lib.hid (N4.out.later hb1 (Nat.le_refl _)); clear N3 N4
  have X7 := Lib.hid (X6.out.later hb1); have Y7 := Lib.hid (Y6.out.trans (hb1.mono Y6.out.size)); clear hb1; obtain ⟨c1, c2, c3, c4, s1, s2⟩ := X7.out
  go_wp2_with fail
  clear c1 c2 c3 c4 s1 s2
  refine (sameNew_ L4 k4 _ [1, 0, 2] w9 O4.out (by decide)).mono ?_; rintro e w10 ⟨rfl, hb1⟩
  clear O4
  have X8 := Lib.hid (X7.out.later hb1); have Y8 := Lib.hid (Y7.out.trans (hb1.mono Y7.out.size)); clear hb1; obtain ⟨c1, c2, c3, c4, s1, s2⟩ := X8.out
  go_wp2_with fail
  clear c1 c2 c3 c4 s1 s2
  refine (tNth_ 4 _ _ firstL 2 _ ⟨by omega, by omega, HA.out.later Y8.out (Nat.le_refl _)⟩ l1 (by omega) (by omega)).mono ?_
  rw [kn_x2]
  rintro e w11 ⟨_, rfl, ⟨L5, k5, rfl, h5⟩, hb1⟩
  clear h5
  have X9 := Lib.hid (X8.out.later hb1); have Y9 := Lib.hid (Y8.out.trans (hb1.mono Y8.out.size)); clear hb1; obtain ⟨c1, c2, c3, c4, s1, s2⟩ := X9.out
  go_wp2_with fail
  clear c1 c2 c3 c4 s1 s2
  refine (tRank_ 4 _ (some ⟨w11.heap.size, 0, none⟩) _ _ firstL [1, 0, 2] (w11.alloc (.cells (ints [1, 0, 2]).toArray 3)) ⟨by omega, by omega, HA.out.later (Y9.out.alloc Y9.out.size _) (Nat.le_refl _)⟩ l1 (rdI_new _ _ (by decide))).mono ?_
  rw [kn_r1, kn_y1]
  rintro e w12 ⟨rfl, hb0⟩
  have hb1 : Below w11.heap.size w11 w12 := ((Below.refl _ _).alloc (Nat.le_refl _) _).trans (hb0.mono (by simp))
  clear hb0
  have X10 := Lib.hid (X9.out.later hb1); have Y10 := Lib.hid (Y9.out.trans (hb1.mono Y9.out.size)); clear hb1; obtain ⟨c1, c2, c3, c4, s1, s2⟩ := X10.out
  go_wp2_with fail
  clear c1 c2 c3 c4 s1 s2
  refine (tRank_ 4 _ (some ⟨w12.heap.size, 0, none⟩) _ _ firstL [2, 0, 1] (w12.alloc (.cells (ints [2, 0, 1]).toArray 3)) ⟨by omega, by omega, HA.out.later (Y10.out.alloc Y10.out.size _) (Nat.le_refl _)⟩ l1 (rdI_new _ _ (by decide))).mono ?_
  rw [kn_y2]
  rintro e w13 ⟨rfl, hb0⟩
  have hb1 : Below w12.heap.size w12 w13 := ((Below.refl _ _).alloc (Nat.le_refl _) _).trans (hb0.mono (by simp))
  clear hb0
  have X11 := Lib.hid (X10.out.later hb1); have Y11 := Lib.hid (Y10.out.trans (hb1.mono Y10.out.size)); clear hb1; obtain ⟨c1, c2, c3, c4, s1, s2⟩ := X11.out
  go_wp2_with fail
  clear c1 c2 c3 c4 s1 s2
  refine (firstF_ _).mono ?_; rintro e w14 ⟨g3, c3, rfl, r3, hb1, l3, hg3, hfr⟩; unfold shV
  have q2 := rd_cells r3 2 (by decide)
  have q3 := hfr 2
  clear hfr
  have hR3 := Lib.hid r3; clear r3
  have hgs : g3 < w14.heap.size := rdW_ne hR3.out (by decide) g3 0 rfl
  have hg13 : g1 ≠ g3 := by have := Y11.out.size; omega
  have hg2 : w2.heap.size + 2 ≤ g3 := by have := X11.out.2.2.2.2.2; omega
  have X12 := Lib.hid (X11.out.later hb1); have Y12 := Lib.hid (Y11.out.trans (hb1.mono Y11.out.size)); clear hb1; obtain ⟨x1, x2, x3, x4, s1, s2⟩ := X12.out
  go_wp2_with fail
  have hW : Below w2.heap.size w2 ((w14.setCell ⟨g3, 2, none⟩ (.string wCTC)).alloc (.cells #[.int .i64 4, .slice (some ⟨g3, 0, none⟩) firstL.length c3] 24)) := (Y12.out.setCell (by show w2.heap.size ≤ g3; omega) _).alloc (by simp; omega) _
  have hRT : RdW ((w14.setCell ⟨g3, 2, none⟩ (.string wCTC)).alloc (.cells #[.int .i64 4, .slice (some ⟨g3, 0, none⟩) firstL.length c3] 24)) (some ⟨g3, 0, none⟩) thirdL := by
    refine ⟨by decide, thirdL_fits, fun _ => ⟨g3, 0, rfl, by simp; omega, fun j hj => ?_⟩⟩
    have hj9 : j < 9 := hj
    rw [below_at ((Below.refl _ _).alloc (Nat.le_refl _) _) (Nat.le_refl _) (a := ⟨g3, 0 + j, none⟩) (v := cellsW thirdL j) ?_]
    rw [Nat.zero_add]
    by_cases h2 : j = 2
    · subst h2
      rw [World.cell?_setCell_same _ _ _ q2]; rfl
    · rw [World.cell?_setCell_other _ _ _ _ (by simp), rd_cells hR3.out j (by decide +revert)]
      obtain rfl | rfl | rfl | rfl | rfl | rfl | rfl | rfl : j = 0 ∨ j = 1 ∨ j = 3 ∨ j = 4 ∨ j = 5 ∨ j = 6 ∨ j = 7 ∨ j = 8 := by omega
      all_goals rfl
  refine (tSame_ 4 4 (some ⟨g1, 0, none⟩) (some ⟨g3, 0, none⟩) c1 c3 firstL thirdL _ ⟨by omega, by omega, HA.out.later hW (Nat.le_refl _)⟩ ⟨by omega, by omega, hRT⟩).mono ?_
  rw [kn_sm, kn_bo]
  rintro e w15 ⟨rfl, hb1⟩
  have Y13 := Lib.hid (hW.trans (hb1.mono hW.size)); clear hb1 hW hRT
  clear x1 x2 x3 x4 s1 s2 q2 q3
  go_wp2_with fail
  refine (awake_ _).mono ?_; rintro e w16 ⟨rfl, hb1⟩
  have Y14 := Lib.hid (Y13.out.trans (hb1.mono Y13.out.size)); clear hb1
  go_wp2
  go_ret
  exact ⟨rfl, B2.out.trans (Y14.out.mono B2.out.size)⟩
end Go.Proofs.Ytifpkdajfdlgeaa
