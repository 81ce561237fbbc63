/- The law TracesSwaps: its walk. -/
import Derived.Test.YtifpkdajfdlgeaaTrSwapT
namespace Go.Proofs.Ytifpkdajfdlgeaa
open Go.RowKit

set_option maxRecDepth 100000 in
set_option maxHeartbeats 2000000 in
theorem lawSwaps_ (p q : Int) (A B : Option Addr) (c d : Nat) (ws vs : List GW) (w : World) (ha : ShIn w p A ws) (hb : ShIn w q B vs) :
    Calls Try.prog 6 #[.agg #[.int .i64 p, .slice A ws.length c], .agg #[.int .i64 q, .slice B vs.length d]] w fun e w' => e = .returned (.bool true) ∧ Below w.heap.size w w' := by
  have hla := ha.rd.1
  have hlb := hb.rd.1
  have hb2 : Below w.heap.size w ((w.alloc (.cells #[.int .i64 p, .slice A ws.length c] 24)).alloc (.cells #[.int .i64 q, .slice B vs.length d] 24)) := ((Below.refl _ _).alloc (Nat.le_refl _) _).alloc (by simp) _
  have Y0 := Lib.hid hb2; clear hb2
  have X0 := Lib.hid (BoxS.made w p q A B c d ws.length vs.length)
  have HA := Lib.hid ha; have HB := Lib.hid hb; have HLA := Lib.hid hla; have HLB := Lib.hid hlb; clear ha hb hla hlb
  by_cases f1 : farB ws.length 110 = true
  · go_enter Try.func6, Try.ntmps6
    go_wp2_with fail
    refine (far_ p A c ws 110 _ HLA.out).mono ?_; rintro e w1 ⟨rfl, hb1⟩
    rw [f1]
    have X1 := Lib.hid (X0.out.later hb1); have Y1 := Lib.hid (Y0.out.trans (hb1.mono Y0.out.size)); clear hb1; obtain ⟨c1, c2, c3, c4, s1, s2⟩ := X1.out
    go_wp2_with fail
    clear c1 c2 c3 c4 s1 s2
    refine (awake_ _).mono ?_; rintro e w8 ⟨rfl, hb1⟩
    go_wp2
    go_ret
    exact ⟨rfl, Y1.out.trans (hb1.mono Y1.out.size)⟩
  · have f1' : farB ws.length 110 = false := by simpa using f1
    clear f1
    by_cases f2 : farB vs.length 110 = true
    · go_enter Try.func6, Try.ntmps6
      go_wp2_with fail
      refine (far_ p A c ws 110 _ HLA.out).mono ?_; rintro e w1 ⟨rfl, hb1⟩
      rw [f1']
      have X1 := Lib.hid (X0.out.later hb1); have Y1 := Lib.hid (Y0.out.trans (hb1.mono Y0.out.size)); clear hb1; obtain ⟨c1, c2, c3, c4, s1, s2⟩ := X1.out
      go_wp2_with fail
      clear c1 c2 c3 c4 s1 s2
      refine (far_ q B d vs 110 _ HLB.out).mono ?_; rintro e w2 ⟨rfl, hb1⟩
      rw [f2]
      have X2 := Lib.hid (X1.out.later hb1); have Y2 := Lib.hid (Y1.out.trans (hb1.mono Y1.out.size)); clear hb1; obtain ⟨c1, c2, c3, c4, s1, s2⟩ := X2.out
      go_wp2_with fail
      clear c1 c2 c3 c4 s1 s2
      refine (awake_ _).mono ?_; rintro e w8 ⟨rfl, hb1⟩
      go_wp2
      go_ret
      exact ⟨rfl, Y2.out.trans (hb1.mono Y2.out.size)⟩
    · have f2' : farB vs.length 110 = false := by simpa using f2
      clear f2
      go_enter Try.func6, Try.ntmps6
      go_wp2_with fail
      refine (far_ p A c ws 110 _ HLA.out).mono ?_; rintro e w1 ⟨rfl, hb1⟩
      rw [f1']
      have X1 := Lib.hid (X0.out.later hb1); have Y1 := Lib.hid (Y0.out.trans (hb1.mono Y0.out.size)); clear hb1; obtain ⟨c1, c2, c3, c4, s1, s2⟩ := X1.out
      go_wp2_with fail
      clear c1 c2 c3 c4 s1 s2
      refine (far_ q B d vs 110 _ HLB.out).mono ?_; rintro e w2 ⟨rfl, hb1⟩
      rw [f2']
      have X2 := Lib.hid (X1.out.later hb1); have Y2 := Lib.hid (Y1.out.trans (hb1.mono Y1.out.size)); clear hb1; obtain ⟨c1, c2, c3, c4, s1, s2⟩ := X2.out
      go_wp2_with fail
      clear c1 c2 c3 c4 s1 s2
      refine (tSwaps_ p q A B c d ws vs _ (HA.out.later Y2.out (Nat.le_refl _)) (HB.out.later Y2.out (Nat.le_refl _))).mono ?_; rintro e w3 ⟨_, rfl, ⟨L1, k1, rfl, hL1⟩, hb1⟩
      have HL1 := Lib.hid hL1; clear hL1
      have X3 := Lib.hid (X2.out.later hb1); have Y3 := Lib.hid (Y2.out.trans (hb1.mono Y2.out.size)); clear hb1; obtain ⟨c1, c2, c3, c4, s1, s2⟩ := X3.out
      go_wp2_with fail
      clear c1 c2 c3 c4 s1 s2
      refine (rSwaps_ p q A B c d ws vs _ (HA.out.later Y3.out (Nat.le_refl _)) (HB.out.later Y3.out (Nat.le_refl _))).mono ?_; rintro e w4 ⟨_, rfl, ⟨L2, k2, rfl, hL2⟩, hb1⟩
      have HL2 := Lib.hid hL2; clear hL2
      have HL3 := Lib.hid (HL1.out.later hb1 (Nat.le_refl _))
      have Y4 := Lib.hid (Y3.out.trans (hb1.mono Y3.out.size)); clear hb1
      go_wp2_with fail
      refine (sameIntsR_ L1 L2 k1 k2 _ _ HL3.out HL2.out).mono ?_; rintro e w7 ⟨rfl, hb1⟩
      have Y5 := Lib.hid (Y4.out.trans (hb1.mono Y4.out.size)); clear hb1
      go_wp2_with fail
      refine (awake_ _).mono ?_; rintro e w8 ⟨rfl, hb1⟩
      have Y8 := Lib.hid (Y5.out.trans (hb1.mono Y5.out.size)); clear hb1
      go_wp2
      go_ret
      exact ⟨ret_bool (by simp), Y8.out⟩
end Go.Proofs.Ytifpkdajfdlgeaa
