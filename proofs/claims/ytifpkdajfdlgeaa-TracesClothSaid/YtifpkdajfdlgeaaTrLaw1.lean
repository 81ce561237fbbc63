/- The law TracesSame: its walk. -/
import Derived.Test.YtifpkdajfdlgeaaTrPure
import Derived.Test.YtifpkdajfdlgeaaTrAwake
namespace Go.Proofs.Ytifpkdajfdlgeaa
open Go.RowKit

def farB (n : Nat) (h : Int) : Bool := decide ((h < (n : Int) ∧ (n : Int) ≤ 400) ∨ 450 < (n : Int))
set_option maxHeartbeats 1000000 in
theorem far_ (p : Int) (A : Option Addr) (c : Nat) (ws : List GW) (h : Int) (w : World) (hl : ws.length ≤ 281474976710656) :
    Calls Try.prog 13 #[.agg #[.int .i64 p, .slice A ws.length c], .int .i64 h] w fun e w' => e = .returned (.bool (farB ws.length h)) ∧ Below w.heap.size w w' := by
  have HL := Lib.hid hl; clear hl
  have hb2 : Below w.heap.size w (w.alloc (.cells #[.int .i64 p, .slice A ws.length c] 24)) := (Below.refl _ _).alloc (Nat.le_refl _) _
  have HB2 := Lib.hid hb2; clear hb2
  by_cases h1 : h < (ws.length : Int)
  · by_cases h2 : (ws.length : Int) ≤ 400
    · have hf : farB ws.length h = true := by unfold farB; simp; omega
      have HF := Lib.hid hf; clear hf
      go_enter Try.func13, Try.ntmps13
      go_wp2
      go_ret
      exact ⟨ret_bool HF.out.symm, HB2.out⟩
    · by_cases h3 : 450 < (ws.length : Int)
      · have hf : farB ws.length h = true := by unfold farB; simp; omega
        have HF := Lib.hid hf; clear hf
        go_enter Try.func13, Try.ntmps13
        go_wp2
        go_ret
        exact ⟨ret_bool HF.out.symm, HB2.out⟩
      · have hf : farB ws.length h = false := by unfold farB; simp; omega
        have HF := Lib.hid hf; clear hf
        go_enter Try.func13, Try.ntmps13
        go_wp2
        go_ret
        exact ⟨ret_bool HF.out.symm, HB2.out⟩
  · by_cases h3 : 450 < (ws.length : Int)
    · have hf : farB ws.length h = true := by unfold farB; simp; omega
      have HF := Lib.hid hf; clear hf
      go_enter Try.func13, Try.ntmps13
      go_wp2
      go_ret
      exact ⟨ret_bool HF.out.symm, HB2.out⟩
    · have hf : farB ws.length h = false := by unfold farB; simp; omega
      have HF := Lib.hid hf; clear hf
      go_enter Try.func13, Try.ntmps13
      go_wp2
      go_ret
      exact ⟨ret_bool HF.out.symm, HB2.out⟩

section
variable (p q : Int) (A B : Option Addr) (c d : Nat) (ws vs : List GW) (w : World)
theorem tSameU_ (ha : ShIn w p A ws) (hb : ShIn w q B vs) :
    Calls Try.prog 15 #[.agg #[.int .i64 p, .slice A ws.length c], .agg #[.int .i64 q, .slice B vs.length d]] w fun e w' => e = .returned (.tuple #[.bool (sameE p ws q vs), .int .i64 (bothErr p ws q vs)]) ∧ Below w.heap.size w w' := tSame_ p q A B c d ws vs w ha hb
theorem rSameU_ (ha : ShIn w p A ws) (hb : ShIn w q B vs) :
    Calls Try.prog 16 #[.agg #[.int .i64 p, .slice A ws.length c], .agg #[.int .i64 q, .slice B vs.length d]] w fun e w' => e = .returned (.tuple #[.bool (sameE p ws q vs), .int .i64 (bothErr p ws q vs)]) ∧ Below w.heap.size w w' := by
  have h := rSame5_ p q A B c d ws vs w ha hb
  rw [sameG_E] at h
  exact h
theorem tMatchU_ (ha : ShIn w p A ws) (hb : ShIn w q B vs) :
    Calls Try.prog 17 #[.agg #[.int .i64 p, .slice A ws.length c], .agg #[.int .i64 q, .slice B vs.length d]] w (ListPost (matchL p ws q vs) (matchErr p ws q vs) w) := tMatch_ p q A B c d ws vs w ha hb
theorem rMatchU_ (ha : ShIn w p A ws) (hb : ShIn w q B vs) :
    Calls Try.prog 18 #[.agg #[.int .i64 p, .slice A ws.length c], .agg #[.int .i64 q, .slice B vs.length d]] w (ListPost (matchL p ws q vs) (matchErr p ws q vs) w) := by
  have h := rMatch5_ p q A B c d ws vs w ha hb
  rw [matchErrG_E, matchLG_E] at h
  exact h
end
theorem sameIntsR_ (A B : Option Addr) (c d : Nat) (xs : List Int) (w : World) (ha : RdI w A xs) (hb : RdI w B xs) :
    Calls Try.prog 19 #[.slice A xs.length c, .slice B xs.length d] w fun e w' => e = .returned (.bool true) ∧ Below w.heap.size w w' := by
  have h := sameInts_ A B c d xs xs w ha hb
  rw [decide_eq_true rfl] at h
  exact h

def BoxS (w w1 : World) (p q : Int) (A B : Option Addr) (c d n m : Nat) : Prop :=
  w1.cell? ⟨w.heap.size, 0, none⟩ = some (.int .i64 p) ∧ w1.cell? ⟨w.heap.size, 1, none⟩ = some (.slice A n c) ∧ w1.cell? ⟨w.heap.size + 1, 0, none⟩ = some (.int .i64 q) ∧ w1.cell? ⟨w.heap.size + 1, 1, none⟩ = some (.slice B m d) ∧ w.heap.size < w1.heap.size ∧ w.heap.size + 1 < w1.heap.size
theorem BoxS.later {w w1 w2 : World} {p q : Int} {A B : Option Addr} {c d n m : Nat} (h : BoxS w w1 p q A B c d n m) (hb : Below w1.heap.size w1 w2) : BoxS w w2 p q A B c d n m :=
  ⟨below_at hb (Nat.le_refl _) h.1, below_at hb (Nat.le_refl _) h.2.1, below_at hb (Nat.le_refl _) h.2.2.1, below_at hb (Nat.le_refl _) h.2.2.2.1, Nat.lt_of_lt_of_le h.2.2.2.2.1 hb.size, Nat.lt_of_lt_of_le h.2.2.2.2.2 hb.size⟩
theorem BoxS.made (w : World) (p q : Int) (A B : Option Addr) (c d n m : Nat) : BoxS w ((w.alloc (.cells #[.int .i64 p, .slice A n c] 24)).alloc (.cells #[.int .i64 q, .slice B m d] 24)) p q A B c d n m :=
  ⟨by go_simp, by go_simp, by go_simp, by go_simp, by simp; omega, by simp⟩

set_option maxRecDepth 100000 in
set_option maxHeartbeats 2000000 in
theorem lawSame_ (p q : Int) (A B : Option Addr) (c d : Nat) (ws vs : List GW) (w : World) (ha : ShIn w p A ws) (hb : ShIn w q B vs) :
    Calls Try.prog 3 #[.agg #[.int .i64 p, .slice A ws.length c], .agg #[.int .i64 q, .slice B vs.length d]] w fun e w' => e = .returned (.bool true) ∧ Below w.heap.size w w' := by
  have hla := ha.rd.1
  have hlb := hb.rd.1
  have HA := Lib.hid ha; clear ha
  have HB := Lib.hid hb; clear hb
  have hb2 : Below w.heap.size w ((w.alloc (.cells #[.int .i64 p, .slice A ws.length c] 24)).alloc (.cells #[.int .i64 q, .slice B vs.length d] 24)) := ((Below.refl _ _).alloc (Nat.le_refl _) _).alloc (by simp) _
  have HB2 := Lib.hid hb2; clear hb2
  have HX := Lib.hid (BoxS.made w p q A B c d ws.length vs.length)
  have HLA := Lib.hid hla; have HLB := Lib.hid hlb; clear hla hlb
  by_cases f1 : farB ws.length 80 = true
  · go_enter Try.func3, Try.ntmps3
    go_wp2_with fail
    refine (far_ p A c ws 80 _ HLA.out).mono ?_; rintro e w1 ⟨rfl, hb1⟩
    have X1 := Lib.hid (HX.out.later hb1); have Y1 := Lib.hid (HB2.out.trans (hb1.mono (by simp; omega))); clear hb1
    obtain ⟨c1, c2, c3, c4, s1, s2⟩ := X1.out
    rw [f1]
    go_wp2_with fail
    refine (awake_ _).mono ?_; rintro e w8 ⟨rfl, hb1⟩
    go_wp2
    go_ret
    exact ⟨rfl, Y1.out.trans (hb1.mono Y1.out.size)⟩
  · have f1' : farB ws.length 80 = false := by simpa using f1
    clear f1
    by_cases f2 : farB vs.length 80 = true
    · go_enter Try.func3, Try.ntmps3
      go_wp2_with fail
      refine (far_ p A c ws 80 _ HLA.out).mono ?_; rintro e w1 ⟨rfl, hb1⟩
      have X1 := Lib.hid (HX.out.later hb1); have Y1 := Lib.hid (HB2.out.trans (hb1.mono (by simp; omega))); clear hb1
      obtain ⟨c1, c2, c3, c4, s1, s2⟩ := X1.out
      rw [f1']
      go_wp2_with fail
      clear c1 c2 c3 c4 s1 s2
      refine (far_ q B d vs 80 _ HLB.out).mono ?_; rintro e w2 ⟨rfl, hb1⟩
      have Y2 := Lib.hid (Y1.out.trans (hb1.mono Y1.out.size)); clear hb1
      rw [f2]
      go_wp2_with fail
      refine (awake_ _).mono ?_; rintro e w8 ⟨rfl, hb1⟩
      go_wp2
      go_ret
      exact ⟨rfl, Y2.out.trans (hb1.mono Y2.out.size)⟩
    · have f2' : farB vs.length 80 = false := by simpa using f2
      clear f2
      go_enter Try.func3, Try.ntmps3
      go_wp2_with fail
      refine (far_ p A c ws 80 _ HLA.out).mono ?_; rintro e w1 ⟨rfl, hb1⟩
      have X1 := Lib.hid (HX.out.later hb1); have Y1 := Lib.hid (HB2.out.trans (hb1.mono (by simp; omega))); clear hb1
      obtain ⟨c1, c2, c3, c4, s1, s2⟩ := X1.out
      rw [f1']
      go_wp2_with fail
      clear c1 c2 c3 c4 s1 s2
      refine (far_ q B d vs 80 _ HLB.out).mono ?_; rintro e w2 ⟨rfl, hb1⟩
      have X2 := Lib.hid (X1.out.later hb1); have Y2 := Lib.hid (Y1.out.trans (hb1.mono Y1.out.size)); clear hb1
      obtain ⟨c1, c2, c3, c4, s1, s2⟩ := X2.out
      rw [f2']
      go_wp2_with fail
      clear c1 c2 c3 c4 s1 s2
      refine (tSameU_ p q A B c d ws vs _ (HA.out.later Y2.out (Nat.le_refl _)) (HB.out.later Y2.out (Nat.le_refl _))).mono ?_; rintro e w3 ⟨rfl, hb1⟩
      have X3 := Lib.hid (X2.out.later hb1); have Y3 := Lib.hid (Y2.out.trans (hb1.mono Y2.out.size)); clear hb1
      obtain ⟨c1, c2, c3, c4, s1, s2⟩ := X3.out
      go_wp2_with fail
      clear c1 c2 c3 c4 s1 s2
      refine (rSameU_ p q A B c d ws vs _ (HA.out.later Y3.out (Nat.le_refl _)) (HB.out.later Y3.out (Nat.le_refl _))).mono ?_; rintro e w4 ⟨rfl, hb1⟩
      have X4 := Lib.hid (X3.out.later hb1); have Y4 := Lib.hid (Y3.out.trans (hb1.mono Y3.out.size)); clear hb1
      obtain ⟨c1, c2, c3, c4, s1, s2⟩ := X4.out
      go_wp2_with fail
      clear c1 c2 c3 c4 s1 s2
      refine (tMatchU_ p q A B c d ws vs _ (HA.out.later Y4.out (Nat.le_refl _)) (HB.out.later Y4.out (Nat.le_refl _))).mono ?_; rintro e w5 ⟨_, rfl, ⟨L1, k1, rfl, hL1⟩, hb1⟩
      have X5 := Lib.hid (X4.out.later hb1); have Y5 := Lib.hid (Y4.out.trans (hb1.mono Y4.out.size)); clear hb1
      obtain ⟨c1, c2, c3, c4, s1, s2⟩ := X5.out
      have HL1 := Lib.hid hL1; clear hL1
      go_wp2_with fail
      clear c1 c2 c3 c4 s1 s2
      refine (rMatchU_ p q A B c d ws vs _ (HA.out.later Y5.out (Nat.le_refl _)) (HB.out.later Y5.out (Nat.le_refl _))).mono ?_; rintro e w6 ⟨_, rfl, ⟨L2, k2, rfl, hL2⟩, hb1⟩
      have HL2 := Lib.hid hL2; clear hL2
      have HL3 := Lib.hid (HL1.out.later hb1 (Nat.le_refl _))
      have Y6 := Lib.hid (Y5.out.trans (hb1.mono Y5.out.size)); clear hb1
      go_wp2_with fail
      refine (sameIntsR_ L1 L2 k1 k2 _ _ HL3.out HL2.out).mono ?_; rintro e w7 ⟨rfl, hb1⟩
      have Y7 := Lib.hid (Y6.out.trans (hb1.mono Y6.out.size)); clear hb1
      go_wp2_with fail
      refine (awake_ _).mono ?_; rintro e w8 ⟨rfl, hb1⟩
      have Y8 := Lib.hid (Y7.out.trans (hb1.mono Y7.out.size)); clear hb1
      go_wp2
      go_ret
      exact ⟨ret_bool (by simp), Y8.out⟩
end Go.Proofs.Ytifpkdajfdlgeaa
