/- The reference's Closed: the error of a list as a closed set. -/
import Derived.Test.YtepdgffccfcfpaaRRows
import Derived.Test.YtepdgffccfcfpaaCheck
namespace Go.Proofs.Ytepdgffccfcfpaa
open Go.RowKit

theorem box1_set {w w1 : World} {p : Int} {A : Option Addr} {c n : Nat} (h : Box1 w w1 p A c n) {q : Addr} (hq : q.block ≠ w.heap.size) (u : Value) : Box1 w (w1.setCell q u) p A c n :=
  ⟨(World.cell?_setCell_other _ _ _ _ (fun e => hq (by rw [e]))).trans h.1, (World.cell?_setCell_other _ _ _ _ (fun e => hq (by rw [e]))).trans h.2.1, by simpa using h.2.2⟩
/-- Among the first b works each one has what is before it. -/
def ClTo (P : Nat) (ws : List GW) (S b : Nat) : Prop := ∀ x, x < b → S.testBit x = true → ∀ a, befM P ws x a = true → S.testBit a = true
def ClAt (P : Nat) (ws : List GW) (S b k : Nat) : Prop := S.testBit b = true → ∀ a, a < k → befM P ws b a = true → S.testBit a = true
theorem befM_lt {P : Nat} {ws : List GW} {b a : Nat} (hb : b < ws.length) (h : befM P ws b a = true) : a < b := ((setsOf_bef hb a).1 h).lt
theorem ClTo.step {P : Nat} {ws : List GW} {S b : Nat} (hb : b < ws.length) (h : ClTo P ws S b) (hk : ClAt P ws S b b) : ClTo P ws S (b + 1) := fun x hx hS a ha => by
  by_cases he : x = b
  · subst he; exact hk hS a (befM_lt hb ha) ha
  · exact h x (by omega) hS a ha
theorem bit_lt {n : Nat} {l : List Int} (ha : Asc n l) {b : Nat} (h : (bitsL l).testBit b = true) : b < n := by
  obtain ⟨x, hx, rfl⟩ := (bitsL_bit l b).1 h
  obtain ⟨i, hi, rfl⟩ := List.mem_iff_getElem.1 hx
  have := (ha i hi)
  unfold AscAt at this
  rw [show l.getD i 0 = l[i] by simp [List.getD_eq_getElem?_getD, hi]] at this
  omega
theorem clErr_ok {P : Nat} {ws : List GW} {l : List Int} (hok : errSheet P ws = 0) (ha : Asc ws.length l) (h : ClTo P ws (bitsL l) ws.length) : clErr P ws l = 0 := by
  obtain ⟨_, _, hn, _⟩ := okAll hok
  have hc : Clo (setsOf P ws) l := (clo_iff hn ha).2 fun b hb a hab => h b (bit_lt ha hb) hb a ((setsOf_bef (bit_lt ha hb) a).2 hab)
  unfold clErr
  rw [if_pos hok, if_pos ha]
  exact if_pos hc
theorem clErr_no {P : Nat} {ws : List GW} {l : List Int} (hok : errSheet P ws = 0) (ha : Asc ws.length l) {b a : Nat} (h1 : (bitsL l).testBit b = true) (h2 : befM P ws b a = true) (h3 : (bitsL l).testBit a = false) : clErr P ws l = 4 := by
  obtain ⟨_, _, hn, _⟩ := okAll hok
  have hc : ¬ Clo (setsOf P ws) l := fun hc => by
    have := (clo_iff hn ha).1 hc b h1 a ((setsOf_bef (bit_lt ha h1) a).1 h2)
    rw [h3] at this; cases this
  unfold clErr
  rw [if_pos hok, if_pos ha]
  exact if_neg hc

set_option maxRecDepth 100000 in
set_option maxHeartbeats 8000000 in
theorem rClosed_ (p : Int) (A L : Option Addr) (c lc : Nat) (ws : List GW) (l : List Int) (w : World) (hsh : ShIn w p A ws) (hl : RdI w L l) :
    Calls Try.prog 31 #[.agg #[.int .i64 p, .slice A ws.length c], .slice L l.length lc] w fun e w' => e = .returned (.int .i64 (clErr p ws l)) ∧ Below w.heap.size w w' := by
  have hln := hl.1
  obtain ⟨hp1, hp2, ha⟩ := hsh
  have hb2 : Below w.heap.size w (w.alloc (.cells #[.int .i64 p, .slice A ws.length c] 24)) := (Below.refl _ _).alloc (Nat.le_refl _) _
  have hbx := Box1.made w p A c ws.length 24
  have HA0 := Lib.hid ha
  have HA := Lib.hid ha; have HL := Lib.hid hl; have HB2 := Lib.hid hb2; have HBX := Lib.hid hbx; clear ha hl hb2 hbx
  go_enter Try.func31, Try.ntmps31
  go_wp2_with fail
  refine (rCheck_ _ _ _ _ _ hp1 hp2 (HA.out.later HB2.out (Nat.le_refl _))).mono ?_
  rintro e w1 ⟨rfl, hb1⟩
  have hx1 := HBX.out.later hb1
  have Y1 := Lib.hid (HB2.out.trans (hb1.mono (by simp))); clear hb1 HBX
  obtain ⟨c0, c1, hs0⟩ := hx1
  by_cases he : errSheet p ws = 0
  rotate_left
  · have hcl : clErr p ws l = errSheet p ws := by unfold clErr; rw [if_neg he]
    generalize hE : errSheet p ws = E at *
    have HCL := Lib.hid hcl; have HE := Lib.hid hE; clear hcl hE
    go_wp2
    go_ret
    exact ⟨by rw [HCL.out]; rfl, Y1.out⟩
  obtain ⟨hp3, hp24, hn, hall⟩ := okAll he
  obtain ⟨P, rfl⟩ := Int.eq_ofNat_of_zero_le (show 0 ≤ p by omega)
  have hok := he
  rw [he]
  have hmk := run_make_row' (P := Try.prog) 74 4 (.bool false) 1 Try.underlying74 infoB_Try rfl .i64 .i64 ws.length (by omega) (by omega)
  have hm0 := (BoB.made w1 ws.length).congr (g' := fun b => (bitsL (l.take 0)).testBit b) (fun b _ => by simp [bitsL])
  have hx2 : Box1 w (w1.alloc (.cells (madeCells #[.bool false] ws.length) 4)) P A c ws.length := (show Box1 w w1 P A c ws.length from ⟨c0, c1, hs0⟩).later ((Below.refl _ _).alloc (Nat.le_refl _) _)
  clear he
  have HALL := Lib.hid hall; have HOK := Lib.hid hok; have HM0 := Lib.hid hm0; have HX2 := Lib.hid hx2; clear hall hok hm0 hx2
  go_wp2
  clear hmk
  go_loopw [7] (fun iv wr => ∃ j : Nat, iv = .int .i64 j ∧ j ≤ l.length ∧ (∀ i, i < j → AscAt ws.length l i) ∧ BoB wr w1.heap.size ws.length (fun b => (bitsL (l.take j)).testBit b) ∧ Box1 w wr P A c ws.length ∧ Below w1.heap.size w1 wr) (fun iv _ => l.length - (intOf iv).toNat)
  case atStart => exact ⟨0, rfl, Nat.zero_le _, (fun i h => absurd h (by omega)), HM0.out, HX2.out, (Below.refl _ _).alloc (Nat.le_refl _) _⟩
  case round =>
    clear HM0 HX2 c0 c1
    obtain ⟨j, rfl, hj, hasc, hS, hx, hbw⟩ := hrel
    have hXW := Y1.out.trans (hbw.mono Y1.out.size)
    have hSl := hS.lt
    by_cases hlt : j < l.length
    · obtain ⟨bl, ol, rfl, hbl, l1⟩ := (HL.out.later hXW (Nat.le_refl _)).at_ hlt
      have x1 : (0 : Int) ≤ (j : Int) := by omega
      have x2 : (j : Int) < (l.length : Int) := by omega
      have hg : l.getD j 0 = l[j] := by simp [List.getD_eq_getElem?_getD, hlt]
      have hlx : l.take (j + 1) = l.take j ++ [l[j]] := List.take_succ_eq_append_getElem hlt
      have hno : ¬ AscAt ws.length l j → clErr P ws l = 2 := fun h => by
        unfold clErr
        rw [if_pos HOK.out, if_neg (fun h2 => h (h2 j hlt))]
      obtain ⟨m, hm⟩ : ∃ m, m = j - 1 := ⟨_, rfl⟩
      have hml : m < l.length := by omega
      obtain ⟨bl', ol', hq, _, l2⟩ := (HL.out.later hXW (Nat.le_refl _)).at_ hml
      cases hq
      have hg2 : l.getD (j - 1) 0 = l[m] := by subst hm; simp [List.getD_eq_getElem?_getD, hml]
      unfold AscAt at hno
      rw [hg, hg2] at hno
      have hyes : (0 ≤ l[j] ∧ l[j] < ws.length ∧ (j = 0 ∨ l[m] < l[j])) → ∀ i, i < j + 1 → AscAt ws.length l i := fun h i hi => by
        by_cases hij : i = j
        · subst hij
          unfold AscAt
          rw [hg, hg2]
          exact h
        · exact hasc i (by omega)
      have hput : BoB wr w1.heap.size ws.length (fun b => (bitsL (l.take j)).testBit b) → 0 ≤ l[j] → BoB (wr.setCell ⟨w1.heap.size, l[j].toNat, none⟩ (.bool true)) w1.heap.size ws.length (fun b => (bitsL (l.take (j + 1))).testBit b) := fun h h0 => (h.put l[j].toNat true).congr fun b _ => by
        rw [hlx, bitsL_snoc, Nat.testBit_or, Nat.testBit_two_pow]
        by_cases hb : b = l[j].toNat
        · simp [hb]
        · have hb' : ¬ l[j].toNat = b := fun e => hb e.symm
          simp [hb, hb']
      clear hlx
      have hS2 := hS
      have HNO := Lib.hid hno; have HYES := Lib.hid hyes; have HXW := Lib.hid hXW; have HASC := Lib.hid hasc; have HBW := Lib.hid hbw; have HS := Lib.hid hS; have HPUT := Lib.hid hput; have HX := Lib.hid hx; clear hno hyes hXW hasc hbw hS hput hx
      clear hg hg2
      generalize l[j] = x at *
      generalize l[m] = y at *
      have hjw : 0 < j → IntKind.i64.wrap ((j : Int) - 1) = (m : Int) := fun h => by
        rw [show (j : Int) - 1 = (m : Int) by omega]
        exact IntWalk.i64_in _ (by omega)
      have x3 : (0 : Int) ≤ (m : Int) := by omega
      have x4 : (m : Int) < (l.length : Int) := by omega
      by_cases r1 : x < 0
      · have hcl := HNO.out (by omega)
        have b1 : decide (x < 0) = true := by simp; omega
        clear r1
        have HCL := Lib.hid hcl; have HS2 := Lib.hid hS2; clear hcl hS2
        go_wp2
        go_quiet (fail)
        go_wp2
        go_ret
        exact ⟨by rw [HCL.out]; rfl, below_drewN HXW.out _⟩
      · have b1 : decide (x < 0) = false := by simp; omega
        by_cases r2 : (ws.length : Int) ≤ x
        · have hcl := HNO.out (by omega)
          have b2 : decide (x ≥ (ws.length : Int)) = true := by simp; omega
          clear r1 r2
          have HCL := Lib.hid hcl; have HS2 := Lib.hid hS2; clear hcl hS2
          go_wp2
          go_quiet (fail)
          go_wp2
          go_ret
          exact ⟨by rw [HCL.out]; rfl, below_drewN HXW.out _⟩
        · have b2 : decide (x ≥ (ws.length : Int)) = false := by simp; omega
          have h5 := HPUT.out HS.out (by omega)
          obtain ⟨i, rfl⟩ := Int.eq_ofNat_of_zero_le (show 0 ≤ x by omega)
          rw [Int.toNat_natCast] at h5
          have hiw : i < ws.length := by omega
          have e1 := hS2.at_ hiw
          have e2 := hS2.free i
          have b2n : decide (ws.length ≤ i) = false := by simp; omega
          have b1n : decide ((i : Int) < 0) = false := by simp
          by_cases r3 : 0 < j
          · have hjw' := hjw r3
            rw [hm] at l2 hjw' x3 x4
            have b3n : decide (0 < j) = true := by simp; omega
            clear hm hjw
            by_cases r4 : (i : Int) ≤ y
            · have hcl := HNO.out (by omega)
              have b4 : decide ((i : Int) ≤ y) = true := by simp; omega
              clear r1 r2 r3 r4
              have HCL := Lib.hid hcl; have HS2 := Lib.hid hS2; have H5 := Lib.hid h5; clear hcl hS2 h5
              go_wp2
              go_quiet (fail)
              go_wp2
              go_ret
              exact ⟨by rw [HCL.out]; rfl, below_drewN HXW.out _⟩
            · have b4 : decide ((i : Int) ≤ y) = false := by simp; omega
              have hasc2 := HYES.out ⟨by omega, by omega, .inr (by omega)⟩
              have hx2 := box1_set HX.out (q := ⟨w1.heap.size, i, none⟩) (by show w1.heap.size ≠ w.heap.size; omega) (.bool true)
              have y1 : (0 : Int) ≤ (i : Int) := by omega
              have y2 : (i : Int) < (ws.length : Int) := by omega
              clear r1 r2 r3 r4
              have HS2 := Lib.hid hS2; have H5 := Lib.hid h5; have HASC2 := Lib.hid hasc2; have HX2 := Lib.hid hx2; clear hS2 h5 hasc2 hx2
              go_wp2
              go_quiet (fail)
              go_wp2
              go_roundw
              case rel => exact ⟨j + 1, by go_num, by omega, HASC2.out, H5.out, HX2.out, (below_drewN HBW.out _).setCell (Nat.le_refl _) _⟩
              case measure => simp [intOf]; omega
          · obtain rfl : j = 0 := by omega
            rw [Nat.add_zero] at l1
            clear hjw l2 hm
            have hasc2 := HYES.out ⟨by omega, by omega, .inl rfl⟩
            have hx2 := box1_set HX.out (q := ⟨w1.heap.size, i, none⟩) (by show w1.heap.size ≠ w.heap.size; omega) (.bool true)
            have y1 : (0 : Int) ≤ (i : Int) := by omega
            have y2 : (i : Int) < (ws.length : Int) := by omega
            clear r1 r2 r3
            have HS2 := Lib.hid hS2; have H5 := Lib.hid h5; have HASC2 := Lib.hid hasc2; have HX2 := Lib.hid hx2; clear hS2 h5 hasc2 hx2
            go_wp2
            go_quiet (fail)
            go_wp2
            go_roundw
            case rel => exact ⟨0 + 1, by go_num, by omega, HASC2.out, H5.out, HX2.out, (below_drewN HBW.out _).setCell (Nat.le_refl _) _⟩
            case measure => simp [intOf]; omega
    · obtain rfl : j = l.length := by omega
      have hA : Asc ws.length l := hasc
      rw [List.take_of_length_le (Nat.le_refl _)] at hS
      have hx3 := hx
      obtain ⟨c0, c1, hs3⟩ := hx
      have HS := Lib.hid hS; have HASC := Lib.hid hasc; have HA := Lib.hid hA; have HBW := Lib.hid hbw; have HXW := Lib.hid hXW; have HX3 := Lib.hid hx3; clear hS hasc hA hbw hXW hx3
      go_wp2_with fail
      refine (rRows_ P A c ws _ HOK.out (HA0.out.later HXW.out (Nat.le_refl _))).mono ?_
      rintro e w2 ⟨RA, rc, rfl, hM, hb2⟩
      have hS2 := HS.out.later hb2
      have Y2 := Lib.hid (HXW.out.trans (hb2.mono HXW.out.size)); clear hb2
      have hSl2 := hS2.lt
      have HS2 := Lib.hid hS2; have HM := Lib.hid hM; clear hS2 hM
      go_wp2
      go_loop [9] (fun iv => ∃ b : Nat, iv = .int .i64 b ∧ b ≤ ws.length ∧ ClTo P ws (bitsL l) b) (fun iv => ws.length - (intOf iv).toNat)
      case atStart => exact ⟨0, rfl, Nat.zero_le _, fun x h => absurd h (by omega)⟩
      case round =>
        obtain ⟨b, rfl, hb, hto⟩ := hrel
        by_cases hbn : b < ws.length
        · have HTO := Lib.hid hto; clear hto
          go_wp2
          go_loop [10] (fun iv => ∃ a : Nat, iv = .int .i64 a ∧ a ≤ b ∧ ClAt P ws (bitsL l) b a) (fun iv => b - (intOf iv).toNat)
          case atStart => exact ⟨0, rfl, Nat.zero_le _, fun _ x h => absurd h (by omega)⟩
          case round =>
            obtain ⟨a, rfl, hab, hat⟩ := hrel
            by_cases hlt : a < b
            · have han : a < ws.length := by omega
              have e1 := HS2.out.at_ hbn
              have e2 := HS2.out.at_ han
              obtain ⟨g, o, R, rfl, hg, m1, hR, m2⟩ := HM.out b hbn
              have m3 := m2 a han
              have x1 : (0 : Int) ≤ (a : Int) := by omega
              have x2 : (a : Int) < (ws.length : Int) := by omega
              have x3 : (0 : Int) ≤ (b : Int) := by omega
              have x4 : (b : Int) < (ws.length : Int) := by omega
              have hbad : (bitsL l).testBit b = true → befM P ws b a = true → (bitsL l).testBit a = false → clErr P ws l = 4 := clErr_no HOK.out HA.out
              have hgood : ¬ ((bitsL l).testBit b = true ∧ befM P ws b a = true ∧ (bitsL l).testBit a = false) → ClAt P ws (bitsL l) b (a + 1) := fun h hS x hx hM => by
                by_cases hxa : x = a
                · subst hxa
                  cases h3 : (bitsL l).testBit x with
                  | true => rfl
                  | false => exact absurd ⟨hS, hM, h3⟩ h
                · exact hat hS x (by omega) hM
              clear m2
              generalize (bitsL l).testBit b = sb at *
              generalize befM P ws b a = mv at *
              generalize (bitsL l).testBit a = sa at *
              have HAT := Lib.hid hat; have HBAD := Lib.hid hbad; have HGOOD := Lib.hid hgood; clear hat hbad hgood
              cases sb with
              | false =>
                have hg2 := HGOOD.out (by simp)
                have HG2 := Lib.hid hg2; clear hg2
                go_wp2
                go_round
                case rel => exact ⟨a + 1, by go_num, by omega, HG2.out⟩
                case measure => simp [intOf]; omega
              | true =>
                cases mv with
                | false =>
                  have hg2 := HGOOD.out (by simp)
                  have HG2 := Lib.hid hg2; clear hg2
                  go_wp2
                  go_round
                  case rel => exact ⟨a + 1, by go_num, by omega, HG2.out⟩
                  case measure => simp [intOf]; omega
                | true =>
                  cases sa with
                  | true =>
                    have hg2 := HGOOD.out (by simp)
                    have HG2 := Lib.hid hg2; clear hg2
                    go_wp2
                    go_round
                    case rel => exact ⟨a + 1, by go_num, by omega, HG2.out⟩
                    case measure => simp [intOf]; omega
                  | false =>
                    have hcl := HBAD.out rfl rfl rfl
                    have HCL := Lib.hid hcl; clear hcl
                    go_wp2
                    go_ret
                    exact ⟨by rw [HCL.out]; rfl, Y2.out⟩
            · obtain rfl : a = b := by omega
              have hto2 := HTO.out.step hbn hat
              have HAT := Lib.hid hat; have HTO2 := Lib.hid hto2; clear hat hto2
              go_wp2
              go_round
              case rel => exact ⟨a + 1, by go_num, by omega, HTO2.out⟩
              case measure => simp [intOf]; omega
        · obtain rfl : b = ws.length := by omega
          have hcl := clErr_ok HOK.out HA.out hto
          have HTO := Lib.hid hto; have HCL := Lib.hid hcl; clear hto hcl
          go_wp2
          go_ret
          exact ⟨by rw [HCL.out]; rfl, Y2.out⟩
end Go.Proofs.Ytepdgffccfcfpaa
