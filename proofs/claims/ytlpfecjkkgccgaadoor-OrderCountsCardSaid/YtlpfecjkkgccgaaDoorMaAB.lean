/- Texts of this claim, laid together: OrLCnt. -/
import Derived.Test.YtlpfecjkkgccgaaDoorMaU
import Derived.Test.YtlpfecjkkgccgaaDoorMaX
import Derived.Test.YtlpfecjkkgccgaaDoorMaAA
/- The law OrderCounts: Count and Next. -/
namespace Go.Proofs.YtlpfecjkkgccgaaDoor
open Go Go.RowKit

set_option maxRecDepth 100000 in
set_option maxHeartbeats 4000000 in
theorem lawCounts_ (p : Int) (A Wa B : Option Addr) (c wc lc : Nat) (ws : List GW) (wl : List (Int × Int)) (l : List Int) (w : World) (ha : ShIn w p A ws) (hl : RdP w Wa wl) (ho : RdI w B l) (hlc : l.length ≤ lc) (hT : Tz w) :
    Calls Tryd.prog 4 #[.agg #[.int .i64 p, .slice A ws.length c, .slice Wa wl.length wc, .slice B l.length lc]] w fun e w' => e = .returned (.bool true) ∧ Below w.heap.size w w' := by
  have hb2 : Below w.heap.size w (w.alloc (.cells #[.int .i64 p, .slice A ws.length c, .slice Wa wl.length wc, .slice B l.length lc] 28)) := (Below.refl _ _).alloc (Nat.le_refl _) _
  have hC : CaseB (w.alloc (.cells #[.int .i64 p, .slice A ws.length c, .slice Wa wl.length wc, .slice B l.length lc] 28)) w.heap.size p A Wa B ws.length c wl.length wc l.length lc := heap_alloc_new _ _
  go_enter Tryd.func4, Tryd.ntmps4
  refine wp_seq_k fun K1 hK1 => ?_
  have HK1 := Lib.hid hK1; have HA := Lib.hid ha; have HL := Lib.hid hl; have HO := Lib.hid ho; have HLC := Lib.hid hlc; have HT := Lib.hid hT; clear hK1 ha hl ho hlc hT
  go_wp2
  refine HK1.out _ _ ?_
  clear HK1
  generalize w.alloc (.cells #[.int .i64 p, .slice A ws.length c, .slice Wa wl.length wc, .slice B l.length lc] 28) = w1 at *
  obtain ⟨c0, c1, c2, c3, s1⟩ := hC.open_
  have B1 := Lib.hid hb2
  clear hb2
  have HC := Lib.hid hC; clear hC
  go_wp2_with fail
  refine (far_ p A Wa B c wc lc wl.length l.length ws w1 (HA.out.rd.later B1.out (Nat.le_refl _))).mono ?_
  rintro e w2 ⟨t, rfl, hNear, b1⟩
  have hC2 := HC.out.later b1
  have B2 := Lib.hid (B1.out.trans (b1.mono B1.out.size))
  clear HC B1 b1 c0 c1 c2 c3 s1
  obtain ⟨c0, c1, c2, c3, s1⟩ := hC2.open_
  have HC2 := Lib.hid hC2; have HNEAR := Lib.hid hNear; clear hC2 hNear
  cases t with
  | true =>
    go_wp2_with fail
    refine (shown_ _ (HT.out.later B2.out (Nat.le_refl _))).mono ?_
    rintro e w3 ⟨rfl, b1⟩
    have B3 := Lib.hid (B2.out.trans (b1.mono B2.out.size))
    clear b1
    go_wp2
    go_ret
    exact ⟨rfl, B3.out⟩
  | false =>
    have hkk := (HNEAR.out rfl).2.1
    by_cases hmid : 13 < ws.length ∧ ws.length ≤ 16
    · have f1 : decide ((13 : Int) < (ws.length : Int)) = true := by simp; omega
      have f2 : decide ((ws.length : Int) ≤ 16) = true := by simp; omega
      have f3 : (13 : Int) < (ws.length : Int) := by omega
      have f4 : (ws.length : Int) ≤ 16 := by omega
      have HKK := Lib.hid hkk; have HMID := Lib.hid hmid; clear hkk hmid
      go_wp2_with fail
      refine (shown_ _ (HT.out.later B2.out (Nat.le_refl _))).mono ?_
      rintro e w3 ⟨rfl, b1⟩
      have B3 := Lib.hid (B2.out.trans (b1.mono B2.out.size))
      clear b1
      go_wp2
      go_ret
      exact ⟨rfl, B3.out⟩
    have hs : ws.length ≤ 13 ∨ 16 < ws.length := by omega
    have HKK := Lib.hid hkk; clear hkk
    rcases Nat.lt_or_ge 13 ws.length with h13 | h13
    · have f1 : decide ((13 : Int) < (ws.length : Int)) = true := by simp; omega
      have f2 : decide ((ws.length : Int) ≤ 16) = false := by simp; omega
      have f3 : (13 : Int) < (ws.length : Int) := by omega
      have f4 : ¬ (ws.length : Int) ≤ 16 := by omega
      have HS := Lib.hid hs; have H13 := Lib.hid h13; have HMID := Lib.hid hmid; clear hs h13 hmid
      go_wp2_with fail
      refine (oCount_ p A Wa c wc ws wl _ (HA.out.later B2.out (Nat.le_refl _)) (HL.out.later B2.out (Nat.le_refl _)) (HT.out.later B2.out (Nat.le_refl _))).mono ?_
      rintro e w3 ⟨rfl, b1⟩
      have hC3 := HC2.out.later b1
      have B3 := Lib.hid (B2.out.trans (b1.mono B2.out.size))
      clear HC2 B2 b1 c0 c1 c2 c3 s1
      obtain ⟨c0, c1, c2, c3, s1⟩ := hC3.open_
      have HC3 := Lib.hid hC3; clear hC3
      go_wp2_with fail
      refine (rCount_ p A Wa c wc ws wl _ (HA.out.later B3.out (Nat.le_refl _)) (HL.out.later B3.out (Nat.le_refl _)) HS.out).mono ?_
      rintro e w4 ⟨rfl, b1⟩
      have hC4 := HC3.out.later b1
      have B4 := Lib.hid (B3.out.trans (b1.mono B3.out.size))
      clear HC3 B3 b1 c0 c1 c2 c3 s1
      obtain ⟨c0, c1, c2, c3, s1⟩ := hC4.open_
      generalize cntV p ws wl = V1 at *
      generalize cntX p ws wl = E1 at *
      have HC4 := Lib.hid hC4; clear hC4
      go_wp2_with fail
      refine (oNext_ p A Wa B c wc lc ws wl l _ (HA.out.later B4.out (Nat.le_refl _)) (HL.out.later B4.out (Nat.le_refl _)) (HO.out.later B4.out (Nat.le_refl _)) HKK.out HLC.out).mono ?_
      rintro e w5 ⟨v, rfl, ⟨PA, pa, rfl, h1⟩, _, b1⟩
      have hC5 := HC4.out.later b1
      have B5 := Lib.hid (B4.out.trans (b1.mono B4.out.size))
      have hP5 := h1
      clear HC4 B4 b1 h1 c0 c1 c2 c3 s1
      obtain ⟨c0, c1, c2, c3, s1⟩ := hC5.open_
      have HC5 := Lib.hid hC5; have HP5 := Lib.hid hP5; clear hC5 hP5
      go_wp2_with fail
      refine (rNext_ p A Wa B c wc lc ws wl l _ (HA.out.later B5.out (Nat.le_refl _)) (HL.out.later B5.out (Nat.le_refl _)) (HO.out.later B5.out (Nat.le_refl _)) HLC.out).mono ?_
      rintro e w6 ⟨v, rfl, ⟨QA, qa, rfl, h1⟩, b1⟩
      have B6 := Lib.hid (B5.out.trans (b1.mono B5.out.size))
      have hP6 := HP5.out.later b1 (Nat.le_refl _)
      have hQ6 := h1
      clear HC5 B5 HP5 b1 h1 c0 c1 c2 c3 s1
      generalize nxtX p ws wl l = E2 at *
      generalize nxtL p ws wl l = L1 at *
      have HP6 := Lib.hid hP6; have HQ6 := Lib.hid hQ6; clear hP6 hQ6
      go_wp2_with fail
      refine (sameInts_ PA QA pa qa L1 L1 _ HP6.out HQ6.out).mono ?_
      rintro e w7 ⟨rfl, b1⟩
      rw [show decide (L1 = L1) = true from decide_eq_true rfl]
      have B7 := Lib.hid (B6.out.trans (b1.mono B6.out.size))
      clear B6 b1 HP6 HQ6
      go_wp2_with fail
      refine (shown_ _ (HT.out.later B7.out (Nat.le_refl _))).mono ?_
      rintro e w8 ⟨rfl, b1⟩
      have B8 := Lib.hid (B7.out.trans (b1.mono B7.out.size))
      clear b1 B7
      go_wp2
      go_ret
      exact ⟨rfl, B8.out⟩
    · have f1 : decide ((13 : Int) < (ws.length : Int)) = false := by simp; omega
      have f3 : ¬ (13 : Int) < (ws.length : Int) := by omega
      have HS := Lib.hid hs; have H13 := Lib.hid h13; have HMID := Lib.hid hmid; clear hs h13 hmid
      go_wp2_with fail
      refine (oCount_ p A Wa c wc ws wl _ (HA.out.later B2.out (Nat.le_refl _)) (HL.out.later B2.out (Nat.le_refl _)) (HT.out.later B2.out (Nat.le_refl _))).mono ?_
      rintro e w3 ⟨rfl, b1⟩
      have hC3 := HC2.out.later b1
      have B3 := Lib.hid (B2.out.trans (b1.mono B2.out.size))
      clear HC2 B2 b1 c0 c1 c2 c3 s1
      obtain ⟨c0, c1, c2, c3, s1⟩ := hC3.open_
      have HC3 := Lib.hid hC3; clear hC3
      go_wp2_with fail
      refine (rCount_ p A Wa c wc ws wl _ (HA.out.later B3.out (Nat.le_refl _)) (HL.out.later B3.out (Nat.le_refl _)) HS.out).mono ?_
      rintro e w4 ⟨rfl, b1⟩
      have hC4 := HC3.out.later b1
      have B4 := Lib.hid (B3.out.trans (b1.mono B3.out.size))
      clear HC3 B3 b1 c0 c1 c2 c3 s1
      obtain ⟨c0, c1, c2, c3, s1⟩ := hC4.open_
      generalize cntV p ws wl = V1 at *
      generalize cntX p ws wl = E1 at *
      have HC4 := Lib.hid hC4; clear hC4
      go_wp2_with fail
      refine (oNext_ p A Wa B c wc lc ws wl l _ (HA.out.later B4.out (Nat.le_refl _)) (HL.out.later B4.out (Nat.le_refl _)) (HO.out.later B4.out (Nat.le_refl _)) HKK.out HLC.out).mono ?_
      rintro e w5 ⟨v, rfl, ⟨PA, pa, rfl, h1⟩, _, b1⟩
      have hC5 := HC4.out.later b1
      have B5 := Lib.hid (B4.out.trans (b1.mono B4.out.size))
      have hP5 := h1
      clear HC4 B4 b1 h1 c0 c1 c2 c3 s1
      obtain ⟨c0, c1, c2, c3, s1⟩ := hC5.open_
      have HC5 := Lib.hid hC5; have HP5 := Lib.hid hP5; clear hC5 hP5
      go_wp2_with fail
      refine (rNext_ p A Wa B c wc lc ws wl l _ (HA.out.later B5.out (Nat.le_refl _)) (HL.out.later B5.out (Nat.le_refl _)) (HO.out.later B5.out (Nat.le_refl _)) HLC.out).mono ?_
      rintro e w6 ⟨v, rfl, ⟨QA, qa, rfl, h1⟩, b1⟩
      have B6 := Lib.hid (B5.out.trans (b1.mono B5.out.size))
      have hP6 := HP5.out.later b1 (Nat.le_refl _)
      have hQ6 := h1
      clear HC5 B5 HP5 b1 h1 c0 c1 c2 c3 s1
      generalize nxtX p ws wl l = E2 at *
      generalize nxtL p ws wl l = L1 at *
      have HP6 := Lib.hid hP6; have HQ6 := Lib.hid hQ6; clear hP6 hQ6
      go_wp2_with fail
      refine (sameInts_ PA QA pa qa L1 L1 _ HP6.out HQ6.out).mono ?_
      rintro e w7 ⟨rfl, b1⟩
      rw [show decide (L1 = L1) = true from decide_eq_true rfl]
      have B7 := Lib.hid (B6.out.trans (b1.mono B6.out.size))
      clear B6 b1 HP6 HQ6
      go_wp2_with fail
      refine (shown_ _ (HT.out.later B7.out (Nat.le_refl _))).mono ?_
      rintro e w8 ⟨rfl, b1⟩
      have B8 := Lib.hid (B7.out.trans (b1.mono B7.out.size))
      clear b1 B7
      go_wp2
      go_ret
      exact ⟨rfl, B8.out⟩
end Go.Proofs.YtlpfecjkkgccgaaDoor
