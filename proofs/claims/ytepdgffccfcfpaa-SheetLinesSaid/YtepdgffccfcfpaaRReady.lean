/- The reference's Ready. -/
import Derived.Test.YtepdgffccfcfpaaRClosed
import Derived.Test.YtepdgffccfcfpaaSReady
namespace Go.Proofs.Ytepdgffccfcfpaa
open Go.RowKit

def rdF (P : Nat) (ws : List GW) (S b : Nat) : Nat → Bool
  | 0 => !S.testBit b
  | a + 1 => rdF P ws S b a && (S.testBit a || !befM P ws b a)
theorem rdF_iff {P : Nat} {ws : List GW} {S b : Nat} : ∀ {a : Nat}, rdF P ws S b a = true ↔ S.testBit b = false ∧ ∀ x, x < a → befM P ws b x = true → S.testBit x = true
  | 0 => by unfold rdF; simp
  | a + 1 => by
    unfold rdF
    rw [Bool.and_eq_true, rdF_iff, Bool.or_eq_true]
    constructor
    · rintro ⟨⟨h1, h2⟩, h3⟩
      refine ⟨h1, fun x hx hM => ?_⟩
      by_cases he : x = a
      · subst he
        rcases h3 with h3 | h3
        · exact h3
        · rw [hM] at h3; cases h3
      · exact h2 x (by omega) hM
    · rintro ⟨h1, h2⟩
      refine ⟨⟨h1, fun x hx => h2 x (by omega)⟩, ?_⟩
      cases hM : befM P ws b a with
      | true => exact .inl (h2 a (by omega) hM)
      | false => exact .inr rfl
theorem rdF_rdy {P : Nat} {ws : List GW} {l : List Int} {b : Nat} (hn : ws.length ≤ 400) (hb : b < ws.length) : rdF P ws (bitsL l) b b = rdyB P ws l b := by
  have h : rdF P ws (bitsL l) b b = true ↔ rdyB P ws l b = true := by
    rw [rdF_iff, rdyB_iff hn hb]
    constructor
    · rintro ⟨h1, h2⟩; exact ⟨h1, fun a ha => h2 a ha.lt ((setsOf_bef hb a).2 ha)⟩
    · rintro ⟨h1, h2⟩; exact ⟨h1, fun a _ ha => h2 a ((setsOf_bef hb a).1 ha)⟩
  cases h1 : rdF P ws (bitsL l) b b <;> cases h2 : rdyB P ws l b <;> simp [h1, h2] at h ⊢

set_option maxRecDepth 100000 in
set_option maxHeartbeats 8000000 in
theorem rReady_ (p : Int) (A L : Option Addr) (c lc : Nat) (ws : List GW) (l : List Int) (w : World) (hsh : ShIn w p A ws) (hl : RdI w L l) :
    Calls Try.prog 20 #[.agg #[.int .i64 p, .slice A ws.length c], .slice L l.length lc] w (ListPost (readyL p ws l) (clErr p ws l) w) := by
  have hln := hl.1
  have hb2 : Below w.heap.size w (w.alloc (.cells #[.int .i64 p, .slice A ws.length c] 24)) := (Below.refl _ _).alloc (Nat.le_refl _) _
  have hbx := Box1.made w p A c ws.length 24
  have HSH := Lib.hid hsh; have HL := Lib.hid hl; have HB2 := Lib.hid hb2; have HBX := Lib.hid hbx; clear hsh hl hb2 hbx
  go_enter Try.func20, Try.ntmps20
  go_wp2_with fail
  refine (rClosed_ p A L c lc ws l _ (HSH.out.later HB2.out (Nat.le_refl _)) (HL.out.later HB2.out (Nat.le_refl _))).mono ?_
  rintro e w1 ⟨rfl, hb1⟩
  have hx1 := HBX.out.later hb1
  have Y1 := Lib.hid (HB2.out.trans (hb1.mono (by simp))); clear hb1 HBX
  obtain ⟨c0, c1, hs0⟩ := hx1
  by_cases he : clErr p ws l = 0
  rotate_left
  · have hr : readyL p ws l = [] := by unfold readyL; rw [if_neg he]
    generalize hE : clErr p ws l = E at *
    have HR := Lib.hid hr; have HE := Lib.hid hE; clear hr hE
    go_wp2
    go_ret2
    rw [HR.out]
    try rw [HE.out]
    exact ⟨_, rfl, RdV.nil _, Y1.out⟩
  obtain ⟨hok, hAsc, _⟩ := clErr_zero he
  obtain ⟨hp3, hp24, hn, hall⟩ := okAll hok
  obtain ⟨P, rfl⟩ := Int.eq_ofNat_of_zero_le (show 0 ≤ p by omega)
  have hr : readyL P ws l = rdyTo P ws l ws.length := by unfold readyL; rw [if_pos he]; rfl
  have hx0 : Hid (Box1 w w1 P A c ws.length) := ⟨c0, c1, hs0⟩
  have hce := he
  rw [he]
  have hmk := run_make_row' (P := Try.prog) 74 4 (.bool false) 1 Try.underlying74 infoB_Try rfl .i64 .i64 ws.length (by omega) (by omega)
  have hm0 := (BoB.made w1 ws.length).congr (g' := fun b => (bitsL (l.take 0)).testBit b) (fun b _ => by simp [bitsL])
  have hx2 : Box1 w (w1.alloc (.cells (madeCells #[.bool false] ws.length) 4)) P A c ws.length := hx0.out.later ((Below.refl _ _).alloc (Nat.le_refl _) _)
  clear he
  have HOK := Lib.hid hok; have HASC := Lib.hid hAsc; have HALL := Lib.hid hall; have HR := Lib.hid hr; have HCE := Lib.hid hce; have HM0 := Lib.hid hm0; have HX2 := Lib.hid hx2; clear hok hAsc hall hr hce hm0 hx2
  go_wp2
  clear hmk
  go_loopw [8] (fun iv wr => ∃ j : Nat, iv = .int .i64 j ∧ j ≤ l.length ∧ BoB wr w1.heap.size ws.length (fun b => (bitsL (l.take j)).testBit b) ∧ Box1 w wr P A c ws.length ∧ Below w1.heap.size w1 wr) (fun iv _ => l.length - (intOf iv).toNat)
  case atStart => exact ⟨0, rfl, Nat.zero_le _, HM0.out, HX2.out, (Below.refl _ _).alloc (Nat.le_refl _) _⟩
  case round =>
    clear HM0 HX2 hx0 c0 c1
    obtain ⟨j, rfl, hj, hS, hx, hbw⟩ := hrel
    have hXW := Y1.out.trans (hbw.mono Y1.out.size)
    have hSl := hS.lt
    by_cases hlt : j < l.length
    · obtain ⟨bl, ol, rfl, hbl, l1⟩ := (HL.out.later hXW (Nat.le_refl _)).at_ hlt
      have x1 : (0 : Int) ≤ (j : Int) := by omega
      have x2 : (j : Int) < (l.length : Int) := by omega
      have has := HASC.out j hlt
      unfold AscAt at has
      rw [show l.getD j 0 = l[j] by simp [List.getD_eq_getElem?_getD, hlt]] at has
      have hlx : l.take (j + 1) = l.take j ++ [l[j]] := List.take_succ_eq_append_getElem hlt
      obtain ⟨i, hi⟩ := Int.eq_ofNat_of_zero_le has.1
      rw [hi] at l1 has hlx
      have hiw : i < ws.length := by omega
      have hS2 : BoB (wr.setCell ⟨w1.heap.size, i, none⟩ (.bool true)) w1.heap.size ws.length (fun b => (bitsL (l.take (j + 1))).testBit b) := (hS.put i true).congr fun b _ => by
        rw [hlx, bitsL_snoc, Nat.testBit_or, Nat.testBit_two_pow, Int.toNat_natCast]
        by_cases hb : b = i
        · simp [hb]
        · have hb' : ¬ i = b := fun e => hb e.symm
          simp [hb, hb']
      have hx2 := box1_set hx (q := ⟨w1.heap.size, i, none⟩) (by show w1.heap.size ≠ w.heap.size; omega) (.bool true)
      have hb5 := hbw.setCell (p := ⟨w1.heap.size, i, none⟩) (Nat.le_refl _) (.bool true)
      have e1 := hS.at_ hiw
      have e2 := hS.free i
      have y1 : (0 : Int) ≤ (i : Int) := by omega
      have y2 : (i : Int) < (ws.length : Int) := by omega
      have HS := Lib.hid hS; have HS2 := Lib.hid hS2; have HX := Lib.hid hx; have HX2 := Lib.hid hx2; have HB5 := Lib.hid hb5; have HBW := Lib.hid hbw; have HXW := Lib.hid hXW; have HLX := Lib.hid hlx; have HI := Lib.hid hi; have HAS := Lib.hid has; clear hS hS2 hx hx2 hb5 hbw hXW hlx hi has
      go_wp2
      go_roundw
      case rel => exact ⟨j + 1, by go_num, by omega, HS2.out, HX2.out, HB5.out⟩
      case measure => simp [intOf]; omega
    · obtain rfl : j = l.length := by omega
      rw [List.take_of_length_le (Nat.le_refl _)] at hS
      obtain ⟨c0, c1, hs3⟩ := hx
      have HS := Lib.hid hS; have HBW := Lib.hid hbw; have HXW := Lib.hid hXW; clear hS hbw hXW
      go_wp2_with fail
      refine (rRows_ P A c ws _ HOK.out (HSH.out.rd.later HXW.out (Nat.le_refl _))).mono ?_
      rintro e w2 ⟨RA, rc, rfl, hM, hb2⟩
      have hS2 := HS.out.later hb2
      have Y2 := Lib.hid (HXW.out.trans (hb2.mono HXW.out.size)); clear hb2
      have hSl2 := hS2.lt
      clear c0 c1 hs3
      have HS2 := Lib.hid hS2; have HM := Lib.hid hM; clear hS2 hM
      go_wp2
      go_loopw [10, 11] (fun v iv wr => ∃ b : Nat, iv = .int .i64 b ∧ b ≤ ws.length ∧ wr.ownsRow w2.heap.size 3 1 v (rdyTo P ws l b).length (ints (rdyTo P ws l b)) ∧ Below w2.heap.size w2 wr) (fun _ iv _ => ws.length - (intOf iv).toNat)
      case atStart => exact ⟨0, rfl, Nat.zero_le _, World.ownsRow_nil _ _ _ _, Below.refl _ _⟩
      case round =>
        obtain ⟨b, rfl, hb, hown, hbr⟩ := hrel
        obtain ⟨OA, oc, rfl⟩ := own_slice1 hown
        have hrl := rdyTo_le P ws l b
        have hsr := hbr.size
        by_cases hbn : b < ws.length
        · have e1 := (HS2.out.later hbr).at_ hbn
          have hr0 : rdF P ws (bitsL l) b 0 = !(bitsL l).testBit b := rfl
          have x3 : (0 : Int) ≤ (b : Int) := by omega
          have x4 : (b : Int) < (ws.length : Int) := by omega
          generalize (bitsL l).testBit b = sb at *
          have HOWN := Lib.hid hown; have HBR := Lib.hid hbr; have HR0 := Lib.hid hr0; clear hown hbr hr0
          go_wp2
          go_loopw [12, 13] (fun zv av wx => ∃ a : Nat, av = .int .i64 a ∧ zv = .bool (rdF P ws (bitsL l) b a) ∧ a ≤ b ∧ wr = wx) (fun _ av _ => b - (intOf av).toNat)
          case atStart => exact ⟨0, rfl, by rw [HR0.out], Nat.zero_le _, rfl⟩
          case round =>
            obtain ⟨a, rfl, rfl, hab, rfl⟩ := hrel
            by_cases hlt : a < b
            · have han : a < ws.length := by omega
              have e2 := (HS2.out.later HBR.out).at_ han
              obtain ⟨g, o, R, rfl, hg, m1, hR, m2⟩ := (HM.out.later HBR.out) b hbn
              have m3 := m2 a han
              have x1 : (0 : Int) ≤ (a : Int) := by omega
              have x2 : (a : Int) < (ws.length : Int) := by omega
              have hst : rdF P ws (bitsL l) b (a + 1) = (rdF P ws (bitsL l) b a && ((bitsL l).testBit a || !befM P ws b a)) := rfl
              clear m2
              generalize rdF P ws (bitsL l) b a = z at *
              generalize befM P ws b a = mv at *
              generalize (bitsL l).testBit a = sa at *
              have HST := Lib.hid hst; clear hst
              cases z with
              | false =>
                go_wp2
                go_roundw
                case rel => exact ⟨a + 1, by go_num, by rw [HST.out]; rfl, by omega, trivial⟩
                case measure => simp [intOf]; omega
              | true =>
                cases sa with
                | true =>
                  go_wp2
                  go_roundw
                  case rel => exact ⟨a + 1, by go_num, by rw [HST.out]; rfl, by omega, trivial⟩
                  case measure => simp [intOf]; omega
                | false =>
                  go_wp2
                  go_roundw
                  case rel => exact ⟨a + 1, by go_num, by rw [HST.out]; simp, by omega, trivial⟩
                  case measure => simp [intOf]; omega
            · obtain rfl : a = b := by omega
              have hrr := rdF_rdy (P := P) (l := l) hn hbn
              rw [hrr]
              by_cases hz : rdyB P ws l a = true
              · have hsu := rdyTo_yes hz
                rw [hz]
                have hlo := HOWN.out.lt
                generalize hLL : rdyTo P ws l a = LL at *
                have HLO := Lib.hid hlo; have HSU := Lib.hid hsu; have HRR := Lib.hid hrr; have HZ := Lib.hid hz; have HLL := Lib.hid hLL; clear hlo hsu hrr hz hLL
                go_wp2_with (at_builtin; go_must (refine wpList_app1_Try rfl _ _ rfl w2.heap.size (.slice OA LL.length oc) LL rfl (by repeat (first | exact HOWN.out | refine World.ownsRow.alloc ?_ _ | refine own_drewN ?_ _)) wr.heap.size a rfl (heap_alloc_new _ _) (by omega) (by simp; omega) ?_); intro g cap w6 hown6 hgrow hat6 hlt6)
                have r2 : Below w2.heap.size w2 w6 := (HBR.out.alloc HBR.out.size _).grown hgrow (by have := HBR.out.size; simp; omega) (fun j hj => by have := (HLO.out j hj).1; omega)
                have R2 := Lib.hid r2; have HOWN6 := Lib.hid hown6; have HGROW := Lib.hid hgrow; clear r2 hown6 hgrow
                go_wp2
                go_roundw
                case rel => exact ⟨a + 1, by go_num, by omega, by rw [HSU.out]; exact HOWN6.out, R2.out⟩
                case measure => simp [intOf]; omega
              · have hz' : rdyB P ws l a = false := by simpa using hz
                have hsu := rdyTo_no hz'
                rw [hz']
                have HSU := Lib.hid hsu; have HRR := Lib.hid hrr; have HZ := Lib.hid hz; have HZp := Lib.hid hz'; clear hsu hrr hz hz'
                go_wp2
                go_roundw
                case rel => exact ⟨a + 1, by go_num, by omega, by rw [HSU.out]; exact HOWN.out, HBR.out⟩
                case measure => simp [intOf]; omega
        · obtain rfl : b = ws.length := by omega
          have hrv := RdV.of_own hown (by omega)
          have HOWN := Lib.hid hown; have HBR := Lib.hid hbr; have HRV := Lib.hid hrv; clear hown hbr hrv
          go_wp2
          go_ret2
          rw [HR.out, HCE.out]
          exact ⟨_, rfl, HRV.out, Y2.out.trans (HBR.out.mono Y2.out.size)⟩
end Go.Proofs.Ytepdgffccfcfpaa
