/- The program's Ready. -/
import Derived.Test.YtepdgffccfcfpaaSClosed
import Derived.Test.YtepdgffccfcfpaaApp1
namespace Go.Proofs.Ytepdgffccfcfpaa
open Go.RowKit

theorem z7_of (S : Nat) : (#[.int .u64 (wd S 0 : Nat), .int .u64 (wd S 1 : Nat), .int .u64 (wd S 2 : Nat), .int .u64 (wd S 3 : Nat), .int .u64 (wd S 4 : Nat), .int .u64 (wd S 5 : Nat), .int .u64 (wd S 6 : Nat)] : Array Value) = wCells 1 (fun _ k => wd S k) := by
  unfold wCells
  simp [List.range_succ]
/-- Is a work ready after these? -/
def rdyB (P : Nat) (ws : List GW) (l : List Int) (i : Nat) : Bool := !(bitsL l).testBit i && winN (setsOf P ws i) (bitsL l) 7
def rdyTo (P : Nat) (ws : List GW) (l : List Int) (k : Nat) : List Int := ((List.range k).filter (rdyB P ws l)).map fun (i : Nat) => (i : Int)
theorem rdyTo_yes {P k : Nat} {ws : List GW} {l : List Int} (h : rdyB P ws l k = true) : rdyTo P ws l (k + 1) = rdyTo P ws l k ++ [(k : Int)] := by
  unfold rdyTo
  simp [List.range_succ, List.filter_append, h]
theorem rdyTo_no {P k : Nat} {ws : List GW} {l : List Int} (h : rdyB P ws l k = false) : rdyTo P ws l (k + 1) = rdyTo P ws l k := by
  unfold rdyTo
  simp [List.range_succ, List.filter_append, h]
theorem rdyTo_le (P : Nat) (ws : List GW) (l : List Int) (k : Nat) : (rdyTo P ws l k).length ≤ k := by
  unfold rdyTo
  have := List.length_filter_le (rdyB P ws l) (List.range k)
  simpa using this
def readyL (p : Int) (ws : List GW) (l : List Int) : List Int := if clErr p ws l = 0 then rdyTo p.toNat ws l ws.length else []

set_option maxRecDepth 100000 in
set_option maxHeartbeats 4000000 in
theorem sReady_ (p : Int) (A L : Option Addr) (c lc : Nat) (ws : List GW) (l : List Int) (w : World) (hsh : ShIn w p A ws) (hl : RdI w L l) :
    Calls Try.prog 19 #[.agg #[.int .i64 p, .slice A ws.length c], .slice L l.length lc] w (ListPost (readyL p ws l) (clErr p ws l) w) := by
  have hb2 : Below w.heap.size w (w.alloc (.cells #[.int .i64 p, .slice A ws.length c] 24)) := (Below.refl _ _).alloc (Nat.le_refl _) _
  have HSH := Lib.hid hsh; have HL := Lib.hid hl; have HB2 := Lib.hid hb2; clear hsh hl hb2
  go_enter Try.func19, Try.ntmps19
  go_wp2_with fail
  refine (sClosed_ p A L c lc ws l _ (HSH.out.later HB2.out (Nat.le_refl _)) (HL.out.later HB2.out (Nat.le_refl _))).mono ?_
  rintro e w1 ⟨hb1, hne, heq⟩
  have a0 : w1.cell? ⟨w.heap.size, 0, none⟩ = some (.int .i64 p) := below_at hb1 (Nat.le_refl _) (by go_simp)
  have a1 : w1.cell? ⟨w.heap.size, 1, none⟩ = some (.slice A ws.length c) := below_at hb1 (Nat.le_refl _) (by go_simp)
  have hs0 : w.heap.size < w1.heap.size := by have := hb1.size; simp at this; omega
  have Y1 := Lib.hid (HB2.out.trans (hb1.mono (by simp))); clear hb1
  by_cases he : clErr p ws l = 0
  rotate_left
  · have hr : readyL p ws l = [] := by unfold readyL; rw [if_neg he]
    have h1 := hne he
    clear hne heq
    generalize clErr p ws l = E at *
    subst h1
    have HR := Lib.hid hr; clear hr
    rw [wordsV_zero]
    go_wp2
    go_ret2
    rw [HR.out]
    exact ⟨_, rfl, RdV.nil _, Y1.out.alloc Y1.out.size _⟩
  obtain ⟨R, rfl, hE⟩ := heq he
  have hok : errSheet p ws = 0 := by
    unfold clErr at he
    split at he
    · assumption
    · exact he
  obtain ⟨hp3, hp24, hn, hall⟩ := okAll hok
  obtain ⟨P, rfl⟩ := Int.eq_ofNat_of_zero_le (show 0 ≤ p by omega)
  have hr : readyL P ws l = rdyTo P ws l ws.length := by unfold readyL; rw [if_pos he]; rfl
  rw [he]
  have hR2 := lt_of_block hE
  have hm0 : SB (w1.alloc (.cells #[.int .u64 (wd (bitsL l) 0 : Nat), .int .u64 (wd (bitsL l) 1 : Nat), .int .u64 (wd (bitsL l) 2 : Nat), .int .u64 (wd (bitsL l) 3 : Nat), .int .u64 (wd (bitsL l) 4 : Nat), .int .u64 (wd (bitsL l) 5 : Nat), .int .u64 (wd (bitsL l) 6 : Nat)] 67)) w1.heap.size 1 (fun _ => bitsL l) := by
    show (w1.alloc (.cells #[.int .u64 (wd (bitsL l) 0 : Nat), .int .u64 (wd (bitsL l) 1 : Nat), .int .u64 (wd (bitsL l) 2 : Nat), .int .u64 (wd (bitsL l) 3 : Nat), .int .u64 (wd (bitsL l) 4 : Nat), .int .u64 (wd (bitsL l) 5 : Nat), .int .u64 (wd (bitsL l) 6 : Nat)] 67)).heap[w1.heap.size]? = _
    rw [heap_alloc_new, z7_of]
  have hm1 : SB (w1.alloc (.cells #[.int .u64 (wd (bitsL l) 0 : Nat), .int .u64 (wd (bitsL l) 1 : Nat), .int .u64 (wd (bitsL l) 2 : Nat), .int .u64 (wd (bitsL l) 3 : Nat), .int .u64 (wd (bitsL l) 4 : Nat), .int .u64 (wd (bitsL l) 5 : Nat), .int .u64 (wd (bitsL l) 6 : Nat)] 67)) R ws.length (setsOf P ws) := (Below.heap_alloc w1 _ R hR2).trans hE
  have hm2 : Below w1.heap.size w1 (w1.alloc (.cells #[.int .u64 (wd (bitsL l) 0 : Nat), .int .u64 (wd (bitsL l) 1 : Nat), .int .u64 (wd (bitsL l) 2 : Nat), .int .u64 (wd (bitsL l) 3 : Nat), .int .u64 (wd (bitsL l) 4 : Nat), .int .u64 (wd (bitsL l) 5 : Nat), .int .u64 (wd (bitsL l) 6 : Nat)] 67)) := (Below.refl _ _).alloc (Nat.le_refl _) _
  have hm3 := below_at hm2 (Nat.le_refl _) a1
  have hce := he
  clear heq hne he
  have HM0 := Lib.hid hm0; have HM1 := Lib.hid hm1; have HM2 := Lib.hid hm2; have HM3 := Lib.hid hm3; have HE := Lib.hid hE; have HALL := Lib.hid hall; have HR := Lib.hid hr; have HCE := Lib.hid hce; have HOK := Lib.hid hok; clear hm0 hm1 hm2 hm3 hE hall hr hce hok
  unfold wordsV
  go_wp2
  go_loopw [9, 24] (fun v iv wr => ∃ k : Nat, iv = .int .i64 k ∧ k ≤ ws.length ∧ SB wr w1.heap.size 1 (fun _ => bitsL l) ∧ SB wr R ws.length (setsOf P ws) ∧ wr.cell? ⟨w.heap.size, 1, none⟩ = some (.slice A ws.length c) ∧ wr.ownsRow (w1.heap.size + 1) 3 1 v (rdyTo P ws l k).length (ints (rdyTo P ws l k)) ∧ Below w.heap.size w wr ∧ w1.heap.size + 1 ≤ wr.heap.size) (fun _ iv _ => ws.length - (intOf iv).toNat)
  case atStart => exact ⟨0, rfl, Nat.zero_le _, HM0.out, HM1.out, HM3.out, World.ownsRow_nil _ _ _ _, Y1.out.alloc Y1.out.size _, by simp⟩
  case round =>
    obtain ⟨k, rfl, hk, hS, hE, hcell, hown, hbw, hsz⟩ := hrel
    have hz0 : w.heap.size < wr.heap.size := by omega
    have hrl := rdyTo_le P ws l k
    obtain ⟨OA, oc, rfl⟩ := own_slice1 hown
    by_cases hlt : k < ws.length
    · have x1 : (0 : Int) ≤ (k : Int) := by omega
      have x2 : (k : Int) < (ws.length : Int) := by omega
      have hk4 : k < 448 := by omega
      by_cases r3 : (bitsL l).testBit k = true
      · have hq : rdyB P ws l k = false := by unfold rdyB; rw [r3]; rfl
        have HS := Lib.hid hS; have HE := Lib.hid hE; have HOWN := Lib.hid hown; have HBW := Lib.hid hbw; have HQ := Lib.hid hq; clear hS hE hown hbw hq
        go_wp2_with fail
        refine (setHas_ _ 0 (bitsL l) k _ hk4 (SB.at_ HS.out (b := 0) (by omega))).mono ?_
        rintro e w4 ⟨rfl, rfl⟩
        rw [r3]
        go_wp2
        go_roundw
        case rel => exact ⟨k + 1, by go_num, by omega, HS.out, HE.out, hcell, by rw [rdyTo_no HQ.out]; exact HOWN.out, HBW.out, hsz⟩
        case measure => simp [intOf]; omega
      · have r3' : (bitsL l).testBit k = false := by simpa using r3
        have HS := Lib.hid hS; have HE := Lib.hid hE; have HOWN := Lib.hid hown; have HBW := Lib.hid hbw; clear hS hE hown hbw
        go_wp2_with fail
        refine (setHas_ _ 0 (bitsL l) k _ hk4 (SB.at_ HS.out (b := 0) (by omega))).mono ?_
        rintro e w4 ⟨rfl, rfl⟩
        rw [r3']
        go_wp2_with fail
        refine (setWithin_ R (k * 7) w1.heap.size 0 (setsOf P ws k) (bitsL l) _ (SB.at_ HE.out hlt) (SB.at_ HS.out (b := 0) (by omega))).mono ?_
        rintro e w5 ⟨rfl, hb5⟩
        have hS5 : SB w5 w1.heap.size 1 (fun _ => bitsL l) := (hb5.block _ (by omega)).trans HS.out
        have hE5 : SB w5 R ws.length (setsOf P ws) := (hb5.block _ (lt_of_block HE.out)).trans HE.out
        have hc5 := below_at hb5 (Nat.le_refl _) hcell
        have hown5 := own_below3 HOWN.out hb5
        have hbw5 := HBW.out.trans (hb5.mono HBW.out.size)
        have hsz5 : w1.heap.size + 1 ≤ w5.heap.size := Nat.le_trans hsz hb5.size
        have hz5 : w.heap.size < w5.heap.size := by omega
        clear hcell hsz hz0
        by_cases r4 : winN (setsOf P ws k) (bitsL l) 7 = true
        · have hq : rdyB P ws l k = true := by unfold rdyB; rw [r3', r4]; rfl
          rw [r4]
          have hlo := hown5.lt
          have hb5' := lt_of_block hE5
          have hN1 : Hid (some w1.heap.size ≠ (Value.slice OA (rdyTo P ws l k).length oc).ownBlock) := fun h => by have := (hlo _ h.symm).1; omega
          have hN2 : Hid (some R ≠ (Value.slice OA (rdyTo P ws l k).length oc).ownBlock) := fun h => by have := (hlo _ h.symm).1; omega
          generalize hrd : rdyTo P ws l k = rd at *
          have HS5 := Lib.hid hS5; have HE5 := Lib.hid hE5; have HOWN5 := Lib.hid hown5; have HBW5 := Lib.hid hbw5; have HQ := Lib.hid hq; have HB5 := Lib.hid hb5; have HRD := Lib.hid hrd; have HLO := Lib.hid hlo; clear hS5 hE5 hown5 hbw5 hq hb5 hrd hlo
          go_wp2_with (at_builtin; go_must (refine wpList_app1_Try rfl _ _ rfl (w1.heap.size + 1) (.slice OA rd.length oc) rd rfl (by repeat (first | exact HOWN5.out | refine World.ownsRow.alloc ?_ _ | refine own_drewN ?_ _)) w5.heap.size k rfl (heap_alloc_new _ _) (by omega) (by simp; omega) ?_); intro g cap w6 hown6 hgrow hat6 hlt6)
          have q1 : SB w6 w1.heap.size 1 (fun _ => bitsL l) := (hgrow.block _ (by simp; omega) hN1.out).trans ((Below.heap_alloc w5 _ _ (by omega)).trans HS5.out)
          have q2 : SB w6 R ws.length (setsOf P ws) := (hgrow.block _ (by simp; omega) hN2.out).trans ((Below.heap_alloc w5 _ _ hb5').trans HE5.out)
          have q3 : w6.cell? ⟨w.heap.size, 1, none⟩ = some (.slice A ws.length c) := (hgrow.cell_far ⟨w.heap.size, 1, none⟩ (by simp; omega) (fun h => by have := (HLO.out _ h.symm).1; simp at this; omega)).trans (by go_simp)
          have q4 : Below w.heap.size w w6 := (HBW5.out.alloc HBW5.out.size _).grown hgrow (by simp; omega) (fun k' hk' => by have := (HLO.out k' hk').1; omega)
          have q5 : w1.heap.size + 1 ≤ w6.heap.size := by have := hgrow.size; simp at this; omega
          have Q1 := Lib.hid q1; have Q2 := Lib.hid q2; have Q4 := Lib.hid q4; have HOWN6 := Lib.hid hown6; have HGROW := Lib.hid hgrow; clear q1 q2 q4 hown6 hgrow
          go_wp2
          go_roundw
          case rel => exact ⟨k + 1, by go_num, by omega, Q1.out, Q2.out, q3, by rw [rdyTo_yes HQ.out, HRD.out]; exact HOWN6.out, Q4.out, q5⟩
          case measure => simp [intOf]; omega
        · have r4' : winN (setsOf P ws k) (bitsL l) 7 = false := by simpa using r4
          have hq : rdyB P ws l k = false := by unfold rdyB; rw [r3', r4']; rfl
          rw [r4']
          have HS5 := Lib.hid hS5; have HE5 := Lib.hid hE5; have HOWN5 := Lib.hid hown5; have HBW5 := Lib.hid hbw5; have HQ := Lib.hid hq; have HB5 := Lib.hid hb5; clear hS5 hE5 hown5 hbw5 hq hb5
          go_wp2
          go_roundw
          case rel => exact ⟨k + 1, by go_num, by omega, HS5.out, HE5.out, hc5, by rw [rdyTo_no HQ.out]; exact HOWN5.out, HBW5.out, hsz5⟩
          case measure => simp [intOf]; omega
    · obtain rfl : k = ws.length := by omega
      have HS := Lib.hid hS; have HE := Lib.hid hE; have HOWN := Lib.hid hown; have HBW := Lib.hid hbw; clear hS hE hown hbw
      go_wp2
      go_ret2
      rw [HR.out, HCE.out]
      exact ⟨_, rfl, RdV.of_own HOWN.out (by omega), HBW.out⟩
end Go.Proofs.Ytepdgffccfcfpaa
