/- The reference's Line. -/
import Derived.Test.YtepdgffccfcfpaaRClosed
import Derived.Test.YtepdgffccfcfpaaRLn
import Derived.Test.YtepdgffccfcfpaaREnd
namespace Go.Proofs.Ytepdgffccfcfpaa
open Go.RowKit

def lnL (P : Nat) (ws : List GW) (l : List Int) (k : Nat) : List Int := (List.range k).map (lineG P ws l)
theorem lnL_succ (P : Nat) (ws : List GW) (l : List Int) (k : Nat) : lnL P ws l (k + 1) = lnL P ws l k ++ [lineG P ws l k] := by unfold lnL; simp [List.range_succ]
theorem lnL_len (P : Nat) (ws : List GW) (l : List Int) (k : Nat) : (lnL P ws l k).length = k := by unfold lnL; simp
/-- What lies in place q after the first j works of the list. -/
def atTo (P : Nat) (ws : List GW) (l : List Int) (q j : Nat) : Int := (l.take j).foldl (atStep P ws q) q
theorem atTo_succ {P : Nat} {ws : List GW} {l : List Int} {q j : Nat} (h : j < l.length) : atTo P ws l q (j + 1) = atStep P ws q (atTo P ws l q j) l[j] := by
  unfold atTo
  rw [List.take_succ_eq_append_getElem h, List.foldl_append]
  rfl
theorem atTo_all (P : Nat) (ws : List GW) (l : List Int) (q : Nat) : atTo P ws l q l.length = lineG P ws l q := by
  unfold atTo
  rw [List.take_of_length_le (Nat.le_refl _), lineG_ref]
theorem at_bd {P : Nat} {ws : List GW} {l : List Int} {q : Nat} (hP : P ≤ 24) (hq : q < P) (hn : ws.length ≤ 400) (ha : Asc ws.length l) : ∀ j, j ≤ l.length → -1000 ≤ atTo P ws l q j ∧ atTo P ws l q j ≤ 2000
  | 0, _ => by unfold atTo; simp; omega
  | j + 1, h => by
    have ih := at_bd hP hq hn ha j (by omega)
    rw [atTo_succ (by omega)]
    unfold atStep
    split
    · rename_i ht
      have h1 := ha j (by omega)
      unfold AscAt at h1
      rw [show l.getD j 0 = l[j] by simp [List.getD_eq_getElem?_getD, show j < l.length by omega]] at h1
      unfold takesB at ht
      rw [decide_eq_true_eq] at ht
      omega
    · exact ih

set_option maxRecDepth 100000 in
set_option maxHeartbeats 8000000 in
theorem rLine_ (p : Int) (A L : Option Addr) (c lc : Nat) (ws : List GW) (l : List Int) (w : World) (hsh : ShIn w p A ws) (hl : RdI w L l) :
    Calls Try.prog 18 #[.agg #[.int .i64 p, .slice A ws.length c], .slice L l.length lc] w (ListPost (lineL p ws l) (clErr p ws l) w) := by
  have hln := hl.1
  have hb2 : Below w.heap.size w (w.alloc (.cells #[.int .i64 p, .slice A ws.length c] 24)) := (Below.refl _ _).alloc (Nat.le_refl _) _
  have hbx := Box1.made w p A c ws.length 24
  have HSH := Lib.hid hsh; have HL := Lib.hid hl; have HB2 := Lib.hid hb2; have HBX := Lib.hid hbx; clear hsh hl hb2 hbx
  go_enter Try.func18, Try.ntmps18
  go_wp2_with fail
  refine (rClosed_ p A L c lc ws l _ (HSH.out.later HB2.out (Nat.le_refl _)) (HL.out.later HB2.out (Nat.le_refl _))).mono ?_
  rintro e w1 ⟨rfl, hb1⟩
  have hx1 := HBX.out.later hb1
  have Y1 := Lib.hid (HB2.out.trans (hb1.mono (by simp))); clear hb1 HBX
  obtain ⟨c0, c1, hs0⟩ := hx1
  by_cases he : clErr p ws l = 0
  rotate_left
  · have hr : lineL p ws l = [] := by unfold lineL; rw [if_neg he]
    generalize hE : clErr p ws l = E at *
    have HR := Lib.hid hr; have HE := Lib.hid hE; clear hr hE
    go_wp2
    go_ret2
    rw [HR.out]
    try rw [HE.out]
    exact ⟨_, rfl, RdV.nil _, Y1.out⟩
  obtain ⟨hok, hAsc, _⟩ := clErr_zero he
  obtain ⟨hp3, hp24, hn, hall⟩ := okAll hok
  obtain ⟨P, rfl⟩ := Int.eq_ofNat_of_zero_le (show 0 ≤ p by omega)
  have hp24' : P ≤ 24 := by omega
  have hr : lineL P ws l = lnL P ws l P := by unfold lineL; rw [if_pos he]; rfl
  have hx0 : Hid (Box1 w w1 P A c ws.length) := ⟨c0, c1, hs0⟩
  have hce := he
  rw [he]
  clear he
  have HOK := Lib.hid hok; have HASC := Lib.hid hAsc; have HALL := Lib.hid hall; have HR := Lib.hid hr; have HCE := Lib.hid hce; clear hok hAsc hall hr hce
  go_wp2
  go_loopw [7, 8] (fun v iv wr => ∃ k : Nat, iv = .int .i64 k ∧ k ≤ P ∧ Box1 w wr P A c ws.length ∧ wr.ownsRow (w.heap.size + 1) 3 1 v (lnL P ws l k).length (ints (lnL P ws l k)) ∧ Below w.heap.size w wr) (fun _ iv _ => P - (intOf iv).toNat)
  case atStart => exact ⟨0, rfl, Nat.zero_le _, hx0.out, World.ownsRow_nil _ _ _ _, Y1.out⟩
  case round =>
    clear hx0 c0 c1 hs0
    obtain ⟨k, rfl, hk, hx, hown, hbw⟩ := hrel
    obtain ⟨wq, rfl⟩ : ∃ wq : World, wq = wr := ⟨_, rfl⟩
    obtain ⟨c0, c1, hs0⟩ := hx
    have hx0 : Hid (Box1 w wq P A c ws.length) := ⟨c0, c1, hs0⟩
    obtain ⟨OA, oc, rfl⟩ := own_slice1 hown
    by_cases hlt : k < P
    · have ha0 : atTo P ws l k 0 = (k : Int) := by unfold atTo; simp
      have HOWN := Lib.hid hown; have HBW := Lib.hid hbw; have HA0 := Lib.hid ha0; clear hown hbw ha0
      go_wp2
      go_loopw [9, 10] (fun zv jv wr => ∃ j : Nat, jv = .int .i64 j ∧ zv = .int .i64 (atTo P ws l k j) ∧ j ≤ l.length ∧ Below wq.heap.size wq wr) (fun _ jv _ => l.length - (intOf jv).toNat)
      case atStart => exact ⟨0, rfl, by rw [HA0.out], Nat.zero_le _, Below.refl _ _⟩
      case round =>
        obtain ⟨j, rfl, rfl, hj, hbr⟩ := hrel
        have hxr := hx0.out.later hbr
        obtain ⟨d0, d1, ds0⟩ := hxr
        have hbq := HBW.out.trans (hbr.mono HBW.out.size)
        by_cases hjl : j < l.length
        · obtain ⟨bl, ol, rfl, hbl, l1⟩ := (HL.out.later hbq (Nat.le_refl _)).at_ hjl
          have has := HASC.out j hjl
          unfold AscAt at has
          rw [show l.getD j 0 = l[j] by simp [List.getD_eq_getElem?_getD, hjl]] at has
          have hst := atTo_succ (P := P) (ws := ws) (q := k) hjl
          obtain ⟨i, hi⟩ := Int.eq_ofNat_of_zero_le has.1
          rw [hi] at l1 hst has
          have hiw : i < ws.length := by omega
          obtain ⟨b, off, rfl, hbL, t1, t2, t3⟩ := (HSH.out.rd.later hbq (Nat.le_refl _)).at_ hiw
          obtain ⟨_, p1, p2, _⟩ := HALL.out ws[i] (List.getElem_mem hiw)
          have hpw : ws[i].pl = (plsOf ws i : Int) := by unfold plsOf; simp [List.getD_eq_getElem?_getD, hiw]; omega
          rw [hpw] at t2 p1 p2
          unfold atStep at hst
          rw [Int.toNat_natCast] at hst
          generalize ws[i].kind = zk at *
          generalize ws[i].word = zw at *
          have hbd := at_bd hp24' hlt hn HASC.out j (by omega)
          generalize plsOf ws i = pl at *
          have x1 : (0 : Int) ≤ (j : Int) := by omega
          have x2 : (j : Int) < (l.length : Int) := by omega
          have x3 : (0 : Int) ≤ (i : Int) := by omega
          have x4 : (i : Int) < (ws.length : Int) := by omega
          generalize atTo P ws l k j = z at *
          have HBR := Lib.hid hbr; have HBQ := Lib.hid hbq; have HST := Lib.hid hst; have HPW := Lib.hid hpw; have HI := Lib.hid hi; have HAS := Lib.hid has; clear hbr hbq hst hpw hi has
          go_wp2
          go_region
          have hb5 : Below wr.heap.size wr (wr.alloc (.cells #[.int .i64 zk, .int .i64 (pl : Int), .string zw] 48)).drew := ((Below.refl _ _).alloc (Nat.le_refl _) _).drew
          have r1 : (wr.alloc (.cells #[.int .i64 zk, .int .i64 (pl : Int), .string zw] 48)).drew.cell? ⟨wr.heap.size, 1, none⟩ = some (.int .i64 (pl : Int)) := by go_simp
          have r2 : (wr.alloc (.cells #[.int .i64 zk, .int .i64 (pl : Int), .string zw] 48)).drew.cell? ⟨wr.heap.size, 0, none⟩ = some (.int .i64 zk) := by go_simp
          have r3 : (wr.alloc (.cells #[.int .i64 zk, .int .i64 (pl : Int), .string zw] 48)).drew.cell? ⟨wr.heap.size, 2, none⟩ = some (.string zw) := by go_simp
          have r4 := below_at hb5 (Nat.le_refl _) d0
          have r5 := below_at hb5 (Nat.le_refl _) l1
          have r6 : wr.heap.size < (wr.alloc (.cells #[.int .i64 zk, .int .i64 (pl : Int), .string zw] 48)).drew.heap.size := by simp
          have r7 : bl < (wr.alloc (.cells #[.int .i64 zk, .int .i64 (pl : Int), .string zw] 48)).drew.heap.size := Nat.lt_of_lt_of_le hbl hb5.size
          have r8 : w.heap.size < (wr.alloc (.cells #[.int .i64 zk, .int .i64 (pl : Int), .string zw] 48)).drew.heap.size := Nat.lt_of_lt_of_le ds0 hb5.size
          clear d0 d1 t1 t2 t3 l1 hbl hbL
          generalize (wr.alloc (.cells #[.int .i64 zk, .int .i64 (pl : Int), .string zw] 48)).drew = w5 at *
          have HB5 := Lib.hid hb5; clear hb5
          go_wp2_with fail
          refine (rTakes_ zk pl k zw _ (by omega) (by omega)).mono ?_
          rintro e w6 ⟨rfl, hb6⟩
          have q1 := below_at hb6 (Nat.le_refl _) r1
          have q4 := below_at hb6 (Nat.le_refl _) r4
          have q5 := below_at hb6 (Nat.le_refl _) r5
          have q6 : wr.heap.size < w6.heap.size := Nat.lt_of_lt_of_le r6 hb6.size
          have q7 : bl < w6.heap.size := Nat.lt_of_lt_of_le r7 hb6.size
          have q8 : w.heap.size < w6.heap.size := Nat.lt_of_lt_of_le r8 hb6.size
          have hbz := HBR.out.trans ((HB5.out.trans (hb6.mono HB5.out.size)).mono HBR.out.size)
          clear r1 r2 r3 r4 r5 r6 r7 r8 hb6
          by_cases ht : takesB (pl : Int) k = true
          · have hv := HST.out
            rw [if_pos ht] at hv
            rw [ht]
            have v1 : IntKind.i64.wrap (2 * (i : Int)) = 2 * (i : Int) := IntWalk.i64_in _ (by omega)
            have v2 : IntKind.i64.wrap ((P : Int) + 2 * (i : Int)) = (P : Int) + 2 * (i : Int) := IntWalk.i64_in _ (by omega)
            have v3 : IntKind.i64.wrap ((P : Int) + 2 * (i : Int) + (k : Int)) = (P : Int) + 2 * (i : Int) + (k : Int) := IntWalk.i64_in _ (by omega)
            have v4 : IntKind.i64.wrap ((P : Int) + 2 * (i : Int) + (k : Int) - (pl : Int)) = (P : Int) + 2 * (i : Int) + (k : Int) - (pl : Int) := IntWalk.i64_in _ (by omega)
            clear ht
            have HV := Lib.hid hv; have HBZ := Lib.hid hbz; clear hv hbz
            go_wp2
            go_quiet (fail)
            go_wp2
            go_roundw
            case rel => exact ⟨j + 1, by go_num, by rw [HV.out], by omega, below_drewN HBZ.out _⟩
            case measure => simp [intOf]; omega
          · have hv := HST.out
            rw [if_neg ht] at hv
            have ht' : takesB (pl : Int) k = false := by simpa using ht
            rw [ht']
            clear ht ht'
            have HV := Lib.hid hv; have HBZ := Lib.hid hbz; clear hv hbz
            go_wp2
            go_roundw
            case rel => exact ⟨j + 1, by go_num, by rw [HV.out], by omega, HBZ.out⟩
            case measure => simp [intOf]; omega
        · obtain rfl : j = l.length := by omega
          have hal := atTo_all P ws l k
          have hsu := lnL_succ P ws l k
          have hown2 := own_below3 HOWN.out hbr
          have hlo := HOWN.out.lt
          have hlen := lnL_len P ws l k
          rw [hal]
          generalize hg : lineG P ws l k = z at *
          generalize hLL : lnL P ws l k = LL at *
          have hsr := hbr.size
          have HBR := Lib.hid hbr; have HBQ := Lib.hid hbq; have HOWN2 := Lib.hid hown2; have HLO := Lib.hid hlo; have HAL := Lib.hid hal; have HSU := Lib.hid hsu; have HLEN := Lib.hid hlen; have HG := Lib.hid hg; have HLL := Lib.hid hLL; clear hbr hbq hown2 hlo hal hsu hlen hg hLL
          go_wp2_with (at_builtin; go_must (refine wpList_app1_Try rfl _ _ rfl (w.heap.size + 1) (.slice OA LL.length oc) LL rfl (by repeat (first | exact HOWN2.out | refine World.ownsRow.alloc ?_ _ | refine own_drewN ?_ _)) wr.heap.size z rfl (heap_alloc_new _ _) (by rw [HLEN.out]; omega) (by simp; omega) ?_); intro g cap w6 hown6 hgrow hat6 hlt6)
          have r1 : Box1 w w6 P A c ws.length := box1_grown ((hx0.out.later HBR.out).later ((Below.refl _ _).alloc (Nat.le_refl _) _)) hgrow (fun j hj => (HLO.out j hj).1)
          have r2 : Below w.heap.size w w6 := (HBQ.out.alloc HBQ.out.size _).grown hgrow (by have := HBQ.out.size; simp; omega) (fun j hj => by have := (HLO.out j hj).1; omega)
          have R1 := Lib.hid r1; have R2 := Lib.hid r2; have HOWN6 := Lib.hid hown6; have HGROW := Lib.hid hgrow; clear r1 r2 hown6 hgrow
          go_wp2
          go_roundw
          case rel => exact ⟨k + 1, by go_num, by omega, R1.out, by rw [HSU.out]; exact HOWN6.out, R2.out⟩
          case measure => simp [intOf]; omega
    · obtain rfl : k = P := by omega
      have hrv : RdV wq (.slice OA (lnL k ws l k).length oc) (lnL k ws l k) := RdV.of_own hown (by rw [lnL_len]; omega)
      have HOWN := Lib.hid hown; have HBW := Lib.hid hbw; have HRV := Lib.hid hrv; clear hown hbw hrv
      go_wp2
      go_ret2
      rw [HR.out, HCE.out]
      exact ⟨_, rfl, HRV.out, HBW.out⟩
end Go.Proofs.Ytepdgffccfcfpaa
