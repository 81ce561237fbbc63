/- The program's Line. -/
import Derived.Test.YtepdgffccfcfpaaSReady
namespace Go.Proofs.Ytepdgffccfcfpaa
open Go.RowKit

/-- The line with the places of a work so far set. -/
def lnTo (P : Nat) (ws : List GW) (g : Nat → Int) (k : Nat) : Nat → Nat → Int
  | 0 => g
  | sd + 1 => updF (lnTo P ws g k sd) (plsOf ws k + sd) ((P : Int) + 2 * (k : Int) + (sd : Int))
def lineG (P : Nat) (ws : List GW) (l : List Int) : Nat → Int := l.foldl (fun g x => lnTo P ws g x.toNat 2) fun p => (p : Int)
theorem lineG_snoc (P : Nat) (ws : List GW) (l : List Int) (x : Int) : lineG P ws (l ++ [x]) = lnTo P ws (lineG P ws l) x.toNat 2 := by unfold lineG; simp
def lineL (p : Int) (ws : List GW) (l : List Int) : List Int := if clErr p ws l = 0 then (List.range p.toNat).map (lineG p.toNat ws l) else []
theorem IdB.congr {w : World} {R m : Nat} {g g' : Nat → Int} (h : IdB w R m g) (he : ∀ p, p < m → g p = g' p) : IdB w R m g' := by
  unfold IdB at h ⊢
  rw [h]
  congr 3
  refine List.map_congr_left fun p hp => ?_
  rw [he p (List.mem_range.1 hp)]
theorem IdB.rdV {w : World} {R m : Nat} {g : Nat → Int} (h : IdB w R m g) (hm : m ≤ 1000) : RdV w (.slice (some ⟨R, 0, none⟩) m m) ((List.range m).map g) := by
  refine ⟨some ⟨R, 0, none⟩, m, by simp, by simp; omega, fun h0 => ⟨R, 0, rfl, lt_of_block h, fun j hj => ?_⟩⟩
  have hj' : j < m := by simpa using hj
  rw [Nat.zero_add, IdB.at_ h hj']
  simp [List.getD_eq_getElem?_getD, hj']
theorem clErr_zero {p : Int} {ws : List GW} {l : List Int} (h : clErr p ws l = 0) : errSheet p ws = 0 ∧ Asc ws.length l ∧ Clo (setsOf p.toNat ws) l := by
  unfold clErr at h
  split at h
  · rename_i h1
    split at h
    · rename_i h2
      split at h
      · rename_i h3; exact ⟨h1, h2, h3⟩
      · cases h
    · cases h
  · rename_i h1; exact absurd h h1

set_option maxRecDepth 100000 in
set_option maxHeartbeats 4000000 in
theorem sLine_ (p : Int) (A L : Option Addr) (c lc : Nat) (ws : List GW) (l : List Int) (w : World) (hsh : ShIn w p A ws) (hl : RdI w L l) :
    Calls Try.prog 17 #[.agg #[.int .i64 p, .slice A ws.length c], .slice L l.length lc] w (ListPost (lineL p ws l) (clErr p ws l) w) := by
  have hln := hl.1
  have hb2 : Below w.heap.size w (w.alloc (.cells #[.int .i64 p, .slice A ws.length c] 24)) := (Below.refl _ _).alloc (Nat.le_refl _) _
  have HSH := Lib.hid hsh; have HL := Lib.hid hl; have HB2 := Lib.hid hb2; clear hsh hl hb2
  go_enter Try.func17, Try.ntmps17
  go_wp2_with fail
  refine (sClosed_ p A L c lc ws l _ (HSH.out.later HB2.out (Nat.le_refl _)) (HL.out.later HB2.out (Nat.le_refl _))).mono ?_
  rintro e w1 ⟨hb1, hne, heq⟩
  have a0 : w1.cell? ⟨w.heap.size, 0, none⟩ = some (.int .i64 p) := below_at hb1 (Nat.le_refl _) (by go_simp)
  have a1 : w1.cell? ⟨w.heap.size, 1, none⟩ = some (.slice A ws.length c) := below_at hb1 (Nat.le_refl _) (by go_simp)
  have hs0 : w.heap.size < w1.heap.size := by have := hb1.size; simp at this; omega
  have Y1 := Lib.hid (HB2.out.trans (hb1.mono (by simp))); clear hb1
  by_cases he : clErr p ws l = 0
  rotate_left
  · have hr : lineL p ws l = [] := by unfold lineL; rw [if_neg he]
    have h1 := hne he
    clear hne heq
    generalize clErr p ws l = E at *
    subst h1
    have HR := Lib.hid hr; clear hr
    rw [wordsV_zero]
    go_wp2
    go_ret2
    rw [HR.out]
    exact ⟨_, rfl, RdV.nil _, Y1.out.alloc Y1.out.size _⟩
  obtain ⟨R, rfl, hE⟩ := heq he
  obtain ⟨hok, hAsc, _⟩ := clErr_zero he
  obtain ⟨hp3, hp24, hn, hall⟩ := okAll hok
  obtain ⟨P, rfl⟩ := Int.eq_ofNat_of_zero_le (show 0 ≤ p by omega)
  have hr : lineL P ws l = (List.range P).map (lineG P ws l) := by unfold lineL; rw [if_pos he]; rfl
  have hpl : ∀ k, k < ws.length → (ws.getD k gwE).pl = (plsOf ws k : Nat) ∧ plsOf ws k + 2 ≤ P := fun k hk => by
    have hmem : ws.getD k gwE ∈ ws := by rw [List.getD_eq_getElem?_getD, List.getElem?_eq_getElem hk]; exact List.getElem_mem hk
    have := hall _ hmem
    unfold plsOf
    omega
  have hce := he
  have hmk := run_make_row' (P := Try.prog) 33 3 (.int .i64 0) 8 Try.underlying33 infoI_Try rfl .i64 .i64 P (by omega) (by omega)
  clear heq hne he hE
  have HALL := Lib.hid hall; have HR := Lib.hid hr; have HCE := Lib.hid hce; have HOK := Lib.hid hok; have HASC := Lib.hid hAsc; have HPL := Lib.hid hpl; clear hall hr hce hok hAsc hpl
  unfold wordsV
  go_wp2
  clear hmk
  obtain ⟨w0, hw0⟩ : ∃ w0, w0 = (w1.alloc (.cells #[.int .u64 (wd (bitsL l) 0 : Nat), .int .u64 (wd (bitsL l) 1 : Nat), .int .u64 (wd (bitsL l) 2 : Nat), .int .u64 (wd (bitsL l) 3 : Nat), .int .u64 (wd (bitsL l) 4 : Nat), .int .u64 (wd (bitsL l) 5 : Nat), .int .u64 (wd (bitsL l) 6 : Nat)] 67)).alloc (.cells (madeCells #[.int .i64 0] P) 3) := ⟨_, rfl⟩
  have hm0 : IdB w0 (w1.heap.size + 1) P (fun p => if p < 0 then (p : Int) else 0) := by
    rw [hw0]
    unfold IdB
    rw [heap_alloc2_new, idCells_zero]
    simp
  have hb0 : Below w1.heap.size w1 w0 := by rw [hw0]; exact ((Below.refl _ _).alloc (Nat.le_refl _) _).alloc (by simp) _
  have c0 := below_at hb0 (Nat.le_refl _) a0
  have c1 := below_at hb0 (Nat.le_refl _) a1
  have hb1 := Y1.out.trans (hb0.mono Y1.out.size)
  have hN : w.heap.size < w1.heap.size + 1 := by omega
  rw [← hw0]
  clear hw0 a0 a1
  have HM0 := Lib.hid hm0; have HB0 := Lib.hid hb0; have HB1 := Lib.hid hb1; have C0 := Lib.hid c0; have C1 := Lib.hid c1; clear hm0 hb0 hb1 c0 c1
  go_loopw [29] (fun iv wr => ∃ k : Nat, iv = .int .i64 k ∧ k ≤ P ∧ IdB wr (w1.heap.size + 1) P (fun p => if p < k then (p : Int) else 0) ∧ wr.cell? ⟨w.heap.size, 0, none⟩ = some (.int .i64 (P : Int)) ∧ wr.cell? ⟨w.heap.size, 1, none⟩ = some (.slice A ws.length c) ∧ Below w.heap.size w wr) (fun iv _ => P - (intOf iv).toNat)
  case atStart => exact ⟨0, rfl, Nat.zero_le _, HM0.out, C0.out, C1.out, HB1.out⟩
  case round =>
    clear HM0 HB0 HB1 C0 C1
    obtain ⟨k, rfl, hk, hG, g0, g1, hbw⟩ := hrel
    have hGl := lt_of_block hG
    have hz0 : w.heap.size < wr.heap.size := by omega
    by_cases hlt : k < P
    · have x1 : (0 : Int) ≤ (k : Int) := by omega
      have x2 : (k : Int) < (P : Int) := by omega
      have e1 := hG.at_ hlt
      rw [if_neg (by omega)] at e1
      have e2 := hG.free k
      have hG2 := (hG.put k (k : Int)).congr (g' := fun p => if p < k + 1 then (p : Int) else 0) (fun p hp => by
        unfold updF
        by_cases h : p = k
        · subst h; simp
        · by_cases h2 : p < k
          · simp [h, h2, show p < k + 1 by omega]
          · simp [h, h2, show ¬ p < k + 1 by omega])
      have hb3 := hbw.setCell (p := ⟨w1.heap.size + 1, k, none⟩) (by show w.heap.size ≤ w1.heap.size + 1; omega) (.int .i64 (k : Int))
      have gg0 : (wr.setCell ⟨w1.heap.size + 1, k, none⟩ (.int .i64 (k : Int))).cell? ⟨w.heap.size, 0, none⟩ = some (.int .i64 (P : Int)) := (World.cell?_setCell_other _ _ _ _ (by simp)).trans g0
      have gg1 : (wr.setCell ⟨w1.heap.size + 1, k, none⟩ (.int .i64 (k : Int))).cell? ⟨w.heap.size, 1, none⟩ = some (.slice A ws.length c) := (World.cell?_setCell_other _ _ _ _ (by simp)).trans g1
      have HG := Lib.hid hG; have HG2 := Lib.hid hG2; have HBW := Lib.hid hbw; have HB3 := Lib.hid hb3; have GG0 := Lib.hid gg0; have GG1 := Lib.hid gg1; clear hG hG2 hbw hb3 gg0 gg1
      go_wp2
      go_roundw
      case rel => exact ⟨k + 1, by go_num, by omega, HG2.out, GG0.out, GG1.out, HB3.out⟩
      case measure => simp [intOf]; omega
    · obtain rfl : k = P := by omega
      have hG3 := hG.congr (g' := lineG k ws (l.take 0)) (fun p hp => by rw [if_pos hp]; rfl)
      have HG := Lib.hid hG; have HG3 := Lib.hid hG3; have HBW := Lib.hid hbw; have G0 := Lib.hid g0; have G1 := Lib.hid g1; clear hG hG3 hbw g0 g1
      go_wp2
      go_loopw [39] (fun iv wr => ∃ j : Nat, iv = .int .i64 j ∧ j ≤ l.length ∧ IdB wr (w1.heap.size + 1) k (lineG k ws (l.take j)) ∧ wr.cell? ⟨w.heap.size, 0, none⟩ = some (.int .i64 (k : Int)) ∧ wr.cell? ⟨w.heap.size, 1, none⟩ = some (.slice A ws.length c) ∧ Below w.heap.size w wr) (fun iv _ => l.length - (intOf iv).toNat)
      case atStart => exact ⟨0, rfl, Nat.zero_le _, HG3.out, G0.out, G1.out, HBW.out⟩
      case round =>
        clear HG HG3 HBW G0 G1 hGl hz0
        obtain ⟨j, rfl, hj, hG, g0, g1, hbw⟩ := hrel
        have hGl := lt_of_block hG
        have hz0 : w.heap.size < wr.heap.size := by omega
        by_cases hlj : j < l.length
        · obtain ⟨bl, ol, rfl, hbl, l1⟩ := (HL.out.later hbw (Nat.le_refl _)).at_ hlj
          have x1 : (0 : Int) ≤ (j : Int) := by omega
          have x2 : (j : Int) < (l.length : Int) := by omega
          have hg : l.getD j 0 = l[j] := by simp [List.getD_eq_getElem?_getD, hlj]
          obtain ⟨y1, y2, _⟩ := HASC.out j hlj
          rw [hg] at y1 y2
          have hlx : lineG k ws (l.take (j + 1)) = lnTo k ws (lineG k ws (l.take j)) (l[j]).toNat 2 := by rw [List.take_succ_eq_append_getElem hlj, lineG_snoc]
          clear hg
          generalize l[j] = x at *
          obtain ⟨i, rfl⟩ := Int.eq_ofNat_of_zero_le y1
          have hil : i < ws.length := by omega
          have hly : lineG k ws (l.take (j + 1)) = lnTo k ws (lineG k ws (l.take j)) i 2 := hlx
          clear hlx
          generalize lineG k ws (l.take j) = g at *
          have HG := Lib.hid hG; have HBW := Lib.hid hbw; have HLY := Lib.hid hly; have G0 := Lib.hid g0; have G1 := Lib.hid g1; clear hG hbw hly g0 g1
          obtain ⟨q1, q2⟩ := HPL.out i hil
          go_wp2
          go_loopw [43] (fun iv wr => ∃ sd : Nat, iv = .int .i64 sd ∧ sd ≤ 2 ∧ IdB wr (w1.heap.size + 1) k (lnTo k ws g i sd) ∧ wr.cell? ⟨w.heap.size, 0, none⟩ = some (.int .i64 (k : Int)) ∧ wr.cell? ⟨w.heap.size, 1, none⟩ = some (.slice A ws.length c) ∧ Below w.heap.size w wr) (fun iv _ => 2 - (intOf iv).toNat)
          case atStart => exact ⟨0, rfl, by omega, HG.out, G0.out, G1.out, HBW.out⟩
          case round =>
            clear HG HBW G0 G1 hGl hz0 l1 hbl
            obtain ⟨sd, rfl, hsd, hG, g0, g1, hbw⟩ := hrel
            have hGl := lt_of_block hG
            have hz0 : w.heap.size < wr.heap.size := by omega
            by_cases hs2 : sd < 2
            · obtain ⟨b, off, rfl, hbL, t1, t2, t3⟩ := (HSH.out.rd.later hbw (Nat.le_refl _)).at_ hil
              have hw : ws.getD i gwE = ws[i] := by simp [List.getD_eq_getElem?_getD, hil]
              rw [hw] at q1
              rw [q1] at t2
              have hlp : lnTo k ws g i (sd + 1) = updF (lnTo k ws g i sd) (plsOf ws i + sd) ((k : Int) + 2 * (i : Int) + (sd : Int)) := rfl
              generalize plsOf ws i = pl at *
              generalize ws[i].kind = zk at *
              generalize ws[i].word = zw at *
              have e1 := hG.at_ (show pl + sd < k by omega)
              have e2 := hG.free (pl + sd)
              have hG2 := hG.put (pl + sd) ((k : Int) + 2 * (i : Int) + (sd : Int))
              rw [← hlp] at hG2
              generalize lnTo k ws g i sd (pl + sd) = zo at *
              have v1 : IntKind.i64.wrap ((pl : Int) + (sd : Int)) = (pl : Int) + (sd : Int) := IntWalk.i64_in _ (by omega)
              have v2 : IntKind.i64.wrap (2 * (i : Int)) = 2 * (i : Int) := IntWalk.i64_in _ (by omega)
              have v3 : IntKind.i64.wrap ((k : Int) + 2 * (i : Int)) = (k : Int) + 2 * (i : Int) := IntWalk.i64_in _ (by omega)
              have v4 : IntKind.i64.wrap ((k : Int) + 2 * (i : Int) + (sd : Int)) = (k : Int) + 2 * (i : Int) + (sd : Int) := IntWalk.i64_in _ (by omega)
              have v5 : ((pl : Int) + (sd : Int)).toNat = pl + sd := by omega
              have v6 : (0 : Int) ≤ (pl : Int) + (sd : Int) := by omega
              have v7 : (pl : Int) + (sd : Int) < (k : Int) := by omega
              have v8 : (0 : Int) ≤ (i : Int) := by omega
              have v9 : (i : Int) < (ws.length : Int) := by omega
              have va : (0 : Int) ≤ (sd : Int) := by omega
              have vb : (sd : Int) < 2 := by omega
              have hb3 := (hbw.setCell (p := ⟨w1.heap.size + 1, pl + sd, none⟩) (by show w.heap.size ≤ w1.heap.size + 1; omega) (.int .i64 ((k : Int) + 2 * (i : Int) + (sd : Int)))).drew
              have gg0 : (wr.setCell ⟨w1.heap.size + 1, pl + sd, none⟩ (.int .i64 ((k : Int) + 2 * (i : Int) + (sd : Int)))).drew.cell? ⟨w.heap.size, 0, none⟩ = some (.int .i64 (k : Int)) := (World.cell?_setCell_other _ _ _ _ (by simp)).trans g0
              have gg1 : (wr.setCell ⟨w1.heap.size + 1, pl + sd, none⟩ (.int .i64 ((k : Int) + 2 * (i : Int) + (sd : Int)))).drew.cell? ⟨w.heap.size, 1, none⟩ = some (.slice (some ⟨b, off, none⟩) ws.length c) := (World.cell?_setCell_other _ _ _ _ (by simp)).trans g1
              have HG := Lib.hid hG; have HG2 := Lib.hid hG2; have HBW := Lib.hid hbw; have HB3 := Lib.hid hb3; have GG0 := Lib.hid gg0; have GG1 := Lib.hid gg1; have Q1 := Lib.hid q1; have HLP := Lib.hid hlp; have HW := Lib.hid hw; clear hG hG2 hbw hb3 gg0 gg1 q1 hlp hw
              go_wp2
              go_region
              go_wp2
              go_roundw
              case rel => exact ⟨sd + 1, by go_num, by omega, HG2.out, GG0.out, GG1.out, HB3.out⟩
              case measure => simp [intOf]; omega
            · obtain rfl : sd = 2 := by omega
              rw [← HLY.out] at hG
              have HG := Lib.hid hG; have HBW := Lib.hid hbw; have G0 := Lib.hid g0; have G1 := Lib.hid g1; clear hG hbw g0 g1
              go_wp2
              go_roundw
              case rel => exact ⟨j + 1, by go_num, by omega, HG.out, G0.out, G1.out, HBW.out⟩
              case measure => simp [intOf]; omega
        · obtain rfl : j = l.length := by omega
          rw [List.take_of_length_le (Nat.le_refl _)] at hG
          have HG := Lib.hid hG; have HBW := Lib.hid hbw; have G0 := Lib.hid g0; have G1 := Lib.hid g1; clear hG hbw g0 g1
          go_wp2
          go_ret2
          rw [HR.out, HCE.out]
          exact ⟨_, rfl, HG.out.rdV (by omega), HBW.out⟩
end Go.Proofs.Ytepdgffccfcfpaa
