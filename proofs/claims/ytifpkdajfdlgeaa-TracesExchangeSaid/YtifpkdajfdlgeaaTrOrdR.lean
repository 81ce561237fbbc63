/- The reference's Order: is a list an order of a sheet? -/
import Derived.Test.YtifpkdajfdlgeaaTrNth
import Derived.Test.YtifpkdajfdlgeaaTrLstR
import Derived.Test.YtifpkdajfdlgeaaTrAid
namespace Go.Proofs.Ytifpkdajfdlgeaa
open Go.RowKit

/-- The inner look: among the first k works, those that touch are done. -/
theorem noTouch_step {ws : List GW} {ds : List Bool} {i k : Nat} (hi : i < ws.length) (hk : k < ws.length) (hd : k < ds.length) (h : noTouch ws ds i k = true) : noTouch ws ds i (k + 1) = (ds[k] || !touchB ws[k].pl ws[i].pl) := by
  rw [noTouch_succ ws ds i k hi hk hd, h, Bool.true_and]

set_option maxRecDepth 100000 in
set_option maxHeartbeats 4000000 in
theorem rOrder_ (p : Int) (A L : Option Addr) (c lc : Nat) (ws : List GW) (l : List Int) (w : World) (ha : RdW w A ws) (hl : RdI w L l) (hw : ws.length ≤ 400) (hat : ∀ x ∈ ws, 0 ≤ x.pl ∧ x.pl ≤ 22) :
    Calls Try.prog 40 #[.agg #[.int .i64 p, .slice A ws.length c], .slice L l.length lc] w fun e w' => e = .returned (.bool (ordB ws l)) ∧ Below w.heap.size w w' := by
  have hb2 : Below w.heap.size w (w.alloc (.cells #[.int .i64 p, .slice A ws.length c] 24)) := (Below.refl _ _).alloc (Nat.le_refl _) _
  have hln := hl.1
  by_cases hlen : l.length = ws.length
  rotate_left
  · have hne : ((l.length : Int) != (ws.length : Int)) = true := by simp; omega
    have hr : ordB ws l = false := by unfold ordB; rw [decide_eq_false hlen]; rfl
    have HA := Lib.hid ha; have HL := Lib.hid hl; have HB2 := Lib.hid hb2; have HLEN := Lib.hid hlen; have HAT := Lib.hid hat; have HR := Lib.hid hr; clear ha hl hb2 hlen hat hr
    go_enter Try.func40, Try.ntmps40
    go_wp2
    go_ret
    exact ⟨ret_bool HR.out.symm, HB2.out⟩
  · have hne : ((l.length : Int) != (ws.length : Int)) = false := by simp; omega
    have hmk := run_make_row' (P := Try.prog) 76 4 (.bool false) 1 Try.underlying76 info_bool_Try rfl .i64 .i64 l.length (by omega) (by omega)
    have hD0 := DoneB.made (w.alloc (.cells #[.int .i64 p, .slice A ws.length c] 24)) l.length
    rw [Deep.nblk_alloc] at hD0
    have hB0 : Below (w.heap.size + 1) (w.alloc (.cells #[.int .i64 p, .slice A ws.length c] 24)) ((w.alloc (.cells #[.int .i64 p, .slice A ws.length c] 24)).alloc (.cells (madeCells #[.bool false] l.length) 4)) := (Below.refl _ _).alloc (by simp) _
    have hr : ordB ws l = ordRun ws (List.replicate l.length false) l := by unfold ordB; rw [decide_eq_true hlen]; rfl
    have hl400 : l.length ≤ 400 := by omega
    have HA := Lib.hid ha; have HL := Lib.hid hl; have HB2 := Lib.hid hb2; have HLEN := Lib.hid hlen; have HAT := Lib.hid hat; have HR := Lib.hid hr; have HD0 := Lib.hid hD0; have HB0 := Lib.hid hB0; clear ha hl hb2 hlen hat hr hD0 hB0
    go_enter Try.func40, Try.ntmps40
    go_wp2
    clear hmk hne
    go_loopw [6] (fun iv wr => ∃ (j : Nat) (ds : List Bool), iv = .int .i64 j ∧ j ≤ l.length ∧ ds.length = l.length ∧ DoneB wr (w.heap.size + 1) ds ∧ ordB ws l = ordRun ws ds (l.drop j) ∧ Below (w.heap.size + 1) (w.alloc (.cells #[.int .i64 p, .slice A ws.length c] 24)) wr) (fun iv _ => l.length - (intOf iv).toNat)
    case atStart => exact ⟨0, List.replicate l.length false, rfl, Nat.zero_le _, by simp, HD0.out, by rw [List.drop_zero]; exact HR.out, HB0.out⟩
    case round =>
      obtain ⟨j, ds, rfl, hj, hdl, hD, hrun, hbw⟩ := hrel
      obtain ⟨wo, rfl⟩ : ∃ wo : World, wo = wr := ⟨_, rfl⟩
      have a1 := box_cell hbw 1
      simp at a1
      have hsz : w.heap.size < wo.heap.size := by have := hbw.size; simp at this; omega
      have hbA := below_of_box hbw
      have hDlt : w.heap.size + 1 < wo.heap.size := lt_of_block hD
      by_cases hlt : j < l.length
      · obtain ⟨bl, ol, rfl, hbl, l1⟩ := (HL.out.later hbA (Nat.le_refl _)).at_ hlt
        have hdrop : l.drop j = l[j] :: l.drop (j + 1) := List.drop_eq_getElem_cons hlt
        have x1 : (0 : Int) ≤ (j : Int) := by omega
        have x2 : (j : Int) < (l.length : Int) := by omega
        rw [hdrop, ordRun] at hrun
        by_cases hneg : l[j] < 0
        · have hres : ordB ws l = false := by rw [hrun, decide_eq_false (by omega)]; rfl
          have HDL := Lib.hid hdl; have HD := Lib.hid hD; have HRUN := Lib.hid hrun; have HBW := Lib.hid hbw; have HBA := Lib.hid hbA; have HRES := Lib.hid hres; clear hdl hD hrun hbw hbA hres
          generalize l[j] = x at *
          go_wp2
          go_ret
          exact ⟨ret_bool HRES.out.symm, HBA.out⟩
        by_cases hbig : (ws.length : Int) ≤ l[j]
        · have hres : ordB ws l = false := by rw [hrun, decide_eq_false (by omega)]; rfl
          have hbig2 : (l.length : Int) ≤ l[j] := by rw [HLEN.out]; exact hbig
          have HDL := Lib.hid hdl; have HD := Lib.hid hD; have HRUN := Lib.hid hrun; have HBW := Lib.hid hbw; have HBA := Lib.hid hbA; have HRES := Lib.hid hres; clear hdl hD hrun hbw hbA hres
          generalize l[j] = x at *
          go_wp2
          go_ret
          exact ⟨ret_bool HRES.out.symm, HBA.out⟩
        obtain ⟨i, hi⟩ := Int.eq_ofNat_of_zero_le (show 0 ≤ l[j] by omega)
        rw [hi, decide_eq_true (by omega), Bool.true_and, Int.toNat_natCast] at hrun
        rw [hi] at l1
        have hil : i < ws.length := by omega
        have hids : i < ds.length := by rw [hdl, HLEN.out]; exact hil
        have hill : (i : Int) < (l.length : Int) := by rw [HLEN.out]; omega
        have d1 : wo.cell? ⟨w.heap.size + 1, i, none⟩ = some (.bool ds[i]) := by
          rw [cell_of_row wo _ i _ _ _ hD]; simp [hids]
        clear hneg hbig hi
        have y1 : (0 : Int) ≤ (i : Int) := by omega
        by_cases hdi : ds[i] = true
        · have hres : ordB ws l = false := by
            rw [hrun]
            have : readyB ws ds i = false := by unfold readyB; rw [show ds.getD i false = true by simp [List.getD_eq_getElem?_getD, hids, hdi]]; simp
            rw [this]; rfl
          rw [hdi] at d1
          have HDL := Lib.hid hdl; have HD := Lib.hid hD; have HRUN := Lib.hid hrun; have HBW := Lib.hid hbw; have HBA := Lib.hid hbA; have HRES := Lib.hid hres; have HDI := Lib.hid hdi; clear hdl hD hrun hbw hbA hres hdi
          go_wp2
          go_ret
          exact ⟨ret_bool HRES.out.symm, HBA.out⟩
        · have hdi' : ds[i] = false := by simpa using hdi
          rw [hdi'] at d1
          have hnd : ds.getD i false = false := by simp [List.getD_eq_getElem?_getD, hids, hdi']
          have d2 : wo.frozen? ⟨w.heap.size + 1, i, none⟩ = false := frozen_of_row _ _ i _ _ hD
          have hrd : readyB ws ds i = noTouch ws ds i i := by unfold readyB; rw [hnd]; simp
          rw [hrd] at hrun
          clear hdi hdi'
          have t1 : decide ((i : Int) < 0) = false := by simp
          have t2 : decide (l.length ≤ i) = false := by simp; omega
          have HDL := Lib.hid hdl; have HD := Lib.hid hD; have HRUN := Lib.hid hrun; have HBW := Lib.hid hbw; have HBA := Lib.hid hbA; have HND := Lib.hid hnd; have HRD := Lib.hid hrd; clear hdl hD hrun hbw hbA hnd hrd
          go_wp2
          go_loopw [8] (fun kv wr => ∃ k : Nat, kv = .int .i64 k ∧ k ≤ i ∧ noTouch ws ds i k = true ∧ Below wo.heap.size wo wr) (fun kv _ => i - (intOf kv).toNat)
          case atStart => exact ⟨0, rfl, Nat.zero_le _, rfl, Below.refl _ _⟩
          case round =>
            obtain ⟨k, rfl, hk, hno, hbx⟩ := hrel
            have a2 := below_at hbx (Nat.le_refl _) a1
            have hsx := hbx.size
            have hs2 : w.heap.size < wr.heap.size := by omega
            have hs3 : w.heap.size + 1 < wr.heap.size := by omega
            by_cases hki : k < i
            · have hkd : k < ds.length := by omega
              have hkw : k < ws.length := by omega
              obtain ⟨b, off, rfl, hbL, g1, g2, g3⟩ := (HA.out.later (HBA.out.trans (hbx.mono HBA.out.size)) (Nat.le_refl _)).at_ hkw
              obtain ⟨b', off', hA', hbA', e1, e2, e3⟩ := (HA.out.later (HBA.out.trans (hbx.mono HBA.out.size)) (Nat.le_refl _)).at_ hil
              injection hA' with hA'
              injection hA' with hA1 hA2
              subst hA1; subst hA2
              obtain ⟨p1, p2⟩ := HAT.out ws[k] (List.getElem_mem hkw)
              obtain ⟨p3, p4⟩ := HAT.out ws[i] (List.getElem_mem hil)
              have f1 : wr.cell? ⟨w.heap.size + 1, k, none⟩ = some (.bool ds[k]) := below_at hbx (Nat.le_refl _) (by rw [cell_of_row wo _ k _ _ _ HD.out]; simp [hkd])
              have hst := noTouch_step hil hkw hkd hno
              have z1 : (0 : Int) ≤ (k : Int) := by omega
              have z2 : (k : Int) < (ws.length : Int) := by omega
              have z3 : (i : Int) < (ws.length : Int) := by omega
              have z4 : (k : Int) < (l.length : Int) := by rw [HLEN.out]; omega
              have HBX := Lib.hid hbx; have HNO := Lib.hid hno; clear hbx hno
              by_cases ht : touchB ws[k].pl ws[i].pl = true
              · by_cases hdk : ds[k] = true
                · rw [hdk] at f1
                  have hn : noTouch ws ds i (k + 1) = true := by rw [hst, hdk]; rfl
                  have HST := Lib.hid hst; have HN := Lib.hid hn; have HDK := Lib.hid hdk; clear hst hn hdk
                  go_wp2
                  have hbelc : ∀ (u : Bel wr.heap.size wr) b o, b < wr.heap.size → u.wd.cell? ⟨b, o, none⟩ = wr.cell? ⟨b, o, none⟩ := fun u b o h => u.h.cell (p := ⟨b, o, none⟩) h
                  have hbeln : Nonempty (Bel wr.heap.size wr) := ⟨⟨wr, Below.refl _ _⟩⟩
                  refine wp_region_bel wr.heap.size (by kernel_rfl) (by kernel_rfl) ?_
                  repeat (go_big_quiet_step ((go_at_call 27; exact quiet_bel (Nat.le_refl _) (touch_is _ _ _ _ _ _ _ (by omega) (by omega) (by omega) (by omega) ht))))
                  refine wpQuiet_nil ?_
                  intro wB hB0; obtain ⟨uB, hu⟩ := hB0; have hbB0 := uB.h; rw [← hu] at hbB0; clear hu uB hbelc hbeln
                  obtain ⟨hbB, hcB, hsB⟩ := bcell2 hbB0; clear hbB0
                  go_wp2
                  go_roundw
                  case rel => exact ⟨k + 1, by go_num, by omega, HN.out, HBX.out.trans (hbB.mono HBX.out.size)⟩
                  case measure => simp [intOf]; omega
                · have hdk' : ds[k] = false := by simpa using hdk
                  rw [hdk'] at f1
                  have hres : ordB ws l = false := by
                    rw [HRUN.out, noTouch_mono ws ds i i (k + 1) (by omega) (by rw [hst, hdk', ht]; rfl)]; rfl
                  clear hdk
                  have HST := Lib.hid hst; have HRES := Lib.hid hres; have HDKp := Lib.hid hdk'; clear hst hres hdk'
                  go_wp2
                  have hbelc : ∀ (u : Bel wr.heap.size wr) b o, b < wr.heap.size → u.wd.cell? ⟨b, o, none⟩ = wr.cell? ⟨b, o, none⟩ := fun u b o h => u.h.cell (p := ⟨b, o, none⟩) h
                  have hbeln : Nonempty (Bel wr.heap.size wr) := ⟨⟨wr, Below.refl _ _⟩⟩
                  refine wp_region_bel wr.heap.size (by kernel_rfl) (by kernel_rfl) ?_
                  repeat (go_big_quiet_step ((go_at_call 27; exact quiet_bel (Nat.le_refl _) (touch_is _ _ _ _ _ _ _ (by omega) (by omega) (by omega) (by omega) ht))))
                  refine wpQuiet_nil ?_
                  intro wB hB0; obtain ⟨uB, hu⟩ := hB0; have hbB0 := uB.h; rw [← hu] at hbB0; clear hu uB hbelc hbeln
                  obtain ⟨hbB, hcB, hsB⟩ := bcell2 hbB0; clear hbB0
                  go_wp2
                  go_ret
                  exact ⟨ret_bool HRES.out.symm, HBA.out.trans ((HBX.out.trans (hbB.mono HBX.out.size)).mono HBA.out.size)⟩
              · have ht' : touchB ws[k].pl ws[i].pl = false := by simpa using ht
                have hn : noTouch ws ds i (k + 1) = true := by rw [hst, ht']; simp
                clear ht f1
                have HST := Lib.hid hst; have HN := Lib.hid hn; clear hst hn
                go_wp2
                have hbelc : ∀ (u : Bel wr.heap.size wr) b o, b < wr.heap.size → u.wd.cell? ⟨b, o, none⟩ = wr.cell? ⟨b, o, none⟩ := fun u b o h => u.h.cell (p := ⟨b, o, none⟩) h
                have hbeln : Nonempty (Bel wr.heap.size wr) := ⟨⟨wr, Below.refl _ _⟩⟩
                refine wp_region_bel wr.heap.size (by kernel_rfl) (by kernel_rfl) ?_
                repeat (go_big_quiet_step ((go_at_call 27; exact quiet_bel (Nat.le_refl _) (touch_is _ _ _ _ _ _ _ (by omega) (by omega) (by omega) (by omega) ht'))))
                refine wpQuiet_nil ?_
                intro wB hB0; obtain ⟨uB, hu⟩ := hB0; have hbB0 := uB.h; rw [← hu] at hbB0; clear hu uB hbelc hbeln
                obtain ⟨hbB, hcB, hsB⟩ := bcell2 hbB0; clear hbB0
                go_wp2
                go_roundw
                case rel => exact ⟨k + 1, by go_num, by omega, HN.out, HBX.out.trans (hbB.mono HBX.out.size)⟩
                case measure => simp [intOf]; omega
            · obtain rfl : k = i := by omega
              have hrun2 : ordB ws l = ordRun ws (ds.set k true) (l.drop (j + 1)) := by rw [HRUN.out, hno, Bool.true_and]
              have d3 := below_at hbx (Nat.le_refl _) d1
              have d4 : wr.frozen? ⟨w.heap.size + 1, k, none⟩ = false := (hbx.frozen (p := ⟨w.heap.size + 1, k, none⟩) hDlt).trans d2
              have hDX := HD.out.later hbx hDlt
              have HNO := Lib.hid hno; have HRUN2 := Lib.hid hrun2; have HBX := Lib.hid hbx; have HDX := Lib.hid hDX; clear hno hrun2 hbx hDX
              go_wp2
              go_roundw
              case rel => exact ⟨j + 1, ds.set k true, by go_num, by omega, by rw [List.length_set]; exact HDL.out, DoneB.set HDX.out, HRUN2.out, (HBW.out.trans (HBX.out.mono (by omega))).setCell (Nat.le_refl _) _⟩
              case measure => simp [intOf]; omega
      · have hres : ordB ws l = true := by rw [hrun, List.drop_of_length_le (by omega)]; rfl
        have HDL := Lib.hid hdl; have HD := Lib.hid hD; have HRUN := Lib.hid hrun; have HBW := Lib.hid hbw; have HBA := Lib.hid hbA; have HRES := Lib.hid hres; clear hdl hD hrun hbw hbA hres
        go_wp2
        go_ret
        exact ⟨ret_bool HRES.out.symm, HBA.out⟩
end Go.Proofs.Ytifpkdajfdlgeaa
