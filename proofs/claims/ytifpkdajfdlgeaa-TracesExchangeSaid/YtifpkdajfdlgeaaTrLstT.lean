/- The program's Least. -/
import Derived.Test.YtifpkdajfdlgeaaTrLevR
namespace Go.Proofs.Ytifpkdajfdlgeaa
open Go.RowKit

theorem rowD_fun (ws : List GW) : rowK ws ws.length = rowD ws (List.replicate ws.length false) := funext fun q => (rowD_none ws q).symm

set_option maxRecDepth 100000 in
set_option maxHeartbeats 4000000 in
theorem tLeast_ (p : Int) (A : Option Addr) (c : Nat) (ws : List GW) (w : World) (ha : ShIn w p A ws) :
    Calls Try.prog 29 #[.agg #[.int .i64 p, .slice A ws.length c]] w (ListPost (leastR p ws) (errSheet p ws) w) := by
  have hb2 : Below w.heap.size w (w.alloc (.cells #[.int .i64 p, .slice A ws.length c] 24)) := (Below.refl _ _).alloc (Nat.le_refl _) _
  by_cases he : errSheet p ws = 0
  rotate_left
  · have hl : leastR p ws = [] := by unfold leastR; rw [if_neg he]
    have heb : (errSheet p ws != 0) = true := by simpa using he
    rw [hl]
    have HA := Lib.hid ha; have HB2 := Lib.hid hb2; have HE := Lib.hid he; have HL := Lib.hid hl; clear ha hb2 he hl
    go_enter Try.func29, Try.ntmps29
    go_wp2_with fail
    refine (sCheck_ _ _ _ _ _ HA.out.lo HA.out.hi (HA.out.rd.later HB2.out (Nat.le_refl _))).mono ?_; rintro e w1 ⟨rfl, hb1⟩
    go_wp2
    go_ret2
    exact ⟨.slice none 0 0, rfl, RdV.nil _, HB2.out.trans (hb1.mono (by simp))⟩
  · have hl : leastR p ws = leastL ws := by unfold leastR; rw [if_pos he]
    rw [hl, he]
    have hok : OkS p ws := he
    obtain ⟨_, hp24, hlen, hall⟩ := hok.all
    have hec := he
    have hwsd : ∀ x ∈ ws, 0 ≤ x.pl ∧ x.pl ≤ 22 := fun x hx => by
      obtain ⟨_, h1, h2, _⟩ := hall x hx
      exact ⟨h1, by omega⟩
    have HA := Lib.hid ha; have HB2 := Lib.hid hb2; have HE := Lib.hid he; have HL := Lib.hid hl; have HOK := Lib.hid hok; have HALL := Lib.hid hall; have HWSD := Lib.hid hwsd; clear ha hb2 he hl hok hall hwsd
    go_enter Try.func29, Try.ntmps29
    go_wp2_with fail
    refine (sCheck_ _ _ _ _ _ HA.out.lo HA.out.hi (HA.out.rd.later HB2.out (Nat.le_refl _))).mono ?_
    rw [hec]
    clear hec
    rintro e w1 ⟨rfl, hb1⟩
    have a1 : w1.cell? ⟨w.heap.size, 1, none⟩ = some (.slice A ws.length c) := below_at hb1 (Nat.le_refl _) (by go_simp)
    have hs1 : w.heap.size < w1.heap.size := by have := hb1.size; simp at this; omega
    have Y1 := Lib.hid (HB2.out.trans (hb1.mono (by simp)))
    clear hb1
    go_wp2_with fail
    refine (trow_ w.heap.size p A c ws _ HOK.out (HA.out.rd.later Y1.out (Nat.le_refl _)) a1).mono ?_
    rintro e W0 ⟨rfl, hrw, hbw0⟩
    have a2 := below_at hbw0 (Nat.le_refl _) a1
    have hV0 := Views.of_rws hrw
    rw [rowD_fun ws] at hV0
    have hRW : w1.heap.size < W0.heap.size := hrw.lt
    have hBW := Y1.out.trans (hbw0.mono Y1.out.size)
    clear hrw a1 hbw0
    have HV0 := Lib.hid hV0; have HBW := Lib.hid hBW; clear hV0 hBW
    go_wp2
    go_loopw [6, 7] (fun o av wr => ∃ (ds : List Bool) (P : Nat) (out : List Int), av = .int .i64 P ∧ P ≤ 23 ∧ ds.length = ws.length ∧ Views W0 wr w1.heap.size 102 24 (rowD ws ds) ∧ wr.ownsRow W0.heap.size 3 1 o out.length (ints out) ∧ doneN ds = out.length ∧ out.length ≤ ws.length ∧
      leastL ws = out ++ lRun ws (ws.length - out.length) ds ∧ (∀ k, k < ws.length → readyB ws ds k = true → (P : Int) ≤ (ws.getD k gw0).pl)) (fun o av _ => (ws.length - sLen o) * 48 + (24 - (intOf av).toNat))
    case atStart => exact ⟨List.replicate ws.length false, 0, [], rfl, Nat.zero_le _, by simp, HV0.out, World.ownsRow_nil _ _ _ _, by simp [doneN, List.count_replicate], Nat.zero_le _, by simp [leastL], fun k hk _ => by rw [getD_pl hk]; exact (HWSD.out _ (List.getElem_mem hk)).1⟩
    case round =>
      obtain ⟨ds, P, out, rfl, hP23, hdl, hV, hown, hdn, hol, hrun, hat⟩ := hrel
      obtain ⟨OA, oc, rfl⟩ := own_slice hown
      have hGR := hV.grown
      have hWs := hGR.size
      have a3 := GB.cell hGR a2 (by show w.heap.size ≠ w1.heap.size; omega)
      have hs3 : w.heap.size < wr.heap.size := by omega
      have hbw : Below w.heap.size w wr := HBW.out.trans (GB.below hGR (by omega) HBW.out.size)
      by_cases hlt : out.length < ws.length
      · obtain ⟨j, hj1, hj2⟩ := some_ready hdl (by omega)
        have hPj := hat j hj1 hj2
        rw [getD_pl hj1] at hPj
        have hj22 := (HWSD.out _ (List.getElem_mem hj1)).2
        have hP22 : P ≤ 22 := by omega
        have hskip : (∀ k, k < ws.length → readyB ws ds k = true → (ws.getD k gw0).pl = P → False) → ∀ k, k < ws.length → readyB ws ds k = true → ((P + 1 : Nat) : Int) ≤ (ws.getD k gw0).pl := fun h k hk hr => by
          have h1 := hat k hk hr
          have h2 : (ws.getD k gw0).pl ≠ P := fun h3 => h k hk hr h3
          omega
        have hheads : ∀ k, k < ws.length → readyB ws ds k = true → (ws.getD k gw0).pl = P → ∃ l1 l2, rowD ws ds P = (k : Int) :: l1 ∧ rowD ws ds (P + 1) = (k : Int) :: l2 := fun k hk hr hp => by
          rw [getD_pl hk] at hp
          obtain ⟨h1, h2, _⟩ := ready_rows hk hdl (HWSD.out _ (List.getElem_mem hk)).1 hr
          rw [hp, Int.toNat_natCast] at h1 h2
          exact ⟨_, _, h1, h2⟩
        have x1 : (0 : Int) ≤ (P : Int) := by omega
        have x2 : (P : Int) < 24 := by omega
        have w1e : IntKind.i64.wrap ((P : Int) + 1) = (P : Int) + 1 := IntWalk.i64_in _ (by omega)
        have x3 : (0 : Int) ≤ (P : Int) + 1 := by omega
        have x4 : (P : Int) + 1 < 24 := by omega
        have w2e : ((P : Int) + 1).toNat = P + 1 := by omega
        have hRlt : w1.heap.size < wr.heap.size := hV.lt
        obtain ⟨LA, lc, hlc, hlf, hln, hlm, hlr⟩ := hV.at_ (p := P) (by omega)
        obtain ⟨RA, rc, hrc, hrf, hrn, hrm, hrr⟩ := hV.at_ (p := P + 1) (by omega)
        have hoN : Hid (some w1.heap.size ≠ (Value.slice OA out.length oc).ownBlock) := fun h => by have := (hown.lt _ h.symm).1; omega
        have HDL := Lib.hid hdl; have HV := Lib.hid hV; have HOWN := Lib.hid hown; have HDN := Lib.hid hdn; have HRUN := Lib.hid hrun; have HAT := Lib.hid hat; have HBW := Lib.hid hbw; have HSKIP := Lib.hid hskip; have HHEADS := Lib.hid hheads; clear hdl hV hown hdn hrun hat hbw hskip hheads
        clear hPj hj22
        rcases hfP : rowD ws ds P with _ | ⟨x, la⟩
        · rw [hfP] at hlc hln
          simp only [List.length_nil] at hlc hln
          clear hlr hrr
          have hatn := HSKIP.out fun k hk hr hp => by obtain ⟨_, _, h1, _⟩ := HHEADS.out k hk hr hp; rw [hfP] at h1; cases h1
          have HATN := Lib.hid hatn; have HFP := Lib.hid hfP; clear hatn hfP
          go_wp2
          go_quiet (fail)
          clear w1e w2e
          go_wp2
          go_roundw
          case rel => exact ⟨ds, P + 1, out, by go_num, by omega, HDL.out, HV.out.drewN _, own_drewN HOWN.out _, HDN.out, hol, HRUN.out, HATN.out⟩
          case measure => simp [intOf, sLen]; omega
        · rw [hfP] at hlc hln hlr
          simp only [List.length_cons] at hlc hln
          obtain ⟨b1, o1, rfl, hb1R, hb1W, hcl⟩ := hlr (by simp)
          clear hlr
          have hc1 := GB.cell hGR (hcl 0 (by simp)) hb1R
          simp only [Nat.add_zero, List.getElem_cons_zero] at hc1
          have HCL := Lib.hid hcl; clear hcl
          have hz1 : (0 : Int) < (la.length : Int) + 1 := by omega
          rcases hfQ : rowD ws ds (P + 1) with _ | ⟨y, lb⟩
          · rw [hfQ] at hrc hrn
            simp only [List.length_nil] at hrc hrn
            clear hrr
            have hatn := HSKIP.out fun k hk hr hp => by obtain ⟨_, _, _, h1⟩ := HHEADS.out k hk hr hp; rw [hfQ] at h1; cases h1
            have HATN := Lib.hid hatn; have HFP := Lib.hid hfP; have HFQ := Lib.hid hfQ; clear hatn hfP hfQ
            go_wp2
            go_quiet (fail)
            clear w1e w2e
            go_wp2
            go_roundw
            case rel => exact ⟨ds, P + 1, out, by go_num, by omega, HDL.out, HV.out.drewN _, own_drewN HOWN.out _, HDN.out, hol, HRUN.out, HATN.out⟩
            case measure => simp [intOf, sLen]; omega
          · rw [hfQ] at hrc hrn hrr
            simp only [List.length_cons] at hrc hrn
            obtain ⟨b2, o2, rfl, hb2R, hb2W, hcr⟩ := hrr (by simp)
            clear hrr
            have hc2 := GB.cell hGR (hcr 0 (by simp)) hb2R
            simp only [Nat.add_zero, List.getElem_cons_zero] at hc2
            have HCR := Lib.hid hcr; clear hcr
            have hz2 : (0 : Int) < (lb.length : Int) + 1 := by omega
            have hb1lt : b1 < wr.heap.size := Nat.lt_of_lt_of_le hb1W hWs
            have hb2lt : b2 < wr.heap.size := Nat.lt_of_lt_of_le hb2W hWs
            by_cases hxy : x = y
            rotate_left
            · have hxb : (x == y) = false := by simpa using hxy
              have hatn := HSKIP.out fun k hk hr hp => by
                obtain ⟨_, _, h1, h2⟩ := HHEADS.out k hk hr hp
                rw [hfP] at h1; rw [hfQ] at h2
                injection h1 with h1; injection h2 with h2
                exact hxy (h1.trans h2.symm)
              have HATN := Lib.hid hatn; have HFP := Lib.hid hfP; have HFQ := Lib.hid hfQ; have HXY := Lib.hid hxy; clear hatn hfP hfQ hxy
              go_wp2
              go_quiet (fail)
              clear w1e w2e
              go_wp2
              go_roundw
              case rel => exact ⟨ds, P + 1, out, by go_num, by omega, HDL.out, HV.out.drewN _, own_drewN HOWN.out _, HDN.out, hol, HRUN.out, HATN.out⟩
              case measure => simp [intOf, sLen]; omega
            · subst hxy
              have hxb : (x == x) = true := by simp
              obtain ⟨i, hi, hxi, hpi, hri⟩ := rows_ready (fun x hx => (HWSD.out x hx).1) hfP hfQ
              subst hxi
              have hpg : (ws.getD i gw0).pl = P := by rw [getD_pl hi]; exact hpi
              have hbi := bst_at hi hri fun k hk hr => by rw [hpg]; exact HAT.out k hk hr
              have hids : i < ds.length := by rw [HDL.out]; exact hi
              have hdi : ds.getD i false = false := by
                unfold readyB at hri
                rw [Bool.and_eq_true] at hri
                simpa using hri.2
              have hrun2 : leastL ws = (out ++ [(i : Int)]) ++ lRun ws (ws.length - (out ++ [(i : Int)]).length) (ds.set i true) := by
                rw [HRUN.out, show ws.length - out.length = ws.length - (out ++ [(i : Int)]).length + 1 by simp; omega, lRun, hbi]
                simp
              have hdn2 : doneN (ds.set i true) = (out ++ [(i : Int)]).length := by rw [doneN_set hids hdi, HDN.out]; simp
              have hat2 : ∀ k, k < ws.length → readyB ws (ds.set i true) k = true → ((P - 1 : Nat) : Int) ≤ (ws.getD k gw0).pl := fun k hk hr => by
                obtain ⟨_, h1 | h1⟩ := ready_new hids hr
                · have := HAT.out k hk h1; omega
                · have h2 := (HWSD.out _ (List.getElem_mem hk)).1
                  rw [hpg, getD_pl hk] at h1
                  rw [getD_pl hk]
                  unfold touchB at h1
                  simp only [decide_eq_true_eq] at h1
                  omega
              have hrows : (fun q => if q = P + 1 then lb else if q = P then la else rowD ws ds q) = rowD ws (ds.set i true) := by
                obtain ⟨h1, h2, h3⟩ := ready_rows hi HDL.out (HWSD.out _ (List.getElem_mem hi)).1 hri
                rw [hpi, Int.toNat_natCast] at h1 h2 h3
                rw [hfP] at h1; rw [hfQ] at h2
                injection h1 with _ h1; injection h2 with _ h2
                funext q
                by_cases hq1 : q = P + 1
                · subst hq1; rw [if_pos rfl, h2]
                · rw [if_neg hq1]
                  by_cases hq2 : q = P
                  · subst hq2; rw [if_pos rfl, h1]
                  · rw [if_neg hq2, h3 q hq2 hq1]
              have hbn : ∀ n, Below wr.heap.size wr ((wr.drewN n).alloc (.cells #[.int .i64 (i : Int)] 3)) := fun n => (below_drewN (Below.refl _ _) n).alloc (Nat.le_refl _) _
              have HFP := Lib.hid hfP; have HFQ := Lib.hid hfQ; have HPI := Lib.hid hpi; have HRI := Lib.hid hri; have HPG := Lib.hid hpg; have HBI := Lib.hid hbi; have HDI := Lib.hid hdi; have HRUN2 := Lib.hid hrun2; have HDN2 := Lib.hid hdn2; have HAT2 := Lib.hid hat2; have HROWS := Lib.hid hrows; have HBN := Lib.hid hbn; clear hfP hfQ hpi hri hpg hbi hdi hrun2 hdn2 hat2 hrows hbn
              go_wp2
              go_quiet (fail)
              clear w1e w2e
              go_wp2_with (at_builtin; go_must (refine wpList_app1_Try rfl _ _ rfl W0.heap.size (.slice OA out.length oc) out rfl (by repeat (first | exact HOWN.out | refine World.ownsRow.alloc ?_ _ | refine own_drewN ?_ _)) wr.heap.size i rfl (heap_new_at _ _ _ (by simp)) (by omega) (by simp; omega) ?_); intro g cap w2 hown2 hgrow hat2 hlt2; have q1 : w2.cell? ⟨w1.heap.size, P, none⟩ = some (.slice (some ⟨b1, o1, none⟩) (la.length + 1) lc) := hgrow.cell (below_at (HBN.out _) (Nat.le_refl _) hlc) hoN.out; have q2 : w2.cell? ⟨w1.heap.size, P + 1, none⟩ = some (.slice (some ⟨b2, o2, none⟩) (lb.length + 1) rc) := hgrow.cell (below_at (HBN.out _) (Nat.le_refl _) hrc) hoN.out; have q3 : w2.frozen? ⟨w1.heap.size, P, none⟩ = false := (hgrow.frozen_far ⟨w1.heap.size, P, none⟩ (by simp; omega) hoN.out).trans (((HBN.out _).frozen (p := ⟨w1.heap.size, P, none⟩) hRlt).trans hlf); have q4 : w2.frozen? ⟨w1.heap.size, P + 1, none⟩ = false := (hgrow.frozen_far ⟨w1.heap.size, P + 1, none⟩ (by simp; omega) hoN.out).trans (((HBN.out _).frozen (p := ⟨w1.heap.size, P + 1, none⟩) hRlt).trans hrf))
              have hone : (1 : Int) ≤ (la.length : Int) + 1 := by omega
              have hone' : (1 : Int) ≤ (lb.length : Int) + 1 := by omega
              have hV1 := ((HV.out.drewN nq).alloc (.cells #[.int .i64 (i : Int)] 3)).after hgrow (fun j hj => (HOWN.out.lt j hj).1) hRW
              have w1e : IntKind.i64.wrap ((P : Int) + 1) = (P : Int) + 1 := IntWalk.i64_in _ (by omega)
              have w2e : ((P : Int) + 1).toNat = P + 1 := by omega
              have HV1 := Lib.hid hV1; have HOWN2 := Lib.hid hown2; have HGROW := Lib.hid hgrow; clear hV1 hown2 hgrow
              go_region
              clear w1e w2e
              go_wp2
              go_roundw
              case rel =>
                refine ⟨ds.set i true, P - 1, out ++ [(i : Int)], by refine congrArg (Value.int .i64) ?_; split <;> omega, by omega, by rw [List.length_set]; exact HDL.out, ?_, ?_, HDN2.out, by simp; omega, HRUN2.out, HAT2.out⟩
                · rw [← HROWS.out]
                  refine (HV1.out.drew.store (p := P) (xs := la) (by omega) (by omega) fun hl => ?_).store (p := P + 1) (xs := lb) (by omega) (by omega) fun hl => ?_
                  · rw [if_neg (by omega)]
                    exact ⟨b1, o1 + 1, rfl, hb1R, hb1W, fun j hj => by have := HCL.out (j + 1) (by simp; omega); rw [show o1 + 1 + j = o1 + (j + 1) by omega, this]; simp⟩
                  · rw [if_neg (by omega)]
                    exact ⟨b2, o2 + 1, rfl, hb2R, hb2W, fun j hj => by have := HCR.out (j + 1) (by simp; omega); rw [show o2 + 1 + j = o2 + (j + 1) by omega, this]; simp⟩
                · exact ownsRow_setCell_below (ownsRow_setCell_below HOWN2.out.drew hRW _) hRW _
              case measure => simp [intOf, sLen]; split <;> omega
      · have hfin : leastL ws = out := by
          rw [hrun, show ws.length - out.length = 0 by omega, lRun, List.append_nil]
        have HFIN := Lib.hid hfin; clear hfin
        go_wp2
        go_ret2
        rw [HFIN.out]
        exact ⟨_, rfl, RdV.of_own hown (by omega), hbw⟩
end Go.Proofs.Ytifpkdajfdlgeaa
