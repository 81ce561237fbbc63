/- The reference's Least. -/
import Derived.Test.YtifpkdajfdlgeaaTrLevR
namespace Go.Proofs.Ytifpkdajfdlgeaa
open Go.RowKit

set_option maxRecDepth 100000 in
set_option maxHeartbeats 4000000 in
theorem rLeast_ (p : Int) (A : Option Addr) (c : Nat) (ws : List GW) (w : World) (ha : ShIn w p A ws) :
    Calls Try.prog 30 #[.agg #[.int .i64 p, .slice A ws.length c]] w (ListPost (leastR p ws) (errSheet p ws) w) := by
  have hb2 : Below w.heap.size w (w.alloc (.cells #[.int .i64 p, .slice A ws.length c] 24)) := (Below.refl _ _).alloc (Nat.le_refl _) _
  by_cases he : errSheet p ws = 0
  rotate_left
  · have hl : leastR p ws = [] := by unfold leastR; rw [if_neg he]
    have heb : (errSheet p ws != 0) = true := by simpa using he
    rw [hl]
    have HA := Lib.hid ha; have HB2 := Lib.hid hb2; have HE := Lib.hid he; have HL := Lib.hid hl; clear ha hb2 he hl
    go_enter Try.func30, Try.ntmps30
    go_wp2_with fail
    refine (rCheck_ _ _ _ _ _ HA.out.lo HA.out.hi (HA.out.rd.later HB2.out (Nat.le_refl _))).mono ?_; rintro e w1 ⟨rfl, hb1⟩
    go_wp2
    go_ret2
    exact ⟨.slice none 0 0, rfl, RdV.nil _, HB2.out.trans (hb1.mono (by simp))⟩
  · have hl : leastR p ws = leastL ws := by unfold leastR; rw [if_pos he]
    rw [hl, he]
    have hok : OkS p ws := he
    obtain ⟨_, hp24, hlen, hall⟩ := hok.all
    have hec := he
    have hwsd : ∀ x ∈ ws, 0 ≤ x.pl ∧ x.pl ≤ 22 := fun x hx => by
      obtain ⟨_, h1, h2, _⟩ := hall x hx
      exact ⟨h1, by omega⟩
    have HA := Lib.hid ha; have HB2 := Lib.hid hb2; have HE := Lib.hid he; have HL := Lib.hid hl; have HOK := Lib.hid hok; have HALL := Lib.hid hall; have HWSD := Lib.hid hwsd; clear ha hb2 he hl hok hall hwsd
    go_enter Try.func30, Try.ntmps30
    go_wp2_with fail
    refine (rCheck_ _ _ _ _ _ HA.out.lo HA.out.hi (HA.out.rd.later HB2.out (Nat.le_refl _))).mono ?_
    rw [hec]
    clear hec
    rintro e w1 ⟨rfl, hb1⟩
    have a1 : w1.cell? ⟨w.heap.size, 1, none⟩ = some (.slice A ws.length c) := below_at hb1 (Nat.le_refl _) (by go_simp)
    have hs1 : w.heap.size < w1.heap.size := by have := hb1.size; simp at this; omega
    have a0 : w1.cell? ⟨w.heap.size, 0, none⟩ = some (.int .i64 p) := below_at hb1 (Nat.le_refl _) (by go_simp)
    have Y1 := Lib.hid (HB2.out.trans (hb1.mono (by simp))); clear hb1
    have hmk := run_make_row' (P := Try.prog) 76 4 (.bool false) 1 Try.underlying76 info_bool_Try rfl .i64 .i64 ws.length (by omega) (by omega)
    go_wp2
    clear hmk
    have hD0 := DoneB.made w1 ws.length
    have hB0 : Below w1.heap.size w1 (w1.alloc (.cells (madeCells #[.bool false] ws.length) 4)) := (Below.refl _ _).alloc (Nat.le_refl _) _
    have HD0 := Lib.hid hD0; have HB0 := Lib.hid hB0; clear hD0 hB0
    go_loopw [6] (fun o wr => ∃ (ds : List Bool) (out : List Int), ds.length = ws.length ∧ DoneB wr w1.heap.size ds ∧ wr.ownsRow (w1.heap.size + 1) 3 1 o out.length (ints out) ∧ doneN ds = out.length ∧ out.length ≤ ws.length ∧
      leastL ws = out ++ lRun ws (ws.length - out.length) ds ∧ Below w1.heap.size w1 wr) (fun o _ => ws.length - sLen o)
    case atStart => exact ⟨List.replicate ws.length false, [], by simp, HD0.out, World.ownsRow_nil _ _ _ _, by simp [doneN, List.count_replicate], Nat.zero_le _, by simp [leastL], HB0.out⟩
    case round =>
      obtain ⟨ds, out, hdl, hD, hown, hdn, hol, hrun, hbw⟩ := hrel
      obtain ⟨wo, rfl⟩ : ∃ wo : World, wo = wr := ⟨_, rfl⟩
      obtain ⟨OA, oc, rfl⟩ := own_slice hown
      have a2 := below_at hbw (Nat.le_refl _) a1
      have a02 := below_at hbw (Nat.le_refl _) a0
      have hs2 : w.heap.size < wo.heap.size := Nat.lt_of_lt_of_le hs1 hbw.size
      have hDlt : w1.heap.size < wo.heap.size := lt_of_block hD
      have hoN : Hid (∀ k, (Value.slice OA out.length oc).ownBlock = some k → w1.heap.size + 1 ≤ k) := fun k hk => (hown.lt k hk).1
      by_cases hlt : out.length < ws.length
      · obtain ⟨i, hbi, hil, hdi⟩ := bst_ok hdl (by omega)
        have hrun2 : leastL ws = (out ++ [(i : Int)]) ++ lRun ws (ws.length - (out ++ [(i : Int)]).length) (ds.set i true) := by
          rw [hrun, show ws.length - out.length = ws.length - (out ++ [(i : Int)]).length + 1 by simp; omega, lRun, hbi]
          simp
        have hdn2 : doneN (ds.set i true) = (out ++ [(i : Int)]).length := by rw [doneN_set (by omega) hdi, hdn]; simp
        have HDL := Lib.hid hdl; have HD := Lib.hid hD; have HOWN := Lib.hid hown; have HDN := Lib.hid hdn; have HRUN := Lib.hid hrun; have HBW := Lib.hid hbw; have HBI := Lib.hid hbi; have HDI := Lib.hid hdi; have HRUN2 := Lib.hid hrun2; have HDN2 := Lib.hid hdn2; clear hdl hD hown hdn hrun hbw hbi hdi hrun2 hdn2
        go_wp2
        go_loopw [7, 8] (fun bv kv wr => ∃ k : Nat, kv = .int .i64 k ∧ k ≤ ws.length ∧ bv = .int .i64 (bst ws ds k) ∧ Below wo.heap.size wo wr) (fun _ kv _ => ws.length - (intOf kv).toNat)
        case atStart => exact ⟨0, rfl, Nat.zero_le _, rfl, Below.refl _ _⟩
        case round =>
          obtain ⟨k, rfl, hk, rfl, hbx⟩ := hrel
          have a3 := below_at hbx (Nat.le_refl _) a2
          have a03 := below_at hbx (Nat.le_refl _) a02
          have hs3 : w.heap.size < wr.heap.size := Nat.lt_of_lt_of_le hs2 hbx.size
          by_cases hki : k < ws.length
          · obtain ⟨b, off, rfl, hbL, g1, g2, g3⟩ := (HA.out.rd.later ((Y1.out.trans (HBW.out.mono Y1.out.size)).trans (hbx.mono (Nat.le_trans Y1.out.size HBW.out.size))) (Nat.le_refl _)).at_ hki
            have hAX := HA.out.rd.later ((Y1.out.trans (HBW.out.mono Y1.out.size)).trans (hbx.mono (Nat.le_trans Y1.out.size HBW.out.size))) (Nat.le_refl _)
            have hDX := (HD.out.later hbx hDlt).rd (by rw [HDL.out]; omega)
            have hbs : bst ws ds (k + 1) = if (bst ws ds k < 0 ∨ ws[k].pl < (ws.getD (bst ws ds k).toNat gw0).pl) ∧ readyB ws ds k = true then (k : Int) else bst ws ds k := by
              rw [bst, getD_pl hki]
            have x1 : (0 : Int) ≤ (k : Int) := by omega
            have x2 : (k : Int) < (ws.length : Int) := by omega
            have hbd := bst_bd ws ds k
            have HBX := Lib.hid hbx; have HAX := Lib.hid hAX; have HDX := Lib.hid hDX; have HBS := Lib.hid hbs; clear hbx hAX hDX hbs
            rcases hbd with hj | ⟨j, hj, hjk, _⟩
            · have hneg : bst ws ds k < 0 := by omega
              clear hj
              generalize bst ws ds k = z at *
              by_cases hrd : readyB ws ds k = true
              · have hr : bst ws ds (k + 1) = k := by rw [HBS.out, if_pos ⟨.inl hneg, hrd⟩]
                have HR := Lib.hid hr; clear hr
                go_wp2
                have hbelc : ∀ (u : Bel wr.heap.size wr) b o, b < wr.heap.size → u.wd.cell? ⟨b, o, none⟩ = wr.cell? ⟨b, o, none⟩ := fun u b o h => u.h.cell (p := ⟨b, o, none⟩) h
                have hbeln : Nonempty (Bel wr.heap.size wr) := ⟨⟨wr, Below.refl _ _⟩⟩
                refine wp_region_bel wr.heap.size (by kernel_rfl) (by kernel_rfl) ?_
                repeat (go_big_quiet_step ((go_at_call 52; exact quiet_bel (Nat.le_refl _) (rreadyL_ p _ _ c ws.length k ws ds _ (HAX.out.later (Bel.h _) (Nat.le_refl _)) (HDX.out.later (Bel.h _) (Nat.le_refl _)) HDL.out hki (by omega) HWSD.out))))
                refine wpQuiet_nil ?_
                intro wB hB0; obtain ⟨uB, hu⟩ := hB0; have hbB0 := uB.h; rw [← hu] at hbB0; clear hu uB hbelc hbeln
                obtain ⟨hbB, hcB, hsB⟩ := bcell2 hbB0; clear hbB0
                go_wp2
                go_roundw
                case rel => exact ⟨k + 1, by go_num, by omega, by rw [HR.out], HBX.out.trans (hbB.mono HBX.out.size)⟩
                case measure => simp [intOf]; omega
              · have hr : bst ws ds (k + 1) = z := by rw [HBS.out, if_neg (fun h => hrd h.2)]
                have HR := Lib.hid hr; clear hr
                have hrd' : readyB ws ds k = false := by simpa using hrd
                clear hrd
                go_wp2
                have hbelc : ∀ (u : Bel wr.heap.size wr) b o, b < wr.heap.size → u.wd.cell? ⟨b, o, none⟩ = wr.cell? ⟨b, o, none⟩ := fun u b o h => u.h.cell (p := ⟨b, o, none⟩) h
                have hbeln : Nonempty (Bel wr.heap.size wr) := ⟨⟨wr, Below.refl _ _⟩⟩
                refine wp_region_bel wr.heap.size (by kernel_rfl) (by kernel_rfl) ?_
                repeat (go_big_quiet_step ((go_at_call 52; exact quiet_bel (Nat.le_refl _) (rreadyL_ p _ _ c ws.length k ws ds _ (HAX.out.later (Bel.h _) (Nat.le_refl _)) (HDX.out.later (Bel.h _) (Nat.le_refl _)) HDL.out hki (by omega) HWSD.out))))
                refine wpQuiet_nil ?_
                intro wB hB0; obtain ⟨uB, hu⟩ := hB0; have hbB0 := uB.h; rw [← hu] at hbB0; clear hu uB hbelc hbeln
                obtain ⟨hbB, hcB, hsB⟩ := bcell2 hbB0; clear hbB0
                go_wp2
                go_roundw
                case rel => exact ⟨k + 1, by go_num, by omega, by rw [HR.out], HBX.out.trans (hbB.mono HBX.out.size)⟩
                case measure => simp [intOf]; omega
            · rw [hj]
              have hjl : j < ws.length := by omega
              have hbs2 : bst ws ds (k + 1) = if ws[k].pl < ws[j].pl ∧ readyB ws ds k = true then (k : Int) else j := by
                rw [HBS.out, hj, Int.toNat_natCast, getD_pl hjl]
                by_cases h1 : ws[k].pl < ws[j].pl ∧ readyB ws ds k = true
                · rw [if_pos h1, if_pos ⟨.inr h1.1, h1.2⟩]
                · rw [if_neg h1, if_neg (fun h => h1 ⟨h.1.resolve_left (by omega), h.2⟩)]
              obtain ⟨b', off', hA', hbA', e1, e2, e3⟩ := HAX.out.at_ hjl
              injection hA' with hA'
              injection hA' with hA1 hA2
              subst hA1; subst hA2
              have HJ := Lib.hid hj; clear hj
              have HBS2 := Lib.hid hbs2; clear hbs2
              have y1 : (0 : Int) ≤ (j : Int) := by omega
              have y2 : (j : Int) < (ws.length : Int) := by omega
              have y3 : decide ((j : Int) < 0) = false := by simp
              by_cases hpl : ws[k].pl < ws[j].pl
              · by_cases hrd : readyB ws ds k = true
                · have hr : bst ws ds (k + 1) = k := by rw [HBS2.out, if_pos ⟨hpl, hrd⟩]
                  have HR := Lib.hid hr; clear hr
                  go_wp2
                  have hbelc : ∀ (u : Bel wr.heap.size wr) b o, b < wr.heap.size → u.wd.cell? ⟨b, o, none⟩ = wr.cell? ⟨b, o, none⟩ := fun u b o h => u.h.cell (p := ⟨b, o, none⟩) h
                  have hbeln : Nonempty (Bel wr.heap.size wr) := ⟨⟨wr, Below.refl _ _⟩⟩
                  refine wp_region_bel wr.heap.size (by kernel_rfl) (by kernel_rfl) ?_
                  repeat (go_big_quiet_step ((go_at_call 52; exact quiet_bel (Nat.le_refl _) (rreadyL_ p _ _ c ws.length k ws ds _ (HAX.out.later (Bel.h _) (Nat.le_refl _)) (HDX.out.later (Bel.h _) (Nat.le_refl _)) HDL.out hki (by omega) HWSD.out))))
                  refine wpQuiet_nil ?_
                  intro wB hB0; obtain ⟨uB, hu⟩ := hB0; have hbB0 := uB.h; rw [← hu] at hbB0; clear hu uB hbelc hbeln
                  obtain ⟨hbB, hcB, hsB⟩ := bcell2 hbB0; clear hbB0
                  go_wp2
                  go_roundw
                  case rel => exact ⟨k + 1, by go_num, by omega, by rw [HR.out], HBX.out.trans (hbB.mono HBX.out.size)⟩
                  case measure => simp [intOf]; omega
                · have hr : bst ws ds (k + 1) = j := by rw [HBS2.out, if_neg (fun h => hrd h.2)]
                  have HR := Lib.hid hr; clear hr
                  have hrd' : readyB ws ds k = false := by simpa using hrd
                  clear hrd
                  go_wp2
                  have hbelc : ∀ (u : Bel wr.heap.size wr) b o, b < wr.heap.size → u.wd.cell? ⟨b, o, none⟩ = wr.cell? ⟨b, o, none⟩ := fun u b o h => u.h.cell (p := ⟨b, o, none⟩) h
                  have hbeln : Nonempty (Bel wr.heap.size wr) := ⟨⟨wr, Below.refl _ _⟩⟩
                  refine wp_region_bel wr.heap.size (by kernel_rfl) (by kernel_rfl) ?_
                  repeat (go_big_quiet_step ((go_at_call 52; exact quiet_bel (Nat.le_refl _) (rreadyL_ p _ _ c ws.length k ws ds _ (HAX.out.later (Bel.h _) (Nat.le_refl _)) (HDX.out.later (Bel.h _) (Nat.le_refl _)) HDL.out hki (by omega) HWSD.out))))
                  refine wpQuiet_nil ?_
                  intro wB hB0; obtain ⟨uB, hu⟩ := hB0; have hbB0 := uB.h; rw [← hu] at hbB0; clear hu uB hbelc hbeln
                  obtain ⟨hbB, hcB, hsB⟩ := bcell2 hbB0; clear hbB0
                  go_wp2
                  go_roundw
                  case rel => exact ⟨k + 1, by go_num, by omega, by rw [HR.out], HBX.out.trans (hbB.mono HBX.out.size)⟩
                  case measure => simp [intOf]; omega
              · have hr : bst ws ds (k + 1) = j := by rw [HBS2.out, if_neg (fun h => hpl h.1)]
                have HR := Lib.hid hr; clear hr
                have hplb : decide (ws[k].pl < ws[j].pl) = false := by simpa using hpl
                clear hpl
                go_wp2
                go_quiet (fail)
                go_wp2
                go_roundw
                case rel => exact ⟨k + 1, by go_num, by omega, by rw [HR.out], below_drewN HBX.out _⟩
                case measure => simp [intOf]; omega
          · obtain rfl : k = ws.length := by omega
            rw [HBI.out]
            have hDx := HD.out.later hbx hDlt
            have hid : i < ds.length := by rw [HDL.out]; exact hil
            have d1 : wr.cell? ⟨w1.heap.size, i, none⟩ = some (.bool ds[i]) := by
              rw [cell_of_row wr _ i _ _ _ hDx]; simp [hid]
            have d2 : wr.frozen? ⟨w1.heap.size, i, none⟩ = false := frozen_of_row _ _ i _ _ hDx
            have hownx := own_below HOWN.out hbx
            have x1 : (0 : Int) ≤ (i : Int) := by omega
            have x2 : (i : Int) < (ws.length : Int) := by omega
            have hoD : Hid (some w1.heap.size ≠ (Value.slice OA out.length oc).ownBlock) := fun h => by have := hoN.out _ h.symm; omega
            have hxs := hbx.size
            have hwx := HBW.out.size
            have HDX := Lib.hid hDx; have HOWNX := Lib.hid hownx; have HBX := Lib.hid hbx; clear hDx hownx hbx
            go_wp2_with (at_builtin; go_must (refine wpList_app1_Try rfl _ _ rfl (w1.heap.size + 1) (.slice OA out.length oc) out rfl (by refine World.ownsRow.alloc ?_ _; exact ownsRow_setCell_below HOWNX.out (by show w1.heap.size < w1.heap.size + 1; omega) _) wr.heap.size i rfl (heap_new_at _ _ _ (by simp)) (by omega) (by simp; omega) ?_); intro g cap w2 hown2 hgrow hat hlt2)
            go_roundw
            case rel =>
              refine ⟨ds.set i true, out ++ [(i : Int)], by rw [List.length_set]; exact HDL.out, ?_, hown2, HDN2.out, by simp; omega, HRUN2.out, ?_⟩
              · have hset : DoneB (wr.setCell ⟨w1.heap.size, i, none⟩ (.bool true)) w1.heap.size (ds.set i true) := DoneB.set HDX.out
                exact (hset.kept (World.grownBy_alloc _ _ none) (by simp)).kept hgrow hoD.out
              · exact ((((HBW.out.trans (HBX.out.mono HBW.out.size)).setCell (Nat.le_refl _) _).alloc (by simp; omega) _).grown hgrow (by simp; omega) (fun j hj => by have := hoN.out j hj; omega))
            case measure => simp [sLen]; omega
      · have hfin : leastL ws = out := by
          rw [hrun, show ws.length - out.length = 0 by omega, lRun, List.append_nil]
        have HFIN := Lib.hid hfin; clear hfin
        go_wp2
        go_ret2
        rw [HFIN.out]
        exact ⟨_, rfl, RdV.of_own hown (by omega), Y1.out.trans (hbw.mono Y1.out.size)⟩
end Go.Proofs.Ytifpkdajfdlgeaa
