/- The reference's both, match. -/
import Derived.Test.YtifpkdajfdlgeaaTrGreedy
import Derived.Deep.OwnRows
namespace Go.Proofs.Ytifpkdajfdlgeaa
open Go.RowKit

theorem info_bool_Try : (Try.prog.info? 4).map (fun i => (i.zero, i.size, i.bytes)) = some (some (.bool false), 1, 1) := by kernel_rfl

set_option maxRecDepth 100000 in
set_option maxHeartbeats 2000000 in
theorem rmatch_no (p q : Int) (A B : Option Addr) (c d : Nat) (ws vs : List GW) (w : World)
    (_hws : ws.length ≤ 400) (_hvs : vs.length ≤ 400) (hno : ¬ (p = q ∧ ws.length = vs.length)) :
    Calls Try.prog 46 #[shV p A c ws, shV q B d vs] w (MatchPost none w) := by
  unfold shV
  by_cases hpq : p = q
  · have hpb : (p != q) = false := by simp [hpq]
    have hl : ((ws.length : Int) != (vs.length : Int)) = true := by simp; intro h; exact hno ⟨hpq, by omega⟩
    have HP := Lib.hid hpq; clear hpq
    clear hno
    go_enter Try.func46, Try.ntmps46
    go_wp2
    go_ret2
    exact ⟨_, rfl, RdV.nil _, ((Below.refl _ _).alloc (Nat.le_refl _) _).alloc (by simp) _⟩
  · have hpb : (p != q) = true := by simp [hpq]
    have HP := Lib.hid hpq; clear hpq
    clear hno
    go_enter Try.func46, Try.ntmps46
    go_wp2
    go_ret2
    exact ⟨_, rfl, RdV.nil _, ((Below.refl _ _).alloc (Nat.le_refl _) _).alloc (by simp) _⟩

theorem gb_of_below {w w' : World} (h : Below w.heap.size w w') : w.grownBy w' none := ⟨h.os, h.tape, h.output, h.size, fun i hi _ => h.block i hi⟩
theorem rreadyL_ (p : Int) (A D : Option Addr) (c dc i : Nat) (ws : List GW) (ds : List Bool) (w : World) (ha : RdW w A ws) (hd : RdB w D ds) (hl : ds.length = ws.length) (hi : i < ws.length) (hw : ws.length ≤ 400)
    (hat : ∀ x ∈ ws, 0 ≤ x.pl ∧ x.pl ≤ 22) :
    Calls Try.prog 52 #[.agg #[.int .i64 p, .slice A ws.length c], .slice D ws.length dc, .int .i64 (i : Int)] w fun e w' => e = .returned (.bool (readyB ws ds i)) ∧ Below w.heap.size w w' := by
  have h := rready_ p A D c dc i ws ds w ha hd hl hi hw hat
  rw [hl] at h
  exact h

set_option maxRecDepth 100000 in
set_option maxHeartbeats 4000000 in
theorem rmatch_yes (p q : Int) (A B : Option Addr) (c d : Nat) (ws vs : List GW) (w : World)
    (hws : OkS p ws) (hvs : OkS q vs) (ha : RdW w A ws) (hb : RdW w B vs) (hpq : p = q) (hl : ws.length = vs.length) :
    Calls Try.prog 46 #[shV p A c ws, shV q B d vs] w (MatchPost (gRun ws (List.replicate ws.length false) vs) w) := by
  have hl400 : ws.length ≤ 400 := hws.all.2.2.1
  have hpb : (p != q) = false := by simp [hpq]
  have hlb : ((ws.length : Int) != (vs.length : Int)) = false := by simp; omega
  have hmk := run_make_row' (P := Try.prog) 76 4 (.bool false) 1 Try.underlying76 info_bool_Try rfl .i64 .i64 ws.length (by omega) (by omega)
  have hv400 : vs.length ≤ 400 := hvs.all.2.2.1
  have HP := Lib.hid hpq; clear hpq
  have HL := Lib.hid hl; clear hl
  have HA := Lib.hid ha; clear ha
  have HB := Lib.hid hb; clear hb
  have HWS := Lib.hid hws; clear hws
  have HVS := Lib.hid hvs; clear hvs
  unfold shV
  go_enter Try.func46, Try.ntmps46
  go_wp2
  clear hmk hpb hlb
  go_loopw [7, 8] (fun v i wr => ∃ (j : Nat) (ds : List Bool) (out : List Int), i = .int .i64 j ∧ j ≤ vs.length ∧ out.length = j ∧ ds.length = ws.length ∧
      Below (w.heap.size + 2) ((w.alloc (.cells #[.int .i64 p, .slice A ws.length c] 24)).alloc (.cells #[.int .i64 q, .slice B vs.length d] 24)) wr ∧ DoneB wr (w.heap.size + 2) ds ∧
      wr.ownsRow (w.heap.size + 3) 3 1 v out.length (ints out) ∧ gRun ws (List.replicate ws.length false) vs = (gRun ws ds (vs.drop j)).map (out ++ ·)) (fun _ i _ => vs.length - (intOf i).toNat)
  case atStart =>
    refine ⟨0, List.replicate ws.length false, [], rfl, Nat.zero_le _, rfl, by simp, (Below.refl _ _).alloc (by simp) _, ?_, World.ownsRow_nil _ _ _ _, by simp⟩
    have h := DoneB.made ((w.alloc (.cells #[.int .i64 p, .slice A ws.length c] 24)).alloc (.cells #[.int .i64 q, .slice B vs.length d] 24)) ws.length
    rw [Deep.nblk_alloc, Deep.nblk_alloc] at h
    exact h
  case round =>
    obtain ⟨j, ds, out, rfl, hj, hout, hdl, hbw, hD, hown, hrun⟩ := hrel
    obtain ⟨wo, rfl⟩ : ∃ wo : World, wo = wr := ⟨_, rfl⟩
    have hs2 : w.heap.size + 2 < wo.heap.size := lt_of_block hD
    have a0 : wo.cell? ⟨w.heap.size, 0, none⟩ = some (.int .i64 p) := (hbw.cell (p := ⟨w.heap.size, 0, none⟩) (by show w.heap.size < w.heap.size + 2; omega)).trans (by go_simp)
    have a1 : wo.cell? ⟨w.heap.size, 1, none⟩ = some (.slice A ws.length c) := (hbw.cell (p := ⟨w.heap.size, 1, none⟩) (by show w.heap.size < w.heap.size + 2; omega)).trans (by go_simp)
    have b1 : wo.cell? ⟨w.heap.size + 1, 1, none⟩ = some (.slice B vs.length d) := (hbw.cell (p := ⟨w.heap.size + 1, 1, none⟩) (by show w.heap.size + 1 < w.heap.size + 2; omega)).trans (by go_simp)
    have hb0 : Below w.heap.size w wo := (((Below.refl _ _).alloc (Nat.le_refl _) _).alloc (by simp) _).trans (hbw.mono (by omega))
    have HBW := Lib.hid hbw; have HDN := Lib.hid hD; have HOWN := Lib.hid hown; have HRUN := Lib.hid hrun; have HOUT := Lib.hid hout; have HDL := Lib.hid hdl
    clear hbw hD hown hrun hout hdl
    have hs0 : w.heap.size < wo.heap.size := by omega
    have hs1 : w.heap.size + 1 < wo.heap.size := by omega
    by_cases hlt : j < vs.length
    · obtain ⟨b, off, rfl, hbB, h1, h2, h3⟩ := (HB.out.later hb0 (Nat.le_refl _)).at_ hlt
      have hdrop : vs.drop j = vs[j] :: vs.drop (j + 1) := List.drop_eq_getElem_cons hlt
      have HDROP := Lib.hid hdrop; clear hdrop
      have hwsd : ∀ x ∈ ws, 0 ≤ x.pl ∧ x.pl ≤ 22 := fun x hx => by
        obtain ⟨_, h24, _, hall⟩ := HWS.out.all
        obtain ⟨_, h1, h2, _⟩ := hall x hx
        exact ⟨h1, by omega⟩
      have HWSD := Lib.hid hwsd; clear hwsd
      go_wp2
      go_loopw [9, 10] (fun fv iv wr => ∃ k : Nat, iv = .int .i64 k ∧ k ≤ ws.length ∧ fv = .int .i64 (seek ws ds vs[j] k) ∧ Below wo.heap.size wo wr) (fun _ iv _ => ws.length - (intOf iv).toNat)
      case atStart => exact ⟨0, rfl, Nat.zero_le _, rfl, Below.refl _ _⟩
      case round =>
        obtain ⟨k, rfl, hk, rfl, hbx⟩ := hrel
        have a0' := below_at hbx (Nat.le_refl _) a0
        have a1' := below_at hbx (Nat.le_refl _) a1
        have b1' := below_at hbx (Nat.le_refl _) b1
        have h1' := below_at hbx (Nat.le_refl _) h1
        have h2' := below_at hbx (Nat.le_refl _) h2
        have h3' := below_at hbx (Nat.le_refl _) h3
        have hsx := hbx.size
        have hs0' : w.heap.size < wr.heap.size := by omega
        have hs1' : w.heap.size + 1 < wr.heap.size := by omega
        have hs2' : w.heap.size + 2 < wr.heap.size := by omega
        have hbB' : b < wr.heap.size := by omega
        have HBX := Lib.hid hbx; clear hbx
        by_cases hneg : seek ws ds vs[j] k < 0
        · by_cases hkl : k < ws.length
          · obtain ⟨b2, o2, rfl, hb2, g1, g2, g3⟩ := (HA.out.later (hb0.trans (HBX.out.mono (by omega))) (Nat.le_refl _)).at_ hkl
            have hgd : ws.getD k ⟨0, 0, ByteArray.empty⟩ = ws[k] := by simp [List.getD_eq_getElem?_getD, hkl]
            have HGD := Lib.hid hgd; clear hgd
            have x1 : (0 : Int) ≤ (k : Int) := by omega
            have x2 : (k : Int) < (ws.length : Int) := by omega
            have x3 : (0 : Int) ≤ (j : Int) := by omega
            have x4 : (j : Int) < (vs.length : Int) := by omega
            have hneq : ¬ ws[k] = vs[j] → seek ws ds vs[j] (k + 1) = seek ws ds vs[j] k := fun h => seek_miss (by unfold hitB; rw [HGD.out, decide_eq_false h]; rfl)
            have HNEQ := Lib.hid hneq; clear hneq
            by_cases hk1 : ws[k].kind = vs[j].kind
            rotate_left
            · have HSM := Lib.hid (HNEQ.out fun h => hk1 (by rw [h]))
              go_wp2
              go_quiet (fail)
              go_wp2
              go_roundw
              case rel => exact ⟨k + 1, by go_num, by omega, by rw [HSM.out], below_drewN HBX.out _⟩
              case measure => simp [intOf]; omega
            by_cases hk2 : ws[k].pl = vs[j].pl
            rotate_left
            · have HSM := Lib.hid (HNEQ.out fun h => hk2 (by rw [h]))
              rw [hk1] at g1
              clear hk1
              go_wp2
              go_quiet (fail)
              go_wp2
              go_roundw
              case rel => exact ⟨k + 1, by go_num, by omega, by rw [HSM.out], below_drewN HBX.out _⟩
              case measure => simp [intOf]; omega
            by_cases hk3 : ws[k].word.toList = vs[j].word.toList
            rotate_left
            · have HSM := Lib.hid (HNEQ.out fun h => hk3 (by rw [h]))
              rw [hk1] at g1
              rw [hk2] at g2
              clear hk1 hk2
              go_wp2
              go_quiet (fail)
              go_wp2
              go_roundw
              case rel => exact ⟨k + 1, by go_num, by omega, by rw [HSM.out], below_drewN HBX.out _⟩
              case measure => simp [intOf]; omega
            have heq : ws[k] = vs[j] := by
              have h3 : ws[k].word = vs[j].word := by rw [ByteArray.toList_eq, ByteArray.toList_eq] at hk3; exact ByteArray.ext (Array.ext' hk3)
              cases hw : ws[k]; cases hv : vs[j]; rw [hw, hv] at hk1 hk2 h3; simp_all
            rw [heq] at g1 g2 g3
            clear hk1 hk2 hk3
            have hhit : hitB ws ds vs[j] k = readyB ws ds k := by unfold hitB; rw [HGD.out, decide_eq_true heq]; rfl
            have HHIT := Lib.hid hhit; have HEQ := Lib.hid heq; clear hhit heq
            have HAX := Lib.hid (HA.out.later (hb0.trans (HBX.out.mono (by omega))) (Nat.le_refl _))
            have HDX := Lib.hid ((HDN.out.later HBX.out hs2).rd (by rw [HDL.out]; omega))
            have keep0 : ∀ w1, Below wr.heap.size wr w1 → (Below wr.heap.size wr w1 ∧ w1.cell? ⟨w.heap.size, 0, none⟩ = some (.int .i64 p) ∧ w1.cell? ⟨w.heap.size, 1, none⟩ = some (.slice (some ⟨b2, o2, none⟩) ws.length c) ∧ w1.cell? ⟨w.heap.size + 1, 1, none⟩ = some (.slice (some ⟨b, off, none⟩) vs.length d) ∧
                w1.cell? ⟨b, off + j * 3, none⟩ = some (.int .i64 vs[j].kind) ∧ w1.cell? ⟨b, off + j * 3 + 1, none⟩ = some (.int .i64 vs[j].pl) ∧ w1.cell? ⟨b, off + j * 3 + 2, none⟩ = some (.string vs[j].word) ∧
                w1.cell? ⟨b2, o2 + k * 3, none⟩ = some (.int .i64 vs[j].kind) ∧ w1.cell? ⟨b2, o2 + k * 3 + 1, none⟩ = some (.int .i64 vs[j].pl) ∧ w1.cell? ⟨b2, o2 + k * 3 + 2, none⟩ = some (.string vs[j].word)) := fun w1 hb =>
              ⟨hb, below_at hb (Nat.le_refl _) a0', below_at hb (Nat.le_refl _) a1', below_at hb (Nat.le_refl _) b1', below_at hb (Nat.le_refl _) h1', below_at hb (Nat.le_refl _) h2', below_at hb (Nat.le_refl _) h3',
                below_at hb (Nat.le_refl _) g1, below_at hb (Nat.le_refl _) g2, below_at hb (Nat.le_refl _) g3⟩
            have KEEP := Lib.hid keep0; clear keep0
            by_cases hr : readyB ws ds k = true
            · have HSM := Lib.hid (seek_hit hneg (HHIT.out.trans hr))
              go_wp2
              go_region_held3 (fun w1 => Below wr.heap.size wr w1 ∧ w1.cell? ⟨w.heap.size, 0, none⟩ = some (.int .i64 p) ∧ w1.cell? ⟨w.heap.size, 1, none⟩ = some (.slice (some ⟨b2, o2, none⟩) ws.length c) ∧ w1.cell? ⟨w.heap.size + 1, 1, none⟩ = some (.slice (some ⟨b, off, none⟩) vs.length d) ∧
                w1.cell? ⟨b, off + j * 3, none⟩ = some (.int .i64 vs[j].kind) ∧ w1.cell? ⟨b, off + j * 3 + 1, none⟩ = some (.int .i64 vs[j].pl) ∧ w1.cell? ⟨b, off + j * 3 + 2, none⟩ = some (.string vs[j].word) ∧
                w1.cell? ⟨b2, o2 + k * 3, none⟩ = some (.int .i64 vs[j].kind) ∧ w1.cell? ⟨b2, o2 + k * 3 + 1, none⟩ = some (.int .i64 vs[j].pl) ∧ w1.cell? ⟨b2, o2 + k * 3 + 2, none⟩ = some (.string vs[j].word))
                ((refine KEEP.out _ ?_; first | exact (Below.refl _ _).drew | exact ‹Below wr.heap.size wr _ ∧ _›.1.trans (hb1.mono ‹Below wr.heap.size wr _ ∧ _›.1.size)))
                (first | (go_at_call 52; refine (rreadyL_ p _ _ c ws.length k ws ds _ (HAX.out.later ‹Below wr.heap.size wr _ ∧ _›.1 (Nat.le_refl _)) (HDX.out.later ‹Below wr.heap.size wr _ ∧ _›.1 (Nat.le_refl _)) HDL.out hkl (by omega) HWSD.out).mono ?_; rintro e w2 ⟨rfl, hb1⟩))
              go_wp2
              go_roundw
              case rel => exact ⟨k + 1, by go_num, by omega, by rw [HSM.out], HBX.out.trans (‹Below wr.heap.size wr _ ∧ _›.1.mono (by omega))⟩
              case measure => simp [intOf]; omega
            · have hr' : readyB ws ds k = false := by simpa using hr
              clear hr
              have HSM := Lib.hid (seek_miss (HHIT.out.trans hr'))
              go_wp2
              go_region_held3 (fun w1 => Below wr.heap.size wr w1 ∧ w1.cell? ⟨w.heap.size, 0, none⟩ = some (.int .i64 p) ∧ w1.cell? ⟨w.heap.size, 1, none⟩ = some (.slice (some ⟨b2, o2, none⟩) ws.length c) ∧ w1.cell? ⟨w.heap.size + 1, 1, none⟩ = some (.slice (some ⟨b, off, none⟩) vs.length d) ∧
                w1.cell? ⟨b, off + j * 3, none⟩ = some (.int .i64 vs[j].kind) ∧ w1.cell? ⟨b, off + j * 3 + 1, none⟩ = some (.int .i64 vs[j].pl) ∧ w1.cell? ⟨b, off + j * 3 + 2, none⟩ = some (.string vs[j].word) ∧
                w1.cell? ⟨b2, o2 + k * 3, none⟩ = some (.int .i64 vs[j].kind) ∧ w1.cell? ⟨b2, o2 + k * 3 + 1, none⟩ = some (.int .i64 vs[j].pl) ∧ w1.cell? ⟨b2, o2 + k * 3 + 2, none⟩ = some (.string vs[j].word))
                ((refine KEEP.out _ ?_; first | exact (Below.refl _ _).drew | exact ‹Below wr.heap.size wr _ ∧ _›.1.trans (hb1.mono ‹Below wr.heap.size wr _ ∧ _›.1.size)))
                (first | (go_at_call 52; refine (rreadyL_ p _ _ c ws.length k ws ds _ (HAX.out.later ‹Below wr.heap.size wr _ ∧ _›.1 (Nat.le_refl _)) (HDX.out.later ‹Below wr.heap.size wr _ ∧ _›.1 (Nat.le_refl _)) HDL.out hkl (by omega) HWSD.out).mono ?_; rintro e w2 ⟨rfl, hb1⟩))
              go_wp2
              go_roundw
              case rel => exact ⟨k + 1, by go_num, by omega, by rw [HSM.out], HBX.out.trans (‹Below wr.heap.size wr _ ∧ _›.1.mono (by omega))⟩
              case measure => simp [intOf]; omega
          · obtain rfl : k = ws.length := by omega
            have hm : gRun ws (List.replicate ws.length false) vs = none := by
              rw [HRUN.out, HDROP.out, gRun, if_pos hneg]; rfl
            have HM := Lib.hid hm; clear hm
            go_wp2
            go_ret2
            rw [HM.out]
            exact ⟨_, rfl, RdV.nil _, hb0.trans (HBX.out.mono (by omega))⟩
        · obtain ⟨i, hsi, hik, _⟩ := seek_some (ws := ws) (ds := ds) (x := vs[j]) k (by omega)
          have hsn : seek ws ds vs[j] ws.length = i := by rw [seek_stay ws.length k hk (by omega), hsi]
          have hil : i < ws.length := by omega
          have hid : i < ds.length := by rw [HDL.out]; exact hil
          have hrun2 : gRun ws (List.replicate ws.length false) vs = (gRun ws (ds.set i true) (vs.drop (j + 1))).map ((out ++ [(i : Int)]) ++ ·) := by
            rw [HRUN.out, HDROP.out, gRun, hsn, if_neg (by omega), Option.map_map, Int.toNat_natCast]
            congr 1
            funext l
            simp
          have HRUN2 := Lib.hid hrun2; clear hrun2 hsn
          have hDx := HDN.out.later HBX.out hs2
          have d1 : wr.cell? ⟨w.heap.size + 2, i, none⟩ = some (.bool ds[i]) := by
            rw [cell_of_row wr _ i _ _ _ hDx]; simp [hid]
          have d2 : wr.frozen? ⟨w.heap.size + 2, i, none⟩ = false := frozen_of_row _ _ i _ _ hDx
          have HDX := Lib.hid hDx; clear hDx
          have hown := HOWN.out.kept (gb_of_below HBX.out) (by cases u7.ownBlock <;> simp)
          have HOWNX := Lib.hid hown; clear hown
          have hoN : Hid (some (w.heap.size + 2) ≠ u7.ownBlock) := fun h => by have := (HOWN.out.lt _ h.symm).1; omega
          have x1 : (0 : Int) ≤ (i : Int) := by omega
          have x2 : (i : Int) < (ws.length : Int) := by omega
          rw [hsi]
          clear hsi hneg
          rcases Nat.lt_or_ge k ws.length with hkl | hkl
          · go_wp2_with (at_builtin; go_must (refine wpList_app1_Try rfl _ _ rfl (w.heap.size + 3) u7 out rfl (by refine World.ownsRow.alloc ?_ _; exact ownsRow_setCell_below HOWNX.out (by show w.heap.size + 1 + 1 < w.heap.size + 3; omega) _) wr.heap.size i rfl (heap_new_at _ _ _ (by simp)) (by rw [HOUT.out]; omega) (by simp; omega) ?_); intro g cap w1 hown1 hgrow hat hlt1)
            go_roundw
            case rel =>
              have hlast : Hid (some (w.heap.size + 2) ≠ u7.ownBlock) := hoN
              refine ⟨j + 1, ds.set i true, out ++ [(i : Int)], by go_num, by omega, by rw [List.length_append, HOUT.out]; rfl, by rw [List.length_set]; exact HDL.out, ?_, ?_, hown1, HRUN2.out⟩
              · exact (((HBW.out.trans (HBX.out.mono (by omega))).setCell (by show w.heap.size + 2 ≤ w.heap.size + 1 + 1; omega) _).alloc (by simp; omega) _).grown hgrow (by simp; omega) (fun k' hk' => by have := (HOWN.out.lt k' hk').1; omega)
              · have hset : DoneB (wr.setCell ⟨w.heap.size + 1 + 1, i, none⟩ (.bool true)) (w.heap.size + 1 + 1) (ds.set i true) := DoneB.set HDX.out
                exact (hset.kept (World.grownBy_alloc _ _ none) (by simp)).kept hgrow hlast.out
            case measure => simp [intOf]; omega
          · go_wp2_with (at_builtin; go_must (refine wpList_app1_Try rfl _ _ rfl (w.heap.size + 3) u7 out rfl (by refine World.ownsRow.alloc ?_ _; exact ownsRow_setCell_below HOWNX.out (by show w.heap.size + 1 + 1 < w.heap.size + 3; omega) _) wr.heap.size i rfl (heap_new_at _ _ _ (by simp)) (by rw [HOUT.out]; omega) (by simp; omega) ?_); intro g cap w1 hown1 hgrow hat hlt1)
            go_roundw
            case rel =>
              have hlast : Hid (some (w.heap.size + 2) ≠ u7.ownBlock) := hoN
              refine ⟨j + 1, ds.set i true, out ++ [(i : Int)], by go_num, by omega, by rw [List.length_append, HOUT.out]; rfl, by rw [List.length_set]; exact HDL.out, ?_, ?_, hown1, HRUN2.out⟩
              · exact (((HBW.out.trans (HBX.out.mono (by omega))).setCell (by show w.heap.size + 2 ≤ w.heap.size + 1 + 1; omega) _).alloc (by simp; omega) _).grown hgrow (by simp; omega) (fun k' hk' => by have := (HOWN.out.lt k' hk').1; omega)
              · have hset : DoneB (wr.setCell ⟨w.heap.size + 1 + 1, i, none⟩ (.bool true)) (w.heap.size + 1 + 1) (ds.set i true) := DoneB.set HDX.out
                exact (hset.kept (World.grownBy_alloc _ _ none) (by simp)).kept hgrow hlast.out
            case measure => simp [intOf]; omega
    · have hm : gRun ws (List.replicate ws.length false) vs = some out := by
        rw [HRUN.out, List.drop_of_length_le (by omega)]; simp [gRun]
      have HM := Lib.hid hm; clear hm
      go_wp2
      go_ret2
      rw [HM.out]
      exact ⟨_, rfl, RdV.of_own HOWN.out (by show out.length ≤ _; rw [HOUT.out]; omega), hb0⟩
end Go.Proofs.Ytifpkdajfdlgeaa
