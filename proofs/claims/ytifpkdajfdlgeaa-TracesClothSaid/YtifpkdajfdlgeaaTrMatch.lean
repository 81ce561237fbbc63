/- Package traces: match. -/
import Derived.Test.YtifpkdajfdlgeaaTrRow
namespace Go.Proofs.Ytifpkdajfdlgeaa
open Go.RowKit

theorem heap_new_at (w : World) (o : Obj) (n : Nat) (h : n = w.heap.size) : (w.alloc o).heap[n]? = some o := by subst h; exact heap_alloc_new w o

/-- One work is taken off both of its rows. -/
def mStep (ws : List GW) (f : Nat → List Int) (x : GW) : Option (Int × (Nat → List Int)) :=
  match f x.pl.toNat, f (x.pl.toNat + 1) with
  | a :: la, b :: lb => if a = b ∧ ws[a.toNat]? = some x then some (a, fun q => if q = x.pl.toNat + 1 then lb else if q = x.pl.toNat then la else f q) else none
  | _, _ => none
def mRun (ws : List GW) : (Nat → List Int) → List GW → Option (List Int)
  | _, [] => some []
  | f, x :: l => match mStep ws f x with
    | none => none
    | some (a, f') => (mRun ws f' l).map (a :: ·)
def matchP (p : Int) (ws : List GW) (q : Int) (vs : List GW) : Option (List Int) :=
  if p = q ∧ ws.length = vs.length then mRun ws (rowK ws ws.length) vs else none

/-- What match returns. -/
def MatchPost (o : Option (List Int)) (w : World) (e : Ending) (w' : World) : Prop :=
  ∃ v, e = .returned (.tuple #[v, .bool o.isSome]) ∧ RdV w' v (o.getD []) ∧ Below w.heap.size w w'

set_option maxRecDepth 100000 in
set_option maxHeartbeats 2000000 in
theorem tmatch_no (ba bb : Nat) (p q : Int) (A B : Option Addr) (c d : Nat) (ws vs : List GW) (w : World)
    (_hws : ws.length ≤ 400) (_hvs : vs.length ≤ 400)
    (a0 : w.cell? ⟨ba, 0, none⟩ = some (.int .i64 p)) (a1 : w.cell? ⟨ba, 1, none⟩ = some (.slice A ws.length c))
    (b0 : w.cell? ⟨bb, 0, none⟩ = some (.int .i64 q)) (b1 : w.cell? ⟨bb, 1, none⟩ = some (.slice B vs.length d)) (hno : ¬ (p = q ∧ ws.length = vs.length)) :
    Calls Try.prog 44 #[.pointer (some ⟨ba, 0, none⟩), .pointer (some ⟨bb, 0, none⟩)] w (MatchPost none w) := by
  by_cases hpq : p = q
  · have hpb : (p != q) = false := by simp [hpq]
    have hl : ((ws.length : Int) != (vs.length : Int)) = true := by simp; intro h; exact hno ⟨hpq, by omega⟩
    have HP := Lib.hid hpq; clear hpq
    clear hno
    go_enter Try.func44, Try.ntmps44
    go_wp2
    go_quiet (fail)
    go_wp2
    go_ret2
    exact ⟨_, rfl, RdV.nil _, below_drewN (Below.refl _ _) _⟩
  · have hpb : (p != q) = true := by simp [hpq]
    have HP := Lib.hid hpq; clear hpq
    clear hno
    go_enter Try.func44, Try.ntmps44
    go_wp2
    go_quiet (fail)
    go_wp2
    go_ret2
    exact ⟨_, rfl, RdV.nil _, below_drewN (Below.refl _ _) _⟩

theorem wpList_make1_Try (w : World) {ops : Array Oper} {rest : List Oper} {o : Oper} {a : Act} {Q : Exit → Act → World → Prop}
    (hg : o.guard = none) (l c : Operand) (hop : o.op = Op.makeSlice 30 l c) (base : Nat) (kl kc : IntKind) (C : Int) (n : Nat) (hl : a.eval l = .int kl 0) (hc : a.eval c = .int kc C) (hC : C = (n : Int)) (hn : n ≤ 1000000000) (b4 : base ≤ w.heap.size)
    (hK : ∀ w', w'.ownsRow base 3 1 (.slice (some ⟨w.heap.size, 0, none⟩) 0 n) ([] : List Int).length (ints []) → w.grownBy w' none → wpList Try.prog ops Q rest (a.put o.dst (.slice (some ⟨w.heap.size, 0, none⟩) 0 n)) w') :
    wpList Try.prog ops Q (o :: rest) a w := by
  obtain ⟨i0, hi, hz0, hz1, hz2⟩ := info_parts info_int_Try
  exact wpList_make_own w hg l c 30 hop base 3 i0 (.int .i64 0) 1 Try.underlying30 hi hz0 hz1 kl kc C n hl hc hC (by rw [hz2]; omega) (by unfold maxLen; omega) b4 hK

/-- Every number in the rows is a work's. -/
def InW (n : Nat) (f : Nat → List Int) : Prop := ∀ p, ∀ x ∈ f p, ∃ i : Nat, i < n ∧ x = i

theorem inW_rowK (ws : List GW) : InW ws.length (rowK ws ws.length) := by
  intro p x hx
  simp only [rowK, List.mem_map, List.mem_filter, List.mem_range] at hx
  obtain ⟨i, ⟨h1, _⟩, rfl⟩ := hx
  exact ⟨i, h1, rfl⟩

set_option maxRecDepth 100000 in
set_option maxHeartbeats 4000000 in
theorem tmatch_yes (ba bb : Nat) (p q : Int) (A B : Option Addr) (c d : Nat) (ws vs : List GW) (w : World)
    (hws : OkS p ws) (hvs : OkS q vs) (ha : RdW w A ws) (hb : RdW w B vs)
    (a0 : w.cell? ⟨ba, 0, none⟩ = some (.int .i64 p)) (a1 : w.cell? ⟨ba, 1, none⟩ = some (.slice A ws.length c))
    (b0 : w.cell? ⟨bb, 0, none⟩ = some (.int .i64 q)) (b1 : w.cell? ⟨bb, 1, none⟩ = some (.slice B vs.length d)) (hpq : p = q) (hl : ws.length = vs.length) :
    Calls Try.prog 44 #[.pointer (some ⟨ba, 0, none⟩), .pointer (some ⟨bb, 0, none⟩)] w (MatchPost (mRun ws (rowK ws ws.length) vs) w) := by
  have hl400 : vs.length ≤ 400 := hvs.all.2.2.1
  have hpb : (p != q) = false := by simp [hpq]
  have hlb : ((ws.length : Int) != (vs.length : Int)) = false := by simp; omega
  have HP := Lib.hid hpq; clear hpq
  have HL := Lib.hid hl; clear hl
  have HA := Lib.hid ha; clear ha
  have HB := Lib.hid hb; clear hb
  have A0 := Lib.hid a0; have A1 := Lib.hid a1; have B0 := Lib.hid b0; have B1 := Lib.hid b1
  have hb1lt := World.block_lt_of_cell? w _ b1
  go_enter Try.func44, Try.ntmps44
  go_wp2
  go_quiet (fail)
  go_wp2_with (first | (go_at_call 51; refine (trow_ ba p A c ws _ hws (HA.out.later (below_drewN (Below.refl _ _) _) (Nat.le_refl _)) A1.out).mono ?_; rintro e W0 ⟨rfl, hrw, hbw0⟩; have b1' := below_at hbw0 (Nat.le_refl _) (show (w.drewN nq).cell? _ = _ from B1.out)) | (at_make; refine wpList_make1_Try _ rfl _ _ rfl W0.heap.size _ _ _ vs.length rfl rfl rfl (by omega) (Nat.le_refl _) ?_; intro W1 hown0 hgrow0; have b1'' := hgrow0.cell b1' (by simp)))
  have hV0 := (Views.of_rws hrw).after hgrow0 (fun k hk => by cases hk) hrw.lt
  have HW : Hid (InW ws.length (rowK ws ws.length)) := inW_rowK ws
  have hbw1 : Below w.heap.size w W0 := (below_drewN (Below.refl _ _) nq).trans hbw0
  have hRW : w.heap.size < W0.heap.size := hrw.lt
  clear hrw hgrow0 hbw0 b1''
  go_loopw [7, 47] (fun v i wr => ∃ (k : Nat) (f : Nat → List Int) (out : List Int), i = .int .i64 k ∧ k ≤ vs.length ∧ out.length = k ∧ Views W0 wr w.heap.size 102 24 f ∧ InW ws.length f ∧
      wr.ownsRow W0.heap.size 3 1 v out.length (ints out) ∧ mRun ws (rowK ws ws.length) vs = (mRun ws f (vs.drop k)).map (out ++ ·)) (fun _ i _ => vs.length - (intOf i).toNat)
  case atStart => exact ⟨0, _, [], rfl, Nat.zero_le _, rfl, hV0, HW.out, hown0, by simp⟩
  case round =>
    clear hV0 hown0
    obtain ⟨k, f, out, rfl, hk, hout, hV, hIn, hown, hrun⟩ := hrel
    have HRUN := Lib.hid hrun; clear hrun
    have HIN := Lib.hid hIn; clear hIn
    have HOUT := Lib.hid hout; clear hout
    have HOWN := Lib.hid hown; clear hown
    have hbw : Below w.heap.size w wr := hbw1.trans (GB.below hV.grown (Nat.le_refl _) hbw1.size)
    by_cases hlt : k < vs.length
    · obtain ⟨b, off, rfl, hbB, h1, h2, h3⟩ := (HB.out.later hbw (Nat.le_refl _)).at_ hlt
      obtain ⟨_, _, hq24, hall⟩ := hvs.all
      obtain ⟨_, hx1, hx2, _⟩ := hall vs[k] (List.getElem_mem hlt)
      clear hall
      obtain ⟨P, hP⟩ := Int.eq_ofNat_of_zero_le hx1
      have HPe := Lib.hid hP
      rw [hP] at h2
      have hP22 : P ≤ 22 := by omega
      have hP0 : (0 : Int) ≤ (P : Int) := by omega
      have hP24 : (P : Int) < 24 := by omega
      have w1e : IntKind.i64.wrap ((P : Int) + 1) = (P : Int) + 1 := IntWalk.i64_in _ (by omega)
      have w2e : (0 : Int) ≤ (P : Int) + 1 := by omega
      have w3e : (P : Int) + 1 < 24 := by omega
      have w4e : ((P : Int) + 1).toNat = P + 1 := by omega
      have hRlt : w.heap.size < wr.heap.size := hV.lt
      obtain ⟨LA, lc, hlc, hlf, hln, hlm, hlr⟩ := hV.at_ (p := P) (by omega)
      obtain ⟨RA, rc, hrc, hrf, hrn, hrm, hrr⟩ := hV.at_ (p := P + 1) (by omega)
      have hnum : vs[k].pl.toNat = P := by omega
      have HNUM := Lib.hid hnum; clear hnum hP hx1 hx2
      have HDROP : Hid (vs.drop k = vs[k] :: vs.drop (k + 1)) := List.drop_eq_getElem_cons hlt
      have HGR := hV.grown
      have HV := Lib.hid hV; clear hV
      rcases hfP : f P with _ | ⟨x, la⟩
      · rw [hfP] at hlc hln
        simp only [List.length_nil] at hlc hln
        clear hlr hrr
        have hm : mRun ws (rowK ws ws.length) vs = none := by
          rw [HRUN.out, HDROP.out]; unfold mRun mStep; rw [HNUM.out, hfP]; rfl
        have HM := Lib.hid hm; clear hm hfP
        go_wp2
        go_quiet (fail)
        go_wp2
        go_quiet (fail)
        clear w1e w2e w3e w4e
        go_wp2
        go_ret2
        rw [HM.out]
        exact ⟨_, rfl, RdV.nil _, below_drewN (below_drewN (hbw.alloc (by omega) _) _) _⟩
      · rw [hfP] at hlc hln hlr
        simp only [List.length_cons] at hlc hln
        obtain ⟨b1, o1, rfl, hb1R, hb1W, hcl⟩ := hlr (by simp)
        clear hlr
        have hc1 := GB.cell HGR (hcl 0 (by simp)) hb1R
        simp only [Nat.add_zero, List.getElem_cons_zero] at hc1
        have HCL := Lib.hid hcl; clear hcl
        rcases hfQ : f (P + 1) with _ | ⟨y, lb⟩
        · rw [hfQ] at hrc hrn
          simp only [List.length_nil] at hrc hrn
          clear hrr
          have hm : mRun ws (rowK ws ws.length) vs = none := by
            rw [HRUN.out, HDROP.out]; unfold mRun mStep; rw [HNUM.out, hfP, hfQ]; rfl
          have HM := Lib.hid hm; clear hm hfQ hfP
          have hz : (((la.length : Int) + 1) == 0) = false := by simp; omega
          go_wp2
          go_quiet (fail)
          go_wp2
          go_quiet (fail)
          clear w1e w2e w3e w4e
          go_wp2
          go_ret2
          rw [HM.out]
          exact ⟨_, rfl, RdV.nil _, below_drewN (below_drewN (hbw.alloc (by omega) _) _) _⟩
        · rw [hfQ] at hrc hrn hrr
          simp only [List.length_cons] at hrc hrn
          obtain ⟨b2, o2, rfl, hb2R, hb2W, hcr⟩ := hrr (by simp)
          clear hrr
          have hc2 := GB.cell HGR (hcr 0 (by simp)) hb2R
          simp only [Nat.add_zero, List.getElem_cons_zero] at hc2
          have HCR := Lib.hid hcr; clear hcr
          have hz1 : (((la.length : Int) + 1) == 0) = false := by simp; omega
          have hz2 : (((lb.length : Int) + 1) == 0) = false := by simp; omega
          have hb1lt : b1 < wr.heap.size := Nat.lt_of_lt_of_le hb1W HGR.size
          have hb2lt : b2 < wr.heap.size := Nat.lt_of_lt_of_le hb2W HGR.size
          have hlap : (0 : Int) < (la.length : Int) + 1 := by omega
          have hlbp : (0 : Int) < (lb.length : Int) + 1 := by omega
          by_cases hxy : x = y
          · subst hxy
            obtain ⟨i, hi, hxi⟩ := HIN.out P x (by rw [hfP]; simp)
            subst hxi
            obtain ⟨b3, o3, hA3, hb3, g1, g2, g3⟩ := (HA.out.later hbw (Nat.le_refl _)).at_ hi
            have a1w := below_at hbw (Nat.le_refl _) A1.out
            subst hA3
            have hi0 : (0 : Int) ≤ (i : Int) := by omega
            have hil : (i : Int) < (ws.length : Int) := by omega
            have hbalt := World.block_lt_of_cell? wr _ a1w
            have hxb : ((i : Int) != (i : Int)) = false := by simp
            by_cases hk1 : ws[i].kind = vs[k].kind
            rotate_left
            · have hne : ¬ ws[i] = vs[k] := fun h => hk1 (by rw [h])
              have hm : mRun ws (rowK ws ws.length) vs = none := by
                rw [HRUN.out, HDROP.out]; unfold mRun mStep; rw [HNUM.out, hfP, hfQ]
                simp only [Int.toNat_natCast, List.getElem?_eq_getElem hi, true_and, Option.some.injEq, if_neg hne]
                rfl
              have HM := Lib.hid hm; clear hm hfQ hfP hne
              go_wp2
              go_quiet (fail)
              go_wp2
              go_quiet (fail)
              clear w1e w2e w3e w4e
              go_wp2
              go_ret2
              rw [HM.out]
              exact ⟨_, rfl, RdV.nil _, below_drewN (below_drewN (hbw.alloc (by omega) _) _) _⟩
            by_cases hk2 : ws[i].pl = (P : Int)
            rotate_left
            · have hne : ¬ ws[i] = vs[k] := fun h => hk2 (by rw [h, HPe.out])
              rw [hk1] at g1
              clear hk1
              have hm : mRun ws (rowK ws ws.length) vs = none := by
                rw [HRUN.out, HDROP.out]; unfold mRun mStep; rw [HNUM.out, hfP, hfQ]
                simp only [Int.toNat_natCast, List.getElem?_eq_getElem hi, true_and, Option.some.injEq, if_neg hne]
                rfl
              have HM := Lib.hid hm; clear hm hfQ hfP hne
              go_wp2
              go_quiet (fail)
              go_wp2
              go_quiet (fail)
              clear w1e w2e w3e w4e
              go_wp2
              go_ret2
              rw [HM.out]
              exact ⟨_, rfl, RdV.nil _, below_drewN (below_drewN (hbw.alloc (by omega) _) _) _⟩
            by_cases hk3 : ws[i].word.toList = vs[k].word.toList
            rotate_left
            · have hne : ¬ ws[i] = vs[k] := fun h => hk3 (by rw [h])
              rw [hk1] at g1
              rw [hk2] at g2
              clear hk1 hk2
              have hm : mRun ws (rowK ws ws.length) vs = none := by
                rw [HRUN.out, HDROP.out]; unfold mRun mStep; rw [HNUM.out, hfP, hfQ]
                simp only [Int.toNat_natCast, List.getElem?_eq_getElem hi, true_and, Option.some.injEq, if_neg hne]
                rfl
              have HM := Lib.hid hm; clear hm hfQ hfP hne
              go_wp2
              go_quiet (fail)
              go_wp2
              go_quiet (fail)
              clear w1e w2e w3e w4e
              go_wp2
              go_ret2
              rw [HM.out]
              exact ⟨_, rfl, RdV.nil _, below_drewN (below_drewN (hbw.alloc (by omega) _) _) _⟩
            have heq : ws[i] = vs[k] := by
              have h3 : ws[i].word = vs[k].word := by rw [ByteArray.toList_eq, ByteArray.toList_eq] at hk3; exact ByteArray.ext (Array.ext' hk3)
              have h2 : ws[i].pl = vs[k].pl := by rw [hk2, HPe.out]
              cases hw : ws[i]; cases hv : vs[k]; rw [hw, hv] at hk1 h2 h3; simp_all
            rw [hk1] at g1
            rw [hk2] at g2
            rw [show ws[i].word = vs[k].word by rw [heq]] at g3
            clear hk1 hk2 hk3
            have HEQ := Lib.hid heq; clear heq
            have hrun2 : mRun ws (rowK ws ws.length) vs = (mRun ws (fun q => if q = P + 1 then lb else if q = P then la else f q) (vs.drop (k + 1))).map ((out ++ [(i : Int)]) ++ ·) := by
              rw [HRUN.out, HDROP.out, mRun, mStep, HNUM.out, hfP, hfQ]
              simp only [Int.toNat_natCast, List.getElem?_eq_getElem hi, HEQ.out, and_self, if_true, Option.map_map]
              congr 1
              funext l
              simp
            have HRUN2 := Lib.hid hrun2; clear hrun2
            have HIN2 : Hid (InW ws.length (fun q => if q = P + 1 then lb else if q = P then la else f q)) := by
              intro q z hz
              simp only at hz
              split at hz
              · exact HIN.out (P + 1) z (by rw [hfQ]; exact List.mem_cons_of_mem _ hz)
              · split at hz
                · exact HIN.out P z (by rw [hfP]; exact List.mem_cons_of_mem _ hz)
                · exact HIN.out q z hz
            go_wp2
            go_quiet (fail)
            go_wp2
            go_quiet (fail)
            clear w1e w2e w3e w4e
            have hoN : Hid (some w.heap.size ≠ u7.ownBlock) := fun h => by have := (HOWN.out.lt _ h.symm).1; omega
            have hWs := HGR.size
            go_wp2_with (at_builtin; go_must (refine wpList_app1_Try rfl _ _ rfl W0.heap.size u7 out rfl (by repeat (first | exact HOWN.out | refine World.ownsRow.alloc ?_ _ | refine own_drewN ?_ _)) (wr.heap.size + 1) i rfl (heap_new_at _ _ _ (by simp)) (by rw [HOUT.out]; omega) (by simp; omega) ?_); intro g cap w1 hown1 hgrow hat hlt1; have q1 : w1.cell? ⟨w.heap.size, P, none⟩ = some (.slice (some ⟨b1, o1, none⟩) (la.length + 1) lc) := (hgrow.cell_far ⟨w.heap.size, P, none⟩ (by simp; omega) hoN.out).trans (by go_simp); have q2 : w1.cell? ⟨w.heap.size, P + 1, none⟩ = some (.slice (some ⟨b2, o2, none⟩) (lb.length + 1) rc) := (hgrow.cell_far ⟨w.heap.size, P + 1, none⟩ (by simp; omega) hoN.out).trans (by go_simp); have q3 : w1.frozen? ⟨w.heap.size, P, none⟩ = false := (hgrow.frozen_far ⟨w.heap.size, P, none⟩ (by simp; omega) hoN.out).trans (by go_simp); have q4 : w1.frozen? ⟨w.heap.size, P + 1, none⟩ = false := (hgrow.frozen_far ⟨w.heap.size, P + 1, none⟩ (by simp; omega) hoN.out).trans (by go_simp))
            have HGW := Lib.hid hgrow
            have HO1 := Lib.hid hown1
            have HAT := Lib.hid hat
            clear hgrow hown1 hat
            have hone : (1 : Int) ≤ (la.length : Int) + 1 := by omega
            have hone' : (1 : Int) ≤ (lb.length : Int) + 1 := by omega
            go_region
            go_wp2
            go_roundw
            case rel =>
              have hV1 := (((HV.out.alloc (.cells #[.int .i64 vs[k].kind, .int .i64 (P : Int), .string vs[k].word] 40)).drewN _).alloc (.cells #[.int .i64 (i : Int)] 3)).after HGW.out (fun j hj => (HOWN.out.lt j hj).1) hRW
              refine ⟨k + 1, (fun q => if q = P + 1 then lb else if q = P then la else f q), out ++ [(i : Int)], by go_num, by omega, by rw [List.length_append, HOUT.out]; rfl, ?_, HIN2.out, ?_, HRUN2.out⟩
              · refine (hV1.drew.store (p := P) (xs := la) (by omega) (by omega) fun hl => ?_).store (p := P + 1) (xs := lb) (by omega) (by omega) fun hl => ?_
                · rw [if_neg (by omega)]
                  exact ⟨b1, o1 + 1, rfl, hb1R, hb1W, fun j hj => by have := HCL.out (j + 1) (by simp; omega); rw [show o1 + 1 + j = o1 + (j + 1) by omega, this]; simp⟩
                · rw [if_neg (by omega)]
                  exact ⟨b2, o2 + 1, rfl, hb2R, hb2W, fun j hj => by have := HCR.out (j + 1) (by simp; omega); rw [show o2 + 1 + j = o2 + (j + 1) by omega, this]; simp⟩
              · exact ownsRow_setCell_below (ownsRow_setCell_below HO1.out.drew hRW _) hRW _
            case measure => simp [intOf]; omega
          · have hxb : (x != y) = true := by simpa using hxy
            have hm : mRun ws (rowK ws ws.length) vs = none := by
              rw [HRUN.out, HDROP.out]; unfold mRun mStep; rw [HNUM.out, hfP, hfQ]; simp only [hxy, false_and, if_false]; rfl
            have HM := Lib.hid hm; clear hm hfQ hfP hxy
            go_wp2
            go_quiet (fail)
            go_wp2
            go_quiet (fail)
            clear w1e w2e w3e w4e
            go_wp2
            go_ret2
            rw [HM.out]
            exact ⟨_, rfl, RdV.nil _, below_drewN (below_drewN (hbw.alloc (by omega) _) _) _⟩
    · have hm : mRun ws (rowK ws ws.length) vs = some out := by
        rw [HRUN.out, List.drop_of_length_le (by omega)]; simp [mRun]
      have HM := Lib.hid hm; clear hm
      go_wp2
      go_ret2
      rw [HM.out]
      exact ⟨_, rfl, RdV.of_own HOWN.out (by show out.length ≤ _; rw [HOUT.out]; omega), hbw⟩
end Go.Proofs.Ytifpkdajfdlgeaa
