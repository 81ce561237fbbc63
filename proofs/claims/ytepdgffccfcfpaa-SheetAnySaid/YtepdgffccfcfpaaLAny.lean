/- The law SheetAny returns true. -/
import Derived.Test.YtepdgffccfcfpaaEx4
import Derived.Test.YtepdgffccfcfpaaAnyP
import Derived.Test.YtepdgffccfcfpaaLFar4
namespace Go.Proofs.Ytepdgffccfcfpaa
open Go.RowKit

theorem box1_setA {w w1 : World} {p : Int} {A : Option Addr} {c n : Nat} (h : Box1 w w1 p A c n) {q : Addr} (hq : q.block ≠ w.heap.size) (u : Value) : Box1 w (w1.setCell q u) p A c n :=
  ⟨(World.cell?_setCell_other _ _ _ _ (fun e => hq (by rw [e]))).trans h.1, (World.cell?_setCell_other _ _ _ _ (fun e => hq (by rw [e]))).trans h.2.1, by simpa using h.2.2⟩
theorem FB.laterA {w w' : World} {R m : Nat} {g : Nat → E4} (h : FB w R m g) (hb : Below w.heap.size w w') : FB w' R m g := (hb.block R h.lt).trans h
theorem FB.setA {w : World} {R m : Nat} {g : Nat → E4} (h : FB w R m g) {p : Addr} (hp : p.block ≠ R) (u : Value) : FB (w.setCell p u) R m g := (heap_setCell_other w p R u (fun e => hp e.symm)).trans h
theorem IdB.laterA {w w' : World} {R m : Nat} {g : Nat → Int} (h : IdB w R m g) (hb : Below w.heap.size w w') : IdB w' R m g := (hb.block R (lt_of_block h)).trans h

set_option maxRecDepth 100000 in
set_option maxHeartbeats 8000000 in
theorem lawAny_ (p : Int) (A L : Option Addr) (c lc : Nat) (ws : List GW) (l : List Int) (w : World) (ha : ShIn w p A ws) (hl : RdI w L l) :
    Calls Try.prog 7 #[.agg #[.int .i64 p, .slice A ws.length c], .slice L l.length lc] w fun e w' => e = .returned (.bool true) ∧ Below w.heap.size w w' := by
  have hln := hl.1
  have hb2 : Below w.heap.size w (w.alloc (.cells #[.int .i64 p, .slice A ws.length c] 24)) := (Below.refl _ _).alloc (Nat.le_refl _) _
  have Y0 := Lib.hid hb2; clear hb2
  have X0 := Lib.hid (Box1.made w p A c ws.length 24)
  have HA := Lib.hid ha; have HL := Lib.hid hl; clear ha hl
  go_enter Try.func7, Try.ntmps7
  go_wp2_with fail
  refine (far4_ p A c ws _ (HA.out.rd.later Y0.out (Nat.le_refl _))).mono ?_; rintro e w1 ⟨z, rfl, _, hb1⟩
  cases z
  rotate_left
  · have X1 := Lib.hid (X0.out.later hb1); have Y1 := Lib.hid (Y0.out.trans (hb1.mono Y0.out.size)); clear hb1; obtain ⟨c1, c2, s1⟩ := X1.out
    go_wp2_with fail
    clear c1 c2 s1
    refine (shown_ _).mono ?_; rintro e w8 ⟨rfl, hb1⟩
    go_wp2
    go_ret
    exact ⟨rfl, Y1.out.trans (hb1.mono Y1.out.size)⟩
  by_cases hbig : (2000 : Int) < (l.length : Int)
  · have X1 := Lib.hid (X0.out.later hb1); have Y1 := Lib.hid (Y0.out.trans (hb1.mono Y0.out.size)); clear hb1; obtain ⟨c1, c2, s1⟩ := X1.out
    go_wp2_with fail
    clear c1 c2 s1
    refine (shown_ _).mono ?_; rintro e w8 ⟨rfl, hb1⟩
    go_wp2
    go_ret
    exact ⟨rfl, Y1.out.trans (hb1.mono Y1.out.size)⟩
  have X1 := Lib.hid (X0.out.later hb1); have Y1 := Lib.hid (Y0.out.trans (hb1.mono Y0.out.size)); clear hb1; obtain ⟨c1, c2, s1⟩ := X1.out
  go_wp2_with fail
  clear c1 c2 s1
  refine (rCheck_ _ _ _ _ _ HA.out.lo HA.out.hi (HA.out.rd.later Y1.out (Nat.le_refl _))).mono ?_; rintro e w2 ⟨rfl, hb1⟩
  by_cases he : errSheet p ws = 0
  rotate_left
  · have heb : (errSheet p ws != 0) = true := by simpa using he
    generalize errSheet p ws = E at *
    have X2 := Lib.hid (X1.out.later hb1); have Y2 := Lib.hid (Y1.out.trans (hb1.mono Y1.out.size)); clear hb1; obtain ⟨c1, c2, s1⟩ := X2.out
    go_wp2_with fail
    clear c1 c2 s1
    refine (shown_ _).mono ?_; rintro e w8 ⟨rfl, hb1⟩
    go_wp2
    go_ret
    exact ⟨rfl, Y2.out.trans (hb1.mono Y2.out.size)⟩
  rw [he]
  obtain ⟨hp2, hp24, hn, hall⟩ := okAll he
  have hok := he
  clear he
  have HOK := Lib.hid hok; have HALL := Lib.hid hall; clear hok hall
  have X2 := Lib.hid (X1.out.later hb1); have Y2 := Lib.hid (Y1.out.trans (hb1.mono Y1.out.size)); clear hb1; obtain ⟨c1, c2, s1⟩ := X2.out
  go_wp2_with fail
  clear c1 c2 s1
  refine (rOrder_ p A L c lc ws l _ HOK.out (HA.out.rd.later Y2.out (Nat.le_refl _)) (HL.out.later Y2.out (Nat.le_refl _))).mono ?_; rintro e w3 ⟨rfl, hb1⟩
  by_cases ho : ordQ ws l = true
  rotate_left
  · have ho' : ordQ ws l = false := by simpa using ho
    rw [ho']
    clear ho ho'
    have X3 := Lib.hid (X2.out.later hb1); have Y3 := Lib.hid (Y2.out.trans (hb1.mono Y2.out.size)); clear hb1; obtain ⟨c1, c2, s1⟩ := X3.out
    go_wp2_with fail
    clear c1 c2 s1
    refine (shown_ _).mono ?_; rintro e w8 ⟨rfl, hb1⟩
    go_wp2
    go_ret
    exact ⟨rfl, Y3.out.trans (hb1.mono Y3.out.size)⟩
  rw [ho]
  have hoq : (oRun ws.length (plsOf ws) 0 l).isSome = true ∧ l.length = ws.length := by
    unfold ordQ at ho
    rw [Bool.and_eq_true, decide_eq_true_eq] at ho
    exact ⟨ho.2, ho.1⟩
  clear ho
  obtain ⟨hor, hlw⟩ := hoq
  obtain ⟨P, rfl⟩ := Int.eq_ofNat_of_zero_le (show 0 ≤ p by omega)
  have HOR := Lib.hid hor; have HLW := Lib.hid hlw; clear hor hlw
  have X3 := Lib.hid (X2.out.later hb1); have Y3 := Lib.hid (Y2.out.trans (hb1.mono Y2.out.size)); clear hb1; obtain ⟨c1, c2, s1⟩ := X3.out
  go_wp2_with fail
  clear c1 c2 s1
  refine (sEdges_ok P A c ws _ HOK.out (HA.out.rd.later Y3.out (Nat.le_refl _))).mono ?_; rintro e w4 ⟨R, rfl, hE, hb1⟩
  have X4 := Lib.hid (X3.out.later hb1); have Y4 := Lib.hid (Y3.out.trans (hb1.mono Y3.out.size)); clear hb1; obtain ⟨c1, c2, s1⟩ := X4.out
  have hE' : FB w4 R (P + 2 * ws.length) (edG P ws) := hE
  have v1 : IntKind.i64.wrap (2 * (ws.length : Int)) = 2 * (ws.length : Int) := IntWalk.i64_in _ (by omega)
  have v2 : IntKind.i64.wrap ((P : Int) + 2 * (ws.length : Int)) = (P : Int) + 2 * (ws.length : Int) := IntWalk.i64_in _ (by omega)
  have hmk := run_make_row' (P := Try.prog) 33 3 (.int .i64 0) 8 Try.underlying33 infoI_Try rfl .i64 .i64 P (by omega) (by omega)
  have hm0 : IdB (w4.alloc (.cells (madeCells #[.int .i64 0] P) 3)) w4.heap.size P (fun q => if q < 0 then (q : Int) else 0) := by
    unfold IdB
    rw [heap_alloc_new, idCells_zero]
    simp
  have hx5 : Box1 w (w4.alloc (.cells (madeCells #[.int .i64 0] P) 3)) P A c ws.length := X4.out.later ((Below.refl _ _).alloc (Nat.le_refl _) _)
  have hy5 : Below w.heap.size w (w4.alloc (.cells (madeCells #[.int .i64 0] P) 3)) := Y4.out.alloc Y4.out.size _
  have hE5 := hE'.laterA ((Below.refl w4.heap.size w4).alloc (Nat.le_refl _) (.cells (madeCells #[.int .i64 0] P) 3))
  have hRl := hE'.lt
  have hs4 : w.heap.size < w4.heap.size := s1
  clear hE
  have HEp := Lib.hid hE'; have HM0 := Lib.hid hm0; have HX5 := Lib.hid hx5; have HY5 := Lib.hid hy5; have HE5 := Lib.hid hE5; clear hE' hm0 hx5 hy5 hE5
  go_wp2
  clear hmk c1 c2 s1
  go_loopw [8] (fun iv wr => ∃ k : Nat, iv = .int .i64 k ∧ k ≤ P ∧ IdB wr w4.heap.size P (fun q => if q < k then (q : Int) else 0) ∧ FB wr R (P + 2 * ws.length) (edG P ws) ∧ Box1 w wr P A c ws.length ∧ Below w.heap.size w wr) (fun iv _ => P - (intOf iv).toNat)
  case atStart => exact ⟨0, rfl, Nat.zero_le _, HM0.out, HE5.out, HX5.out, HY5.out⟩
  case round =>
    clear HM0 HE5 HX5 HY5
    obtain ⟨k, rfl, hk, hI, hE, hx, hbw⟩ := hrel
    obtain ⟨c0, c1, s1⟩ := hx
    have hx0 : Hid (Box1 w wr P A c ws.length) := ⟨c0, c1, s1⟩
    have hIl := lt_of_block hI
    have hEl := hE.lt
    by_cases hlt : k < P
    · have hst : Sta P (plsOf ws) k 0 k (-1) k := .inl ⟨hlt, rfl, rfl, rfl, rfl⟩
      obtain ⟨g1, g2⟩ := edG_born HOK.out hlt hst (Nat.zero_le _)
      have e1 := hI.at_ hlt
      have e2 := hI.free k
      obtain ⟨f0, f1, _, _⟩ := (hE.setA (p := ⟨w4.heap.size, k, none⟩) (by show w4.heap.size ≠ R; omega) (.int .i64 (k : Int))).at_ (p := k) (by omega)
      obtain ⟨h0, h1, _, _⟩ := hE.at_ (p := k) (by omega)
      rw [g1] at f0 h0
      rw [g2] at f1 h1
      have hI2 : IdB (wr.setCell ⟨w4.heap.size, k, none⟩ (.int .i64 (k : Int))) w4.heap.size P (fun q => if q < k + 1 then (q : Int) else 0) := (hI.put k (k : Int)).congr fun q _ => by
        unfold updF
        by_cases e : q = k
        · subst e; simp
        · rw [if_neg e]
          show (if q < k then (q : Int) else 0) = _
          by_cases h : q < k
          · rw [if_pos h, if_pos (by omega)]
          · rw [if_neg h, if_neg (by omega)]
      have hE2 := hE.setA (p := ⟨w4.heap.size, k, none⟩) (by show w4.heap.size ≠ R; omega) (.int .i64 (k : Int))
      have hx2 := box1_setA hx0.out (q := ⟨w4.heap.size, k, none⟩) (by show w4.heap.size ≠ w.heap.size; omega) (.int .i64 (k : Int))
      have hb2 := hbw.setCell (p := ⟨w4.heap.size, k, none⟩) (by show w.heap.size ≤ w4.heap.size; omega) (.int .i64 (k : Int))
      have x1 : (0 : Int) ≤ (k : Int) := by omega
      have x2 : (k : Int) < (P : Int) := by omega
      have x3 : (k : Int) < (P : Int) + 2 * (ws.length : Int) := by omega
      have x4 : R ≠ w4.heap.size := by omega
      have HI := Lib.hid hI; have HE := Lib.hid hE; have HBW := Lib.hid hbw; have HI2 := Lib.hid hI2; have HE2 := Lib.hid hE2; have HX2 := Lib.hid hx2; have HB2 := Lib.hid hb2; clear hI hE hbw hI2 hE2 hx2 hb2
      go_wp2
      go_roundw
      case rel => exact ⟨k + 1, by go_num, by omega, HI2.out, HE2.out, HX2.out, HB2.out⟩
      case measure => simp [intOf]; omega
    · obtain rfl : k = P := by omega
      have hl0 : LnS k ws.length (plsOf ws) 0 (fun q => if q < k then (q : Int) else 0) := lnS_start fun q hq => by
        show (if q < k then (q : Int) else 0) = _
        rw [if_pos hq]
      have hc0 : ClS (plsOf ws) 0 := fun b hb => by simp at hb
      have HI := Lib.hid hI; have HE := Lib.hid hE; have HBW := Lib.hid hbw; have HL0 := Lib.hid hl0; have HC0 := Lib.hid hc0; clear hI hE hbw hl0 hc0
      go_wp2
      go_loopw [9] (fun iv wr => ∃ (j S : Nat) (g : Nat → Int), iv = .int .i64 j ∧ j ≤ l.length ∧ oRun ws.length (plsOf ws) 0 (l.take j) = some S ∧ ClS (plsOf ws) S ∧ LnS k ws.length (plsOf ws) S g ∧ IdB wr w4.heap.size k g ∧ FB wr R (k + 2 * ws.length) (edG k ws) ∧ Box1 w wr k A c ws.length ∧ Below w.heap.size w wr) (fun iv _ => l.length - (intOf iv).toNat)
      case atStart => exact ⟨0, 0, _, rfl, Nat.zero_le _, rfl, HC0.out, HL0.out, HI.out, HE.out, hx0.out, HBW.out⟩
      case round =>
        clear HL0 HC0 HI HE HBW hx0 c0 c1 s1 hIl hEl
        obtain ⟨j, S, g, rfl, hj, hrun, hcl, hln2, hI, hE, hx, hbw⟩ := hrel
        obtain ⟨c0, c1, s1⟩ := hx
        have hx0 : Hid (Box1 w wr k A c ws.length) := ⟨c0, c1, s1⟩
        have hIl := lt_of_block hI
        have hEl := hE.lt
        by_cases hlt : j < l.length
        · obtain ⟨bl, ol, rfl, hbl, l1⟩ := (HL.out.later hbw (Nat.le_refl _)).at_ hlt
          have htk : l.take (j + 1) = l.take j ++ [l[j]] := List.take_succ_eq_append_getElem hlt
          have hrun2 : oRun ws.length (plsOf ws) 0 (l.take (j + 1)) = oStep ws.length (plsOf ws) S l[j] := by
            rw [htk, oRun_snoc, hrun]; rfl
          obtain ⟨S2, hS2⟩ : ∃ S2, oStep ws.length (plsOf ws) S l[j] = some S2 := by
            cases hs : oStep ws.length (plsOf ws) S l[j] with
            | some S2 => exact ⟨S2, rfl⟩
            | none =>
              have h1 := oRun_stop _ _ l (j + 1) (by omega) (hrun2.trans hs)
              have h2 := HOR.out
              rw [h1] at h2; cases h2
          have hcl2 := oRun_cl hcl hS2
          obtain ⟨⟨y1, y2, hbit, hdone⟩, hS3⟩ := oStep_some hS2
          rw [hS2] at hrun2
          generalize l[j] = x at *
          obtain ⟨i, rfl⟩ := Int.eq_ofNat_of_zero_le y1
          rw [Int.toNat_natCast] at hbit hdone hS3
          have hil : i < ws.length := by omega
          have hnx := fun q f => lnS_next (q := q) (f := f) hcl hbit hdone
          have hput : LnS k ws.length (plsOf ws) S2 (lnTo k ws g i 2) := by
            rw [hS3]
            refine lnS_put hcl hbit hil hln2 ?_ ?_ ?_
            · show updF (updF g (plsOf ws i + 0) ((k : Int) + 2 * (i : Int) + (0 : Nat))) (plsOf ws i + 1) ((k : Int) + 2 * (i : Int) + (1 : Nat)) (plsOf ws i) = _
              rw [updF_other _ _ (by omega), Nat.add_zero, updF_same]
            · show updF (updF g (plsOf ws i + 0) ((k : Int) + 2 * (i : Int) + (0 : Nat))) (plsOf ws i + 1) ((k : Int) + 2 * (i : Int) + (1 : Nat)) (plsOf ws i + 1) = _
              rw [updF_same]
            · intro q hq
              unfold tk at hq
              show updF (updF g (plsOf ws i + 0) ((k : Int) + 2 * (i : Int) + (0 : Nat))) (plsOf ws i + 1) ((k : Int) + 2 * (i : Int) + (1 : Nat)) q = _
              rw [updF_other _ _ (by omega), updF_other _ _ (by omega)]
          obtain ⟨_, p1, p2, _⟩ := HALL.out ws[i] (List.getElem_mem hil)
          have hpw : ws[i].pl = (plsOf ws i : Int) := by unfold plsOf; simp [List.getD_eq_getElem?_getD, hil]; omega
          rw [hpw] at p1 p2
          have x1 : (0 : Int) ≤ (j : Int) := by omega
          have x2 : (j : Int) < (l.length : Int) := by omega
          clear y1
          have HI := Lib.hid hI; have HE := Lib.hid hE; have HBW := Lib.hid hbw; have HRUN := Lib.hid hrun; have HRUN2 := Lib.hid hrun2; have HCL := Lib.hid hcl; have HCL2 := Lib.hid hcl2; have HLN2 := Lib.hid hln2; have HS2 := Lib.hid hS2; have HS3 := Lib.hid hS3; have HDONE := Lib.hid hdone; have HBIT := Lib.hid hbit; have HNX := Lib.hid hnx; have HPUT := Lib.hid hput; have HTK := Lib.hid htk; have HPW := Lib.hid hpw; clear hI hE hbw hrun hrun2 hcl hcl2 hln2 hS2 hS3 hdone hbit hnx hput htk hpw
          go_wp2
          go_loopw [11] (fun iv wr => ∃ sd : Nat, iv = .int .i64 sd ∧ sd ≤ 2 ∧ IdB wr w4.heap.size k (lnTo k ws g i sd) ∧ FB wr R (k + 2 * ws.length) (edG k ws) ∧ Box1 w wr k A c ws.length ∧ Below w.heap.size w wr) (fun iv _ => 2 - (intOf iv).toNat)
          case atStart => exact ⟨0, rfl, by omega, HI.out, HE.out, hx0.out, HBW.out⟩
          case round =>
            clear HI HE HBW hx0 c0 c1 s1 hIl hEl l1 hbl
            obtain ⟨sd, rfl, hsd, hI, hE, hx, hbw⟩ := hrel
            obtain ⟨c0, c1, s1⟩ := hx
            have hx0 : Hid (Box1 w wr k A c ws.length) := ⟨c0, c1, s1⟩
            have hIl := lt_of_block hI
            have hEl := hE.lt
            by_cases hs2 : sd < 2
            · obtain ⟨b, off, rfl, hbL, t1, t2, t3⟩ := (HA.out.rd.later hbw (Nat.le_refl _)).at_ hil
              rw [HPW.out] at t2
              clear t1 t3
              have hlp : lnTo k ws g i (sd + 1) = updF (lnTo k ws g i sd) (plsOf ws i + sd) ((k : Int) + 2 * (i : Int) + (sd : Int)) := rfl
              have hgq : lnTo k ws g i sd (plsOf ws i + sd) = g (plsOf ws i + sd) := by
                rcases (show sd = 0 ∨ sd = 1 by omega) with h | h
                · subst h; rfl
                · subst h
                  show updF g (plsOf ws i + 0) _ (plsOf ws i + 1) = _
                  rw [updF_other _ _ (by omega)]
              have hqk : plsOf ws i + sd < k := by omega
              have htkq : tk (plsOf ws) i (plsOf ws i + sd) := by unfold tk; omega
              obtain ⟨ei, f, fr, out, hge, hst, hfn, hlast⟩ := HLN2.out _ hqk
              obtain ⟨hfi, hfree⟩ := HNX.out _ f htkq hlast
              have hedge := edG_at HOK.out hqk hst hfn (tw := (i : Int)) (inn := (sd : Int)) (.inl ⟨i, hfi, hil, htkq, hfree, rfl, by omega⟩)
              have hei : ei < k + 2 * ws.length := sta_lt hst hfn
              have hst2 : Sta k (plsOf ws) (k + 2 * i + sd) (i + 1) (plsOf ws i + sd) i sd := .inr ⟨i, sd, hs2, rfl, rfl, rfl, rfl, rfl⟩
              obtain ⟨n1, n2⟩ := edG_born HOK.out hqk hst2 (by omega)
              have hni : k + 2 * i + sd < k + 2 * ws.length := by omega
              have e1 := hI.at_ hqk
              rw [hgq, hge] at e1
              have e2 := hI.free (plsOf ws i + sd)
              obtain ⟨f0, f1, f2, f3⟩ := hE.at_ hei
              rw [hedge] at f0 f1 f2 f3
              obtain ⟨m0, m1, _, _⟩ := hE.at_ hni
              rw [n1] at m0
              rw [n2] at m1
              simp only at f0 f1 f2 f3
              clear hst hlast hfree hedge hst2 n1 n2 hgq htkq hge
              generalize plsOf ws i = pl at *
              have z1 : IntKind.i64.wrap ((pl : Int) + (sd : Int)) = (pl : Int) + (sd : Int) := IntWalk.i64_in _ (by omega)
              have z2 : IntKind.i64.wrap (2 * (i : Int)) = 2 * (i : Int) := IntWalk.i64_in _ (by omega)
              have z3 : IntKind.i64.wrap ((k : Int) + 2 * (i : Int)) = (k : Int) + 2 * (i : Int) := IntWalk.i64_in _ (by omega)
              have z4 : IntKind.i64.wrap ((k : Int) + 2 * (i : Int) + (sd : Int)) = (k : Int) + 2 * (i : Int) + (sd : Int) := IntWalk.i64_in _ (by omega)
              have z5 : ((pl : Int) + (sd : Int)).toNat = pl + sd := by omega
              have z6 : (0 : Int) ≤ (pl : Int) + (sd : Int) := by omega
              have z7 : (pl : Int) + (sd : Int) < (k : Int) := by omega
              have z8 : (0 : Int) ≤ (i : Int) := by omega
              have z9 : (i : Int) < (ws.length : Int) := by omega
              have za : (0 : Int) ≤ (ei : Int) := by omega
              have zb : (ei : Int) < (k : Int) + 2 * (ws.length : Int) := by omega
              have zc : (0 : Int) ≤ (k : Int) + 2 * (i : Int) + (sd : Int) := by omega
              have zd : (k : Int) + 2 * (i : Int) + (sd : Int) < (k : Int) + 2 * (ws.length : Int) := by omega
              have ze : ((k : Int) + 2 * (i : Int) + (sd : Int)).toNat = k + 2 * i + sd := by omega
              have HI := Lib.hid hI; have HE := Lib.hid hE; have HBW := Lib.hid hbw; have HLP := Lib.hid hlp; clear hI hE hbw hlp
              go_wp2
              go_region
              have h5 : Below wr.heap.size wr (wr.alloc (.cells #[.int .i64 fr, .int .i64 out, .int .i64 (i : Int), .int .i64 (sd : Int)] 46)).drew := ((Below.refl _ _).alloc (Nat.le_refl _) _).drew
              have h6 : Below (wr.setCell ⟨w4.heap.size, pl + sd, none⟩ (.int .i64 ((k : Int) + 2 * (i : Int) + (sd : Int)))).heap.size (wr.setCell ⟨w4.heap.size, pl + sd, none⟩ (.int .i64 ((k : Int) + 2 * (i : Int) + (sd : Int)))) ((wr.setCell ⟨w4.heap.size, pl + sd, none⟩ (.int .i64 ((k : Int) + 2 * (i : Int) + (sd : Int)))).alloc (.cells #[.int .i64 fr, .int .i64 out, .int .i64 (i : Int), .int .i64 (sd : Int)] 46)).drew := ((Below.refl _ _).alloc (Nat.le_refl _) _).drew
              have q1 := HI.out.laterA h5
              have q2 := (HI.out.put (pl + sd) ((k : Int) + 2 * (i : Int) + (sd : Int))).laterA h6
              have q3 := (HE.out.setA (p := ⟨w4.heap.size, pl + sd, none⟩) (by show w4.heap.size ≠ R; omega) (.int .i64 ((k : Int) + 2 * (i : Int) + (sd : Int)))).laterA h6
              have q4 := (box1_setA hx0.out (q := ⟨w4.heap.size, pl + sd, none⟩) (by show w4.heap.size ≠ w.heap.size; omega) (.int .i64 ((k : Int) + 2 * (i : Int) + (sd : Int)))).later h6
              have q5 := ((HBW.out.setCell (p := ⟨w4.heap.size, pl + sd, none⟩) (by show w.heap.size ≤ w4.heap.size; omega) (.int .i64 ((k : Int) + 2 * (i : Int) + (sd : Int)))).trans (h6.mono (by simp; exact HBW.out.size)))
              have q6 := q1.free (pl + sd)
              clear h5 h6
              have Q1 := Lib.hid q1; have Q2 := Lib.hid q2; have Q3 := Lib.hid q3; have Q4 := Lib.hid q4; have Q5 := Lib.hid q5; clear q1 q2 q3 q4 q5
              go_wp2
              go_roundw
              case rel => exact ⟨sd + 1, by go_num, by omega, by rw [HLP.out]; exact Q2.out, Q3.out, Q4.out, Q5.out⟩
              case measure => simp [intOf]; omega
            · obtain rfl : sd = 2 := by omega
              have HI := Lib.hid hI; have HE := Lib.hid hE; have HBW := Lib.hid hbw; clear hI hE hbw
              go_wp2
              go_roundw
              case rel => exact ⟨j + 1, _, _, by go_num, by omega, HRUN2.out, HCL2.out, HPUT.out, HI.out, HE.out, hx0.out, HBW.out⟩
              case measure => simp [intOf]; omega
        · obtain rfl : j = l.length := by omega
          rw [List.take_of_length_le (Nat.le_refl _)] at hrun
          have hfull := oRun_full (P := k) hn hrun HLW.out
          have hend : ∀ q, q < k → ∃ ei : Nat, g q = (ei : Int) ∧ ei < k + 2 * ws.length ∧ (edG k ws ei).to = -1 ∧ (edG k ws ei).inn = (q : Int) := fun q hq => by
            obtain ⟨ei, f, fr, out, hge, hst, hfn, hlast⟩ := hln2 q hq
            have hedge := edG_at HOK.out hq hst hfn (tw := -1) (inn := (q : Int)) (.inr ⟨fun t h1 h2 h3 => by have := hlast.1 t (hfull t h2) h3; omega, rfl, rfl⟩)
            exact ⟨ei, hge, sta_lt hst hfn, by rw [hedge], by rw [hedge]⟩
          have HI := Lib.hid hI; have HE := Lib.hid hE; have HBW := Lib.hid hbw; have HRUN := Lib.hid hrun; have HCL := Lib.hid hcl; have HLN2 := Lib.hid hln2; have HFULL := Lib.hid hfull; have HEND := Lib.hid hend; clear hI hE hbw hrun hcl hln2 hfull hend
          go_wp2
          go_loopw [15] (fun iv wx => ∃ q : Nat, iv = .int .i64 q ∧ q ≤ k ∧ wr = wx) (fun iv _ => k - (intOf iv).toNat)
          case atStart => exact ⟨0, rfl, Nat.zero_le _, rfl⟩
          case round =>
            obtain ⟨q, rfl, hqk, rfl⟩ := hrel
            by_cases hql : q < k
            · obtain ⟨ei, hge, hei, hto, hin⟩ := HEND.out q hql
              have e1 := HI.out.at_ hql
              rw [hge] at e1
              obtain ⟨_, _, f2, f3⟩ := HE.out.at_ hei
              rw [hto] at f2
              rw [hin] at f3
              have x1 : (0 : Int) ≤ (q : Int) := by omega
              have x2 : (q : Int) < (k : Int) := by omega
              have za : (0 : Int) ≤ (ei : Int) := by omega
              have zb : (ei : Int) < (k : Int) + 2 * (ws.length : Int) := by omega
              clear hge hto hin
              go_wp2
              go_roundw
              case rel => exact ⟨q + 1, by go_num, by omega, trivial⟩
              case measure => simp [intOf]; omega
            · obtain rfl : q = k := by omega
              go_wp2_with fail
              refine (shown_ _).mono ?_; rintro e w8 ⟨rfl, hb1⟩
              go_wp2
              go_ret
              exact ⟨rfl, HBW.out.trans (hb1.mono HBW.out.size)⟩
end Go.Proofs.Ytepdgffccfcfpaa
