/- The reference's Reorder. -/
import Derived.Test.YtepdgffccfcfpaaROrder
import Derived.Test.YtepdgffccfcfpaaOwnX
import Derived.Test.YtepdgffccfcfpaaCheck
namespace Go.Proofs.Ytepdgffccfcfpaa
open Go.RowKit

def reoX (p : Int) (ws : List GW) (l : List Int) : Int := if errSheet p ws = 0 then (if ordQ ws l = true then 0 else 4) else errSheet p ws
def reoP (p : Int) (ws : List GW) (l : List Int) : Int := if reoX p ws l = 0 then p else 0
def reoV (p : Int) (ws : List GW) (l : List Int) : List GW := if reoX p ws l = 0 then reoG ws l else []

set_option maxRecDepth 100000 in
set_option maxHeartbeats 2000000 in
theorem rReorder_ (p : Int) (A L : Option Addr) (c lc : Nat) (ws : List GW) (l : List Int) (w : World) (ha : ShIn w p A ws) (hl : RdI w L l) :
    Calls Try.prog 27 #[.agg #[.int .i64 p, .slice A ws.length c], .slice L l.length lc] w (ShPost (reoP p ws l) (reoV p ws l) (reoX p ws l) w) := by
  have hb2 : Below w.heap.size w ((w.alloc (.cells #[.int .i64 p, .slice A ws.length c] 24)).alloc (.cells #[.int .i64 0, .slice none 0 0] 24)) := ((Below.refl _ _).alloc (Nat.le_refl _) _).alloc (by simp) _
  have hln := hl.1
  by_cases he : errSheet p ws = 0
  rotate_left
  · have hx : reoX p ws l = errSheet p ws := by unfold reoX; rw [if_neg he]
    have hp0 : reoP p ws l = 0 := by unfold reoP; rw [if_neg (by rw [hx]; exact he)]
    have hv0 : reoV p ws l = [] := by unfold reoV; rw [if_neg (by rw [hx]; exact he)]
    have heb : (errSheet p ws != 0) = true := by simpa using he
    rw [hx, hp0, hv0]
    have HA := Lib.hid ha; have HL := Lib.hid hl; have HB2 := Lib.hid hb2; have HE := Lib.hid he; have HX := Lib.hid hx; have HP0 := Lib.hid hp0; have HV0 := Lib.hid hv0; clear ha hl hb2 he hx hp0 hv0
    go_enter Try.func27, Try.ntmps27
    go_wp2_with fail
    refine (rCheck_ _ _ _ _ _ HA.out.lo HA.out.hi (HA.out.rd.later HB2.out (Nat.le_refl _))).mono ?_; rintro e w1 ⟨rfl, hb1⟩
    have c0 : w1.cell? ⟨w.heap.size + 1, 0, none⟩ = some (.int .i64 0) := below_at hb1 (Nat.le_refl _) (by go_simp)
    have c1 : w1.cell? ⟨w.heap.size + 1, 1, none⟩ = some (.slice none 0 0) := below_at hb1 (Nat.le_refl _) (by go_simp)
    have f0 : w1.frozen? ⟨w.heap.size + 1, 0, none⟩ = false := (hb1.frozen (p := ⟨w.heap.size + 1, 0, none⟩) (by simp)).trans (by go_simp)
    have f1 : w1.frozen? ⟨w.heap.size + 1, 1, none⟩ = false := (hb1.frozen (p := ⟨w.heap.size + 1, 1, none⟩) (by simp)).trans (by go_simp)
    have hs1 : w.heap.size + 1 < w1.heap.size := by have := hb1.size; simp at this; omega
    go_wp2
    refine bodyPost_ret (v := .tuple #[.agg #[.int .i64 0, .slice none 0 0], .int .i64 (errSheet p ws)]) (by simp [results, Try.results27, go_sem, c0, c1]) rfl ⟨none, 0, rfl, rdW_nil _, ?_, Nat.le_refl _⟩
    exact ((HB2.out.trans (hb1.mono (by simp; omega))).setCell (by show w.heap.size ≤ w.heap.size + 1; omega) _).setCell (by show w.heap.size ≤ w.heap.size + 1; omega) _
  · have hok := he
    obtain ⟨_, hp24, hlen, hall⟩ := okAll hok
    have hec := he
    by_cases ho : ordQ ws l = true
    rotate_left
    · have hx : reoX p ws l = 4 := by unfold reoX; rw [if_pos he, if_neg ho]
      have hp0 : reoP p ws l = 0 := by unfold reoP; rw [if_neg (by rw [hx]; simp)]
      have hv0 : reoV p ws l = [] := by unfold reoV; rw [if_neg (by rw [hx]; simp)]
      have ho' : ordQ ws l = false := by simpa using ho
      clear ho
      rw [hx, hp0, hv0]
      have HA := Lib.hid ha; have HL := Lib.hid hl; have HB2 := Lib.hid hb2; have HE := Lib.hid he; have HX := Lib.hid hx; have HP0 := Lib.hid hp0; have HV0 := Lib.hid hv0; have HOp := Lib.hid ho'; have HOK := Lib.hid hok; have HALL := Lib.hid hall; clear ha hl hb2 he hx hp0 hv0 ho' hok hall
      go_enter Try.func27, Try.ntmps27
      go_wp2_with fail
      refine (rCheck_ _ _ _ _ _ HA.out.lo HA.out.hi (HA.out.rd.later HB2.out (Nat.le_refl _))).mono ?_
      rw [hec]
      clear hec
      rintro e w1 ⟨rfl, hb1⟩
      have a0 : w1.cell? ⟨w.heap.size, 0, none⟩ = some (.int .i64 p) := below_at hb1 (Nat.le_refl _) (by go_simp)
      have a1 : w1.cell? ⟨w.heap.size, 1, none⟩ = some (.slice A ws.length c) := below_at hb1 (Nat.le_refl _) (by go_simp)
      have c0' : w1.cell? ⟨w.heap.size + 1, 0, none⟩ = some (.int .i64 0) := below_at hb1 (Nat.le_refl _) (by go_simp)
      have c1' : w1.cell? ⟨w.heap.size + 1, 1, none⟩ = some (.slice none 0 0) := below_at hb1 (Nat.le_refl _) (by go_simp)
      have f0' : w1.frozen? ⟨w.heap.size + 1, 0, none⟩ = false := (hb1.frozen (p := ⟨w.heap.size + 1, 0, none⟩) (by simp)).trans (by go_simp)
      have f1' : w1.frozen? ⟨w.heap.size + 1, 1, none⟩ = false := (hb1.frozen (p := ⟨w.heap.size + 1, 1, none⟩) (by simp)).trans (by go_simp)
      have hs1 : w.heap.size + 1 < w1.heap.size := by have := hb1.size; simp at this; omega
      have hs0 : w.heap.size < w1.heap.size := by omega
      have Y1 := Lib.hid (HB2.out.trans (hb1.mono (by simp; omega))); clear hb1
      go_wp2_with fail
      refine (rOrder_ p A L c lc ws l _ HOK.out (HA.out.rd.later Y1.out (Nat.le_refl _)) (HL.out.later Y1.out (Nat.le_refl _))).mono ?_
      rw [HOp.out]
      rintro e w2 ⟨rfl, hb1⟩
      have c0 := below_at hb1 (Nat.le_refl _) c0'
      have c1 := below_at hb1 (Nat.le_refl _) c1'
      have f0 : w2.frozen? ⟨w.heap.size + 1, 0, none⟩ = false := (hb1.frozen (p := ⟨w.heap.size + 1, 0, none⟩) hs1).trans f0'
      have f1 : w2.frozen? ⟨w.heap.size + 1, 1, none⟩ = false := (hb1.frozen (p := ⟨w.heap.size + 1, 1, none⟩) hs1).trans f1'
      have hs2 : w.heap.size + 1 < w2.heap.size := Nat.lt_of_lt_of_le hs1 hb1.size
      clear a0 a1 c0' c1' f0' f1'
      go_wp2
      refine bodyPost_ret (v := .tuple #[.agg #[.int .i64 0, .slice none 0 0], .int .i64 4]) (by simp [results, Try.results27, go_sem, c0, c1]) rfl ⟨none, 0, rfl, rdW_nil _, ?_, Nat.le_refl _⟩
      exact ((Y1.out.trans (hb1.mono Y1.out.size)).setCell (by show w.heap.size ≤ w.heap.size + 1; omega) _).setCell (by show w.heap.size ≤ w.heap.size + 1; omega) _
    · have hx : reoX p ws l = 0 := by unfold reoX; rw [if_pos he, if_pos ho]
      have hp0 : reoP p ws l = p := by unfold reoP; rw [if_pos hx]
      have hv0 : reoV p ws l = reoG ws l := by unfold reoV; rw [if_pos hx]
      have hlw : l.length = ws.length := by
        unfold ordQ at ho
        rw [Bool.and_eq_true, decide_eq_true_eq] at ho
        exact ho.1
      have hrng : ∀ x ∈ l, 0 ≤ x ∧ x < ws.length := by
        unfold ordQ at ho
        rw [Bool.and_eq_true] at ho
        exact oRun_range l 0 ho.2
      have hoc := ho
      rw [hx, hp0, hv0]
      have hl400 : l.length ≤ 400 := by omega
      have HA := Lib.hid ha; have HL := Lib.hid hl; have HB2 := Lib.hid hb2; have HE := Lib.hid he; have HX := Lib.hid hx; have HP0 := Lib.hid hp0; have HV0 := Lib.hid hv0; have HOK := Lib.hid hok; have HALL := Lib.hid hall; have HLW := Lib.hid hlw; have HRNG := Lib.hid hrng; have HO := Lib.hid ho; clear ha hl hb2 he hx hp0 hv0 hok hall hlw hrng ho
      go_enter Try.func27, Try.ntmps27
      go_wp2_with fail
      refine (rCheck_ _ _ _ _ _ HA.out.lo HA.out.hi (HA.out.rd.later HB2.out (Nat.le_refl _))).mono ?_
      rw [hec]
      clear hec
      rintro e w1 ⟨rfl, hb1⟩
      have a0 : w1.cell? ⟨w.heap.size, 0, none⟩ = some (.int .i64 p) := below_at hb1 (Nat.le_refl _) (by go_simp)
      have a1 : w1.cell? ⟨w.heap.size, 1, none⟩ = some (.slice A ws.length c) := below_at hb1 (Nat.le_refl _) (by go_simp)
      have c0' : w1.cell? ⟨w.heap.size + 1, 0, none⟩ = some (.int .i64 0) := below_at hb1 (Nat.le_refl _) (by go_simp)
      have c1' : w1.cell? ⟨w.heap.size + 1, 1, none⟩ = some (.slice none 0 0) := below_at hb1 (Nat.le_refl _) (by go_simp)
      have f0' : w1.frozen? ⟨w.heap.size + 1, 0, none⟩ = false := (hb1.frozen (p := ⟨w.heap.size + 1, 0, none⟩) (by simp)).trans (by go_simp)
      have f1' : w1.frozen? ⟨w.heap.size + 1, 1, none⟩ = false := (hb1.frozen (p := ⟨w.heap.size + 1, 1, none⟩) (by simp)).trans (by go_simp)
      have hs1 : w.heap.size + 1 < w1.heap.size := by have := hb1.size; simp at this; omega
      have hs0 : w.heap.size < w1.heap.size := by omega
      have Y1 := Lib.hid (HB2.out.trans (hb1.mono (by simp; omega))); clear hb1
      go_wp2_with fail
      refine (rOrder_ p A L c lc ws l _ HOK.out (HA.out.rd.later Y1.out (Nat.le_refl _)) (HL.out.later Y1.out (Nat.le_refl _))).mono ?_
      rw [hoc]
      clear hoc
      rintro e w2 ⟨rfl, hb1⟩
      have c0 := below_at hb1 (Nat.le_refl _) c0'
      have c1 := below_at hb1 (Nat.le_refl _) c1'
      have b0 := below_at hb1 (Nat.le_refl _) a0
      have b1 := below_at hb1 (Nat.le_refl _) a1
      have f0 : w2.frozen? ⟨w.heap.size + 1, 0, none⟩ = false := (hb1.frozen (p := ⟨w.heap.size + 1, 0, none⟩) hs1).trans f0'
      have f1 : w2.frozen? ⟨w.heap.size + 1, 1, none⟩ = false := (hb1.frozen (p := ⟨w.heap.size + 1, 1, none⟩) hs1).trans f1'
      have hs2 : w.heap.size + 1 < w2.heap.size := Nat.lt_of_lt_of_le hs1 hb1.size
      have hs3 : w.heap.size < w2.heap.size := by omega
      have Y2 := Lib.hid (Y1.out.trans (hb1.mono Y1.out.size)); clear hb1
      clear a0 a1 c0' c1' f0' f1'
      go_wp2
      go_loopw [8] (fun iv wr => ∃ (j : Nat) (v : Value), iv = .int .i64 j ∧ j ≤ l.length ∧ wr.heap[w2.heap.size]? = some (.cells #[.int .i64 p, v] 24 (0, 0)) ∧ wr.ownsRow (w2.heap.size + 1) 48 3 v (reoG ws (l.take j)).length (worksC (reoG ws (l.take j))) ∧ Below w2.heap.size w2 wr) (fun iv _ => l.length - (intOf iv).toNat)
      case atStart => exact ⟨0, _, rfl, Nat.zero_le _, heap_alloc_new _ _, World.ownsRow_nil _ _ _ _, (Below.refl _ _).alloc (Nat.le_refl _) _⟩
      case round =>
        obtain ⟨j, v, rfl, hj, hO, hown, hbw⟩ := hrel
        have o1 : wr.cell? ⟨w2.heap.size, 1, none⟩ = some v := cell_of_row wr _ 1 _ _ _ hO
        have o0 : wr.cell? ⟨w2.heap.size, 0, none⟩ = some (.int .i64 p) := cell_of_row wr _ 0 _ _ _ hO
        have o2 : wr.frozen? ⟨w2.heap.size, 1, none⟩ = false := frozen_of_row _ _ 1 _ _ hO
        have hOl := lt_of_block hO
        have e1 := below_at hbw (Nat.le_refl _) b1
        have hz3 : w.heap.size < wr.heap.size := by omega
        have hz2 : w.heap.size + 1 < wr.heap.size := by omega
        by_cases hlt : j < l.length
        · obtain ⟨bl, ol, rfl, hbl, l1⟩ := (HL.out.later (Y2.out.trans (hbw.mono Y2.out.size)) (Nat.le_refl _)).at_ hlt
          obtain ⟨r1, r2⟩ := HRNG.out l[j] (List.getElem_mem hlt)
          obtain ⟨i, hi⟩ := Int.eq_ofNat_of_zero_le r1
          rw [hi] at l1
          have hil : i < ws.length := by omega
          obtain ⟨b, off, rfl, hbL, g1, g2, g3⟩ := (HA.out.rd.later (Y2.out.trans (hbw.mono Y2.out.size)) (Nat.le_refl _)).at_ hil
          have htk : reoG ws (l.take (j + 1)) = reoG ws (l.take j) ++ [ws[i]] := by
            unfold reoG
            rw [List.take_succ_eq_append_getElem hlt, List.map_append, hi]
            simp [List.getD_eq_getElem?_getD, hil]
          have hrl : (reoG ws (l.take j)).length = j := by unfold reoG; simp; omega
          have x1 : (0 : Int) ≤ (j : Int) := by omega
          have x2 : (j : Int) < (l.length : Int) := by omega
          have x3 : (0 : Int) ≤ (i : Int) := by omega
          have x4 : (i : Int) < (ws.length : Int) := by omega
          have hvl := hown.lt
          clear r1 r2 hi
          generalize reoG ws (l.take j) = acc at *
          generalize ws[i] = z at *
          have hN1 : Hid (some wr.heap.size ≠ v.ownBlock) := fun h => by have := (hvl _ h.symm).2; omega
          have hN2 : Hid (some w2.heap.size ≠ v.ownBlock) := fun h => by have := (hvl _ h.symm).1; omega
          have HO := Lib.hid hO; have HOWN := Lib.hid hown; have HBW := Lib.hid hbw; have HTK := Lib.hid htk; have HRL := Lib.hid hrl; have HVL := Lib.hid hvl; clear hO hown hbw htk hrl hvl
          go_wp2
          go_region_law
            (first | (refine step_appW_Try (by rfl) _ _ (by rfl) (w2.heap.size + 1) v acc (by rfl) (by repeat (first | exact HOWN.out | refine World.ownsRow.alloc ?_ _ | exact (World.ownsRow.alloc HOWN.out _).drew)) wr.heap.size z (by rfl) (heap_alloc_new _ _) (by have := HRL.out; omega) (by simp; omega) ?_; intro g cap w3 hown3 hgrow hat3 hlt3; have q1 : w3.cell? ⟨w2.heap.size, 1, none⟩ = some v := (hgrow.cell_far ⟨w2.heap.size, 1, none⟩ (by simp; omega) hN2.out).trans (by go_simp); have q2 : w3.frozen? ⟨w2.heap.size, 1, none⟩ = false := (hgrow.frozen_far ⟨w2.heap.size, 1, none⟩ (by simp; omega) hN2.out).trans (by go_simp); have q3 : w2.heap.size < w3.heap.size := (by have := hgrow.size; simp at this; omega)))
          all_goals
            go_wp2
            go_roundw
            case rel =>
              refine ⟨j + 1, _, by go_num, by omega, ?_, by rw [HTK.out]; exact ownsRow_setCell_below hown3 (by show w2.heap.size < w2.heap.size + 1; omega) _, ?_⟩
              · exact heap_setCell_same _ _ 1 _ _ _ ((hgrow.block _ (by simp; omega) hN2.out).trans ((Below.heap_alloc wr _ _ hOl).trans HO.out))
              · exact ((HBW.out.alloc HBW.out.size _).drew.grown hgrow (by simp; omega) (fun k' hk' => by have := (HVL.out k' hk').1; omega)).setCell (Nat.le_refl _) _
            case measure => simp [intOf]; omega
        · have hall2 : reoG ws (l.take j) = reoG ws l := by rw [List.take_of_length_le (by omega)]
          rw [hall2] at hown
          obtain ⟨B, d, rfl, hd⟩ := own_slice3 hown
          have k0 := below_at hbw (Nat.le_refl _) c0
          have k1 := below_at hbw (Nat.le_refl _) c1
          have k2 : wr.frozen? ⟨w.heap.size + 1, 0, none⟩ = false := (hbw.frozen (p := ⟨w.heap.size + 1, 0, none⟩) hs2).trans f0
          have k3 : wr.frozen? ⟨w.heap.size + 1, 1, none⟩ = false := (hbw.frozen (p := ⟨w.heap.size + 1, 1, none⟩) hs2).trans f1
          have hrl : (reoG ws l).length = l.length := by unfold reoG; simp
          have hfits : ∀ x ∈ reoG ws l, x.fits := fun x hx => by
            unfold reoG at hx
            obtain ⟨y, hy, rfl⟩ := List.mem_map.1 hx
            obtain ⟨r1, r2⟩ := HRNG.out y hy
            have hy2 : y.toNat < ws.length := by omega
            rw [show ws.getD y.toNat gwE = ws[y.toNat] by simp [List.getD_eq_getElem?_getD, hy2]]
            exact HA.out.rd.2.1 _ (List.getElem_mem hy2)
          have hrd : RdW wr B (reoG ws l) := ⟨by omega, hfits, own_rdW hown⟩
          have hneb : ∀ b off, B = some ⟨b, off, none⟩ → b ≠ w.heap.size + 1 := fun b off hB h => by
            subst hB; subst h
            have := (hown.lt (w.heap.size + 1) rfl).1
            omega
          generalize reoG ws l = R at *
          have HO := Lib.hid hO; have HOWN := Lib.hid hown; have HBW := Lib.hid hbw; have HALL2 := Lib.hid hall2; have HRL := Lib.hid hrl; have HFITS := Lib.hid hfits; have HRD := Lib.hid hrd; have HNEB := Lib.hid hneb; clear hO hown hbw hall2 hrl hfits hrd hneb
          go_wp2
          refine bodyPost_ret (v := .tuple #[.agg #[.int .i64 p, .slice B R.length d], .int .i64 0]) (by simp [results, Try.results27, go_sem, k0, k1]) rfl ⟨B, d, rfl, ⟨HRD.out.1, HRD.out.2.1, fun h0 => ?_⟩, ?_, hd⟩
          · obtain ⟨b, off, hB, hb, hcl⟩ := HRD.out.2.2 h0
            refine ⟨b, off, hB, by simpa using hb, fun q hq => ?_⟩
            rw [World.cell?_setCell_other _ _ _ _ (by simp; intro h; exact absurd h.symm (HNEB.out b off hB)), World.cell?_setCell_other _ _ _ _ (by simp; intro h; exact absurd h.symm (HNEB.out b off hB))]
            exact hcl q hq
          · exact ((Y2.out.trans (HBW.out.mono Y2.out.size)).setCell (by show w.heap.size ≤ w.heap.size + 1; omega) _).setCell (by show w.heap.size ≤ w.heap.size + 1; omega) _
end Go.Proofs.Ytepdgffccfcfpaa
