/- The law TracesBeside: its walk. -/
import Derived.Test.YtifpkdajfdlgeaaTrBes
import Derived.Test.YtifpkdajfdlgeaaOwnW2
import Derived.Test.YtifpkdajfdlgeaaTrCtrC
import Derived.Test.YtifpkdajfdlgeaaTrAwake
namespace Go.Proofs.Ytifpkdajfdlgeaa
open Go.RowKit

set_option maxRecDepth 100000 in
set_option maxHeartbeats 4000000 in
theorem lawBeside_ (p q : Int) (A B : Option Addr) (c d : Nat) (ws vs : List GW) (w : World) (ha : ShIn w p A ws) (hb : ShIn w q B vs) (hcap : ws.length ≤ c) (hcap2 : vs.length ≤ d) :
    Calls Try.prog 5 #[.agg #[.int .i64 p, .slice A ws.length c], .agg #[.int .i64 q, .slice B vs.length d]] w fun e w' => e = .returned (.bool true) ∧ Below w.heap.size w w' := by
  have hla := ha.rd.1
  have hlb := hb.rd.1
  have hb2 : Below w.heap.size w ((w.alloc (.cells #[.int .i64 p, .slice A ws.length c] 24)).alloc (.cells #[.int .i64 q, .slice B vs.length d] 24)) := ((Below.refl _ _).alloc (Nat.le_refl _) _).alloc (by simp) _
  have Y0 := Lib.hid hb2; clear hb2
  have X0 := Lib.hid (BoxS.made w p q A B c d ws.length vs.length)
  by_cases he : errSheet p ws = 0
  rotate_left
  · have heb : (errSheet p ws != 0) = true := by simpa using he
    have HA := Lib.hid ha; have HB := Lib.hid hb; have HE := Lib.hid he; clear ha hb he
    go_enter Try.func5, Try.ntmps5
    go_wp2_with fail
    refine (rCheck_ _ _ _ _ _ HA.out.lo HA.out.hi (HA.out.rd.later Y0.out (Nat.le_refl _))).mono ?_; rintro e w1 ⟨rfl, hb1⟩
    have X1 := Lib.hid (X0.out.later hb1); have Y1 := Lib.hid (Y0.out.trans (hb1.mono Y0.out.size)); clear hb1; obtain ⟨c1, c2, c3, c4, s1, s2⟩ := X1.out
    go_wp2_with fail
    clear c1 c2 c3 c4 s1 s2
    refine (awake_ _).mono ?_; rintro e w8 ⟨rfl, hb1⟩
    go_wp2
    go_ret
    exact ⟨rfl, Y1.out.trans (hb1.mono Y1.out.size)⟩
  have hec := he
  by_cases he2 : errSheet q vs = 0
  rotate_left
  · have heb : (errSheet q vs != 0) = true := by simpa using he2
    have HA := Lib.hid ha; have HB := Lib.hid hb; have HE := Lib.hid he; have HE2 := Lib.hid he2; clear ha hb he he2
    go_enter Try.func5, Try.ntmps5
    go_wp2_with fail
    refine (rCheck_ _ _ _ _ _ HA.out.lo HA.out.hi (HA.out.rd.later Y0.out (Nat.le_refl _))).mono ?_
    rw [hec]
    clear hec
    rintro e w1 ⟨rfl, hb1⟩
    have X1 := Lib.hid (X0.out.later hb1); have Y1 := Lib.hid (Y0.out.trans (hb1.mono Y0.out.size)); clear hb1; obtain ⟨c1, c2, c3, c4, s1, s2⟩ := X1.out
    go_wp2_with fail
    clear c1 c2 c3 c4 s1 s2
    refine (rCheck_ _ _ _ _ _ HB.out.lo HB.out.hi (HB.out.rd.later Y1.out (Nat.le_refl _))).mono ?_; rintro e w2 ⟨rfl, hb1⟩
    have X2 := Lib.hid (X1.out.later hb1); have Y2 := Lib.hid (Y1.out.trans (hb1.mono Y1.out.size)); clear hb1; obtain ⟨c1, c2, c3, c4, s1, s2⟩ := X2.out
    go_wp2_with fail
    clear c1 c2 c3 c4 s1 s2
    refine (awake_ _).mono ?_; rintro e w8 ⟨rfl, hb1⟩
    go_wp2
    go_ret
    exact ⟨rfl, Y2.out.trans (hb1.mono Y2.out.size)⟩
  have hec2 := he2
  obtain ⟨hp2, hp24, hlen, hall⟩ := OkS.all (show OkS p ws from he)
  obtain ⟨hq2, hq24, hlen2, hall2⟩ := OkS.all (show OkS q vs from he2)
  by_cases h12 : 12 < ws.length + vs.length
  · have t1 : (12 : Int) < (ws.length : Int) + (vs.length : Int) := by omega
    have HA := Lib.hid ha; have HB := Lib.hid hb; have HE := Lib.hid he; have HE2 := Lib.hid he2; have HALL := Lib.hid hall; have HALL2 := Lib.hid hall2; clear ha hb he he2 hall hall2
    go_enter Try.func5, Try.ntmps5
    go_wp2_with fail
    refine (rCheck_ _ _ _ _ _ HA.out.lo HA.out.hi (HA.out.rd.later Y0.out (Nat.le_refl _))).mono ?_
    rw [hec]
    clear hec
    rintro e w1 ⟨rfl, hb1⟩
    have X1 := Lib.hid (X0.out.later hb1); have Y1 := Lib.hid (Y0.out.trans (hb1.mono Y0.out.size)); clear hb1; obtain ⟨c1, c2, c3, c4, s1, s2⟩ := X1.out
    go_wp2_with fail
    clear c1 c2 c3 c4 s1 s2
    refine (rCheck_ _ _ _ _ _ HB.out.lo HB.out.hi (HB.out.rd.later Y1.out (Nat.le_refl _))).mono ?_
    rw [hec2]
    clear hec2
    rintro e w2 ⟨rfl, hb1⟩
    have X2 := Lib.hid (X1.out.later hb1); have Y2 := Lib.hid (Y1.out.trans (hb1.mono Y1.out.size)); clear hb1; obtain ⟨c1, c2, c3, c4, s1, s2⟩ := X2.out
    go_wp2_with fail
    clear c1 c2 c3 c4 s1 s2
    refine (awake_ _).mono ?_; rintro e w8 ⟨rfl, hb1⟩
    go_wp2
    go_ret
    exact ⟨rfl, Y2.out.trans (hb1.mono Y2.out.size)⟩
  have t1 : decide ((12 : Int) < (ws.length : Int) + (vs.length : Int)) = false := by simp; omega
  by_cases h24 : 24 < p + q
  · have HA := Lib.hid ha; have HB := Lib.hid hb; have HE := Lib.hid he; have HE2 := Lib.hid he2; have HALL := Lib.hid hall; have HALL2 := Lib.hid hall2; clear ha hb he he2 hall hall2
    clear h12
    go_enter Try.func5, Try.ntmps5
    go_wp2_with fail
    refine (rCheck_ _ _ _ _ _ HA.out.lo HA.out.hi (HA.out.rd.later Y0.out (Nat.le_refl _))).mono ?_
    rw [hec]
    clear hec
    rintro e w1 ⟨rfl, hb1⟩
    have X1 := Lib.hid (X0.out.later hb1); have Y1 := Lib.hid (Y0.out.trans (hb1.mono Y0.out.size)); clear hb1; obtain ⟨c1, c2, c3, c4, s1, s2⟩ := X1.out
    go_wp2_with fail
    clear c1 c2 c3 c4 s1 s2
    refine (rCheck_ _ _ _ _ _ HB.out.lo HB.out.hi (HB.out.rd.later Y1.out (Nat.le_refl _))).mono ?_
    rw [hec2]
    clear hec2
    rintro e w2 ⟨rfl, hb1⟩
    have X2 := Lib.hid (X1.out.later hb1); have Y2 := Lib.hid (Y1.out.trans (hb1.mono Y1.out.size)); clear hb1; obtain ⟨c1, c2, c3, c4, s1, s2⟩ := X2.out
    go_wp2_with fail
    clear c1 c2 c3 c4 s1 s2
    refine (awake_ _).mono ?_; rintro e w8 ⟨rfl, hb1⟩
    go_wp2
    go_ret
    exact ⟨rfl, Y2.out.trans (hb1.mono Y2.out.size)⟩
  · have hws : ∀ x ∈ ws, 0 ≤ x.pl ∧ x.pl ≤ p - 2 := fun x hx => ⟨(hall x hx).2.1, (hall x hx).2.2.1⟩
    have hvs : ∀ x ∈ vs, 0 ≤ x.pl ∧ x.pl ≤ q - 2 := fun x hx => ⟨(hall2 x hx).2.1, (hall2 x hx).2.2.1⟩
    have hcount := bes_all (p := p) (ws := ws) (vs := vs) hws (fun x hx => (hvs x hx).1) (by omega)
    obtain ⟨n1, n2, n3, n4⟩ := numsB he (show ws.length ≤ 12 by omega)
    obtain ⟨m1, m2, m3, m4⟩ := numsB he2 (show vs.length ≤ 12 by omega)
    have t2 : decide ((24 : Int) < p + q) = false := by simpa using h24
    have hpq : p + q ≤ 24 := by omega
    have hnm : ws.length + vs.length ≤ 12 := by omega
    have HA := Lib.hid ha; have HB := Lib.hid hb; have HE := Lib.hid he; have HE2 := Lib.hid he2; have HALL := Lib.hid hall; have HALL2 := Lib.hid hall2; have HWS := Lib.hid hws; have HVS := Lib.hid hvs; have HCOUNT := Lib.hid hcount; have N1 := Lib.hid n1; have N2 := Lib.hid n2; have M1 := Lib.hid m1; have M2 := Lib.hid m2; clear ha hb he he2 hall hall2 hws hvs hcount n1 n2 m1 m2
    clear h12 h24
    go_enter Try.func5, Try.ntmps5
    go_wp2_with fail
    refine (rCheck_ _ _ _ _ _ HA.out.lo HA.out.hi (HA.out.rd.later Y0.out (Nat.le_refl _))).mono ?_
    rw [hec]
    clear hec
    rintro e w1 ⟨rfl, hb1⟩
    have X1 := Lib.hid (X0.out.later hb1); have Y1 := Lib.hid (Y0.out.trans (hb1.mono Y0.out.size)); clear hb1; obtain ⟨c1, c2, c3, c4, s1, s2⟩ := X1.out
    go_wp2_with fail
    clear c1 c2 c3 c4 s1 s2
    refine (rCheck_ _ _ _ _ _ HB.out.lo HB.out.hi (HB.out.rd.later Y1.out (Nat.le_refl _))).mono ?_
    rw [hec2]
    clear hec2
    rintro e w2 ⟨rfl, hb1⟩
    have X2 := Lib.hid (X1.out.later hb1); have Y2 := Lib.hid (Y1.out.trans (hb1.mono Y1.out.size)); clear hb1; obtain ⟨c1, c2, c3, c4, s1, s2⟩ := X2.out
    have hAw : 0 < ws.length → ∀ b off, A = some ⟨b, off, none⟩ → b < w.heap.size := fun h0 b off h => rdW_ne HA.out.rd h0 b off h
    have hrd2 := HA.out.rd.later Y2.out (Nat.le_refl _)
    have HAW := Lib.hid hAw; have HRD2 := Lib.hid hrd2; clear hAw hrd2
    go_wp2
    go_upto_region 4 with fail
    go_cut [5] (fun sv wx => ∃ (S : Nat) (sA : Option Addr) (sc : Nat), sv = .pointer (some ⟨S, 0, none⟩) ∧ wx.heap[S]? = some (.cells #[.int .i64 (p + q), .slice sA ws.length sc] 24 (0, 0)) ∧
      wx.ownsRow w2.heap.size 40 3 (.slice sA ws.length sc) ws.length (worksC ws) ∧ some S ≠ (Value.slice sA ws.length sc).ownBlock ∧ w2.heap.size ≤ S ∧ Below w2.heap.size w2 wx ∧ ws.length ≤ sc)
    case first =>
      have w1e : IntKind.i64.wrap (p + q) = p + q := IntWalk.i64_in _ (by omega)
      go_region_held3 (fun wX => Below w2.heap.size w2 wX ∧ (∀ b o, b < w2.heap.size → wX.cell? ⟨b, o, none⟩ = w2.cell? ⟨b, o, none⟩) ∧ w2.heap.size ≤ wX.heap.size)
        ((refine bcell2 ?_; first | exact (Below.refl _ _).drew | exact hB3 | exact hB3.alloc hB3.size _ | exact ‹Below w2.heap.size w2 _ ∧ _›.1.alloc ‹Below w2.heap.size w2 _ ∧ _›.1.size _ | exact (hB3.setCell (by simp) _).setCell (by simp) _ | exact (hB3.setCell (by simp; omega) _).setCell (by simp; omega) _ | exact ((hB3.alloc hB3.size _).setCell (by simp; omega) _).setCell (by simp; omega) _ | exact ‹Below w2.heap.size w2 _ ∧ _›.1))
        (first
          | (refine step_copyW_Try (by rfl) _ _ (by rfl) w2.heap.size (.slice (some ⟨w2.heap.size, 0, none⟩) 0 0) (by rfl) (own_emptyW (heap_alloc_new _ _) (Nat.le_refl _)) A c ws (by rfl) (HRD2.out.later (B := w2.heap.size) (by repeat (first | exact Below.refl _ _ | refine Below.drew ?_ | refine Below.alloc ?_ (by first | exact Nat.le_refl _ | (simp; done) | (simp; omega)) _)) (Nat.le_refl _)) (by omega) (by first | exact Nat.le_refl _ | (simp; done) | (simp; omega)) ?_; intro sA sc w3 hown hgrow hat hsc; have hB3 : Below w2.heap.size w2 w3 := Below.grown (by repeat (first | exact Below.refl _ _ | refine Below.drew ?_ | refine Below.alloc ?_ (by first | exact Nat.le_refl _ | (simp; done) | (simp; omega)) _)) hgrow (by first | exact Nat.le_refl _ | (simp; done) | (simp; omega)) (fun k hk => by simp [Value.ownBlock] at hk; omega); obtain ⟨k1, k2, k3, k4, k5, k6⟩ := X2.out.later hB3)
          | (refine step_copyW_Try (by rfl) _ _ (by rfl) w2.heap.size (.slice (some ⟨w2.heap.size, 0, none⟩) 0 0) (by rfl) (own_emptyW (heap_alloc2_old _ _ _) (Nat.le_refl _)) A c ws (by rfl) (HRD2.out.later (B := w2.heap.size) (by repeat (first | exact Below.refl _ _ | refine Below.drew ?_ | refine Below.alloc ?_ (by first | exact Nat.le_refl _ | (simp; done) | (simp; omega)) _)) (Nat.le_refl _)) (by omega) (by first | exact Nat.le_refl _ | (simp; done) | (simp; omega)) ?_; intro sA sc w3 hown hgrow hat hsc; have hB3 : Below w2.heap.size w2 w3 := Below.grown (by repeat (first | exact Below.refl _ _ | refine Below.drew ?_ | refine Below.alloc ?_ (by first | exact Nat.le_refl _ | (simp; done) | (simp; omega)) _)) hgrow (by first | exact Nat.le_refl _ | (simp; done) | (simp; omega)) (fun k hk => by simp [Value.ownBlock] at hk; omega); obtain ⟨k1, k2, k3, k4, k5, k6⟩ := X2.out.later hB3; have hS : w3.heap[w2.heap.size + 1]? = some (.cells #[.int .i64 0, .slice none 0 0] 24 (0, 0)) := (hgrow.block _ (by first | (simp; done) | (simp; omega)) (by simp [Value.ownBlock])).trans (heap_alloc2_new _ _ _); have q1 := cell_of_row w3 _ 0 _ _ _ hS; have q2 := cell_of_row w3 _ 1 _ _ _ hS; have q3 := frozen_of_row w3 _ 0 _ _ hS; have q4 := frozen_of_row w3 _ 1 _ _ hS; have q5 := lt_of_block hS; simp at q1 q2)
          | (refine step_copyW_Try (by rfl) _ _ (by rfl) w2.heap.size (.slice (some ⟨w2.heap.size + 1, 0, none⟩) 0 0) (by rfl) (own_emptyW (heap_alloc2_new _ _ _) (by omega)) A c ws (by rfl) (HRD2.out.later (B := w2.heap.size) (by repeat (first | exact Below.refl _ _ | refine Below.drew ?_ | refine Below.alloc ?_ (by first | exact Nat.le_refl _ | (simp; done) | (simp; omega)) _)) (Nat.le_refl _)) (by omega) (by first | exact Nat.le_refl _ | (simp; done) | (simp; omega)) ?_; intro sA sc w3 hown hgrow hat hsc; have hB3 : Below w2.heap.size w2 w3 := Below.grown (by repeat (first | exact Below.refl _ _ | refine Below.drew ?_ | refine Below.alloc ?_ (by first | exact Nat.le_refl _ | (simp; done) | (simp; omega)) _)) hgrow (by first | exact Nat.le_refl _ | (simp; done) | (simp; omega)) (fun k hk => by simp [Value.ownBlock] at hk; omega); obtain ⟨k1, k2, k3, k4, k5, k6⟩ := X2.out.later hB3; have hS : w3.heap[w2.heap.size]? = some (.cells #[.int .i64 0, .slice none 0 0] 24 (0, 0)) := (hgrow.block _ (by first | (simp; done) | (simp; omega)) (by simp [Value.ownBlock])).trans (heap_alloc2_old _ _ _); have q1 := cell_of_row w3 _ 0 _ _ _ hS; have q2 := cell_of_row w3 _ 1 _ _ _ hS; have q3 := frozen_of_row w3 _ 0 _ _ hS; have q4 := frozen_of_row w3 _ 1 _ _ hS; have q5 := lt_of_block hS; simp at q1 q2))
      all_goals
        go_wp2_with fail
        go_meet
        first
          | exact ⟨_, sA, sc, rfl, heap_alloc_new _ _, hown.alloc _, (fun h => by have := (hown.lt _ h.symm).2; omega), hB3.size, hB3.alloc hB3.size _, hsc⟩
          | (have hne : some (w2.heap.size + 1) ≠ (Value.slice sA ws.length sc).ownBlock := by
               rcases hat with h | h <;> (rw [h]; simp [Value.ownBlock]) <;> omega
             exact ⟨w2.heap.size + 1, sA, sc, rfl, two_set hS, own_set_ne (own_set_ne hown hne _) hne _, hne, by omega, (hB3.setCell (by show w2.heap.size ≤ w2.heap.size + 1; omega) _).setCell (by show w2.heap.size ≤ w2.heap.size + 1; omega) _, hsc⟩)
          | (have hne : some w2.heap.size ≠ (Value.slice sA ws.length sc).ownBlock := by
               rcases hat with h | h <;> (rw [h]; simp [Value.ownBlock]) <;> omega
             exact ⟨w2.heap.size, sA, sc, rfl, two_set hS, own_set_ne (own_set_ne hown hne _) hne _, hne, by omega, (hB3.setCell (Nat.le_refl _) _).setCell (Nat.le_refl _) _, hsc⟩)
    case rest =>
      obtain ⟨S, sA, sc, rfl, hO, hown, hneS, hS2, hbw, hsc⟩ := hcut
      clear c1 c2 c3 c4 s1 s2
      have hZ0 : (besW p ws vs).take (ws.length + 0) = ws := by unfold besW; simp
      have HO := Lib.hid hO; have HOWN := Lib.hid hown; have HNES := Lib.hid hneS; have HBW := Lib.hid hbw; have HSC := Lib.hid hsc; clear hO hown hneS hbw hsc
      go_wp2
      go_loopw [6] (fun iv wr => ∃ (j : Nat) (v : Value), iv = .int .i64 j ∧ j ≤ vs.length ∧ wr.heap[S]? = some (.cells #[.int .i64 (p + q), v] 24 (0, 0)) ∧ wr.ownsRow w2.heap.size 40 3 v ((besW p ws vs).take (ws.length + j)).length (worksC ((besW p ws vs).take (ws.length + j))) ∧ some S ≠ v.ownBlock ∧ Below w2.heap.size w2 wr) (fun iv _ => vs.length - (intOf iv).toNat)
      case atStart => exact ⟨0, _, rfl, Nat.zero_le _, HO.out, by rw [hZ0]; exact HOWN.out, HNES.out, HBW.out⟩
      case round =>
        clear hZ0
        obtain ⟨j, v, rfl, hj, hO2, hown2, hne2, hbw2⟩ := hrel
        obtain ⟨c1, c2, c3, c4, s1, s2⟩ := X2.out.later hbw2
        have o1 : wr.cell? ⟨S, 1, none⟩ = some v := cell_of_row wr _ 1 _ _ _ hO2
        have o2 : wr.frozen? ⟨S, 1, none⟩ = false := frozen_of_row _ _ 1 _ _ hO2
        have hSl := lt_of_block hO2
        have hws2 := hbw2.size
        by_cases hlt : j < vs.length
        · obtain ⟨b, off, rfl, hbL, g1, g2, g3⟩ := (HB.out.rd.later (Y2.out.trans (hbw2.mono Y2.out.size)) (Nat.le_refl _)).at_ hlt
          have hpl := HVS.out vs[j] (List.getElem_mem hlt)
          have hZs : (besW p ws vs).take (ws.length + (j + 1)) = (besW p ws vs).take (ws.length + j) ++ [⟨vs[j].kind, vs[j].pl + p, vs[j].word⟩] := by
            rw [show ws.length + (j + 1) = (ws.length + j) + 1 by omega, List.take_succ_eq_append_getElem (by rw [besW_length]; omega)]
            congr 2
            unfold besW
            rw [List.getElem_append_right (by omega)]
            simp
          have hZl : ((besW p ws vs).take (ws.length + j)).length ≤ 12 := by
            rw [List.length_take, besW_length]; omega
          have x1 : (0 : Int) ≤ (j : Int) := by omega
          have x2 : (j : Int) < (vs.length : Int) := by omega
          obtain ⟨hp0, hp1⟩ := hpl
          have hvl := hown2.lt
          generalize (besW p ws vs).take (ws.length + j) = Zj at *
          generalize vs[j].kind = zk at *
          generalize vs[j].pl = zp at *
          generalize vs[j].word = zw at *
          have hN1 : Hid (some wr.heap.size ≠ v.ownBlock) := fun h => by have := (hvl _ h.symm).2; omega
          have hN2 : Hid (some S ≠ v.ownBlock) := hne2
          have HO2 := Lib.hid hO2; have HOWN2 := Lib.hid hown2; have HNE2 := Lib.hid hne2; have HBW2 := Lib.hid hbw2; have HZS := Lib.hid hZs; have HVL := Lib.hid hvl; clear hO2 hown2 hne2 hbw2 hZs hvl
          go_wp2_with (at_builtin; go_must (refine wpList_appW_Try rfl _ _ rfl w2.heap.size v Zj rfl (by repeat (first | exact HOWN2.out | refine World.ownsRow.alloc ?_ _)) (wr.heap.size + 1) ⟨zk, zp + p, zw⟩ rfl (heap_new_at _ _ _ (by simp)) (by omega) (by simp; omega) ?_); intro g cap w4 hown4 hgrow hat4 hlt4; have q1 : w4.cell? ⟨S, 1, none⟩ = some v := (hgrow.cell_far ⟨S, 1, none⟩ (by simp; omega) hN2.out).trans (by go_simp); have q2 : w4.frozen? ⟨S, 1, none⟩ = false := (hgrow.frozen_far ⟨S, 1, none⟩ (by simp; omega) hN2.out).trans (by go_simp); have q3 : S < w4.heap.size := (by have := hgrow.size; simp at this; omega))
          go_roundw
          case rel =>
            have hneg : ∀ n : Nat, some S ≠ (Value.slice (some ⟨g, 0, none⟩) n cap).ownBlock := by
              intro n
              rcases hat4 with h | h
              · exact fun e => hN2.out (e.trans h.symm)
              · intro e
                have e2 := Option.some.inj e
                simp at h e2
                omega
            refine ⟨j + 1, _, by go_num, by omega, ?_, by rw [HZS.out]; exact own_set_ne hown4 (hneg _) _, hneg _, ?_⟩
            · exact heap_setCell_same _ _ 1 _ _ _ ((hgrow.block _ (by simp; omega) hN2.out).trans ((Below.heap_alloc _ _ _ (by simp; omega)).trans ((Below.heap_alloc _ _ _ hSl).trans HO2.out)))
            · exact (((HBW2.out.alloc HBW2.out.size _).alloc (by simp; omega) _).grown hgrow (by simp; omega) (fun k' hk' => by have := (HVL.out k' hk').1; omega)).setCell hS2 _
          case measure => simp [intOf]; omega
        · have hZall : (besW p ws vs).take (ws.length + j) = besW p ws vs := List.take_of_length_le (by rw [besW_length]; omega)
          rw [hZall] at hown2
          obtain ⟨SB, sd, rfl, hsd⟩ := own_slice3 hown2
          have hfits : ∀ x ∈ besW p ws vs, x.fits := by
            intro x hx
            unfold besW at hx
            rcases List.mem_append.1 hx with hx | hx
            · exact HA.out.rd.2.1 x hx
            · obtain ⟨y, hy, rfl⟩ := List.mem_map.1 hx
              obtain ⟨f1, f2, f3⟩ := HB.out.rd.2.1 y hy
              have := HVS.out y hy
              exact ⟨f1, ⟨by show _ ≤ y.pl + p; omega, by show y.pl + p ≤ _; omega⟩, f3⟩
          have hrs : RdW wr SB (besW p ws vs) := RdW.of_own hown2 (by rw [besW_length]; omega) hfits
          have hok : errSheet (p + q) (besW p ws vs) = 0 := bes_ok HE.out HE2.out hpq hnm
          obtain ⟨r1, r2, r3, r4⟩ := numsB hok (by rw [besW_length]; omega)
          rw [HCOUNT.out] at r2
          have o0 : wr.cell? ⟨S, 0, none⟩ = some (.int .i64 (p + q)) := cell_of_row wr _ 0 _ _ _ hO2
          have X3 := Lib.hid (X2.out.later hbw2)
          have Y3 := Lib.hid (Y2.out.trans (hbw2.mono Y2.out.size))
          generalize besW p ws vs = Z at *
          have hjn : j = vs.length := by omega
          clear o2
          have HO2 := Lib.hid hO2; have HOWN2 := Lib.hid hown2; have HNE2 := Lib.hid hne2; have HBW2 := Lib.hid hbw2; have HRS := Lib.hid hrs; have HOK := Lib.hid hok; have R1 := Lib.hid r1; have R2 := Lib.hid r2; have O0 := Lib.hid o0; have O1 := Lib.hid o1; have HZALL := Lib.hid hZall; have HFITS := Lib.hid hfits; clear hO2 hown2 hne2 hbw2 hrs hok r1 r2 o0 o1 hZall hfits
          go_wp2_with fail
          refine (tOrders_ p A c ws _ (HA.out.later Y3.out (Nat.le_refl _)) hcap).mono ?_
          rw [N1.out, N2.out]
          rintro e w4 ⟨rfl, hb1⟩
          clear c1 c2 c3 c4 s1 s2
          have hrs4 := Lib.hid (HRS.out.later hb1 (Nat.le_refl _)); have p0 := Lib.hid (below_at hb1 (Nat.le_refl _) O0.out); have p1 := Lib.hid (below_at hb1 (Nat.le_refl _) O1.out); have ps := Lib.hid (Nat.lt_of_lt_of_le hSl hb1.size)
          have X4 := Lib.hid (X3.out.later hb1); have Y4 := Lib.hid (Y3.out.trans (hb1.mono Y3.out.size)); clear hb1; obtain ⟨c1, c2, c3, c4, s1, s2⟩ := X4.out
          go_wp2_with fail
          clear c1 c2 c3 c4 s1 s2
          refine (tOrders_ q B d vs _ (HB.out.later Y4.out (Nat.le_refl _)) hcap2).mono ?_
          rw [M1.out, M2.out]
          rintro e w5 ⟨rfl, hb1⟩
          have hrs5 := Lib.hid (hrs4.out.later hb1 (Nat.le_refl _)); have v0 := below_at hb1 (Nat.le_refl _) p0.out; have v1 := below_at hb1 (Nat.le_refl _) p1.out; have vss := Nat.lt_of_lt_of_le ps.out hb1.size
          have X5 := Lib.hid (X4.out.later hb1); have Y5 := Lib.hid (Y4.out.trans (hb1.mono Y4.out.size)); clear hb1; obtain ⟨c1, c2, c3, c4, s1, s2⟩ := X5.out
          go_wp2_with fail
          clear c1 c2 c3 c4 s1 s2
          clear v0 v1
          refine (tOrders_ (p + q) SB sd Z _ ⟨by omega, by omega, hrs5.out⟩ hsd).mono ?_
          rw [R1.out, R2.out]
          rintro e w6 ⟨rfl, hb1⟩
          obtain ⟨hn, hn'⟩ : ∃ n, ws.length = n := ⟨_, rfl⟩
          obtain ⟨hm, hm'⟩ : ∃ m, vs.length = m := ⟨_, rfl⟩
          have hmixB : ∀ t, t ≤ vs.length → mix ws.length t ≤ 4096 := by
            intro t ht
            have h1 := mix_le ws.length t
            have h2 : 2 ^ (ws.length + t) ≤ 2 ^ 12 := Nat.pow_le_pow_right (by decide) (by omega)
            omega
          have u1 : decide (cntN ws.length (befW ws) 0 < 1) = false := by simp; omega
          have u2 : decide (cntN vs.length (befW vs) 0 < 1) = false := by simp; omega
          have u3 : decide ((1000000000 : Int) < cntN ws.length (befW ws) 0) = false := by simp; omega
          have u4 : decide ((1000000000 : Int) < cntN vs.length (befW vs) 0) = false := by simp; omega
          have hbig := Lib.hid (And.intro n4 m4); clear n4 m4
          generalize cntN ws.length (befW ws) 0 = N at *
          generalize cntN vs.length (befW vs) 0 = M at *
          clear hn hn' hm hm'
          have HMIXB := Lib.hid hmixB; clear hmixB
          clear X1 X2 X3 X4 O0 O1 HO2 HOWN2 HNE2 HBW2 HO HOWN HNES HBW hrs4 hrs5 p0 p1 ps HZALL HFITS HRS HOK
          have X6 := Lib.hid (X5.out.later hb1); have Y6 := Lib.hid (Y5.out.trans (hb1.mono Y5.out.size)); clear hb1; obtain ⟨c1, c2, c3, c4, s1, s2⟩ := X6.out
          go_wp2_with fail
          clear c1 c2 c3 c4 s1 s2
          go_loopw [14, 15] (fun wv iv wr => ∃ t : Nat, wv = .int .i64 (mix ws.length t) ∧ iv = .int .i64 ((t : Int) + 1) ∧ t ≤ vs.length ∧ Below w6.heap.size w6 wr) (fun _ iv _ => vs.length + 1 - (intOf iv).toNat)
          case atStart => exact ⟨0, by rw [mix_zero], rfl, Nat.zero_le _, Below.refl _ _⟩
          case round =>
            obtain ⟨t, rfl, rfl, ht, hb6⟩ := hrel
            obtain ⟨c1, c2, c3, c4, s1, s2⟩ := X6.out.later hb6
            by_cases hlt : t < vs.length
            · have x1 : (t : Int) + 1 ≤ (vs.length : Int) := by omega
              have x0 : ((t : Int) + 1 == 0) = false := by simp; omega
              have hW := mix_pos ws.length t
              have hW4 := HMIXB.out t (by omega)
              have hW4' := HMIXB.out (t + 1) (by omega)
              have hWp := mix_pos ws.length (t + 1)
              have hst := mix_step ws.length t
              have hpr1 : 0 ≤ mix ws.length t * ((ws.length : Int) + ((t : Int) + 1)) := Int.mul_nonneg (by omega) (by omega)
              have hpr2 : mix ws.length t * ((ws.length : Int) + ((t : Int) + 1)) ≤ 4096 * 13 := Int.mul_le_mul hW4 (by omega) (by omega) (by omega)
              have y1 : IntKind.i64.wrap ((ws.length : Int) + ((t : Int) + 1)) = (ws.length : Int) + ((t : Int) + 1) := IntWalk.i64_in _ (by omega)
              have y2 : IntKind.i64.wrap (mix ws.length t * ((ws.length : Int) + ((t : Int) + 1))) = mix ws.length t * ((ws.length : Int) + ((t : Int) + 1)) := IntWalk.i64_in _ (by omega)
              have y3 : (mix ws.length t * ((ws.length : Int) + ((t : Int) + 1))).tdiv ((t : Int) + 1) = mix ws.length (t + 1) := by rw [Int.tdiv_eq_ediv_of_nonneg hpr1]; exact hst
              have y4 : IntKind.i64.wrap (mix ws.length (t + 1)) = mix ws.length (t + 1) := IntWalk.i64_in _ (by omega)
              obtain ⟨W', hW'⟩ : ∃ W', W' = mix ws.length (t + 1) := ⟨_, rfl⟩
              rw [← hW'] at hst y3 y4 hW4' hWp
              have HWp := Lib.hid hW'; clear hW'
              generalize mix ws.length t = W at *
              have HB6 := Lib.hid hb6; have HPR1 := Lib.hid hpr1; have HPR2 := Lib.hid hpr2; have HW := Lib.hid hW; have HW4 := Lib.hid hW4; have HW4p := Lib.hid hW4'; have HWP := Lib.hid hWp; clear hb6 hpr1 hpr2 hW hW4 hW4' hWp
              go_wp2
              go_roundw
              case rel =>
                exact ⟨t + 1, by rw [HWp.out], by push_cast; rfl, by omega, HB6.out⟩
              case measure => simp [intOf]; omega
            · have x1 : decide ((t : Int) + 1 ≤ (vs.length : Int)) = false := by simp; omega
              obtain rfl : t = vs.length := by omega
              have hW := mix_pos ws.length vs.length
              obtain ⟨d1, d2, d3, d4⟩ := div_all (M := M) hW n3
              have hNM1 : 0 ≤ N * M := Int.mul_nonneg (by omega) (by omega)
              have hNM2 : N * M ≤ 479001600 * 479001600 := Int.mul_le_mul hbig.out.1 hbig.out.2 (by omega) (by omega)
              have hK1 : 0 ≤ mix ws.length vs.length * N * M := by rw [Int.mul_assoc]; exact Int.mul_nonneg (by omega) hNM1
              have e1 : (mix ws.length vs.length * N * M).tmod (mix ws.length vs.length) = 0 := by rw [Int.tmod_eq_emod_of_nonneg hK1]; exact d1
              have e2 : (mix ws.length vs.length * N * M).tdiv (mix ws.length vs.length) = N * M := by rw [Int.tdiv_eq_ediv_of_nonneg hK1]; exact d2
              have e3 : (N * M).tmod N = 0 := by rw [Int.tmod_eq_emod_of_nonneg hNM1]; exact d3
              have e4 : (N * M).tdiv N = M := by rw [Int.tdiv_eq_ediv_of_nonneg hNM1]; exact d4
              have e5 : IntKind.i64.wrap (N * M) = N * M := IntWalk.i64_in _ (by omega)
              have e6 : IntKind.i64.wrap M = M := IntWalk.i64_in _ (by have := hbig.out; omega)
              have z1 : ¬ mix ws.length vs.length = 0 := by omega
              have z2 : ¬ N = 0 := by omega
              generalize mix ws.length vs.length * N * M = K at *
              generalize mix ws.length vs.length = W at *
              generalize hG : N * M = G at *
              clear hG
              have HB6 := Lib.hid hb6; have HNM1 := Lib.hid hNM1; have HNM2 := Lib.hid hNM2; have HK1 := Lib.hid hK1; have HW := Lib.hid hW; clear hb6 hNM1 hNM2 hK1 hW
              go_wp2_with fail
              refine (awake_ _).mono ?_; rintro e w8 ⟨rfl, hb1⟩
              go_wp2
              go_ret
              exact ⟨rfl, (Y6.out.trans (HB6.out.mono Y6.out.size)).trans (hb1.mono (Nat.le_trans Y6.out.size HB6.out.size))⟩
end Go.Proofs.Ytifpkdajfdlgeaa
