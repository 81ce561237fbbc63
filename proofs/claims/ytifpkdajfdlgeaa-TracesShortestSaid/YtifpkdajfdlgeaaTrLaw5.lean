/- The law TracesShortest: its walk. -/
import Derived.Test.YtifpkdajfdlgeaaTrSho2
import Derived.Test.YtifpkdajfdlgeaaTrExcW
import Derived.Test.YtifpkdajfdlgeaaTrSame4
import Derived.Test.YtifpkdajfdlgeaaTrBes
namespace Go.Proofs.Ytifpkdajfdlgeaa
open Go.RowKit

theorem Box2.made (w : World) (p : Int) (A : Option Addr) (c n : Nat) : Box2 w (w.alloc (.cells #[.int .i64 p, .slice A n c] 24)) p A c n :=
  ⟨by go_simp, by go_simp, by simp⟩
theorem ex_ok {p : Int} {ws : List GW} (at' : List Int) (h : errSheet p ws = 0) : errSheet p (exW ws at') = 0 := by
  obtain ⟨a1, a2, a3, a4⟩ := errSheet_iff.1 h
  exact errSheet_iff.2 ⟨a1, by rw [exW_length]; exact a2, a3, fun x hx => a4 x (mem_exW _ hx)⟩

theorem RdI.two {w : World} {A : Option Addr} {xs : List Int} (h : RdI w A xs) {i k : Nat} (hi : i < xs.length) (hk : k < xs.length) :
    ∃ b off, A = some ⟨b, off, none⟩ ∧ w.cell? ⟨b, off + i, none⟩ = some (.int .i64 xs[i]) ∧ w.cell? ⟨b, off + k, none⟩ = some (.int .i64 xs[k]) := by
  obtain ⟨b, off, e, hlt, hc⟩ := h.2 (by omega)
  exact ⟨b, off, e, by rw [hc i (by omega)]; simp [List.getD_eq_getElem?_getD, hi], by rw [hc k (by omega)]; simp [List.getD_eq_getElem?_getD, hk]⟩

set_option maxRecDepth 100000 in
set_option maxHeartbeats 4000000 in
theorem lawShortest_ (p : Int) (A L : Option Addr) (c lc : Nat) (ws : List GW) (at' : List Int) (w : World) (ha : ShIn w p A ws) (hl : RdU w L at') :
    Calls Try.prog 7 #[.agg #[.int .i64 p, .slice A ws.length c], .slice L at'.length lc] w fun e w' => e = .returned (.bool true) ∧ Below w.heap.size w w' := by
  have hla := ha.rd.1
  have hll := hl.1
  have hb2 : Below w.heap.size w (w.alloc (.cells #[.int .i64 p, .slice A ws.length c] 24)) := (Below.refl _ _).alloc (Nat.le_refl _) _
  have Y0 := Lib.hid hb2; clear hb2
  have X0 := Lib.hid (Box2.made w p A c ws.length)
  by_cases he : errSheet p ws = 0
  rotate_left
  · have heb : (errSheet p ws != 0) = true := by simpa using he
    have HA := Lib.hid ha; have HL := Lib.hid hl; have HE := Lib.hid he; clear ha hl he
    go_enter Try.func7, Try.ntmps7
    go_wp2_with fail
    refine (rCheck_ _ _ _ _ _ HA.out.lo HA.out.hi (HA.out.rd.later Y0.out (Nat.le_refl _))).mono ?_; rintro e w1 ⟨rfl, hb1⟩
    have X1 := Lib.hid (X0.out.later hb1); have Y1 := Lib.hid (Y0.out.trans (hb1.mono Y0.out.size)); clear hb1; obtain ⟨c1, c2, s1⟩ := X1.out
    go_wp2_with fail
    clear c1 c2 s1
    refine (awake_ _).mono ?_; rintro e w8 ⟨rfl, hb1⟩
    go_wp2
    go_ret
    exact ⟨rfl, Y1.out.trans (hb1.mono Y1.out.size)⟩
  have hec := he
  by_cases h80 : 80 < ws.length
  · have t1 : (80 : Int) < (ws.length : Int) := by omega
    have HA := Lib.hid ha; have HL := Lib.hid hl; have HE := Lib.hid he; clear ha hl he
    go_enter Try.func7, Try.ntmps7
    go_wp2_with fail
    refine (rCheck_ _ _ _ _ _ HA.out.lo HA.out.hi (HA.out.rd.later Y0.out (Nat.le_refl _))).mono ?_
    rw [hec]
    clear hec
    rintro e w1 ⟨rfl, hb1⟩
    have X1 := Lib.hid (X0.out.later hb1); have Y1 := Lib.hid (Y0.out.trans (hb1.mono Y0.out.size)); clear hb1; obtain ⟨c1, c2, s1⟩ := X1.out
    go_wp2_with fail
    clear c1 c2 s1
    refine (awake_ _).mono ?_; rintro e w8 ⟨rfl, hb1⟩
    go_wp2
    go_ret
    exact ⟨rfl, Y1.out.trans (hb1.mono Y1.out.size)⟩
  have t1 : decide ((80 : Int) < (ws.length : Int)) = false := by simp; omega
  by_cases h1000 : 1000 < at'.length
  · have t2 : (1000 : Int) < (at'.length : Int) := by omega
    have HA := Lib.hid ha; have HL := Lib.hid hl; have HE := Lib.hid he; clear ha hl he
    clear h80
    go_enter Try.func7, Try.ntmps7
    go_wp2_with fail
    refine (rCheck_ _ _ _ _ _ HA.out.lo HA.out.hi (HA.out.rd.later Y0.out (Nat.le_refl _))).mono ?_
    rw [hec]
    clear hec
    rintro e w1 ⟨rfl, hb1⟩
    have X1 := Lib.hid (X0.out.later hb1); have Y1 := Lib.hid (Y0.out.trans (hb1.mono Y0.out.size)); clear hb1; obtain ⟨c1, c2, s1⟩ := X1.out
    go_wp2_with fail
    clear c1 c2 s1
    refine (awake_ _).mono ?_; rintro e w8 ⟨rfl, hb1⟩
    go_wp2
    go_ret
    exact ⟨rfl, Y1.out.trans (hb1.mono Y1.out.size)⟩
  have t2 : decide ((1000 : Int) < (at'.length : Int)) = false := by simp; omega
  obtain ⟨hp2, hp24, hlen, hall⟩ := OkS.all (show OkS p ws from he)
  have hpl : ∀ x ∈ ws, 0 ≤ x.pl ∧ x.pl ≤ 22 := fun x hx => by
    obtain ⟨_, h1, h2, _⟩ := hall x hx
    exact ⟨h1, by omega⟩
  have hokv := ex_ok at' he
  obtain ⟨l, hlaid⟩ := Laid.ex at' (Laid.start ws)
  have hvl := exW_length at' ws
  have hvpl : ∀ x ∈ exW ws at', 0 ≤ x.pl := fun x hx => (hpl x (mem_exW _ hx)).1
  have hboth : bothErr p ws p (exW ws at') = 0 := by unfold bothErr orErr; rw [he, hokv]; rfl
  obtain ⟨hperm, hmL, hmE⟩ := hlaid.perm hvpl hboth
  have hll2 := hlaid.length.1
  have hinv : inv (toK l l.length) = inv l := inv_toK hperm
  have hbnd : inv l ≤ 5000 := by
    have h1 := inv_tri l
    have h2 := tri_mono (show l.length ≤ 80 by omega)
    rw [tri_80] at h2
    omega
  obtain ⟨out, ho1, hoq, ho3⟩ := bub_ok 5000 (toK l l.length) (by omega)
  have hsL : swapsL (matchErr p ws p (exW ws at')) (matchL p ws p (exW ws at')) = out := by unfold swapsL swapsO; rw [hmE, hmL, ho1]; rfl
  have hsX : swapsX (matchErr p ws p (exW ws at')) (matchL p ws p (exW ws at')) = 0 := by unfold swapsX swapsO; rw [hmE, hmL, ho1]; rfl
  have hst := St.start hlaid hperm
  have hvf : ∀ x ∈ exW ws at', x.fits := fun x hx => ha.rd.2.1 x (mem_exW _ hx)
  have hou : out.length ≤ 5000 := by omega
  have hl80 : l.length ≤ 80 := by omega
  have HA := Lib.hid ha; have HL := Lib.hid hl; have HE := Lib.hid he; have HALL := Lib.hid hall; have HPL := Lib.hid hpl; have HOKV := Lib.hid hokv; have HLAID := Lib.hid hlaid; have HVL := Lib.hid hvl; have HVPL := Lib.hid hvpl; have HBOTH := Lib.hid hboth; have HPERM := Lib.hid hperm; have HML := Lib.hid hmL; have HME := Lib.hid hmE; have HINV := Lib.hid hinv; have HBND := Lib.hid hbnd; have HO1 := Lib.hid ho1; have HOQ := Lib.hid hoq; have HO3 := Lib.hid ho3; have HSL := Lib.hid hsL; have HSX := Lib.hid hsX; have HST := Lib.hid hst; have HVF := Lib.hid hvf; clear ha hl he hall hpl hokv hlaid hvl hvpl hboth hperm hmL hmE hinv hbnd ho1 hoq ho3 hsL hsX hst hvf
  clear h80 h1000
  go_enter Try.func7, Try.ntmps7
  go_wp2_with fail
  refine (rCheck_ _ _ _ _ _ HA.out.lo HA.out.hi (HA.out.rd.later Y0.out (Nat.le_refl _))).mono ?_
  rw [hec]
  clear hec
  rintro e w1 ⟨rfl, hb1⟩
  have X1 := Lib.hid (X0.out.later hb1); have Y1 := Lib.hid (Y0.out.trans (hb1.mono Y0.out.size)); clear hb1; obtain ⟨c1, c2, s1⟩ := X1.out
  go_wp2_with fail
  clear c1 c2 s1
  refine (exchanged_ p A L c lc ws at' _ hlen HPL.out (HA.out.rd.later Y1.out (Nat.le_refl _)) (HL.out.later Y1.out (Nat.le_refl _))).mono ?_
  rintro e w2 ⟨B, d, rfl, hownb, hb1, hdc⟩
  have HOWNB := Lib.hid hownb; clear hownb
  have X2 := Lib.hid (X1.out.later hb1); have Y2 := Lib.hid (Y1.out.trans (hb1.mono Y1.out.size)); clear hb1; obtain ⟨c1, c2, s1⟩ := X2.out
  go_wp2_with fail
  clear c1 c2 s1
  have hbx : Below w2.heap.size w2 (w2.alloc (.cells #[.int .i64 p, .slice B (exW ws at').length d] 24)) := (Below.refl _ _).alloc (Nat.le_refl _) _
  have X3 := Lib.hid (X2.out.later hbx)
  have Y3 := Lib.hid (Y2.out.trans (hbx.mono Y2.out.size))
  have Z3 := Lib.hid (Box2.made w2 p B d (exW ws at').length)
  have OB3 := Lib.hid (own_below3 HOWNB.out hbx)
  clear hbx
  obtain ⟨w3, hw3⟩ : ∃ w3, w3 = w2.alloc (.cells #[.int .i64 p, .slice B (exW ws at').length d] 24) := ⟨_, rfl⟩
  rw [← hw3] at X3 Y3 Z3 OB3 ⊢
  clear hw3
  have RB3 := Lib.hid (RdW.of_own OB3.out (by rw [exW_length]; omega) HVF.out)
  refine (tSwaps_ p p A B c d ws (exW ws at') _ (HA.out.later Y3.out (Nat.le_refl _)) ⟨by omega, by omega, RB3.out⟩).mono ?_
  rw [HSL.out, HSX.out]
  rintro e w4 ⟨_, rfl, ⟨L1, k1, rfl, hL1⟩, hb1⟩
  have HL1 := Lib.hid hL1; clear hL1
  have X4 := Lib.hid (X3.out.later hb1); have Z4 := Lib.hid (Z3.out.later hb1); have Y4 := Lib.hid (Y3.out.trans (hb1.mono Y3.out.size)); have OB4 := Lib.hid (own_below3 OB3.out hb1); have RB4 := Lib.hid (RB3.out.later hb1 (Nat.le_refl _)); clear hb1
  obtain ⟨c1, c2, s1⟩ := X4.out
  obtain ⟨d1, d2, s2⟩ := Z4.out
  go_wp2_with fail
  clear c1 c2 s1 d1 d2 s2
  refine (tMatch_ p p A B c d ws (exW ws at') _ (HA.out.later Y4.out (Nat.le_refl _)) ⟨by omega, by omega, RB4.out⟩).mono ?_
  rw [HML.out, HME.out]
  rintro e w5 ⟨_, rfl, ⟨L2, k2, rfl, hL2⟩, hb1⟩
  have HL2 := Lib.hid hL2; clear hL2
  have X5 := Lib.hid (X4.out.later hb1); have Z5 := Lib.hid (Z4.out.later hb1); have Y5 := Lib.hid (Y4.out.trans (hb1.mono Y4.out.size)); have OB5 := Lib.hid (own_below3 OB4.out hb1); have RB5 := Lib.hid (RB4.out.later hb1 (Nat.le_refl _)); have HL1' := Lib.hid (HL1.out.later hb1 (Nat.le_refl _)); clear hb1
  obtain ⟨c1, c2, s1⟩ := X5.out
  obtain ⟨d1, d2, s2⟩ := Z5.out
  have hlb : ((l.length : Int) != (ws.length : Int)) = false := by simp [hll2]
  go_wp2
  have HRD5 := Lib.hid (HA.out.rd.later Y5.out (Nat.le_refl _))
  clear d1 d2 s2 hlb
  clear X1 X2 X3 X4 Y1 Y2 Y3 Y4 Z3 Z4 OB3 OB4 RB3 RB4 HL1 HOWNB
  go_upto_region 9 with fail
  go_cut [10] (fun sv wx => ∃ (S : Nat) (sA : Option Addr) (sc : Nat), sv = .pointer (some ⟨S, 0, none⟩) ∧ wx.heap[S]? = some (.cells #[.int .i64 p, .slice sA ws.length sc] 24 (0, 0)) ∧
    wx.ownsRow w5.heap.size 40 3 (.slice sA ws.length sc) ws.length (worksC ws) ∧ some S ≠ (Value.slice sA ws.length sc).ownBlock ∧ w5.heap.size ≤ S ∧ Below w5.heap.size w5 wx ∧ ws.length ≤ sc)
  case first =>
    go_region_held3 (fun wX => Below w5.heap.size w5 wX ∧ (∀ b o, b < w5.heap.size → wX.cell? ⟨b, o, none⟩ = w5.cell? ⟨b, o, none⟩) ∧ w5.heap.size ≤ wX.heap.size)
      ((refine bcell2 ?_; first | exact (Below.refl _ _).drew | exact hB3 | exact hB3.alloc hB3.size _ | exact ‹Below w5.heap.size w5 _ ∧ _›.1.alloc ‹Below w5.heap.size w5 _ ∧ _›.1.size _ | exact (hB3.setCell (by simp) _).setCell (by simp) _ | exact (hB3.setCell (by simp; omega) _).setCell (by simp; omega) _ | exact ((hB3.alloc hB3.size _).setCell (by simp; omega) _).setCell (by simp; omega) _ | exact ‹Below w5.heap.size w5 _ ∧ _›.1))
      (first
        | (refine step_copyW_Try (by rfl) _ _ (by rfl) w5.heap.size (.slice (some ⟨w5.heap.size, 0, none⟩) 0 0) (by rfl) (own_emptyW (heap_alloc_new _ _) (Nat.le_refl _)) A c ws (by rfl) (HRD5.out.later (B := w5.heap.size) (by repeat (first | exact Below.refl _ _ | refine Below.drew ?_ | refine Below.alloc ?_ (by first | exact Nat.le_refl _ | (simp; done) | (simp; omega)) _)) (Nat.le_refl _)) (by omega) (by first | exact Nat.le_refl _ | (simp; done) | (simp; omega)) ?_; intro sA sc w3 hown hgrow hat hsc; have hB3 : Below w5.heap.size w5 w3 := Below.grown (by repeat (first | exact Below.refl _ _ | refine Below.drew ?_ | refine Below.alloc ?_ (by first | exact Nat.le_refl _ | (simp; done) | (simp; omega)) _)) hgrow (by first | exact Nat.le_refl _ | (simp; done) | (simp; omega)) (fun k hk => by simp [Value.ownBlock] at hk; omega); obtain ⟨k1, k2, k3⟩ := X5.out.later hB3)
        | (refine step_copyW_Try (by rfl) _ _ (by rfl) w5.heap.size (.slice (some ⟨w5.heap.size, 0, none⟩) 0 0) (by rfl) (own_emptyW (heap_alloc2_old _ _ _) (Nat.le_refl _)) A c ws (by rfl) (HRD5.out.later (B := w5.heap.size) (by repeat (first | exact Below.refl _ _ | refine Below.drew ?_ | refine Below.alloc ?_ (by first | exact Nat.le_refl _ | (simp; done) | (simp; omega)) _)) (Nat.le_refl _)) (by omega) (by first | exact Nat.le_refl _ | (simp; done) | (simp; omega)) ?_; intro sA sc w3 hown hgrow hat hsc; have hB3 : Below w5.heap.size w5 w3 := Below.grown (by repeat (first | exact Below.refl _ _ | refine Below.drew ?_ | refine Below.alloc ?_ (by first | exact Nat.le_refl _ | (simp; done) | (simp; omega)) _)) hgrow (by first | exact Nat.le_refl _ | (simp; done) | (simp; omega)) (fun k hk => by simp [Value.ownBlock] at hk; omega); obtain ⟨k1, k2, k3⟩ := X5.out.later hB3; have hS : w3.heap[w5.heap.size + 1]? = some (.cells #[.int .i64 0, .slice none 0 0] 24 (0, 0)) := (hgrow.block _ (by first | (simp; done) | (simp; omega)) (by simp [Value.ownBlock])).trans (heap_alloc2_new _ _ _); have q1 := cell_of_row w3 _ 0 _ _ _ hS; have q2 := cell_of_row w3 _ 1 _ _ _ hS; have q3 := frozen_of_row w3 _ 0 _ _ hS; have q4 := frozen_of_row w3 _ 1 _ _ hS; have q5 := lt_of_block hS; simp at q1 q2)
        | (refine step_copyW_Try (by rfl) _ _ (by rfl) w5.heap.size (.slice (some ⟨w5.heap.size + 1, 0, none⟩) 0 0) (by rfl) (own_emptyW (heap_alloc2_new _ _ _) (by omega)) A c ws (by rfl) (HRD5.out.later (B := w5.heap.size) (by repeat (first | exact Below.refl _ _ | refine Below.drew ?_ | refine Below.alloc ?_ (by first | exact Nat.le_refl _ | (simp; done) | (simp; omega)) _)) (Nat.le_refl _)) (by omega) (by first | exact Nat.le_refl _ | (simp; done) | (simp; omega)) ?_; intro sA sc w3 hown hgrow hat hsc; have hB3 : Below w5.heap.size w5 w3 := Below.grown (by repeat (first | exact Below.refl _ _ | refine Below.drew ?_ | refine Below.alloc ?_ (by first | exact Nat.le_refl _ | (simp; done) | (simp; omega)) _)) hgrow (by first | exact Nat.le_refl _ | (simp; done) | (simp; omega)) (fun k hk => by simp [Value.ownBlock] at hk; omega); obtain ⟨k1, k2, k3⟩ := X5.out.later hB3; have hS : w3.heap[w5.heap.size]? = some (.cells #[.int .i64 0, .slice none 0 0] 24 (0, 0)) := (hgrow.block _ (by first | (simp; done) | (simp; omega)) (by simp [Value.ownBlock])).trans (heap_alloc2_old _ _ _); have q1 := cell_of_row w3 _ 0 _ _ _ hS; have q2 := cell_of_row w3 _ 1 _ _ _ hS; have q3 := frozen_of_row w3 _ 0 _ _ hS; have q4 := frozen_of_row w3 _ 1 _ _ hS; have q5 := lt_of_block hS; simp at q1 q2))
    all_goals
      go_wp2_with fail
      go_meet
      first
        | exact ⟨_, sA, sc, rfl, heap_alloc_new _ _, hown.alloc _, (fun h => by have := (hown.lt _ h.symm).2; omega), hB3.size, hB3.alloc hB3.size _, hsc⟩
        | (have hne : some (w5.heap.size + 1) ≠ (Value.slice sA ws.length sc).ownBlock := by
             rcases hat with h | h <;> (rw [h]; simp [Value.ownBlock]) <;> omega
           exact ⟨w5.heap.size + 1, sA, sc, rfl, two_set hS, own_set_ne (own_set_ne hown hne _) hne _, hne, by omega, (hB3.setCell (by show w5.heap.size ≤ w5.heap.size + 1; omega) _).setCell (by show w5.heap.size ≤ w5.heap.size + 1; omega) _, hsc⟩)
        | (have hne : some w5.heap.size ≠ (Value.slice sA ws.length sc).ownBlock := by
             rcases hat with h | h <;> (rw [h]; simp [Value.ownBlock]) <;> omega
           exact ⟨w5.heap.size, sA, sc, rfl, two_set hS, own_set_ne (own_set_ne hown hne _) hne _, hne, by omega, (hB3.setCell (Nat.le_refl _) _).setCell (Nat.le_refl _) _, hsc⟩)
  case rest =>
    obtain ⟨S, sA, sc, rfl, hO, hown, hneS, hS2, hbw, hsc⟩ := hcut
    clear c1 c2 s1
    have HO := Lib.hid hO; have HOWN := Lib.hid hown; have HNES := Lib.hid hneS; have HBW := Lib.hid hbw; have HSC := Lib.hid hsc; clear hO hown hneS hbw hsc
    go_wp2
    go_loopw [11] (fun iv wr => ∃ (j : Nat) (t : List Int) (X : List GW), iv = .int .i64 j ∧ j ≤ out.length ∧ Ch t (out.drop j) ∧ St (exW ws at') t X ∧ wr.heap[S]? = some (.cells #[.int .i64 p, .slice sA ws.length sc] 24 (0, 0)) ∧
      wr.ownsRow w5.heap.size 40 3 (.slice sA ws.length sc) ws.length (worksC X) ∧ Below w5.heap.size w5 wr) (fun iv _ => out.length - (intOf iv).toNat)
    case atStart => exact ⟨0, _, ws, rfl, Nat.zero_le _, by rw [List.drop_zero]; exact HO3.out, HST.out, HO.out, HOWN.out, HBW.out⟩
    case round =>
      obtain ⟨j, t, X, rfl, hj, hch, hst, hO2, hown2, hbw2⟩ := hrel
      obtain ⟨c1, c2, s1⟩ := X5.out.later hbw2
      have hXl : X.length = ws.length := by rw [hst.xlen, exW_length]
      have hSl := lt_of_block hO2
      by_cases hlt : j < out.length
      · have hdr : out.drop j = out[j] :: out.drop (j + 1) := List.drop_eq_getElem_cons hlt
        rw [hdr] at hch
        obtain ⟨P, hP, hi, hch2⟩ := hch
        obtain ⟨hPn, ht, hst2⟩ := hst.step hi
        rw [exW_length] at hPn
        have hPX : P + 1 < X.length := by omega
        have hPX0 : P < X.length := by omega
        obtain ⟨bL, oL, hL1e, hbL, hcL⟩ := (HL1'.out.later hbw2 (Nat.le_refl _)).at_ hlt
        subst hL1e
        rw [hP] at hcL
        obtain ⟨g, rfl, hg1, hg2⟩ := own_someW hown2 (by omega)
        have o1 : wr.cell? ⟨S, 1, none⟩ = some (.slice (some ⟨g, 0, none⟩) ws.length sc) := cell_of_row wr _ 1 _ _ _ hO2
        obtain ⟨q1, q2, q3, _, _, _⟩ := own_workW hown2 (i := P) (by omega)
        obtain ⟨q4, q5, q6, _, _, _⟩ := own_workW hown2 (i := P + 1) (by omega)
        have hXp : ∀ i, i < ws.length → 0 ≤ (X.getD i nw).pl ∧ (X.getD i nw).pl ≤ 22 := fun i hi => by
          rw [hst.at_ i (by rw [exW_length]; exact hi)]
          obtain ⟨r1, r2⟩ := hst.rng i (by rw [exW_length]; exact hi)
          have e : (exW ws at').getD (t.getD i 0).toNat nw = (exW ws at')[(t.getD i 0).toNat]'(by omega) := by rw [List.getD_eq_getElem?_getD, List.getElem?_eq_getElem (by omega)]; rfl
          rw [e]
          exact HPL.out _ (mem_exW _ (List.getElem_mem _))
        obtain ⟨e1, e2⟩ := hXp P (by omega)
        obtain ⟨e3, e4⟩ := hXp (P + 1) (by omega)
        have x1 : (0 : Int) ≤ (j : Int) := by omega
        have x2 : (j : Int) < (out.length : Int) := by omega
        have y1 : (0 : Int) ≤ (P : Int) := by omega
        have y2 : (P : Int) < (ws.length : Int) := by omega
        have y3 : (P : Int) + 1 < (ws.length : Int) := by omega
        have y4 : IntKind.i64.wrap ((P : Int) + 1) = (P : Int) + 1 := IntWalk.i64_in _ (by omega)
        have y5 : ((P : Int) + 1).toNat = P + 1 := by omega
        have y6 : (0 : Int) ≤ (P : Int) + 1 := by omega
        have y7 : decide ((P : Int) < 0) = false := by simp
        have y8 : decide ((ws.length : Int) ≤ (P : Int) + 1) = false := by simp; omega
        obtain ⟨z1, hz1⟩ : ∃ z, X.getD P nw = z := ⟨_, rfl⟩
        obtain ⟨z2, hz2⟩ : ∃ z, X.getD (P + 1) nw = z := ⟨_, rfl⟩
        have hsw : swW X P = (X.set P z2).set (P + 1) z1 := by unfold swW; rw [hz1, hz2]
        rw [hsw] at hst2
        rw [hz1] at q1 q2 q3 e1 e2 ht
        rw [hz2] at q4 q5 q6 e3 e4 ht
        clear hsw hXp hst hi hdr
        have HZ1 := Lib.hid hz1; have HZ2 := Lib.hid hz2; have HST2 := Lib.hid hst2; have HCH2 := Lib.hid hch2; have HO2 := Lib.hid hO2; have HOWN2 := Lib.hid hown2; have HBW2 := Lib.hid hbw2; have HXL := Lib.hid hXl; have HP := Lib.hid hP; clear hz1 hz2 hst2 hch2 hO2 hown2 hbw2 hXl hP
        go_wp2
        have hbelc : ∀ (u : Bel wr.heap.size wr) b o, b < wr.heap.size → u.wd.cell? ⟨b, o, none⟩ = wr.cell? ⟨b, o, none⟩ := fun u b o h => u.h.cell (p := ⟨b, o, none⟩) h
        have hbeln : Nonempty (Bel wr.heap.size wr) := ⟨⟨wr, Below.refl _ _⟩⟩
        refine wp_region_bel wr.heap.size (by kernel_rfl) (by kernel_rfl) ?_
        repeat (go_big_quiet_step ((go_at_call 27; exact quiet_bel (Nat.le_refl _) (touch_is _ _ _ _ _ _ _ (by omega) (by omega) (by omega) (by omega) ht))))
        refine wpQuiet_nil ?_
        intro wB hB0; obtain ⟨uB, hu⟩ := hB0; have hbB0 := uB.h; rw [← hu] at hbB0; clear hu uB hbelc hbeln
        obtain ⟨hbB, hcB, hsB⟩ := bcell2 hbB0; clear hbB0
        clear o1 q1 q2 q3 q4 q5 q6 hcB hsB hcL hbL c1 c2 s1
        have hOB := (hbB.block S hSl).trans HO2.out
        have hownB := own_below3 HOWN2.out hbB
        have o1 : wB.cell? ⟨S, 1, none⟩ = some (.slice (some ⟨g, 0, none⟩) ws.length sc) := cell_of_row wB _ 1 _ _ _ hOB
        have hgl : g < wB.heap.size := (hownB.lt g rfl).2
        have hSB : S < wB.heap.size := lt_of_block hOB
        obtain ⟨q1, q2, q3, f1, f2, f3⟩ := own_workW (ws := X) hownB (i := P) hPX0
        obtain ⟨q4, q5, q6, f4, f5, f6⟩ := own_workW (ws := X) hownB (i := P + 1) hPX
        rw [HZ1.out] at q1 q2 q3
        rw [HZ2.out] at q4 q5 q6
        have n1 : ¬ S = g := fun e => HNES.out (by rw [e]; rfl)
        have n2 : ¬ g = S := fun e => n1 e.symm
        have HOB := Lib.hid hOB; have HOWNB := Lib.hid hownB; clear hOB hownB
        go_wp2
        go_region
        go_wp2
        go_roundw
        case rel =>
          obtain ⟨r1, r2, r3⟩ := swap_facts (P := P) HOWNB.out n1 (HBW2.out.trans (hbB.mono HBW2.out.size)) hg1 z1 z2
          exact ⟨j + 1, _, _, by go_num, by omega, HCH2.out, HST2.out, r2.trans HOB.out, r1, r3⟩
        case measure => simp [intOf]; omega
      · obtain rfl : j = out.length := by omega
        rw [List.drop_length] at hch
        have hXe : X = exW ws at' := hst.done hch
        clear hch hst
        subst hXe
        have HO2 := Lib.hid hO2; have HOWN2 := Lib.hid hown2; have HBW2 := Lib.hid hbw2; clear hO2 hown2 hbw2
        clear hlt hj hXl
        obtain ⟨wo, hwo⟩ : ∃ wo : World, wo = wr := ⟨_, rfl⟩
        rw [← hwo] at HO2 HOWN2 HBW2 c1 c2 s1 hSl ⊢
        clear hwo
        go_wp2
        have hi80 : ∀ i, inv (l.take i) ≤ 3160 := fun i => by
          have h1 := inv_tri (l.take i)
          have h2 := tri_mono (show (l.take i).length ≤ 80 by rw [List.length_take]; omega)
          rw [tri_80] at h2
          omega
        have HI80 := Lib.hid hi80; clear hi80
        clear c1 c2 s1
        go_loopw [13, 14, 15] (fun nv iv _ wr => ∃ i : Nat, iv = .int .i64 i ∧ i ≤ l.length ∧ nv = .int .i64 (inv (l.take i) : Nat) ∧ Below wo.heap.size wo wr) (fun _ iv _ _ => l.length - (intOf iv).toNat)
        case atStart => exact ⟨0, rfl, Nat.zero_le _, by simp [inv], Below.refl _ _⟩
        case round =>
          obtain ⟨i, rfl, hi, rfl, hb3⟩ := hrel
          by_cases hlt2 : i < l.length
          · have hsn : inv (l.take (i + 1)) = inv (l.take i) + (l.take i).countP (fun y => decide (l[i] < y)) := by rw [List.take_succ_eq_append_getElem hlt2, inv_snoc]
            have hbd := HI80.out i
            generalize inv (l.take i) = N at *
            have HSN := Lib.hid hsn; have HB3 := Lib.hid hb3; clear hsn hb3
            obtain ⟨wp, hwp⟩ : ∃ wp : World, wp = wr := ⟨_, rfl⟩
            rw [← hwp] at HB3 ⊢
            clear hwp
            go_wp2
            go_loopw [13, 15] (fun nv kv wr => ∃ k : Nat, kv = .int .i64 k ∧ k ≤ i ∧ nv = .int .i64 (N + (l.take k).countP (fun y => decide (l[i] < y)) : Nat) ∧ Below wo.heap.size wo wr) (fun _ kv _ => i - (intOf kv).toNat)
            case atStart => exact ⟨0, rfl, Nat.zero_le _, by simp, HB3.out⟩
            case round =>
              obtain ⟨k, rfl, hk, rfl, hb4⟩ := hrel
              by_cases hlt3 : k < i
              · have hkl : k < l.length := by omega
                have hs2 : (l.take (k + 1)).countP (fun y => decide (l[i] < y)) = (l.take k).countP (fun y => decide (l[i] < y)) + if l[i] < l[k] then 1 else 0 := by
                  rw [List.take_succ_eq_append_getElem hkl, List.countP_append, List.countP_cons, List.countP_nil]; simp
                have hcl : (l.take k).countP (fun y => decide (l[i] < y)) ≤ 80 := by
                  have h1 := List.countP_le_length (p := fun y => decide (l[i] < y)) (l := l.take k)
                  rw [List.length_take] at h1
                  omega
                obtain ⟨bM, oM, rfl, hcM, hcM2⟩ := (HL2.out.later (HBW2.out.trans (hb4.mono HBW2.out.size)) (Nat.le_refl _)).two hlt2 hkl
                have x1 : (0 : Int) ≤ (i : Int) := by omega
                have x2 : (i : Int) < (l.length : Int) := by omega
                have x3 : (0 : Int) ≤ (k : Int) := by omega
                have x4 : (k : Int) < (l.length : Int) := by omega
                have x5 : (k : Int) < (i : Int) := by omega
                generalize (l.take k).countP (fun y => decide (l[i] < y)) = M at *
                generalize l[i] = li at *
                generalize l[k] = lk at *
                have HS2 := Lib.hid hs2; have HB4 := Lib.hid hb4; clear hs2 hb4
                go_wp2
                go_quiet (fail)
                by_cases hgt : li < lk
                all_goals
                  go_wp2
                  go_roundw
                  case rel =>
                    refine ⟨k + 1, by go_num, by omega, ?_, below_drewN HB4.out _⟩
                    have := HS2.out
                    first | rw [if_pos hgt] at this | rw [if_neg hgt] at this
                    rw [this]
                    first | rfl | go_num
                  case measure => simp [intOf]; omega
              · obtain rfl : k = i := by omega
                have HB4 := Lib.hid hb4; clear hb4
                go_wp2
                go_roundw
                case rel => exact ⟨k + 1, by go_num, by omega, by rw [HSN.out], HB4.out⟩
                case measure => simp [intOf]; omega
          · obtain rfl : i = l.length := by omega
            rw [List.take_length]
            obtain ⟨d1, d2, s2⟩ := Z5.out.later (HBW2.out.trans (hb3.mono HBW2.out.size))
            have hO3 := (hb3.block S hSl).trans HO2.out
            have o0 : wr.cell? ⟨S, 0, none⟩ = some (.int .i64 p) := cell_of_row wr _ 0 _ _ _ hO3
            have o1 : wr.cell? ⟨S, 1, none⟩ = some (.slice sA (exW ws at').length sc) := by rw [exW_length]; exact cell_of_row wr _ 1 _ _ _ hO3
            have ROX : RdW wr sA (exW ws at') := by
              have h1 := own_below3 HOWN2.out hb3
              rw [← exW_length at' ws] at h1
              exact RdW.of_own h1 (by rw [exW_length]; omega) HVF.out
            have ROB := RB5.out.later (HBW2.out.trans (hb3.mono HBW2.out.size)) (Nat.le_refl _)
            have t9 : ((out.length : Int) == ((inv l : Nat) : Int)) = true := by rw [HOQ.out, HINV.out]; simp
            have YY := Lib.hid (Y5.out.trans ((HBW2.out.trans (hb3.mono HBW2.out.size)).mono Y5.out.size))
            have ROXp := Lib.hid ROX; have ROBp := Lib.hid ROB; clear ROX ROB
            have HO3 := Lib.hid hO3; have HB3 := Lib.hid hb3; clear hO3 hb3
            clear hlt2 hi
            go_wp2_with fail
            refine (rSame4_ p _ _ _ _ (exW ws at') _ ROXp.out ROBp.out).mono ?_
            rintro e w6 ⟨rfl, hb6⟩
            have Y6 := Lib.hid (YY.out.trans (hb6.mono YY.out.size)); clear hb6
            clear d1 d2 s2 o0 o1
            go_wp2_with fail
            refine (awake_ _).mono ?_; rintro e w8 ⟨rfl, hb1⟩
            go_wp2
            go_ret
            exact ⟨rfl, Y6.out.trans (hb1.mono Y6.out.size)⟩
end Go.Proofs.Ytifpkdajfdlgeaa
