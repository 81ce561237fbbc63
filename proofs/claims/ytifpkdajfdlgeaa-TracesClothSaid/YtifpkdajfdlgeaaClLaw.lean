/- The law TracesCloth: its walk. -/
import Derived.Test.YtifpkdajfdlgeaaClHist
import Derived.Test.YtifpkdajfdlgeaaClSame
import Derived.Test.YtifpkdajfdlgeaaTrLaw1
import Derived.Deep.RegionHeld3
namespace Go.Proofs.Ytifpkdajfdlgeaa
open Go.RowKit

theorem bcell2 {W w1 : World} {B : Nat} (hb : Below B W w1) : Below B W w1 ∧ (∀ b o, b < B → w1.cell? ⟨b, o, none⟩ = W.cell? ⟨b, o, none⟩) ∧ W.heap.size ≤ w1.heap.size := ⟨hb, fun b o h => hb.cell (p := ⟨b, o, none⟩) h, hb.size⟩
theorem injS0 : InjF S0.ln := fun _ _ h => h
set_option maxRecDepth 100000 in
set_option maxHeartbeats 8000000 in
theorem lawCloth_ (p q : Int) (A B : Option Addr) (c d : Nat) (ws vs : List GW) (w : World) (ha : ShIn w p A ws) (hb : ShIn w q B vs) :
    Calls Try.prog 4 #[.agg #[.int .i64 p, .slice A ws.length c], .agg #[.int .i64 q, .slice B vs.length d]] w fun e w' => e = .returned (.bool true) ∧ Below w.heap.size w w' := by
  have hla := ha.rd.1
  have hlb := hb.rd.1
  have hb2 : Below w.heap.size w ((w.alloc (.cells #[.int .i64 p, .slice A ws.length c] 24)).alloc (.cells #[.int .i64 q, .slice B vs.length d] 24)) := ((Below.refl _ _).alloc (Nat.le_refl _) _).alloc (by simp) _
  have Y0 := Lib.hid hb2; clear hb2
  have X0 := Lib.hid (BoxS.made w p q A B c d ws.length vs.length)
  by_cases he : errSheet p ws = 0
  rotate_left
  · have heb : (errSheet p ws != 0) = true := by simpa using he
    have HA := Lib.hid ha; have HB := Lib.hid hb; have HE := Lib.hid he; clear ha hb he
    go_enter Try.func4, Try.ntmps4
    go_wp2_with fail
    refine (rCheck_ _ _ _ _ _ HA.out.lo HA.out.hi (HA.out.rd.later Y0.out (Nat.le_refl _))).mono ?_; rintro e w1 ⟨rfl, hb1⟩
    have X1 := Lib.hid (X0.out.later hb1); have Y1 := Lib.hid (Y0.out.trans (hb1.mono Y0.out.size)); clear hb1; obtain ⟨c1, c2, c3, c4, s1, s2⟩ := X1.out
    go_wp2_with fail
    clear c1 c2 c3 c4 s1 s2
    refine (awake_ _).mono ?_; rintro e w8 ⟨rfl, hb1⟩
    go_wp2
    go_ret
    exact ⟨rfl, Y1.out.trans (hb1.mono Y1.out.size)⟩
  have hec := he
  by_cases he2 : errSheet q vs = 0
  rotate_left
  · have heb : (errSheet q vs != 0) = true := by simpa using he2
    have HA := Lib.hid ha; have HB := Lib.hid hb; have HE := Lib.hid he; have HE2 := Lib.hid he2; clear ha hb he he2
    go_enter Try.func4, Try.ntmps4
    go_wp2_with fail
    refine (rCheck_ _ _ _ _ _ HA.out.lo HA.out.hi (HA.out.rd.later Y0.out (Nat.le_refl _))).mono ?_
    rw [hec]
    clear hec
    rintro e w1 ⟨rfl, hb1⟩
    have X1 := Lib.hid (X0.out.later hb1); have Y1 := Lib.hid (Y0.out.trans (hb1.mono Y0.out.size)); clear hb1; obtain ⟨c1, c2, c3, c4, s1, s2⟩ := X1.out
    go_wp2_with fail
    clear c1 c2 c3 c4 s1 s2
    refine (rCheck_ _ _ _ _ _ HB.out.lo HB.out.hi (HB.out.rd.later Y1.out (Nat.le_refl _))).mono ?_; rintro e w2 ⟨rfl, hb1⟩
    have X2 := Lib.hid (X1.out.later hb1); have Y2 := Lib.hid (Y1.out.trans (hb1.mono Y1.out.size)); clear hb1; obtain ⟨c1, c2, c3, c4, s1, s2⟩ := X2.out
    go_wp2_with fail
    clear c1 c2 c3 c4 s1 s2
    refine (awake_ _).mono ?_; rintro e w8 ⟨rfl, hb1⟩
    go_wp2
    go_ret
    exact ⟨rfl, Y2.out.trans (hb1.mono Y2.out.size)⟩
  have hec2 := he2
  by_cases h1 : 100 < ws.length
  · have t1 : (100 : Int) < (ws.length : Int) := by omega
    have HA := Lib.hid ha; have HB := Lib.hid hb; have HE := Lib.hid he; have HE2 := Lib.hid he2; clear ha hb he he2
    go_enter Try.func4, Try.ntmps4
    go_wp2_with fail
    refine (rCheck_ _ _ _ _ _ HA.out.lo HA.out.hi (HA.out.rd.later Y0.out (Nat.le_refl _))).mono ?_
    rw [hec]
    clear hec
    rintro e w1 ⟨rfl, hb1⟩
    have X1 := Lib.hid (X0.out.later hb1); have Y1 := Lib.hid (Y0.out.trans (hb1.mono Y0.out.size)); clear hb1; obtain ⟨c1, c2, c3, c4, s1, s2⟩ := X1.out
    go_wp2_with fail
    clear c1 c2 c3 c4 s1 s2
    refine (rCheck_ _ _ _ _ _ HB.out.lo HB.out.hi (HB.out.rd.later Y1.out (Nat.le_refl _))).mono ?_
    rw [hec2]
    clear hec2
    rintro e w2 ⟨rfl, hb1⟩
    have X2 := Lib.hid (X1.out.later hb1); have Y2 := Lib.hid (Y1.out.trans (hb1.mono Y1.out.size)); clear hb1; obtain ⟨c1, c2, c3, c4, s1, s2⟩ := X2.out
    go_wp2_with fail
    clear c1 c2 c3 c4 s1 s2
    refine (awake_ _).mono ?_; rintro e w8 ⟨rfl, hb1⟩
    go_wp2
    go_ret
    exact ⟨rfl, Y2.out.trans (hb1.mono Y2.out.size)⟩
  have t1 : decide ((100 : Int) < (ws.length : Int)) = false := by simp; omega
  by_cases h2 : 100 < vs.length
  · have t2 : (100 : Int) < (vs.length : Int) := by omega
    have HA := Lib.hid ha; have HB := Lib.hid hb; have HE := Lib.hid he; have HE2 := Lib.hid he2; clear ha hb he he2
    go_enter Try.func4, Try.ntmps4
    go_wp2_with fail
    refine (rCheck_ _ _ _ _ _ HA.out.lo HA.out.hi (HA.out.rd.later Y0.out (Nat.le_refl _))).mono ?_
    rw [hec]
    clear hec
    rintro e w1 ⟨rfl, hb1⟩
    have X1 := Lib.hid (X0.out.later hb1); have Y1 := Lib.hid (Y0.out.trans (hb1.mono Y0.out.size)); clear hb1; obtain ⟨c1, c2, c3, c4, s1, s2⟩ := X1.out
    go_wp2_with fail
    clear c1 c2 c3 c4 s1 s2
    refine (rCheck_ _ _ _ _ _ HB.out.lo HB.out.hi (HB.out.rd.later Y1.out (Nat.le_refl _))).mono ?_
    rw [hec2]
    clear hec2
    rintro e w2 ⟨rfl, hb1⟩
    have X2 := Lib.hid (X1.out.later hb1); have Y2 := Lib.hid (Y1.out.trans (hb1.mono Y1.out.size)); clear hb1; obtain ⟨c1, c2, c3, c4, s1, s2⟩ := X2.out
    go_wp2_with fail
    clear c1 c2 c3 c4 s1 s2
    refine (awake_ _).mono ?_; rintro e w8 ⟨rfl, hb1⟩
    go_wp2
    go_ret
    exact ⟨rfl, Y2.out.trans (hb1.mono Y2.out.size)⟩
  have t2 : decide ((100 : Int) < (vs.length : Int)) = false := by simp; omega
  have hbo : bothErr p ws q vs = 0 := by unfold bothErr orErr; rw [he, he2]; rfl
  obtain ⟨hp2, hp24, _, hall⟩ := OkS.all (show OkS p ws from he)
  obtain ⟨_, _, _, hall2⟩ := OkS.all (show OkS q vs from he2)
  have hws1 : ws.length ≤ 100 := by omega
  have hvs1 : vs.length ≤ 100 := by omega
  clear h1 h2
  cases hs : sameE p ws q vs with
  | false =>
    have HA := Lib.hid ha; have HB := Lib.hid hb; have HE := Lib.hid he; have HE2 := Lib.hid he2; have HS := Lib.hid hs; have HBO := Lib.hid hbo; have HALL := Lib.hid hall; have HALL2 := Lib.hid hall2; clear ha hb he he2 hs hbo hall hall2
    go_enter Try.func4, Try.ntmps4
    go_wp2_with fail
    refine (rCheck_ _ _ _ _ _ HA.out.lo HA.out.hi (HA.out.rd.later Y0.out (Nat.le_refl _))).mono ?_
    rw [hec]
    clear hec
    rintro e w1 ⟨rfl, hb1⟩
    have X1 := Lib.hid (X0.out.later hb1); have Y1 := Lib.hid (Y0.out.trans (hb1.mono Y0.out.size)); clear hb1; obtain ⟨c1, c2, c3, c4, s1, s2⟩ := X1.out
    go_wp2_with fail
    clear c1 c2 c3 c4 s1 s2
    refine (rCheck_ _ _ _ _ _ HB.out.lo HB.out.hi (HB.out.rd.later Y1.out (Nat.le_refl _))).mono ?_
    rw [hec2]
    clear hec2
    rintro e w2 ⟨rfl, hb1⟩
    have X2 := Lib.hid (X1.out.later hb1); have Y2 := Lib.hid (Y1.out.trans (hb1.mono Y1.out.size)); clear hb1; obtain ⟨c1, c2, c3, c4, s1, s2⟩ := X2.out
    go_wp2_with fail
    clear c1 c2 c3 c4 s1 s2
    refine (tSame_ p q A B c d ws vs _ (HA.out.later Y2.out (Nat.le_refl _)) (HB.out.later Y2.out (Nat.le_refl _))).mono ?_
    rw [HS.out, HBO.out]
    rintro e w3 ⟨rfl, hb1⟩
    have Y3 := Lib.hid (Y2.out.trans (hb1.mono Y2.out.size)); clear hb1
    go_wp2
    have hbelc : ∀ (u : Bel w3.heap.size w3) b o, b < w3.heap.size → u.wd.cell? ⟨b, o, none⟩ = w3.cell? ⟨b, o, none⟩ := fun u b o h => u.h.cell (p := ⟨b, o, none⟩) h
    have hbeln : Nonempty (Bel w3.heap.size w3) := ⟨⟨w3, Below.refl _ _⟩⟩
    refine wp_region_bel w3.heap.size (by kernel_rfl) (by kernel_rfl) ?_
    repeat (go_big_quiet_step ((go_at_call 14; exact quiet_bel (Nat.le_refl _) (awake_ _))))
    refine wpQuiet_nil ?_
    intro wB hB0; obtain ⟨uB, hu⟩ := hB0; have hbB0 := uB.h; rw [← hu] at hbB0; clear hu uB hbelc hbeln
    obtain ⟨hbB, hcB, hsB⟩ := bcell2 hbB0; clear hbB0
    go_wp2
    go_ret
    exact ⟨rfl, Y3.out.trans (hbB.mono Y3.out.size)⟩
  | true =>
    obtain ⟨hpq, hh⟩ := same_hist hbo hs (fun x hx => (hall x hx).2.1) (fun x hx => (hall2 x hx).2.1) injS0
    subst hpq
    obtain ⟨P, rfl⟩ := Int.eq_ofNat_of_zero_le (show 0 ≤ p by omega)
    have hP : P ≤ 24 := by omega
    have hN : ∀ t, ((hist ws S0).h t).length ≤ 100000 := fun t => by
      have h1 := (OkH.hist ws (OkH.start (2 * P)) (fun x hx => by
        obtain ⟨y1, y2, y3, _⟩ := hall x hx
        exact ⟨by omega, y1⟩)).2 t
      omega
    have heA : OkS P ws := he
    have heB : OkS P vs := he2
    have HA := Lib.hid ha; have HB := Lib.hid hb; have HE := Lib.hid he; have HE2 := Lib.hid he2; have HS := Lib.hid hs; have HBO := Lib.hid hbo; have HALL := Lib.hid hall; have HALL2 := Lib.hid hall2; have HH := Lib.hid hh; have HN := Lib.hid hN; have HEA := Lib.hid heA; have HEB := Lib.hid heB; clear ha hb he he2 hs hbo hall hall2 hh hN heA heB
    go_enter Try.func4, Try.ntmps4
    go_wp2_with fail
    refine (rCheck_ _ _ _ _ _ HA.out.lo HA.out.hi (HA.out.rd.later Y0.out (Nat.le_refl _))).mono ?_
    rw [hec]
    clear hec
    rintro e w1 ⟨rfl, hb1⟩
    have X1 := Lib.hid (X0.out.later hb1); have Y1 := Lib.hid (Y0.out.trans (hb1.mono Y0.out.size)); clear hb1; obtain ⟨c1, c2, c3, c4, s1, s2⟩ := X1.out
    go_wp2_with fail
    clear c1 c2 c3 c4 s1 s2
    refine (rCheck_ _ _ _ _ _ HB.out.lo HB.out.hi (HB.out.rd.later Y1.out (Nat.le_refl _))).mono ?_
    rw [hec2]
    clear hec2
    rintro e w2 ⟨rfl, hb1⟩
    have X2 := Lib.hid (X1.out.later hb1); have Y2 := Lib.hid (Y1.out.trans (hb1.mono Y1.out.size)); clear hb1; obtain ⟨c1, c2, c3, c4, s1, s2⟩ := X2.out
    go_wp2_with fail
    clear c1 c2 c3 c4 s1 s2
    refine (tSame_ P P A B c d ws vs _ (HA.out.later Y2.out (Nat.le_refl _)) (HB.out.later Y2.out (Nat.le_refl _))).mono ?_
    rw [HS.out, HBO.out]
    rintro e w3 ⟨rfl, hb1⟩
    have X3 := Lib.hid (X2.out.later hb1)
    have Y3 := Lib.hid (Y2.out.trans (hb1.mono Y2.out.size)); clear hb1
    obtain ⟨c1, c2, c3, c4, s1, s2⟩ := X3.out
    have hA3 := HA.out.rd.later Y3.out (Nat.le_refl _)
    have hB3 := HB.out.rd.later Y3.out (Nat.le_refl _)
    have zz : ((P : Int) == (P : Int)) = true := by simp
    have HA3 := Lib.hid hA3; have HB3 := Lib.hid hB3; clear hA3 hB3
    go_wp2
    go_region_held3 (fun wX => Below w3.heap.size w3 wX ∧ (∀ b o, b < w3.heap.size → wX.cell? ⟨b, o, none⟩ = w3.cell? ⟨b, o, none⟩) ∧ w3.heap.size ≤ wX.heap.size) ((refine bcell2 ?_; first | exact (Below.refl _ _).drew | exact ‹Below w3.heap.size w3 _ ∧ _›.1.trans (hbH.mono ‹Below w3.heap.size w3 _ ∧ _›.1.size) | exact ‹Below w3.heap.size w3 _ ∧ _›.1.alloc ‹Below w3.heap.size w3 _ ∧ _›.1.size _ | exact ‹Below w3.heap.size w3 _ ∧ _›.1)) ((first | (go_at_call 22; (with_reducible refine (histories_ P A c ws _ HEA.out hws1 (HA3.out.later (‹Below w3.heap.size w3 _ ∧ _›.1) (Nat.le_refl _))).mono ?_); rintro e w5 ⟨R1, rfl, hr1, hbH⟩) | (go_at_call 22; (with_reducible refine (histories_ P B d vs _ HEB.out hvs1 (HB3.out.later (‹Below w3.heap.size w3 _ ∧ _›.1) (Nat.le_refl _))).mono ?_); rintro e w5 ⟨R2, rfl, hr2, hbH⟩; rw [← HH.out] at hr2; replace hr1 := hr1.later hbH) | (go_at_call 21; (with_reducible refine (sameHist_ R1 R2 (2 * P) _ _ (by omega) HN.out hr1 hr2).mono ?_); rintro e w5 ⟨rfl, hbH⟩) | (go_at_call 14; (with_reducible refine (awake_ _).mono ?_); rintro e w5 ⟨rfl, hbH⟩)))
    all_goals
      go_wp2
      go_ret
      exact ⟨rfl, Y3.out.trans (‹Below w3.heap.size w3 _ ∧ _›.1.mono Y3.out.size)⟩
end Go.Proofs.Ytifpkdajfdlgeaa
