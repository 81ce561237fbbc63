/- Texts of this claim, laid together: BoLFew. -/
import Derived.Test.YtdimaapiloojeaaMaJ
import Derived.Test.YtdimaapiloojeaaMaM
/- The law BobbinsFewest. -/
namespace Go.Proofs.Ytdimaapiloojeaa
open Go.RowKit

theorem WdP.more {al : Nat → Int} {n : Nat} {most most' : Int} (h : most ≤ most') : ∀ {l : List Nat} {i : Nat}, WdP al n most i l → WdP al n most' i l
  | [], i, hw => by unfold WdP at hw ⊢; omega
  | q :: l, i, hw => by
    unfold WdP at hw ⊢
    exact ⟨hw.1, hw.2.1, by omega, WdP.more h hw.2.2.2⟩
/-- What Knots returns, and what the reference's Winding says of it. -/
theorem few_facts {need most : Int} {ps : List Int} (hp : ps.length ≤ 100) : (knE need ps most = 2 ∧ knL need ps most = []) ∨ (AscP need ps ∧ need ≤ 1000000000000 ∧ (1 ≤ most ∧ most ≤ 1000000000000) ∧
    ((knE need ps most = 4 ∧ knL need ps most = [] ∧ ∀ l, wdB need ps most (-1) l = false) ∨
    (∃ q : List Nat, knE need ps most = 0 ∧ knL need ps most = outI q ∧ q.length ≤ 101 ∧ wdB need ps most (-1) (outI q) = true ∧ (∀ l, wdB need ps most (-1) l = true → ∃ m : List Nat, l = outI m ∧ q.length ≤ m.length ∧ (m.length = q.length → lexLe q m)) ∧
      ∀ most', most ≤ most' → most' ≤ 1000000000000 → knE need ps most' = 0 ∧ (knL need ps most').length ≤ q.length))) := by
  by_cases hz : thrE need ps = 0
  rotate_left
  · left
    have h2 : thrE need ps = 2 := by
      unfold thrE at hz ⊢
      rw [if_neg (by omega)] at hz ⊢
      split at hz
      · rename_i h; rw [if_pos h]
      · rename_i h
        rw [if_neg h]
        split at hz
        · exact absurd rfl hz
        · rename_i h2; rw [if_neg h2]
    refine ⟨?_, ?_⟩
    · unfold knE; rw [if_pos hz, h2]
    · unfold knL; rw [if_neg (fun h => hz h.1)]
  obtain ⟨h1, h2, h3⟩ := thrE_ok hz
  have hE : ∀ m, outR m 1 1000000000000 = false → knE need ps m = if knO need ps m = none then 4 else 0 := fun m hm => by
    unfold knE
    rw [if_neg (fun h => h hz), hm, if_neg (by simp)]
  have hL : ∀ m, outR m 1 1000000000000 = false → knL need ps m = ((knO need ps m).map outI).getD [] := fun m hm => by
    unfold knL
    rw [if_pos ⟨hz, hm⟩]
  cases ho : outR most 1 1000000000000 with
  | true =>
    left
    refine ⟨?_, ?_⟩
    · unfold knE; rw [if_neg (fun h => h hz), if_pos ho]
    · unfold knL; rw [if_neg (fun h => by rw [ho] at h; cases h.2)]
  | false =>
    right
    have hm := outR_no ho
    refine ⟨h1, h3, hm, ?_⟩
    have hi := fun l => wdB_iff (need := need) (ps := ps) (most := most) l 0 (by omega)
    have hi : ∀ l, wdB need ps most (-1) l = true ↔ ∃ m : List Nat, l = outI m ∧ WdP (alF need ps) (ps.length + 2) most 0 m := fun l => hi l
    cases hk : knO need ps most with
    | none =>
      left
      refine ⟨by rw [hE most ho, if_pos hk], by rw [hL most ho, hk]; rfl, fun l => ?_⟩
      cases hw : wdB need ps most (-1) l with
      | false => rfl
      | true =>
        obtain ⟨m, _, h⟩ := (hi l).1 hw
        exact absurd h ((knO_none (by omega) h2 h1).1 hk m)
    | some q =>
      right
      have hb := knO_some.1 hk
      have hql := knO_len hk
      refine ⟨q, by rw [hE most ho, if_neg (by rw [hk]; simp)], by rw [hL most ho, hk]; rfl, by omega, (hi _).2 ⟨q, rfl, hb.1⟩, fun l hl => ?_, fun most' h4 h5 => ?_⟩
      · obtain ⟨m, rfl, hw⟩ := (hi l).1 hl
        exact ⟨m, rfl, (hb.2 m hw).1, (hb.2 m hw).2⟩
      · have ho' : outR most' 1 1000000000000 = false := by unfold outR; simp; omega
        have hw := WdP.more h4 hb.1
        obtain ⟨q', hq'⟩ := best_ex (by omega) (by omega) (by omega) (alF_mono h1) ⟨q, hw⟩
        have hk' := knO_some.2 hq'
        refine ⟨by rw [hE most' ho', if_neg (by rw [hk']; simp)], ?_⟩
        rw [hL most' ho', hk']
        show (outI q').length ≤ q.length
        rw [outI_len]
        exact (hq'.2 q hw).1
theorem lexLe_at : ∀ {p q : List Nat} {i : Nat} (hp : i < p.length) (hq : i < q.length), lexLe p q → p.take i = q.take i → p[i] ≠ q[i] → p[i] < q[i]
  | a :: p, b :: q, 0, _, _, h, _, hne => by
    unfold lexLe at h
    simp only [List.getElem_cons_zero] at hne ⊢
    rcases h with h | h
    · exact h
    · exact absurd h.1 hne
  | a :: p, b :: q, i + 1, hp, hq, h, ht, hne => by
    unfold lexLe at h
    simp only [List.take_succ_cons, List.cons.injEq] at ht
    rcases h with h | h
    · omega
    · exact lexLe_at (p := p) (q := q) (by simpa using hp) (by simpa using hq) h.2 ht.2 hne
  | [], _, _, hp, _, _, _, _ => absurd hp (by simp)
  | _ :: _, [], _, _, hq, _, _, _ => absurd hq (by simp)
theorem outI_get (l : List Nat) {k : Nat} (hk : k < l.length) : (outI l)[k]'(by rw [outI_len]; exact hk) = (l[k] : Int) - 1 := by unfold outI; simp
set_option maxRecDepth 100000 in
set_option maxHeartbeats 8000000 in
theorem lawFewest_ (need most : Int) (A MA : Option Addr) (c mc : Nat) (ps mine : List Int) (w : World) (hr : RdI w A ps) (hm : RdI w MA mine) (hmr : -9223372036854775808 ≤ most ∧ most ≤ 9223372036854775807) :
    Calls Try.prog 8 #[.agg #[.int .i64 need, .slice A ps.length c], .int .i64 most, .slice MA mine.length mc] w (BoolPost true w) := by
  have hln1 := hr.1
  have hln2 := hm.1
  have haw := fun W => awake20_ W
  obtain ⟨w1, hw1⟩ : ∃ w1, w1 = w.alloc (.cells #[.int .i64 need, .slice A ps.length c] 43) := ⟨_, rfl⟩
  have hb1 : Below w.heap.size w w1 := by rw [hw1]; exact (Below.refl _ _).alloc (Nat.le_refl _) _
  have hx1 : w1.heap[w.heap.size]? = some (.cells #[.int .i64 need, .slice A ps.length c] 43 (0, 0)) := by rw [hw1]; exact heap_alloc_new _ _
  have c0 := cell_of_row _ _ 0 _ _ _ hx1
  have c1 := cell_of_row _ _ 1 _ _ _ hx1
  simp only [List.getElem?_toArray, List.getElem?_cons_zero, List.getElem?_cons_succ] at c0 c1
  have l0 := lt_of_block hx1
  by_cases h1 : 100 < ps.length
  · have d1 : decide ((100 : Int) < (ps.length : Int)) = true := decide_eq_true (by omega)
    have HR := Lib.hid hr; have HM := Lib.hid hm; have HMR := Lib.hid hmr; have HAW := Lib.hid haw; have HW1 := Lib.hid hw1; have HB1 := Lib.hid hb1; have HX1 := Lib.hid hx1; clear hr hm hmr haw hw1 hb1 hx1
    go_enter Try.func8, Try.ntmps8
    go_upto_region 1 with fail
    rw [← HW1.out]
    go_wp2_with fail
    refine (HAW.out _).mono ?_
    rintro e w2 ⟨rfl, b2⟩
    have hb2 := HB1.out.trans (b2.mono HB1.out.size)
    have B2 := Lib.hid b2; have HB2 := Lib.hid hb2; clear b2 hb2
    go_wp2
    go_ret
    exact ⟨rfl, HB2.out⟩
  have d1 : decide ((100 : Int) < (ps.length : Int)) = false := decide_eq_false (by omega)
  by_cases h2 : 100 < mine.length
  · have d2 : decide ((100 : Int) < (mine.length : Int)) = true := decide_eq_true (by omega)
    have HR := Lib.hid hr; have HM := Lib.hid hm; have HMR := Lib.hid hmr; have HAW := Lib.hid haw; have HW1 := Lib.hid hw1; have HB1 := Lib.hid hb1; have HX1 := Lib.hid hx1; clear hr hm hmr haw hw1 hb1 hx1
    go_enter Try.func8, Try.ntmps8
    go_upto_region 1 with fail
    rw [← HW1.out]
    go_wp2_with fail
    refine (HAW.out _).mono ?_
    rintro e w2 ⟨rfl, b2⟩
    have hb2 := HB1.out.trans (b2.mono HB1.out.size)
    have B2 := Lib.hid b2; have HB2 := Lib.hid hb2; clear b2 hb2
    go_wp2
    go_ret
    exact ⟨rfl, HB2.out⟩
  have d2 : decide ((100 : Int) < (mine.length : Int)) = false := decide_eq_false (by omega)
  have hcall := bKnots_ need most A c ps w1 (hr.later hb1 (Nat.le_refl _))
  rcases few_facts (need := need) (most := most) (ps := ps) (by omega) with ⟨hE, hL⟩ | ⟨hasc, hneed, hmost, hcase⟩
  · rw [hE, hL] at hcall
    have HR := Lib.hid hr; have HM := Lib.hid hm; have HMR := Lib.hid hmr; have HAW := Lib.hid haw; have HW1 := Lib.hid hw1; have HB1 := Lib.hid hb1; have HX1 := Lib.hid hx1; have HCALL := Lib.hid hcall; have HE := Lib.hid hE; have HL := Lib.hid hL; clear hr hm hmr haw hw1 hb1 hx1 hcall hE hL
    go_enter Try.func8, Try.ntmps8
    go_upto_region 1 with fail
    rw [← HW1.out]
    go_wp2_with fail
    refine HCALL.out.mono ?_
    rintro e w2 ⟨v, rfl, ho, b2⟩
    obtain ⟨VA, vc, rfl⟩ := own_slice1 ho
    have hb2 := HB1.out.trans (b2.mono HB1.out.size)
    have B2 := Lib.hid b2; have HB2 := Lib.hid hb2; have HO := Lib.hid ho; clear b2 hb2 ho
    go_wp2_with fail
    refine (HAW.out _).mono ?_
    rintro e w3 ⟨rfl, b3⟩
    have hb3 := HB2.out.trans (b3.mono HB2.out.size)
    have B3 := Lib.hid b3; have HB3 := Lib.hid hb3; clear b3 hb3
    go_wp2
    go_ret
    exact ⟨rfl, HB3.out⟩
  have hwdg := fun (LA : Option Addr) (lc : Nat) (l : List Int) (W : World) (hW : Below w.heap.size w W) (hl : RdI W LA l) => rWinding20_ need most A LA c lc ps l W (hr.later hW (Nat.le_refl _)) hl hasc hneed ⟨by omega, hmost.2⟩
  rcases hcase with ⟨hE, hL, hno⟩ | ⟨q, hE, hL, hq101, hqw, hall, hmore⟩
  · rw [hE, hL] at hcall
    have HR := Lib.hid hr; have HM := Lib.hid hm; have HMR := Lib.hid hmr; have HAW := Lib.hid haw; have HW1 := Lib.hid hw1; have HB1 := Lib.hid hb1; have HX1 := Lib.hid hx1; have HCALL := Lib.hid hcall; have HE := Lib.hid hE; have HL := Lib.hid hL; have HNO := Lib.hid hno; have HWDG := Lib.hid hwdg; have HASC := Lib.hid hasc; have HNEED := Lib.hid hneed; have HMOST := Lib.hid hmost; clear hr hm hmr haw hw1 hb1 hx1 hcall hE hL hno hwdg hasc hneed hmost
    go_enter Try.func8, Try.ntmps8
    go_upto_region 1 with fail
    rw [← HW1.out]
    go_wp2_with fail
    refine HCALL.out.mono ?_
    rintro e w2 ⟨v, rfl, ho, b2⟩
    obtain ⟨VA, vc, rfl⟩ := own_slice1 ho
    have hb2 := HB1.out.trans (b2.mono HB1.out.size)
    have hx2 := (b2.block _ (lt_of_block HX1.out)).trans HX1.out
    have hc2 := HWDG.out MA mc mine w2 hb2 (HM.out.later hb2 (Nat.le_refl _))
    rw [HNO.out mine] at hc2
    clear b2 c0 c1 l0
    have c0 := cell_of_row _ _ 0 _ _ _ hx2
    have c1 := cell_of_row _ _ 1 _ _ _ hx2
    simp only [List.getElem?_toArray, List.getElem?_cons_zero, List.getElem?_cons_succ] at c0 c1
    have l0 := lt_of_block hx2
    have HB2 := Lib.hid hb2; have HO := Lib.hid ho; have HX2 := Lib.hid hx2; have HC2 := Lib.hid hc2; clear hb2 ho hx2 hc2
    go_wp2_with fail
    refine HC2.out.mono ?_
    rintro e w3 ⟨rfl, b3⟩
    have hb3 := HB2.out.trans (b3.mono HB2.out.size)
    clear b3 c0 c1 l0
    have HB3 := Lib.hid hb3; clear hb3
    go_wp2_with fail
    refine (HAW.out _).mono ?_
    rintro e w4 ⟨rfl, b4⟩
    have hb4 := HB3.out.trans (b4.mono HB3.out.size)
    clear b4
    have HB4 := Lib.hid hb4; clear hb4
    go_wp2
    go_ret
    exact ⟨rfl, HB4.out⟩
  rw [hE, hL] at hcall
  obtain ⟨m1, hm1⟩ : ∃ m1, m1 = most + 1 := ⟨_, rfl⟩
  obtain ⟨m2, hm2⟩ : ∃ m2, m2 = if 1000000000000 < m1 then 1000000000000 else m1 := ⟨_, rfl⟩
  obtain ⟨hE2, hL2⟩ := hmore m2 (by rw [hm2]; split <;> omega) (by rw [hm2]; split <;> omega)
  have hkn2 := fun (W : World) (hW : Below w.heap.size w W) => bKnots_ need m2 A c ps W (hr.later hW (Nat.le_refl _))
  rw [hE2] at hkn2
  obtain ⟨bl, hble⟩ : ∃ bl, bl = knL need ps m2 := ⟨_, rfl⟩
  rw [← hble] at hkn2 hL2
  have hwm : IntKind.i64.wrap (most + 1) = m1 := (IntWalk.i64_in _ (by omega)).trans hm1.symm
  have hmin : (1000000000000 < m1 ∧ m2 = 1000000000000) ∨ (¬ 1000000000000 < m1 ∧ m2 = m1) := by
    rw [hm2]
    by_cases h : 1000000000000 < m1
    · exact .inl ⟨h, if_pos h⟩
    · exact .inr ⟨h, if_neg h⟩
  have hql : (outI q).length = q.length := outI_len q
  have d9 : decide (q.length < bl.length) = false := decide_eq_false (by omega)
  have d8 : decide ((q.length : Int) < (bl.length : Int)) = false := decide_eq_false (by omega)
  have hwq := fun (LA : Option Addr) (lc : Nat) (W : World) (hW : Below w.heap.size w W) (hl : RdI W LA (outI q)) => hwdg LA lc (outI q) W hW hl
  rw [hqw, hql] at hwq
  clear hm2
  have HM1 := Lib.hid hm1
  clear hm1
  rcases hmin with ⟨h9, rfl⟩ | ⟨h9, rfl⟩
  · have dm : decide (1000000000000 < m1) = true := decide_eq_true h9
    cases hbm : wdB need ps most (-1) mine with
    | false =>
      have HR := Lib.hid hr; have HM := Lib.hid hm; have HMR := Lib.hid hmr; have HAW := Lib.hid haw; have HW1 := Lib.hid hw1; have HB1 := Lib.hid hb1; have HX1 := Lib.hid hx1; have HCALL := Lib.hid hcall; have HE := Lib.hid hE; have HL := Lib.hid hL; have HWDG := Lib.hid hwdg; have HASC := Lib.hid hasc; have HNEED := Lib.hid hneed; have HMOST := Lib.hid hmost; have HKN2 := Lib.hid hkn2; have HWQ := Lib.hid hwq; have HQL := Lib.hid hql; have HBLE := Lib.hid hble; have HBM := Lib.hid hbm; have HQW := Lib.hid hqw; have HALL := Lib.hid hall; have HMORE := Lib.hid hmore; have HE2 := Lib.hid hE2; have HL2 := Lib.hid hL2; have H9 := Lib.hid h9; clear hr hm hmr haw hw1 hb1 hx1 hcall hE hL hwdg hasc hneed hmost hkn2 hwq hql hble hbm hqw hall hmore hE2 hL2 h9
      go_enter Try.func8, Try.ntmps8
      go_upto_region 1 with fail
      rw [← HW1.out]
      go_wp2_with fail
      refine HCALL.out.mono ?_
      rintro e w2 ⟨v, rfl, ho, b2⟩
      obtain ⟨VA, vc, rfl⟩ := own_slice1 ho
      rw [HQL.out]
      have hq2 : RdI w2 VA (outI q) := rdI_of_own9 ho (by rw [HQL.out]; omega)
      have hb2 := HB1.out.trans (b2.mono HB1.out.size)
      have hx2 := (b2.block _ (lt_of_block HX1.out)).trans HX1.out
      have hc2 := HWDG.out MA mc mine w2 hb2 (HM.out.later hb2 (Nat.le_refl _))
      rw [HBM.out] at hc2
      clear b2 c0 c1 l0 ho
      have c0 := cell_of_row _ _ 0 _ _ _ hx2
      have c1 := cell_of_row _ _ 1 _ _ _ hx2
      simp only [List.getElem?_toArray, List.getElem?_cons_zero, List.getElem?_cons_succ] at c0 c1
      have l0 := lt_of_block hx2
      have HB2 := Lib.hid hb2; have HX2 := Lib.hid hx2; have HC2 := Lib.hid hc2; have HQ2 := Lib.hid hq2; clear hb2 hx2 hc2 hq2
      go_wp2_with fail
      refine HC2.out.mono ?_
      rintro e w3 ⟨rfl, b3⟩
      have hb3 := HB2.out.trans (b3.mono HB2.out.size)
      have hx3 := (b3.block _ (lt_of_block HX2.out)).trans HX2.out
      have hq3 := HQ2.out.later b3 (Nat.le_refl _)
      have hc3 := HKN2.out w3 hb3
      clear b3 c0 c1 l0 HC2 HQ2 HB2 HX2
      have c0 := cell_of_row _ _ 0 _ _ _ hx3
      have c1 := cell_of_row _ _ 1 _ _ _ hx3
      simp only [List.getElem?_toArray, List.getElem?_cons_zero, List.getElem?_cons_succ] at c0 c1
      have l0 := lt_of_block hx3
      have HB3 := Lib.hid hb3; have HX3 := Lib.hid hx3; have HQ3 := Lib.hid hq3; have HC3 := Lib.hid hc3; clear hb3 hx3 hq3 hc3
      go_wp2_with fail
      refine HC3.out.mono ?_
      rintro e w4 ⟨v, rfl, ho4, b4⟩
      obtain ⟨BA, bc, rfl⟩ := own_slice1 ho4
      have hb4 := HB3.out.trans (b4.mono HB3.out.size)
      have hx4 := (b4.block _ (lt_of_block HX3.out)).trans HX3.out
      have hq4 := HQ3.out.later b4 (Nat.le_refl _)
      have hc4 := HWQ.out VA vc w4 hb4 hq4
      clear b4 c0 c1 l0 HC3 HQ3 HB3 HX3 ho4
      have c0 := cell_of_row _ _ 0 _ _ _ hx4
      have c1 := cell_of_row _ _ 1 _ _ _ hx4
      simp only [List.getElem?_toArray, List.getElem?_cons_zero, List.getElem?_cons_succ] at c0 c1
      have l0 := lt_of_block hx4
      have HB4 := Lib.hid hb4; have HX4 := Lib.hid hx4; have HQ4 := Lib.hid hq4; have HC4 := Lib.hid hc4; clear hb4 hx4 hq4 hc4
      go_wp2_with fail
      refine HC4.out.mono ?_
      rintro e w5 ⟨rfl, b5⟩
      have hb5 := HB4.out.trans (b5.mono HB4.out.size)
      have hq5 := HQ4.out.later b5 (Nat.le_refl _)
      clear b5 c0 c1 l0 HC4 HQ4 HB4 HX4
      have HB5 := Lib.hid hb5; have HQ5 := Lib.hid hq5; clear hb5 hq5
      go_wp2_with fail
      refine (HAW.out _).mono ?_
      rintro e w6 ⟨rfl, b6⟩
      have hb6 := HB5.out.trans (b6.mono HB5.out.size)
      clear b6
      have HB6 := Lib.hid hb6; clear hb6
      go_wp2
      go_ret
      exact ⟨rfl, HB6.out⟩
    | true =>
      obtain ⟨m, rfl, hlm, hlx⟩ := hall mine hbm
      have hml : (outI m).length = m.length := outI_len m
      have d2m : decide ((100 : Int) < (m.length : Int)) = false := by rw [← hml]; exact d2
      have hm100 : m.length ≤ 100 := by omega
      rw [hml]
      clear d2
      have d7 : decide (m.length < q.length) = false := decide_eq_false (by omega)
      have d6 : decide ((m.length : Int) < (q.length : Int)) = false := decide_eq_false (by omega)
      by_cases hgt : q.length < m.length
      · have d5 : decide (q.length < m.length) = true := decide_eq_true hgt
        have d4 : decide ((q.length : Int) < (m.length : Int)) = true := decide_eq_true (by omega)
        have HR := Lib.hid hr; have HM := Lib.hid hm; have HMR := Lib.hid hmr; have HAW := Lib.hid haw; have HW1 := Lib.hid hw1; have HB1 := Lib.hid hb1; have HX1 := Lib.hid hx1; have HCALL := Lib.hid hcall; have HE := Lib.hid hE; have HL := Lib.hid hL; have HWDG := Lib.hid hwdg; have HASC := Lib.hid hasc; have HNEED := Lib.hid hneed; have HMOST := Lib.hid hmost; have HKN2 := Lib.hid hkn2; have HWQ := Lib.hid hwq; have HQL := Lib.hid hql; have HBLE := Lib.hid hble; have HBM := Lib.hid hbm; have HQW := Lib.hid hqw; have HALL := Lib.hid hall; have HMORE := Lib.hid hmore; have HE2 := Lib.hid hE2; have HL2 := Lib.hid hL2; have H9 := Lib.hid h9; have HLM := Lib.hid hlm; have HLX := Lib.hid hlx; have HML := Lib.hid hml; have HGT := Lib.hid hgt; clear hr hm hmr haw hw1 hb1 hx1 hcall hE hL hwdg hasc hneed hmost hkn2 hwq hql hble hbm hqw hall hmore hE2 hL2 h9 hlm hlx hml hgt
        go_enter Try.func8, Try.ntmps8
        go_upto_region 1 with fail
        rw [← HW1.out]
        go_wp2_with fail
        refine HCALL.out.mono ?_
        rintro e w2 ⟨v, rfl, ho, b2⟩
        obtain ⟨VA, vc, rfl⟩ := own_slice1 ho
        rw [HQL.out]
        have hq2 : RdI w2 VA (outI q) := rdI_of_own9 ho (by rw [HQL.out]; omega)
        have hb2 := HB1.out.trans (b2.mono HB1.out.size)
        have hx2 := (b2.block _ (lt_of_block HX1.out)).trans HX1.out
        have hc2 := HWDG.out MA mc (outI m) w2 hb2 (HM.out.later hb2 (Nat.le_refl _))
        rw [HBM.out] at hc2
        rw [HML.out] at hc2
        clear b2 c0 c1 l0 ho
        have c0 := cell_of_row _ _ 0 _ _ _ hx2
        have c1 := cell_of_row _ _ 1 _ _ _ hx2
        simp only [List.getElem?_toArray, List.getElem?_cons_zero, List.getElem?_cons_succ] at c0 c1
        have l0 := lt_of_block hx2
        have HB2 := Lib.hid hb2; have HX2 := Lib.hid hx2; have HC2 := Lib.hid hc2; have HQ2 := Lib.hid hq2; clear hb2 hx2 hc2 hq2
        go_wp2_with fail
        refine HC2.out.mono ?_
        rintro e w3 ⟨rfl, b3⟩
        have hb3 := HB2.out.trans (b3.mono HB2.out.size)
        have hx3 := (b3.block _ (lt_of_block HX2.out)).trans HX2.out
        have hq3 := HQ2.out.later b3 (Nat.le_refl _)
        have hc3 := HKN2.out w3 hb3
        clear b3 c0 c1 l0 HC2 HQ2 HB2 HX2
        have c0 := cell_of_row _ _ 0 _ _ _ hx3
        have c1 := cell_of_row _ _ 1 _ _ _ hx3
        simp only [List.getElem?_toArray, List.getElem?_cons_zero, List.getElem?_cons_succ] at c0 c1
        have l0 := lt_of_block hx3
        have HB3 := Lib.hid hb3; have HX3 := Lib.hid hx3; have HQ3 := Lib.hid hq3; have HC3 := Lib.hid hc3; clear hb3 hx3 hq3 hc3
        go_wp2_with fail
        refine HC3.out.mono ?_
        rintro e w4 ⟨v, rfl, ho4, b4⟩
        obtain ⟨BA, bc, rfl⟩ := own_slice1 ho4
        have hb4 := HB3.out.trans (b4.mono HB3.out.size)
        have hx4 := (b4.block _ (lt_of_block HX3.out)).trans HX3.out
        have hq4 := HQ3.out.later b4 (Nat.le_refl _)
        have hc4 := HWQ.out VA vc w4 hb4 hq4
        clear b4 c0 c1 l0 HC3 HQ3 HB3 HX3 ho4
        have c0 := cell_of_row _ _ 0 _ _ _ hx4
        have c1 := cell_of_row _ _ 1 _ _ _ hx4
        simp only [List.getElem?_toArray, List.getElem?_cons_zero, List.getElem?_cons_succ] at c0 c1
        have l0 := lt_of_block hx4
        have HB4 := Lib.hid hb4; have HX4 := Lib.hid hx4; have HQ4 := Lib.hid hq4; have HC4 := Lib.hid hc4; clear hb4 hx4 hq4 hc4
        go_wp2_with fail
        refine HC4.out.mono ?_
        rintro e w5 ⟨rfl, b5⟩
        have hb5 := HB4.out.trans (b5.mono HB4.out.size)
        have hq5 := HQ4.out.later b5 (Nat.le_refl _)
        clear b5 c0 c1 l0 HC4 HQ4 HB4 HX4
        have HB5 := Lib.hid hb5; have HQ5 := Lib.hid hq5; clear hb5 hq5
        go_wp2_with fail
        refine (HAW.out _).mono ?_
        rintro e w6 ⟨rfl, b6⟩
        have hb6 := HB5.out.trans (b6.mono HB5.out.size)
        clear b6
        have HB6 := Lib.hid hb6; clear hb6
        go_wp2
        go_ret
        exact ⟨rfl, HB6.out⟩
      · have d5 : decide (q.length < m.length) = false := decide_eq_false hgt
        have d4 : decide ((q.length : Int) < (m.length : Int)) = false := decide_eq_false (by omega)
        have heq : m.length = q.length := by omega
        have hlex := hlx heq
        have HR := Lib.hid hr; have HM := Lib.hid hm; have HMR := Lib.hid hmr; have HAW := Lib.hid haw; have HW1 := Lib.hid hw1; have HB1 := Lib.hid hb1; have HX1 := Lib.hid hx1; have HCALL := Lib.hid hcall; have HE := Lib.hid hE; have HL := Lib.hid hL; have HWDG := Lib.hid hwdg; have HASC := Lib.hid hasc; have HNEED := Lib.hid hneed; have HMOST := Lib.hid hmost; have HKN2 := Lib.hid hkn2; have HWQ := Lib.hid hwq; have HQL := Lib.hid hql; have HBLE := Lib.hid hble; have HBM := Lib.hid hbm; have HQW := Lib.hid hqw; have HALL := Lib.hid hall; have HMORE := Lib.hid hmore; have HE2 := Lib.hid hE2; have HL2 := Lib.hid hL2; have H9 := Lib.hid h9; have HLM := Lib.hid hlm; have HLX := Lib.hid hlx; have HML := Lib.hid hml; have HGT := Lib.hid hgt; have HEQ := Lib.hid heq; have HLEX := Lib.hid hlex; clear hr hm hmr haw hw1 hb1 hx1 hcall hE hL hwdg hasc hneed hmost hkn2 hwq hql hble hbm hqw hall hmore hE2 hL2 h9 hlm hlx hml hgt heq hlex
        go_enter Try.func8, Try.ntmps8
        go_upto_region 1 with fail
        rw [← HW1.out]
        go_wp2_with fail
        refine HCALL.out.mono ?_
        rintro e w2 ⟨v, rfl, ho, b2⟩
        obtain ⟨VA, vc, rfl⟩ := own_slice1 ho
        rw [HQL.out]
        have hq2 : RdI w2 VA (outI q) := rdI_of_own9 ho (by rw [HQL.out]; omega)
        have hb2 := HB1.out.trans (b2.mono HB1.out.size)
        have hx2 := (b2.block _ (lt_of_block HX1.out)).trans HX1.out
        have hc2 := HWDG.out MA mc (outI m) w2 hb2 (HM.out.later hb2 (Nat.le_refl _))
        rw [HBM.out] at hc2
        rw [HML.out] at hc2
        clear b2 c0 c1 l0 ho
        have c0 := cell_of_row _ _ 0 _ _ _ hx2
        have c1 := cell_of_row _ _ 1 _ _ _ hx2
        simp only [List.getElem?_toArray, List.getElem?_cons_zero, List.getElem?_cons_succ] at c0 c1
        have l0 := lt_of_block hx2
        have HB2 := Lib.hid hb2; have HX2 := Lib.hid hx2; have HC2 := Lib.hid hc2; have HQ2 := Lib.hid hq2; clear hb2 hx2 hc2 hq2
        go_wp2_with fail
        refine HC2.out.mono ?_
        rintro e w3 ⟨rfl, b3⟩
        have hb3 := HB2.out.trans (b3.mono HB2.out.size)
        have hx3 := (b3.block _ (lt_of_block HX2.out)).trans HX2.out
        have hq3 := HQ2.out.later b3 (Nat.le_refl _)
        have hc3 := HKN2.out w3 hb3
        clear b3 c0 c1 l0 HC2 HQ2 HB2 HX2
        have c0 := cell_of_row _ _ 0 _ _ _ hx3
        have c1 := cell_of_row _ _ 1 _ _ _ hx3
        simp only [List.getElem?_toArray, List.getElem?_cons_zero, List.getElem?_cons_succ] at c0 c1
        have l0 := lt_of_block hx3
        have HB3 := Lib.hid hb3; have HX3 := Lib.hid hx3; have HQ3 := Lib.hid hq3; have HC3 := Lib.hid hc3; clear hb3 hx3 hq3 hc3
        go_wp2_with fail
        refine HC3.out.mono ?_
        rintro e w4 ⟨v, rfl, ho4, b4⟩
        obtain ⟨BA, bc, rfl⟩ := own_slice1 ho4
        have hb4 := HB3.out.trans (b4.mono HB3.out.size)
        have hx4 := (b4.block _ (lt_of_block HX3.out)).trans HX3.out
        have hq4 := HQ3.out.later b4 (Nat.le_refl _)
        have hc4 := HWQ.out VA vc w4 hb4 hq4
        clear b4 c0 c1 l0 HC3 HQ3 HB3 HX3 ho4
        have c0 := cell_of_row _ _ 0 _ _ _ hx4
        have c1 := cell_of_row _ _ 1 _ _ _ hx4
        simp only [List.getElem?_toArray, List.getElem?_cons_zero, List.getElem?_cons_succ] at c0 c1
        have l0 := lt_of_block hx4
        have HB4 := Lib.hid hb4; have HX4 := Lib.hid hx4; have HQ4 := Lib.hid hq4; have HC4 := Lib.hid hc4; clear hb4 hx4 hq4 hc4
        go_wp2_with fail
        refine HC4.out.mono ?_
        rintro e w5 ⟨rfl, b5⟩
        have hb5 := HB4.out.trans (b5.mono HB4.out.size)
        have hq5 := HQ4.out.later b5 (Nat.le_refl _)
        clear b5 c0 c1 l0 HC4 HQ4 HB4 HX4
        have HB5 := Lib.hid hb5; have HQ5 := Lib.hid hq5; clear hb5 hq5
        go_wp2
        go_loopw [12] (fun iv wr => ∃ i : Nat, iv = .int .i64 (i : Int) ∧ i ≤ q.length ∧ q.take i = m.take i ∧ Below w5.heap.size w5 wr) (fun iv _ => q.length - (intOf iv).toNat)
        case atStart => exact ⟨0, rfl, Nat.zero_le _, rfl, Below.refl _ _⟩
        case round =>
          obtain ⟨i, rfl, hi, ht, hbw⟩ := hrel
          have hrw := HB5.out.trans (hbw.mono HB5.out.size)
          by_cases hlt : i < q.length
          · have hq9 : i < m.length := by have := HEQ.out; omega
            obtain ⟨b1, o1, rfl, hb1, l1⟩ := (HQ5.out.later hbw (Nat.le_refl _)).at_ (k := i) (by rw [outI_len]; exact hlt)
            obtain ⟨b2, o2, rfl, hb2, l2⟩ := (HM.out.later hrw (Nat.le_refl _)).at_ (k := i) (by rw [outI_len]; exact hq9)
            rw [outI_get q hlt] at l1
            rw [outI_get m hq9] at l2
            have hat : q[i] ≠ m[i] → q[i] < m[i] := fun h => lexLe_at hlt hq9 HLEX.out ht h
            have hnx : q[i] = m[i] → q.take (i + 1) = m.take (i + 1) := fun h => by
              rw [List.take_succ_eq_append_getElem hlt, List.take_succ_eq_append_getElem hq9, ht, h]
            have x1 : (0 : Int) ≤ (i : Int) := by omega
            have x2 : (i : Int) < (q.length : Int) := by omega
            have x3 : (i : Int) < ((outI m).length : Int) := by rw [outI_len]; omega
            have x4 : i < (outI m).length := by rw [outI_len]; exact hq9
            generalize q[i] = x at *
            generalize m[i] = y at *
            obtain ⟨xa, hxa⟩ : ∃ xa, xa = (x : Int) - 1 := ⟨_, rfl⟩
            obtain ⟨ya, hya⟩ : ∃ ya, ya = (y : Int) - 1 := ⟨_, rfl⟩
            rw [← hxa] at l1
            rw [← hya] at l2
            by_cases he : x = y
            · have e1 : (xa == ya) = true := by rw [hxa, hya, he]; simp
              have e2 : (xa != ya) = false := by rw [bne, e1]; rfl
              have ht2 := hnx he
              clear hat hnx
              have HT := Lib.hid ht; have HBW := Lib.hid hbw; have HT2 := Lib.hid ht2; have HE := Lib.hid he; have HRW := Lib.hid hrw; have HXA := Lib.hid hxa; have HYA := Lib.hid hya; clear ht hbw ht2 he hrw hxa hya
              go_upto_region 17 with fail
              have hbelc : ∀ (u : Bel wr.heap.size wr) b o, b < wr.heap.size → u.wd.cell? ⟨b, o, none⟩ = wr.cell? ⟨b, o, none⟩ := fun u b o h => u.h.cell (p := ⟨b, o, none⟩) h
              have hbeln : Nonempty (Bel wr.heap.size wr) := ⟨⟨wr, Below.refl _ _⟩⟩
              refine wp_region_bel wr.heap.size (by kernel_rfl) (by kernel_rfl) ?_
              repeat (go_big_quiet_step ((fail)))
              refine wpQuiet_nil ?_
              intro wB hB0; obtain ⟨uB, hu⟩ := hB0; have hbB0 := uB.h; rw [← hu] at hbB0; clear hu uB hbelc hbeln
              obtain ⟨hbB, hcB, hsB⟩ := bcell2 hbB0; clear hbB0
              have hbw2 := HBW.out.trans (hbB.mono HBW.out.size)
              clear hbB hcB hsB l1 l2
              have HBW2 := Lib.hid hbw2; clear hbw2
              go_wp2
              go_roundw
              case rel => exact ⟨i + 1, by go_num, by omega, HT2.out, HBW2.out⟩
              case measure => simp [intOf]; omega
            · have e1 : (xa == ya) = false := by rw [beq_eq_false_iff_ne]; omega
              have e2 : (xa != ya) = true := by rw [bne, e1]; rfl
              have hxy := hat he
              have e5 : decide (xa < ya) = true := decide_eq_true (by omega)
              clear hat hnx
              have HT := Lib.hid ht; have HBW := Lib.hid hbw; have HE := Lib.hid he; have HXY := Lib.hid hxy; have HRW := Lib.hid hrw; have HXA := Lib.hid hxa; have HYA := Lib.hid hya; clear ht hbw he hxy hrw hxa hya
              go_upto_region 17 with fail
              have hbelc : ∀ (u : Bel wr.heap.size wr) b o, b < wr.heap.size → u.wd.cell? ⟨b, o, none⟩ = wr.cell? ⟨b, o, none⟩ := fun u b o h => u.h.cell (p := ⟨b, o, none⟩) h
              have hbeln : Nonempty (Bel wr.heap.size wr) := ⟨⟨wr, Below.refl _ _⟩⟩
              refine wp_region_bel wr.heap.size (by kernel_rfl) (by kernel_rfl) ?_
              repeat (go_big_quiet_step ((fail)))
              refine wpQuiet_nil ?_
              intro wB hB0; obtain ⟨uB, hu⟩ := hB0; have hbB0 := uB.h; rw [← hu] at hbB0; clear hu uB hbelc hbeln
              obtain ⟨hbB, hcB, hsB⟩ := bcell2 hbB0; clear hbB0
              have hbw2 := HRW.out.trans (hbB.mono HRW.out.size)
              have l1 := (hcB _ _ hb1).trans l1
              have l2 := (hcB _ _ hb2).trans l2
              have hb1 := Nat.lt_of_lt_of_le hb1 hsB
              have hb2 := Nat.lt_of_lt_of_le hb2 hsB
              clear hbB hcB hsB
              obtain ⟨wz, rfl⟩ : ∃ wz, wz = wB := ⟨_, rfl⟩
              have HBW2 := Lib.hid hbw2; clear hbw2
              go_upto_region 18 with fail
              have hbelc : ∀ (u : Bel wz.heap.size wz) b o, b < wz.heap.size → u.wd.cell? ⟨b, o, none⟩ = wz.cell? ⟨b, o, none⟩ := fun u b o h => u.h.cell (p := ⟨b, o, none⟩) h
              have hbeln : Nonempty (Bel wz.heap.size wz) := ⟨⟨wz, Below.refl _ _⟩⟩
              refine wp_region_bel wz.heap.size (by kernel_rfl) (by kernel_rfl) ?_
              repeat (go_big_quiet_step ((go_at_call 10; exact quiet_bel (Nat.le_refl _) (awake20_ _))))
              refine wpQuiet_nil ?_
              intro wB hB0; obtain ⟨uB, hu⟩ := hB0; have hbB0 := uB.h; rw [← hu] at hbB0; clear hu uB hbelc hbeln
              obtain ⟨hbB, hcB, hsB⟩ := bcell2 hbB0; clear hbB0
              have hbw3 := HBW2.out.trans (hbB.mono HBW2.out.size)
              clear hbB hcB hsB
              have HBW3 := Lib.hid hbw3; clear hbw3
              go_wp2
              go_ret
              exact ⟨rfl, HBW3.out⟩
          · have x3 : ¬ (i : Int) < (q.length : Int) := by omega
            have HT := Lib.hid ht; have HBW := Lib.hid hbw; have HRW := Lib.hid hrw; clear ht hbw hrw
            go_wp2_with fail
            refine (HAW.out _).mono ?_
            rintro e w8 ⟨rfl, b8⟩
            have hb8 := HRW.out.trans (b8.mono HRW.out.size)
            clear b8
            have HB8 := Lib.hid hb8; clear hb8
            go_wp2
            go_ret
            exact ⟨rfl, HB8.out⟩
  · have dm := decide_eq_false h9
    cases hbm : wdB need ps most (-1) mine with
    | false =>
      have HR := Lib.hid hr; have HM := Lib.hid hm; have HMR := Lib.hid hmr; have HAW := Lib.hid haw; have HW1 := Lib.hid hw1; have HB1 := Lib.hid hb1; have HX1 := Lib.hid hx1; have HCALL := Lib.hid hcall; have HE := Lib.hid hE; have HL := Lib.hid hL; have HWDG := Lib.hid hwdg; have HASC := Lib.hid hasc; have HNEED := Lib.hid hneed; have HMOST := Lib.hid hmost; have HKN2 := Lib.hid hkn2; have HWQ := Lib.hid hwq; have HQL := Lib.hid hql; have HBLE := Lib.hid hble; have HBM := Lib.hid hbm; have HQW := Lib.hid hqw; have HALL := Lib.hid hall; have HMORE := Lib.hid hmore; have HE2 := Lib.hid hE2; have HL2 := Lib.hid hL2; clear hr hm hmr haw hw1 hb1 hx1 hcall hE hL hwdg hasc hneed hmost hkn2 hwq hql hble hbm hqw hall hmore hE2 hL2
      go_enter Try.func8, Try.ntmps8
      go_upto_region 1 with fail
      rw [← HW1.out]
      go_wp2_with fail
      refine HCALL.out.mono ?_
      rintro e w2 ⟨v, rfl, ho, b2⟩
      obtain ⟨VA, vc, rfl⟩ := own_slice1 ho
      rw [HQL.out]
      have hq2 : RdI w2 VA (outI q) := rdI_of_own9 ho (by rw [HQL.out]; omega)
      have hb2 := HB1.out.trans (b2.mono HB1.out.size)
      have hx2 := (b2.block _ (lt_of_block HX1.out)).trans HX1.out
      have hc2 := HWDG.out MA mc mine w2 hb2 (HM.out.later hb2 (Nat.le_refl _))
      rw [HBM.out] at hc2
      clear b2 c0 c1 l0 ho
      have c0 := cell_of_row _ _ 0 _ _ _ hx2
      have c1 := cell_of_row _ _ 1 _ _ _ hx2
      simp only [List.getElem?_toArray, List.getElem?_cons_zero, List.getElem?_cons_succ] at c0 c1
      have l0 := lt_of_block hx2
      have HB2 := Lib.hid hb2; have HX2 := Lib.hid hx2; have HC2 := Lib.hid hc2; have HQ2 := Lib.hid hq2; clear hb2 hx2 hc2 hq2
      go_wp2_with fail
      refine HC2.out.mono ?_
      rintro e w3 ⟨rfl, b3⟩
      have hb3 := HB2.out.trans (b3.mono HB2.out.size)
      have hx3 := (b3.block _ (lt_of_block HX2.out)).trans HX2.out
      have hq3 := HQ2.out.later b3 (Nat.le_refl _)
      have hc3 := HKN2.out w3 hb3
      clear b3 c0 c1 l0 HC2 HQ2 HB2 HX2
      have c0 := cell_of_row _ _ 0 _ _ _ hx3
      have c1 := cell_of_row _ _ 1 _ _ _ hx3
      simp only [List.getElem?_toArray, List.getElem?_cons_zero, List.getElem?_cons_succ] at c0 c1
      have l0 := lt_of_block hx3
      have HB3 := Lib.hid hb3; have HX3 := Lib.hid hx3; have HQ3 := Lib.hid hq3; have HC3 := Lib.hid hc3; clear hb3 hx3 hq3 hc3
      go_wp2_with fail
      refine HC3.out.mono ?_
      rintro e w4 ⟨v, rfl, ho4, b4⟩
      obtain ⟨BA, bc, rfl⟩ := own_slice1 ho4
      have hb4 := HB3.out.trans (b4.mono HB3.out.size)
      have hx4 := (b4.block _ (lt_of_block HX3.out)).trans HX3.out
      have hq4 := HQ3.out.later b4 (Nat.le_refl _)
      have hc4 := HWQ.out VA vc w4 hb4 hq4
      clear b4 c0 c1 l0 HC3 HQ3 HB3 HX3 ho4
      have c0 := cell_of_row _ _ 0 _ _ _ hx4
      have c1 := cell_of_row _ _ 1 _ _ _ hx4
      simp only [List.getElem?_toArray, List.getElem?_cons_zero, List.getElem?_cons_succ] at c0 c1
      have l0 := lt_of_block hx4
      have HB4 := Lib.hid hb4; have HX4 := Lib.hid hx4; have HQ4 := Lib.hid hq4; have HC4 := Lib.hid hc4; clear hb4 hx4 hq4 hc4
      go_wp2_with fail
      refine HC4.out.mono ?_
      rintro e w5 ⟨rfl, b5⟩
      have hb5 := HB4.out.trans (b5.mono HB4.out.size)
      have hq5 := HQ4.out.later b5 (Nat.le_refl _)
      clear b5 c0 c1 l0 HC4 HQ4 HB4 HX4
      have HB5 := Lib.hid hb5; have HQ5 := Lib.hid hq5; clear hb5 hq5
      go_wp2_with fail
      refine (HAW.out _).mono ?_
      rintro e w6 ⟨rfl, b6⟩
      have hb6 := HB5.out.trans (b6.mono HB5.out.size)
      clear b6
      have HB6 := Lib.hid hb6; clear hb6
      go_wp2
      go_ret
      exact ⟨rfl, HB6.out⟩
    | true =>
      obtain ⟨m, rfl, hlm, hlx⟩ := hall mine hbm
      have hml : (outI m).length = m.length := outI_len m
      have d2m : decide ((100 : Int) < (m.length : Int)) = false := by rw [← hml]; exact d2
      have hm100 : m.length ≤ 100 := by omega
      rw [hml]
      clear d2
      have d7 : decide (m.length < q.length) = false := decide_eq_false (by omega)
      have d6 : decide ((m.length : Int) < (q.length : Int)) = false := decide_eq_false (by omega)
      by_cases hgt : q.length < m.length
      · have d5 : decide (q.length < m.length) = true := decide_eq_true hgt
        have d4 : decide ((q.length : Int) < (m.length : Int)) = true := decide_eq_true (by omega)
        have HR := Lib.hid hr; have HM := Lib.hid hm; have HMR := Lib.hid hmr; have HAW := Lib.hid haw; have HW1 := Lib.hid hw1; have HB1 := Lib.hid hb1; have HX1 := Lib.hid hx1; have HCALL := Lib.hid hcall; have HE := Lib.hid hE; have HL := Lib.hid hL; have HWDG := Lib.hid hwdg; have HASC := Lib.hid hasc; have HNEED := Lib.hid hneed; have HMOST := Lib.hid hmost; have HKN2 := Lib.hid hkn2; have HWQ := Lib.hid hwq; have HQL := Lib.hid hql; have HBLE := Lib.hid hble; have HBM := Lib.hid hbm; have HQW := Lib.hid hqw; have HALL := Lib.hid hall; have HMORE := Lib.hid hmore; have HE2 := Lib.hid hE2; have HL2 := Lib.hid hL2; have HLM := Lib.hid hlm; have HLX := Lib.hid hlx; have HML := Lib.hid hml; have HGT := Lib.hid hgt; clear hr hm hmr haw hw1 hb1 hx1 hcall hE hL hwdg hasc hneed hmost hkn2 hwq hql hble hbm hqw hall hmore hE2 hL2 hlm hlx hml hgt
        go_enter Try.func8, Try.ntmps8
        go_upto_region 1 with fail
        rw [← HW1.out]
        go_wp2_with fail
        refine HCALL.out.mono ?_
        rintro e w2 ⟨v, rfl, ho, b2⟩
        obtain ⟨VA, vc, rfl⟩ := own_slice1 ho
        rw [HQL.out]
        have hq2 : RdI w2 VA (outI q) := rdI_of_own9 ho (by rw [HQL.out]; omega)
        have hb2 := HB1.out.trans (b2.mono HB1.out.size)
        have hx2 := (b2.block _ (lt_of_block HX1.out)).trans HX1.out
        have hc2 := HWDG.out MA mc (outI m) w2 hb2 (HM.out.later hb2 (Nat.le_refl _))
        rw [HBM.out] at hc2
        rw [HML.out] at hc2
        clear b2 c0 c1 l0 ho
        have c0 := cell_of_row _ _ 0 _ _ _ hx2
        have c1 := cell_of_row _ _ 1 _ _ _ hx2
        simp only [List.getElem?_toArray, List.getElem?_cons_zero, List.getElem?_cons_succ] at c0 c1
        have l0 := lt_of_block hx2
        have HB2 := Lib.hid hb2; have HX2 := Lib.hid hx2; have HC2 := Lib.hid hc2; have HQ2 := Lib.hid hq2; clear hb2 hx2 hc2 hq2
        go_wp2_with fail
        refine HC2.out.mono ?_
        rintro e w3 ⟨rfl, b3⟩
        have hb3 := HB2.out.trans (b3.mono HB2.out.size)
        have hx3 := (b3.block _ (lt_of_block HX2.out)).trans HX2.out
        have hq3 := HQ2.out.later b3 (Nat.le_refl _)
        have hc3 := HKN2.out w3 hb3
        clear b3 c0 c1 l0 HC2 HQ2 HB2 HX2
        have c0 := cell_of_row _ _ 0 _ _ _ hx3
        have c1 := cell_of_row _ _ 1 _ _ _ hx3
        simp only [List.getElem?_toArray, List.getElem?_cons_zero, List.getElem?_cons_succ] at c0 c1
        have l0 := lt_of_block hx3
        have HB3 := Lib.hid hb3; have HX3 := Lib.hid hx3; have HQ3 := Lib.hid hq3; have HC3 := Lib.hid hc3; clear hb3 hx3 hq3 hc3
        go_wp2_with fail
        refine HC3.out.mono ?_
        rintro e w4 ⟨v, rfl, ho4, b4⟩
        obtain ⟨BA, bc, rfl⟩ := own_slice1 ho4
        have hb4 := HB3.out.trans (b4.mono HB3.out.size)
        have hx4 := (b4.block _ (lt_of_block HX3.out)).trans HX3.out
        have hq4 := HQ3.out.later b4 (Nat.le_refl _)
        have hc4 := HWQ.out VA vc w4 hb4 hq4
        clear b4 c0 c1 l0 HC3 HQ3 HB3 HX3 ho4
        have c0 := cell_of_row _ _ 0 _ _ _ hx4
        have c1 := cell_of_row _ _ 1 _ _ _ hx4
        simp only [List.getElem?_toArray, List.getElem?_cons_zero, List.getElem?_cons_succ] at c0 c1
        have l0 := lt_of_block hx4
        have HB4 := Lib.hid hb4; have HX4 := Lib.hid hx4; have HQ4 := Lib.hid hq4; have HC4 := Lib.hid hc4; clear hb4 hx4 hq4 hc4
        go_wp2_with fail
        refine HC4.out.mono ?_
        rintro e w5 ⟨rfl, b5⟩
        have hb5 := HB4.out.trans (b5.mono HB4.out.size)
        have hq5 := HQ4.out.later b5 (Nat.le_refl _)
        clear b5 c0 c1 l0 HC4 HQ4 HB4 HX4
        have HB5 := Lib.hid hb5; have HQ5 := Lib.hid hq5; clear hb5 hq5
        go_wp2_with fail
        refine (HAW.out _).mono ?_
        rintro e w6 ⟨rfl, b6⟩
        have hb6 := HB5.out.trans (b6.mono HB5.out.size)
        clear b6
        have HB6 := Lib.hid hb6; clear hb6
        go_wp2
        go_ret
        exact ⟨rfl, HB6.out⟩
      · have d5 : decide (q.length < m.length) = false := decide_eq_false hgt
        have d4 : decide ((q.length : Int) < (m.length : Int)) = false := decide_eq_false (by omega)
        have heq : m.length = q.length := by omega
        have hlex := hlx heq
        have HR := Lib.hid hr; have HM := Lib.hid hm; have HMR := Lib.hid hmr; have HAW := Lib.hid haw; have HW1 := Lib.hid hw1; have HB1 := Lib.hid hb1; have HX1 := Lib.hid hx1; have HCALL := Lib.hid hcall; have HE := Lib.hid hE; have HL := Lib.hid hL; have HWDG := Lib.hid hwdg; have HASC := Lib.hid hasc; have HNEED := Lib.hid hneed; have HMOST := Lib.hid hmost; have HKN2 := Lib.hid hkn2; have HWQ := Lib.hid hwq; have HQL := Lib.hid hql; have HBLE := Lib.hid hble; have HBM := Lib.hid hbm; have HQW := Lib.hid hqw; have HALL := Lib.hid hall; have HMORE := Lib.hid hmore; have HE2 := Lib.hid hE2; have HL2 := Lib.hid hL2; have HLM := Lib.hid hlm; have HLX := Lib.hid hlx; have HML := Lib.hid hml; have HGT := Lib.hid hgt; have HEQ := Lib.hid heq; have HLEX := Lib.hid hlex; clear hr hm hmr haw hw1 hb1 hx1 hcall hE hL hwdg hasc hneed hmost hkn2 hwq hql hble hbm hqw hall hmore hE2 hL2 hlm hlx hml hgt heq hlex
        go_enter Try.func8, Try.ntmps8
        go_upto_region 1 with fail
        rw [← HW1.out]
        go_wp2_with fail
        refine HCALL.out.mono ?_
        rintro e w2 ⟨v, rfl, ho, b2⟩
        obtain ⟨VA, vc, rfl⟩ := own_slice1 ho
        rw [HQL.out]
        have hq2 : RdI w2 VA (outI q) := rdI_of_own9 ho (by rw [HQL.out]; omega)
        have hb2 := HB1.out.trans (b2.mono HB1.out.size)
        have hx2 := (b2.block _ (lt_of_block HX1.out)).trans HX1.out
        have hc2 := HWDG.out MA mc (outI m) w2 hb2 (HM.out.later hb2 (Nat.le_refl _))
        rw [HBM.out] at hc2
        rw [HML.out] at hc2
        clear b2 c0 c1 l0 ho
        have c0 := cell_of_row _ _ 0 _ _ _ hx2
        have c1 := cell_of_row _ _ 1 _ _ _ hx2
        simp only [List.getElem?_toArray, List.getElem?_cons_zero, List.getElem?_cons_succ] at c0 c1
        have l0 := lt_of_block hx2
        have HB2 := Lib.hid hb2; have HX2 := Lib.hid hx2; have HC2 := Lib.hid hc2; have HQ2 := Lib.hid hq2; clear hb2 hx2 hc2 hq2
        go_wp2_with fail
        refine HC2.out.mono ?_
        rintro e w3 ⟨rfl, b3⟩
        have hb3 := HB2.out.trans (b3.mono HB2.out.size)
        have hx3 := (b3.block _ (lt_of_block HX2.out)).trans HX2.out
        have hq3 := HQ2.out.later b3 (Nat.le_refl _)
        have hc3 := HKN2.out w3 hb3
        clear b3 c0 c1 l0 HC2 HQ2 HB2 HX2
        have c0 := cell_of_row _ _ 0 _ _ _ hx3
        have c1 := cell_of_row _ _ 1 _ _ _ hx3
        simp only [List.getElem?_toArray, List.getElem?_cons_zero, List.getElem?_cons_succ] at c0 c1
        have l0 := lt_of_block hx3
        have HB3 := Lib.hid hb3; have HX3 := Lib.hid hx3; have HQ3 := Lib.hid hq3; have HC3 := Lib.hid hc3; clear hb3 hx3 hq3 hc3
        go_wp2_with fail
        refine HC3.out.mono ?_
        rintro e w4 ⟨v, rfl, ho4, b4⟩
        obtain ⟨BA, bc, rfl⟩ := own_slice1 ho4
        have hb4 := HB3.out.trans (b4.mono HB3.out.size)
        have hx4 := (b4.block _ (lt_of_block HX3.out)).trans HX3.out
        have hq4 := HQ3.out.later b4 (Nat.le_refl _)
        have hc4 := HWQ.out VA vc w4 hb4 hq4
        clear b4 c0 c1 l0 HC3 HQ3 HB3 HX3 ho4
        have c0 := cell_of_row _ _ 0 _ _ _ hx4
        have c1 := cell_of_row _ _ 1 _ _ _ hx4
        simp only [List.getElem?_toArray, List.getElem?_cons_zero, List.getElem?_cons_succ] at c0 c1
        have l0 := lt_of_block hx4
        have HB4 := Lib.hid hb4; have HX4 := Lib.hid hx4; have HQ4 := Lib.hid hq4; have HC4 := Lib.hid hc4; clear hb4 hx4 hq4 hc4
        go_wp2_with fail
        refine HC4.out.mono ?_
        rintro e w5 ⟨rfl, b5⟩
        have hb5 := HB4.out.trans (b5.mono HB4.out.size)
        have hq5 := HQ4.out.later b5 (Nat.le_refl _)
        clear b5 c0 c1 l0 HC4 HQ4 HB4 HX4
        have HB5 := Lib.hid hb5; have HQ5 := Lib.hid hq5; clear hb5 hq5
        go_wp2
        go_loopw [12] (fun iv wr => ∃ i : Nat, iv = .int .i64 (i : Int) ∧ i ≤ q.length ∧ q.take i = m.take i ∧ Below w5.heap.size w5 wr) (fun iv _ => q.length - (intOf iv).toNat)
        case atStart => exact ⟨0, rfl, Nat.zero_le _, rfl, Below.refl _ _⟩
        case round =>
          obtain ⟨i, rfl, hi, ht, hbw⟩ := hrel
          have hrw := HB5.out.trans (hbw.mono HB5.out.size)
          by_cases hlt : i < q.length
          · have hq9 : i < m.length := by have := HEQ.out; omega
            obtain ⟨b1, o1, rfl, hb1, l1⟩ := (HQ5.out.later hbw (Nat.le_refl _)).at_ (k := i) (by rw [outI_len]; exact hlt)
            obtain ⟨b2, o2, rfl, hb2, l2⟩ := (HM.out.later hrw (Nat.le_refl _)).at_ (k := i) (by rw [outI_len]; exact hq9)
            rw [outI_get q hlt] at l1
            rw [outI_get m hq9] at l2
            have hat : q[i] ≠ m[i] → q[i] < m[i] := fun h => lexLe_at hlt hq9 HLEX.out ht h
            have hnx : q[i] = m[i] → q.take (i + 1) = m.take (i + 1) := fun h => by
              rw [List.take_succ_eq_append_getElem hlt, List.take_succ_eq_append_getElem hq9, ht, h]
            have x1 : (0 : Int) ≤ (i : Int) := by omega
            have x2 : (i : Int) < (q.length : Int) := by omega
            have x3 : (i : Int) < ((outI m).length : Int) := by rw [outI_len]; omega
            have x4 : i < (outI m).length := by rw [outI_len]; exact hq9
            generalize q[i] = x at *
            generalize m[i] = y at *
            obtain ⟨xa, hxa⟩ : ∃ xa, xa = (x : Int) - 1 := ⟨_, rfl⟩
            obtain ⟨ya, hya⟩ : ∃ ya, ya = (y : Int) - 1 := ⟨_, rfl⟩
            rw [← hxa] at l1
            rw [← hya] at l2
            by_cases he : x = y
            · have e1 : (xa == ya) = true := by rw [hxa, hya, he]; simp
              have e2 : (xa != ya) = false := by rw [bne, e1]; rfl
              have ht2 := hnx he
              clear hat hnx
              have HT := Lib.hid ht; have HBW := Lib.hid hbw; have HT2 := Lib.hid ht2; have HE := Lib.hid he; have HRW := Lib.hid hrw; have HXA := Lib.hid hxa; have HYA := Lib.hid hya; clear ht hbw ht2 he hrw hxa hya
              go_upto_region 17 with fail
              have hbelc : ∀ (u : Bel wr.heap.size wr) b o, b < wr.heap.size → u.wd.cell? ⟨b, o, none⟩ = wr.cell? ⟨b, o, none⟩ := fun u b o h => u.h.cell (p := ⟨b, o, none⟩) h
              have hbeln : Nonempty (Bel wr.heap.size wr) := ⟨⟨wr, Below.refl _ _⟩⟩
              refine wp_region_bel wr.heap.size (by kernel_rfl) (by kernel_rfl) ?_
              repeat (go_big_quiet_step ((fail)))
              refine wpQuiet_nil ?_
              intro wB hB0; obtain ⟨uB, hu⟩ := hB0; have hbB0 := uB.h; rw [← hu] at hbB0; clear hu uB hbelc hbeln
              obtain ⟨hbB, hcB, hsB⟩ := bcell2 hbB0; clear hbB0
              have hbw2 := HBW.out.trans (hbB.mono HBW.out.size)
              clear hbB hcB hsB l1 l2
              have HBW2 := Lib.hid hbw2; clear hbw2
              go_wp2
              go_roundw
              case rel => exact ⟨i + 1, by go_num, by omega, HT2.out, HBW2.out⟩
              case measure => simp [intOf]; omega
            · have e1 : (xa == ya) = false := by rw [beq_eq_false_iff_ne]; omega
              have e2 : (xa != ya) = true := by rw [bne, e1]; rfl
              have hxy := hat he
              have e5 : decide (xa < ya) = true := decide_eq_true (by omega)
              clear hat hnx
              have HT := Lib.hid ht; have HBW := Lib.hid hbw; have HE := Lib.hid he; have HXY := Lib.hid hxy; have HRW := Lib.hid hrw; have HXA := Lib.hid hxa; have HYA := Lib.hid hya; clear ht hbw he hxy hrw hxa hya
              go_upto_region 17 with fail
              have hbelc : ∀ (u : Bel wr.heap.size wr) b o, b < wr.heap.size → u.wd.cell? ⟨b, o, none⟩ = wr.cell? ⟨b, o, none⟩ := fun u b o h => u.h.cell (p := ⟨b, o, none⟩) h
              have hbeln : Nonempty (Bel wr.heap.size wr) := ⟨⟨wr, Below.refl _ _⟩⟩
              refine wp_region_bel wr.heap.size (by kernel_rfl) (by kernel_rfl) ?_
              repeat (go_big_quiet_step ((fail)))
              refine wpQuiet_nil ?_
              intro wB hB0; obtain ⟨uB, hu⟩ := hB0; have hbB0 := uB.h; rw [← hu] at hbB0; clear hu uB hbelc hbeln
              obtain ⟨hbB, hcB, hsB⟩ := bcell2 hbB0; clear hbB0
              have hbw2 := HRW.out.trans (hbB.mono HRW.out.size)
              have l1 := (hcB _ _ hb1).trans l1
              have l2 := (hcB _ _ hb2).trans l2
              have hb1 := Nat.lt_of_lt_of_le hb1 hsB
              have hb2 := Nat.lt_of_lt_of_le hb2 hsB
              clear hbB hcB hsB
              obtain ⟨wz, rfl⟩ : ∃ wz, wz = wB := ⟨_, rfl⟩
              have HBW2 := Lib.hid hbw2; clear hbw2
              go_upto_region 18 with fail
              have hbelc : ∀ (u : Bel wz.heap.size wz) b o, b < wz.heap.size → u.wd.cell? ⟨b, o, none⟩ = wz.cell? ⟨b, o, none⟩ := fun u b o h => u.h.cell (p := ⟨b, o, none⟩) h
              have hbeln : Nonempty (Bel wz.heap.size wz) := ⟨⟨wz, Below.refl _ _⟩⟩
              refine wp_region_bel wz.heap.size (by kernel_rfl) (by kernel_rfl) ?_
              repeat (go_big_quiet_step ((go_at_call 10; exact quiet_bel (Nat.le_refl _) (awake20_ _))))
              refine wpQuiet_nil ?_
              intro wB hB0; obtain ⟨uB, hu⟩ := hB0; have hbB0 := uB.h; rw [← hu] at hbB0; clear hu uB hbelc hbeln
              obtain ⟨hbB, hcB, hsB⟩ := bcell2 hbB0; clear hbB0
              have hbw3 := HBW2.out.trans (hbB.mono HBW2.out.size)
              clear hbB hcB hsB
              have HBW3 := Lib.hid hbw3; clear hbw3
              go_wp2
              go_ret
              exact ⟨rfl, HBW3.out⟩
          · have x3 : ¬ (i : Int) < (q.length : Int) := by omega
            have HT := Lib.hid ht; have HBW := Lib.hid hbw; have HRW := Lib.hid hrw; clear ht hbw hrw
            go_wp2_with fail
            refine (HAW.out _).mono ?_
            rintro e w8 ⟨rfl, b8⟩
            have hb8 := HRW.out.trans (b8.mono HRW.out.size)
            clear b8
            have HB8 := Lib.hid hb8; clear hb8
            go_wp2
            go_ret
            exact ⟨rfl, HB8.out⟩
end Go.Proofs.Ytdimaapiloojeaa
