/- Texts of this claim, laid together: BoRCk, BoRKn, BoLKn. -/
import Derived.Test.YtdimaapiloojeaaMaL
import Derived.Test.YtdimaapiloojeaaMaO
import Derived.Test.YtdimaapiloojeaaMaP
/- The reference's Check of a thread. -/
namespace Go.Proofs.Ytdimaapiloojeaa
open Go.RowKit

theorem lastI_take {ps : List Int} {k : Nat} (hk : k < ps.length) (p : Int) : lastI p (ps.take (k + 1)) = ps[k] := by
  rw [List.take_succ_eq_append_getElem hk, lastI_snoc]
theorem ascB_pos {need : Int} : ∀ (l : List Int) (p : Int), ascB need p l = true → p ≤ lastI p l
  | [], p, _ => Int.le_refl _
  | x :: l, p, h => by
    rw [ascB] at h
    simp only [Bool.and_eq_true, decide_eq_true_eq] at h
    have := ascB_pos l x h.2
    rw [lastI]
    omega
set_option maxRecDepth 100000 in
set_option maxHeartbeats 4000000 in
theorem rCheck20_ (need : Int) (A : Option Addr) (c : Nat) (ps : List Int) (w : World) (hr : RdI w A ps) : Calls Try.prog 20 #[.agg #[.int .i64 need, .slice A ps.length c]] w (IntPost (thrE need ps) w) := by
  have hln := hr.1
  obtain ⟨w1, hw1⟩ : ∃ w1, w1 = w.alloc (.cells #[.int .i64 need, .slice A ps.length c] 43) := ⟨_, rfl⟩
  have hb : Below w.heap.size w w1 := by rw [hw1]; exact (Below.refl _ _).alloc (Nat.le_refl _) _
  have hx : w1.heap[w.heap.size]? = some (.cells #[.int .i64 need, .slice A ps.length c] 43 (0, 0)) := by rw [hw1]; exact heap_alloc_new _ _
  obtain ⟨E, hE⟩ : ∃ E, E = thrE need ps := ⟨_, rfl⟩
  rw [← hE]
  unfold thrE at hE
  have c0 := cell_of_row _ _ 0 _ _ _ hx
  have c1 := cell_of_row _ _ 1 _ _ _ hx
  simp only [List.getElem?_toArray, List.getElem?_cons_zero, List.getElem?_cons_succ] at c0 c1
  have l1 := lt_of_block hx
  by_cases h200 : 200 < ps.length
  · rw [if_pos h200] at hE
    have f1 : decide ((200 : Int) < (ps.length : Int)) = true := decide_eq_true (by omega)
    have HR := Lib.hid hr; have HB := Lib.hid hb; have HX := Lib.hid hx; have HE := Lib.hid hE; have HW1 := Lib.hid hw1; clear hr hb hx hE hw1
    go_enter Try.func20, Try.ntmps20
    go_upto_region 1 with fail
    rw [← HW1.out]
    go_wp2
    go_ret
    exact ⟨by rw [HE.out]; rfl, HB.out⟩
  have f1 : decide ((200 : Int) < (ps.length : Int)) = false := decide_eq_false (by omega)
  rw [if_neg h200] at hE
  have hcall := rFrom20_ need 1 1000000000000 w1
  obtain ⟨om, hom⟩ : ∃ om, om = outR need 1 1000000000000 := ⟨_, rfl⟩
  rw [← hom] at hE hcall
  cases om with
  | true =>
    rw [if_pos rfl] at hE
    have HR := Lib.hid hr; have HB := Lib.hid hb; have HX := Lib.hid hx; have HE := Lib.hid hE; have HW1 := Lib.hid hw1; have HCALL := Lib.hid hcall; have HOM := Lib.hid hom; clear hr hb hx hE hw1 hcall hom
    go_enter Try.func20, Try.ntmps20
    go_upto_region 1 with fail
    rw [← HW1.out]
    go_wp2_with fail
    refine HCALL.out.mono ?_
    rintro e w2 ⟨rfl, b2⟩
    have hb2 := HB.out.trans (b2.mono HB.out.size)
    have B2 := Lib.hid b2; have HB2 := Lib.hid hb2; clear b2 hb2
    go_wp2
    go_ret
    exact ⟨by rw [HE.out]; rfl, HB2.out⟩
  | false =>
    rw [if_neg (by decide)] at hE
    have HR := Lib.hid hr; have HB := Lib.hid hb; have HX := Lib.hid hx; have HE := Lib.hid hE; have HW1 := Lib.hid hw1; have HCALL := Lib.hid hcall; have HOM := Lib.hid hom; clear hr hb hx hE hw1 hcall hom
    go_enter Try.func20, Try.ntmps20
    go_upto_region 1 with fail
    rw [← HW1.out]
    go_wp2_with fail
    refine HCALL.out.mono ?_
    rintro e w2 ⟨rfl, b2⟩
    have hb2 := HB.out.trans (b2.mono HB.out.size)
    have hx2 := (b2.block _ (lt_of_block HX.out)).trans HX.out
    clear b2 c0 c1 l1
    have HB2 := Lib.hid hb2; have HX2 := Lib.hid hx2; clear hb2 hx2
    go_wp2
    clear f1
    go_loopw [3] (fun iv wr => ∃ k : Nat, iv = .int .i64 (k : Int) ∧ k ≤ ps.length ∧ ascB need 0 (ps.take k) = true ∧ Below w2.heap.size w2 wr) (fun iv _ => ps.length - (intOf iv).toNat)
    case atStart => exact ⟨0, rfl, Nat.zero_le _, rfl, Below.refl _ _⟩
    case round =>
      obtain ⟨k, rfl, hk, has, hbw⟩ := hrel
      have hbX := HB2.out.trans (hbw.mono HB2.out.size)
      have hx3 := (hbw.block _ (lt_of_block HX2.out)).trans HX2.out
      have c0 := cell_of_row _ _ 0 _ _ _ hx3
      have c1 := cell_of_row _ _ 1 _ _ _ hx3
      simp only [List.getElem?_toArray, List.getElem?_cons_zero, List.getElem?_cons_succ] at c0 c1
      have l1 := lt_of_block hx3
      by_cases hlt : k < ps.length
      · have hrw := HR.out.later hbX (Nat.le_refl _)
        obtain ⟨bl, ol, rfl, hbl, q0⟩ := hrw.at_ hlt
        have hasn : ascB need 0 (ps.take (k + 1)) = (decide (lastI 0 (ps.take k) < ps[k]) && decide (ps[k] < need)) := by
          rw [List.take_succ_eq_append_getElem hlt, ascB_app, has]; simp [ascB]
        have hall : ascB need 0 (ps.take (k + 1)) = false → E = 2 := fun h => by
          have e := List.take_append_drop (k + 1) ps
          rw [HE.out, ← e, ascB_app, h]; rfl
        have hlp := ascB_pos (ps.take k) 0 has
        have x1 : (0 : Int) ≤ (k : Int) := by omega
        have x2 : (k : Int) < (ps.length : Int) := by omega
        cases k with
        | zero =>
          have hl0 : lastI 0 (ps.take 0) = 0 := rfl
          rw [hl0] at hasn
          rw [Nat.add_zero] at q0
          rw [show ((0 : Nat) : Int) = 0 from rfl] at x1 x2 ⊢
          have d8 : decide ((0 : Int) < 0) = false := rfl
          clear x1
          generalize ps[0] = x at *
          by_cases h1 : x ≤ 0
          · have d1 : decide (x ≤ 0) = true := decide_eq_true h1
            have hres := hall (by rw [hasn, decide_eq_false (by omega)]; rfl)
            clear hall
            have HAS := Lib.hid has; have HBW := Lib.hid hbw; have HBX := Lib.hid hbX; have HX3 := Lib.hid hx3; have HRW := Lib.hid hrw; have HASN := Lib.hid hasn; have HLP := Lib.hid hlp; have HL0 := Lib.hid hl0; have HRES := Lib.hid hres; have H1 := Lib.hid h1; clear has hbw hbX hx3 hrw hasn hlp hl0 hres h1
            go_upto_region 8 with fail
            have hbelc : ∀ (u : Bel wr.heap.size wr) b o, b < wr.heap.size → u.wd.cell? ⟨b, o, none⟩ = wr.cell? ⟨b, o, none⟩ := fun u b o h => u.h.cell (p := ⟨b, o, none⟩) h
            have hbeln : Nonempty (Bel wr.heap.size wr) := ⟨⟨wr, Below.refl _ _⟩⟩
            refine wp_region_bel wr.heap.size (by kernel_rfl) (by kernel_rfl) ?_
            repeat (go_big_quiet_step ((fail)))
            refine wpQuiet_nil ?_
            intro wB hB0; obtain ⟨uB, hu⟩ := hB0; have hbB0 := uB.h; rw [← hu] at hbB0; clear hu uB hbelc hbeln
            obtain ⟨hbB, hcB, hsB⟩ := bcell2 hbB0; clear hbB0
            have hbY := HBX.out.trans (hbB.mono HBX.out.size)
            clear hbB hcB hsB c0 c1 l1 q0
            have HBY := Lib.hid hbY; clear hbY
            go_wp2
            go_ret
            exact ⟨by rw [HRES.out]; rfl, HBY.out⟩
          have d1 : decide (x ≤ 0) = false := decide_eq_false h1
          by_cases h2 : need ≤ x
          · have d2 : decide (need ≤ x) = true := decide_eq_true h2
            have hres := hall (by rw [hasn, decide_eq_false (show ¬ x < need by omega), Bool.and_false])
            clear hall
            have HAS := Lib.hid has; have HBW := Lib.hid hbw; have HBX := Lib.hid hbX; have HX3 := Lib.hid hx3; have HRW := Lib.hid hrw; have HASN := Lib.hid hasn; have HLP := Lib.hid hlp; have HL0 := Lib.hid hl0; have HRES := Lib.hid hres; have H1 := Lib.hid h1; have H2 := Lib.hid h2; clear has hbw hbX hx3 hrw hasn hlp hl0 hres h1 h2
            go_upto_region 8 with fail
            have hbelc : ∀ (u : Bel wr.heap.size wr) b o, b < wr.heap.size → u.wd.cell? ⟨b, o, none⟩ = wr.cell? ⟨b, o, none⟩ := fun u b o h => u.h.cell (p := ⟨b, o, none⟩) h
            have hbeln : Nonempty (Bel wr.heap.size wr) := ⟨⟨wr, Below.refl _ _⟩⟩
            refine wp_region_bel wr.heap.size (by kernel_rfl) (by kernel_rfl) ?_
            repeat (go_big_quiet_step ((fail)))
            refine wpQuiet_nil ?_
            intro wB hB0; obtain ⟨uB, hu⟩ := hB0; have hbB0 := uB.h; rw [← hu] at hbB0; clear hu uB hbelc hbeln
            obtain ⟨hbB, hcB, hsB⟩ := bcell2 hbB0; clear hbB0
            have hbY := HBX.out.trans (hbB.mono HBX.out.size)
            clear hbB hcB hsB c0 c1 l1 q0
            have HBY := Lib.hid hbY; clear hbY
            go_wp2
            go_ret
            exact ⟨by rw [HRES.out]; rfl, HBY.out⟩
          · have d2 : decide (need ≤ x) = false := decide_eq_false h2
            have hnx : ascB need 0 (ps.take (0 + 1)) = true := by rw [hasn, decide_eq_true (show (0 : Int) < x by omega), decide_eq_true (show x < need by omega)]; rfl
            clear hall
            have HAS := Lib.hid has; have HBW := Lib.hid hbw; have HBX := Lib.hid hbX; have HX3 := Lib.hid hx3; have HRW := Lib.hid hrw; have HASN := Lib.hid hasn; have HLP := Lib.hid hlp; have HL0 := Lib.hid hl0; have HNX := Lib.hid hnx; have H1 := Lib.hid h1; have H2 := Lib.hid h2; clear has hbw hbX hx3 hrw hasn hlp hl0 hnx h1 h2
            go_upto_region 8 with fail
            have hbelc : ∀ (u : Bel wr.heap.size wr) b o, b < wr.heap.size → u.wd.cell? ⟨b, o, none⟩ = wr.cell? ⟨b, o, none⟩ := fun u b o h => u.h.cell (p := ⟨b, o, none⟩) h
            have hbeln : Nonempty (Bel wr.heap.size wr) := ⟨⟨wr, Below.refl _ _⟩⟩
            refine wp_region_bel wr.heap.size (by kernel_rfl) (by kernel_rfl) ?_
            repeat (go_big_quiet_step ((fail)))
            refine wpQuiet_nil ?_
            intro wB hB0; obtain ⟨uB, hu⟩ := hB0; have hbB0 := uB.h; rw [← hu] at hbB0; clear hu uB hbelc hbeln
            obtain ⟨hbB, hcB, hsB⟩ := bcell2 hbB0; clear hbB0
            have hbY := HBW.out.trans (hbB.mono HBW.out.size)
            clear hbB hcB hsB c0 c1 l1 q0
            have HBY := Lib.hid hbY; clear hbY
            go_wp2
            go_roundw
            case rel => exact ⟨0 + 1, rfl, by omega, HNX.out, HBY.out⟩
            case measure => simp [intOf]; omega
        | succ j =>
          obtain ⟨bl', ol', e9, _, q1⟩ := hrw.at_ (k := j) (by omega)
          injection e9 with e9
          injection e9 with e8 e7
          subst e8; subst e7
          rw [lastI_take (show j < ps.length by omega)] at hasn hlp
          have x3 : (0 : Int) ≤ (j : Int) := by omega
          have x4 : (j : Int) < (ps.length : Int) := by omega
          have hj1 : IntKind.i64.wrap (((j + 1 : Nat) : Int) - 1) = (j : Int) := by rw [IntWalk.i64_in _ (by omega)]; omega
          have d0 : decide ((0 : Int) < ((j + 1 : Nat) : Int)) = true := decide_eq_true (by omega)
          generalize hpk : ps[j + 1] = x at *
          generalize hpj : ps[j]'(by omega) = y at *
          obtain ⟨k1, hk1⟩ : ∃ k1, k1 = j + 1 := ⟨_, rfl⟩
          rw [← hk1] at hj1 d0 x1 x2 hasn hall q0 hlt hk ⊢
          have d9 : decide (0 < k1) = true := decide_eq_true (by omega)
          have hpk9 : True := trivial
          by_cases h1 : x ≤ 0
          · have d1 : decide (x ≤ 0) = true := decide_eq_true h1
            have hres := hall (by rw [hasn, decide_eq_false (show ¬ y < x by omega)]; rfl)
            clear hall
            have HAS := Lib.hid has; have HBW := Lib.hid hbw; have HBX := Lib.hid hbX; have HX3 := Lib.hid hx3; have HRW := Lib.hid hrw; have HASN := Lib.hid hasn; have HLP := Lib.hid hlp; have HRES := Lib.hid hres; have H1 := Lib.hid h1; have HK1 := Lib.hid hk1; have HPK := Lib.hid hpk; have HPJ := Lib.hid hpj; clear has hbw hbX hx3 hrw hasn hlp hres h1 hk1 hpk hpj
            go_upto_region 8 with fail
            have hbelc : ∀ (u : Bel wr.heap.size wr) b o, b < wr.heap.size → u.wd.cell? ⟨b, o, none⟩ = wr.cell? ⟨b, o, none⟩ := fun u b o h => u.h.cell (p := ⟨b, o, none⟩) h
            have hbeln : Nonempty (Bel wr.heap.size wr) := ⟨⟨wr, Below.refl _ _⟩⟩
            refine wp_region_bel wr.heap.size (by kernel_rfl) (by kernel_rfl) ?_
            repeat (go_big_quiet_step ((fail)))
            refine wpQuiet_nil ?_
            intro wB hB0; obtain ⟨uB, hu⟩ := hB0; have hbB0 := uB.h; rw [← hu] at hbB0; clear hu uB hbelc hbeln
            obtain ⟨hbB, hcB, hsB⟩ := bcell2 hbB0; clear hbB0
            have hbY := HBX.out.trans (hbB.mono HBX.out.size)
            clear hbB hcB hsB c0 c1 l1 q0 q1
            have HBY := Lib.hid hbY; clear hbY
            go_wp2
            go_ret
            exact ⟨by rw [HRES.out]; rfl, HBY.out⟩
          have d1 : decide (x ≤ 0) = false := decide_eq_false h1
          by_cases h2 : need ≤ x
          · have d2 : decide (need ≤ x) = true := decide_eq_true h2
            have hres := hall (by rw [hasn, decide_eq_false (show ¬ x < need by omega), Bool.and_false])
            clear hall
            have HAS := Lib.hid has; have HBW := Lib.hid hbw; have HBX := Lib.hid hbX; have HX3 := Lib.hid hx3; have HRW := Lib.hid hrw; have HASN := Lib.hid hasn; have HLP := Lib.hid hlp; have HRES := Lib.hid hres; have H1 := Lib.hid h1; have H2 := Lib.hid h2; have HK1 := Lib.hid hk1; have HPK := Lib.hid hpk; have HPJ := Lib.hid hpj; clear has hbw hbX hx3 hrw hasn hlp hres h1 h2 hk1 hpk hpj
            go_upto_region 8 with fail
            have hbelc : ∀ (u : Bel wr.heap.size wr) b o, b < wr.heap.size → u.wd.cell? ⟨b, o, none⟩ = wr.cell? ⟨b, o, none⟩ := fun u b o h => u.h.cell (p := ⟨b, o, none⟩) h
            have hbeln : Nonempty (Bel wr.heap.size wr) := ⟨⟨wr, Below.refl _ _⟩⟩
            refine wp_region_bel wr.heap.size (by kernel_rfl) (by kernel_rfl) ?_
            repeat (go_big_quiet_step ((fail)))
            refine wpQuiet_nil ?_
            intro wB hB0; obtain ⟨uB, hu⟩ := hB0; have hbB0 := uB.h; rw [← hu] at hbB0; clear hu uB hbelc hbeln
            obtain ⟨hbB, hcB, hsB⟩ := bcell2 hbB0; clear hbB0
            have hbY := HBX.out.trans (hbB.mono HBX.out.size)
            clear hbB hcB hsB c0 c1 l1 q0 q1
            have HBY := Lib.hid hbY; clear hbY
            go_wp2
            go_ret
            exact ⟨by rw [HRES.out]; rfl, HBY.out⟩
          have d2 : decide (need ≤ x) = false := decide_eq_false h2
          by_cases h3 : x ≤ y
          · have d3 : decide (x ≤ y) = true := decide_eq_true h3
            have hres := hall (by rw [hasn, decide_eq_false (show ¬ y < x by omega)]; rfl)
            clear hall
            have HAS := Lib.hid has; have HBW := Lib.hid hbw; have HBX := Lib.hid hbX; have HX3 := Lib.hid hx3; have HRW := Lib.hid hrw; have HASN := Lib.hid hasn; have HLP := Lib.hid hlp; have HRES := Lib.hid hres; have H1 := Lib.hid h1; have H2 := Lib.hid h2; have H3 := Lib.hid h3; have HK1 := Lib.hid hk1; have HPK := Lib.hid hpk; have HPJ := Lib.hid hpj; clear has hbw hbX hx3 hrw hasn hlp hres h1 h2 h3 hk1 hpk hpj
            go_upto_region 8 with fail
            have hbelc : ∀ (u : Bel wr.heap.size wr) b o, b < wr.heap.size → u.wd.cell? ⟨b, o, none⟩ = wr.cell? ⟨b, o, none⟩ := fun u b o h => u.h.cell (p := ⟨b, o, none⟩) h
            have hbeln : Nonempty (Bel wr.heap.size wr) := ⟨⟨wr, Below.refl _ _⟩⟩
            refine wp_region_bel wr.heap.size (by kernel_rfl) (by kernel_rfl) ?_
            repeat (go_big_quiet_step ((fail)))
            refine wpQuiet_nil ?_
            intro wB hB0; obtain ⟨uB, hu⟩ := hB0; have hbB0 := uB.h; rw [← hu] at hbB0; clear hu uB hbelc hbeln
            obtain ⟨hbB, hcB, hsB⟩ := bcell2 hbB0; clear hbB0
            have hbY := HBX.out.trans (hbB.mono HBX.out.size)
            clear hbB hcB hsB c0 c1 l1 q0 q1
            have HBY := Lib.hid hbY; clear hbY
            go_wp2
            go_ret
            exact ⟨by rw [HRES.out]; rfl, HBY.out⟩
          · have d3 : decide (x ≤ y) = false := decide_eq_false h3
            have hnx : ascB need 0 (ps.take (k1 + 1)) = true := by rw [hasn, decide_eq_true (show y < x by omega), decide_eq_true (show x < need by omega)]; rfl
            clear hall
            have HAS := Lib.hid has; have HBW := Lib.hid hbw; have HBX := Lib.hid hbX; have HX3 := Lib.hid hx3; have HRW := Lib.hid hrw; have HASN := Lib.hid hasn; have HLP := Lib.hid hlp; have HNX := Lib.hid hnx; have H1 := Lib.hid h1; have H2 := Lib.hid h2; have H3 := Lib.hid h3; have HK1 := Lib.hid hk1; have HPK := Lib.hid hpk; have HPJ := Lib.hid hpj; clear has hbw hbX hx3 hrw hasn hlp hnx h1 h2 h3 hk1 hpk hpj
            go_upto_region 8 with fail
            have hbelc : ∀ (u : Bel wr.heap.size wr) b o, b < wr.heap.size → u.wd.cell? ⟨b, o, none⟩ = wr.cell? ⟨b, o, none⟩ := fun u b o h => u.h.cell (p := ⟨b, o, none⟩) h
            have hbeln : Nonempty (Bel wr.heap.size wr) := ⟨⟨wr, Below.refl _ _⟩⟩
            refine wp_region_bel wr.heap.size (by kernel_rfl) (by kernel_rfl) ?_
            repeat (go_big_quiet_step ((fail)))
            refine wpQuiet_nil ?_
            intro wB hB0; obtain ⟨uB, hu⟩ := hB0; have hbB0 := uB.h; rw [← hu] at hbB0; clear hu uB hbelc hbeln
            obtain ⟨hbB, hcB, hsB⟩ := bcell2 hbB0; clear hbB0
            have hbY := HBW.out.trans (hbB.mono HBW.out.size)
            clear hbB hcB hsB c0 c1 l1 q0 q1
            have HBY := Lib.hid hbY; clear hbY
            go_wp2
            go_roundw
            case rel => exact ⟨k1 + 1, by go_num, by omega, HNX.out, HBY.out⟩
            case measure => simp [intOf]; omega
      · have hres : E = 0 := by
          rw [List.take_of_length_le (by omega)] at has
          rw [HE.out, has]; rfl
        have x3 : ¬ (k : Int) < (ps.length : Int) := by omega
        have HAS := Lib.hid has; have HBW := Lib.hid hbw; have HBX := Lib.hid hbX; have HX3 := Lib.hid hx3; have HRES := Lib.hid hres; clear has hbw hbX hx3 hres
        go_wp2
        go_ret
        exact ⟨by rw [HRES.out]; rfl, HBX.out⟩
end Go.Proofs.Ytdimaapiloojeaa
/- The reference's knots. -/
namespace Go.Proofs.Ytdimaapiloojeaa
open Go.RowKit

set_option maxRecDepth 100000 in
set_option maxHeartbeats 8000000 in
theorem rknots20_ (need most : Int) (A : Option Addr) (c : Nat) (ps : List Int) (w : World) (hr : RdI w A ps) (hps : ps.length ≤ 200) (hasc : AscP need ps) (hn : need ≤ 1000000000000) (hm : 0 ≤ most ∧ most ≤ 1000000000000) :
    Calls Try.prog 45 #[.agg #[.int .i64 need, .slice A ps.length c], .int .i64 most] w (WindPost need most ps w) := by
  obtain ⟨w1, hw1⟩ : ∃ w1, w1 = w.alloc (.cells #[.int .i64 need, .slice A ps.length c] 43) := ⟨_, rfl⟩
  have hb1 : Below w.heap.size w w1 := by rw [hw1]; exact (Below.refl _ _).alloc (Nat.le_refl _) _
  have hx1 : w1.heap[w.heap.size]? = some (.cells #[.int .i64 need, .slice A ps.length c] 43 (0, 0)) := by rw [hw1]; exact heap_alloc_new _ _
  have hplace := fun (i v : Int) (W : World) (hv : v = plV need ps i) (hW : Below w.heap.size w W) => (show Calls Try.prog 53 #[.agg #[.int .i64 need, .slice A ps.length c], .int .i64 i] W (IntPost v W) by rw [hv]; exact rplace20_ need i A c ps W (hr.later hW (Nat.le_refl _)))
  have hfew := rfewest20_ need most A c ps w1 (hr.later hb1 (Nat.le_refl _)) hps hasc hn hm
  have c0 := cell_of_row _ _ 0 _ _ _ hx1
  have c1 := cell_of_row _ _ 1 _ _ _ hx1
  simp only [List.getElem?_toArray, List.getElem?_cons_zero, List.getElem?_cons_succ] at c0 c1
  have l1 := lt_of_block hx1
  have hal := fun j (hj : j < ps.length + 2) => alF_rng hasc hn j hj
  have HR := Lib.hid hr; have HASC := Lib.hid hasc; have HN := Lib.hid hn; have HM := Lib.hid hm; have HW1 := Lib.hid hw1; have HB1 := Lib.hid hb1; have HX1 := Lib.hid hx1; have HPLACE := Lib.hid hplace; have HAL := Lib.hid hal; have HPS := Lib.hid hps; have HFEW := Lib.hid hfew; clear hr hasc hn hm hw1 hb1 hx1 hplace hal hps hfew
  go_enter Try.func45, Try.ntmps45
  go_upto_region 1 with fail
  rw [← HW1.out]
  go_wp2_with fail
  refine HFEW.out.mono ?_
  rintro e w2 ⟨F, f, rfl, hF, hfa, hFw, b2⟩
  have hb2 := HB1.out.trans (b2.mono HB1.out.size)
  have hx2 := (b2.block _ (lt_of_block HX1.out)).trans HX1.out
  clear b2 c0 c1 l1
  obtain ⟨n1, hn1⟩ : ∃ n1, n1 = ps.length + 1 := ⟨_, rfl⟩
  rw [← hn1] at hF ⊢
  have hn201 : n1 ≤ 201 := by have := HPS.out; omega
  have hn0 : 0 < n1 := by omega
  have hfa : ∀ m, m + 1 < ps.length + 2 → FwP (alF need ps) (ps.length + 2) most (f m) m := fun m h => hfa m (Nat.zero_le _) (by omega)
  have cf := hF.at_ hn0
  have lF := hF.lt
  have hsz1 := HB1.out.size
  obtain ⟨f0, hf0⟩ : ∃ f0, f0 = f 0 := ⟨_, rfl⟩
  rw [← hf0] at cf
  have x9 : (0 : Int) < (n1 : Int) := by omega
  by_cases h0 : f0 < 0
  · have d1 : decide (f0 < 0) = true := decide_eq_true h0
    have hk : knO need ps most = none := by
      rw [knO_none HM.out.1 HPS.out HASC.out]
      rcases hfa 0 (by omega) with ⟨_, h⟩ | ⟨h, _⟩
      · exact h
      · omega
    have HF := Lib.hid hF; have HFA := Lib.hid hfa; have HFW := Lib.hid hFw; have HB2 := Lib.hid hb2; have HX2 := Lib.hid hx2; have HN1 := Lib.hid hn1; have HF0 := Lib.hid hf0; have H0 := Lib.hid h0; have HK := Lib.hid hk; clear hF hfa hFw hb2 hx2 hn1 hf0 h0 hk
    go_wp2
    go_ret2
    exact ⟨_, false, rfl, HB2.out, by rw [HK.out]; exact ⟨rfl, rfl⟩⟩
  have d1 : decide (f0 < 0) = false := decide_eq_false h0
  have hF2 := hF
  have HF := Lib.hid hF; have HFA := Lib.hid hfa; have HB2 := Lib.hid hb2; have HX2 := Lib.hid hx2; have HN1 := Lib.hid hn1; have HF0 := Lib.hid hf0; have H0 := Lib.hid h0; clear hF hfa hb2 hx2 hn1 hf0 h0
  go_wp2
  clear d1 cf
  go_loopw [7, 8, 9] (fun ov av _ wr => ∃ (i : Nat) (z : Int) (pre : List Nat), av = .int .i64 z ∧ z = (i : Int) - 1 ∧ i < n1 ∧ pre.length ≤ i ∧ (∀ l, ChF (alF need ps) (ps.length + 2) most f i l → ChF (alF need ps) (ps.length + 2) most f 0 (pre ++ l)) ∧ 0 ≤ f i ∧ wr.ownsRow w.heap.size 3 1 ov (outI pre).length (ints (outI pre)) ∧ ov.ownBlock ≠ some F ∧ ov.ownBlock ≠ some w.heap.size ∧ BI wr F 3 n1 f ∧ wr.heap[w.heap.size]? = some (.cells #[.int .i64 need, .slice A ps.length c] 43 (0, 0)) ∧ Below w.heap.size w wr) (fun _ av _ _ => (f (intOf av + 1).toNat).toNat)
  case atStart => exact ⟨0, -1, [], rfl, by omega, by omega, Nat.le_refl _, fun l h => h, by have := HF0.out; have := H0.out; omega, ⟨rfl, .inl ⟨rfl, rfl⟩⟩, by simp [Value.ownBlock], by simp [Value.ownBlock], hF2, HX2.out, HB2.out⟩
  case round =>
    clear HF hF2 HX2 HB2
    obtain ⟨i, z, pre, rfl, hz, hin, hpl, hch, hfi0, hown, hneF, hneX, hF, hx, hbw⟩ := hrel
    obtain ⟨OA, oc, rfl⟩ := own_slice1 hown
    have c0 := cell_of_row _ _ 0 _ _ _ hx
    have c1 := cell_of_row _ _ 1 _ _ _ hx
    simp only [List.getElem?_toArray, List.getElem?_cons_zero, List.getElem?_cons_succ] at c0 c1
    have lx := lt_of_block hx
    have lF := hF.lt
    have hwz : IntKind.i64.wrap (z + 1) = (i : Int) := by rw [IntWalk.i64_in _ (by omega)]; omega
    have ci := hF.at_ hin
    have x1 : (0 : Int) ≤ (i : Int) := by omega
    have x2 : (i : Int) < (n1 : Int) := by omega
    obtain ⟨fi, hfie⟩ : ∃ fi, fi = f i := ⟨_, rfl⟩
    rw [← hfie] at ci hfi0
    by_cases hpos : 0 < fi
    rotate_left
    · have d2 : decide (0 < fi) = false := decide_eq_false hpos
      have hk : knO need ps most = some pre := by
        rw [knO_some]
        have h9 := hch [] (.nil (by omega))
        rw [List.append_nil] at h9
        exact h9.bestW HFA.out (by omega)
      have HZ := Lib.hid hz; have HPL := Lib.hid hpl; have HCH := Lib.hid hch; have HOWN := Lib.hid hown; have HNEF := Lib.hid hneF; have HNEX := Lib.hid hneX; have HF := Lib.hid hF; have HX := Lib.hid hx; have HBW := Lib.hid hbw; have HFIE := Lib.hid hfie; have HPOS := Lib.hid hpos; have HK := Lib.hid hk; clear hz hpl hch hown hneF hneX hF hx hbw hfie hpos hk
      go_wp2
      go_ret2
      exact ⟨_, true, rfl, HBW.out, by rw [HK.out]; exact ⟨rfl, HOWN.out⟩⟩
    · have d2 : decide (0 < fi) = true := decide_eq_true hpos
      obtain ⟨q0, hq1, hq2, hq3, hq4⟩ := fw_step HFA.out (i := i) (by have := HN1.out; omega) (by omega)
      have hin2 : i < ps.length + 2 := by have := HN1.out; omega
      have hpi : plV need ps z = alF need ps i := by rw [← plV_al hin2, hz]
      have hair := HAL.out i hin2
      obtain ⟨vi, hvie⟩ : ∃ vi, vi = alF need ps i := ⟨_, rfl⟩
      have hvl : vi = plV need ps z := by rw [hpi, hvie]
      rw [← hvie] at hair
      have hfr := (HFA.out i (by have := HN1.out; omega)).rng hin2
      rw [← hfie] at hfr
      have hq0n : q0 < n1 := by have := HN1.out; omega
      have hwf : IntKind.i64.wrap (fi - 1) = fi - 1 := IntWalk.i64_in _ (by have := HPS.out; omega)
      obtain ⟨fm, hfm⟩ : ∃ fm, fm = fi - 1 := ⟨_, rfl⟩
      rw [← hfm] at hwf
      rw [hfm] at hwf
      have hwf2 : IntKind.i64.wrap (fi - 1) = fm := by rw [hwf, hfm]
      clear hwf
      have hwz2 := hwz
      have HZ := Lib.hid hz; have HPL := Lib.hid hpl; have HCH := Lib.hid hch; have HOWN := Lib.hid hown; have HNEF := Lib.hid hneF; have HNEX := Lib.hid hneX; have HF := Lib.hid hF; have HX := Lib.hid hx; have HBW := Lib.hid hbw; have HFIE := Lib.hid hfie; have HPOS := Lib.hid hpos; have HQ3 := Lib.hid hq3; have HQ4 := Lib.hid hq4; have HPI := Lib.hid hpi; have HVIE := Lib.hid hvie; have HVL := Lib.hid hvl; have HFM := Lib.hid hfm; clear hz hpl hch hown hneF hneX hF hx hbw hfie hpos hq3 hq4 hpi hvie hvl hfm
      clear hwz2
      go_wp2
      obtain ⟨w5, rfl⟩ : ∃ w5, w5 = wr := ⟨_, rfl⟩
      go_loopw [9] (fun kv wr => ∃ k : Nat, kv = .int .i64 (k : Int) ∧ i ≤ k ∧ k + 1 ≤ q0 ∧ (∀ m, i < m → m < k + 1 → ¬ (alF need ps m - alF need ps i ≤ most ∧ f m = f i - 1)) ∧ Below w5.heap.size w5 wr) (fun kv _ => q0 - (intOf kv).toNat)
      case atStart => exact ⟨i, rfl, Nat.le_refl _, hq1, fun m h1 h2 => absurd h1 (by omega), Below.refl _ _⟩
      case round =>
        obtain ⟨k, rfl, hik, hkq, hnot, hb5⟩ := hrel
        have hb9 := HBW.out.trans (hb5.mono HBW.out.size)
        have hx9 := (hb5.block _ (lt_of_block HX.out)).trans HX.out
        have hF9 := BI.later HF.out hb5
        have hk2 : k + 1 < ps.length + 2 := by omega
        have hpk : plV need ps (k : Int) = alF need ps (k + 1) := by rw [← plV_al hk2]; congr 1; omega
        have hakr := HAL.out (k + 1) hk2
        obtain ⟨k1, hk1⟩ : ∃ k1, k1 = k + 1 := ⟨_, rfl⟩
        rw [← hk1] at hpk hakr hnot hkq
        obtain ⟨vk, hvke⟩ : ∃ vk, vk = alF need ps k1 := ⟨_, rfl⟩
        have hvx : vk = plV need ps (k : Int) := by rw [hpk, hvke]
        rw [← hvke] at hakr
        obtain ⟨df, hdf⟩ : ∃ df, df = vk - vi := ⟨_, rfl⟩
        have hwd : IntKind.i64.wrap (vk - vi) = df := (IntWalk.i64_in _ (by omega)).trans hdf.symm
        have hwk : IntKind.i64.wrap ((k : Int) + 1) = (k1 : Int) := by rw [IntWalk.i64_in _ (by omega)]; omega
        have hk1n : k1 < n1 := by omega
        have ck := hF9.at_ hk1n
        have ci := hF9.at_ hin
        obtain ⟨fk, hfke⟩ : ∃ fk, fk = f k1 := ⟨_, rfl⟩
        rw [← hfke] at ck
        rw [← HFIE.out] at ci
        have hreach : alF need ps k1 - alF need ps i ≤ most ↔ df ≤ most := by rw [← hvke, ← HVIE.out, hdf]
        have x3 : (0 : Int) ≤ (k1 : Int) := by omega
        have x4 : (k1 : Int) < (n1 : Int) := by omega
        have c0 := cell_of_row _ _ 0 _ _ _ hx9
        have c1 := cell_of_row _ _ 1 _ _ _ hx9
        simp only [List.getElem?_toArray, List.getElem?_cons_zero, List.getElem?_cons_succ] at c0 c1
        have lx := lt_of_block hx9
        have lF := hF9.lt
        have hmore : ¬ (df ≤ most ∧ fk = fm) → (∀ m, i < m → m < k1 + 1 → ¬ (alF need ps m - alF need ps i ≤ most ∧ f m = f i - 1)) ∧ k1 + 1 ≤ q0 := fun h => by
          have h1 : ∀ m, i < m → m < k1 + 1 → ¬ (alF need ps m - alF need ps i ≤ most ∧ f m = f i - 1) := fun m m1 m2 hc => by
            rcases Nat.lt_or_ge m k1 with h3 | h3
            · exact hnot m m1 h3 hc
            · have e : m = k1 := by omega
              subst e
              exact h ⟨hreach.1 hc.1, by rw [hfke, HFM.out, HFIE.out]; exact hc.2⟩
          refine ⟨h1, ?_⟩
          rcases Nat.lt_or_ge k1 q0 with h3 | h3
          · exact h3
          · exact absurd ⟨HQ3.out, HQ4.out⟩ (h1 q0 hq1 (by omega))
        by_cases h1 : most < df
        · have d4 : decide (most < df) = true := decide_eq_true h1
          obtain ⟨hm1, hm2⟩ := hmore (fun h => by omega)
          clear hmore
          have HNOT := Lib.hid hnot; have HB5 := Lib.hid hb5; have HB9 := Lib.hid hb9; have HX9 := Lib.hid hx9; have HF9 := Lib.hid hF9; have HPK := Lib.hid hpk; have HK1 := Lib.hid hk1; have HVKE := Lib.hid hvke; have HVX := Lib.hid hvx; have HDF := Lib.hid hdf; have HFKE := Lib.hid hfke; have HREACH := Lib.hid hreach; have H1 := Lib.hid h1; have HM1 := Lib.hid hm1; clear hnot hb5 hb9 hx9 hF9 hpk hk1 hvke hvx hdf hfke hreach h1 hm1
          go_upto_region 8 with fail
          have hbelc : ∀ (u : Bel wr.heap.size wr) b o, b < wr.heap.size → u.wd.cell? ⟨b, o, none⟩ = wr.cell? ⟨b, o, none⟩ := fun u b o h => u.h.cell (p := ⟨b, o, none⟩) h
          have hbeln : Nonempty (Bel wr.heap.size wr) := ⟨⟨wr, Below.refl _ _⟩⟩
          refine wp_region_bel wr.heap.size (by kernel_rfl) (by kernel_rfl) ?_
          repeat (go_big_quiet_step ((go_at_call 53; exact quiet_bel (Nat.le_refl _) (HPLACE.out _ _ _ (by first | exact HVX.out | exact HVL.out) (HB9.out.trans ((Bel.h _).mono HB9.out.size))))))
          refine wpQuiet_nil ?_
          intro wB hB0; obtain ⟨uB, hu⟩ := hB0; have hbB0 := uB.h; rw [← hu] at hbB0; clear hu uB hbelc hbeln
          obtain ⟨hbB, hcB, hsB⟩ := bcell2 hbB0; clear hbB0
          have hbY := HB5.out.trans (hbB.mono HB5.out.size)
          clear hbB hcB hsB c0 c1 lx ck
          have HBY := Lib.hid hbY; clear hbY
          go_wp2
          go_roundw
          case rel => exact ⟨k1, rfl, by have := HK1.out; omega, hm2, HM1.out, HBY.out⟩
          case measure => have := HK1.out; simp [intOf]; omega
        have d4 : decide (most < df) = false := decide_eq_false h1
        by_cases h2 : fk = fm
        · have e1 : (fk == fm) = true := by rw [h2]; simp
          have e2 : (fk != fm) = false := by rw [bne, e1]; rfl
          have hnx : NxtF (alF need ps) (ps.length + 2) most f i k1 := ⟨by omega, by omega, hreach.2 (by omega), by rw [← hfke, h2, HFM.out, HFIE.out], fun m m1 m2 => hnot m m1 m2⟩
          clear hmore
          have HNOT := Lib.hid hnot; have HB5 := Lib.hid hb5; have HB9 := Lib.hid hb9; have HX9 := Lib.hid hx9; have HF9 := Lib.hid hF9; have HPK := Lib.hid hpk; have HK1 := Lib.hid hk1; have HVKE := Lib.hid hvke; have HVX := Lib.hid hvx; have HDF := Lib.hid hdf; have HFKE := Lib.hid hfke; have HREACH := Lib.hid hreach; have H1 := Lib.hid h1; have H2 := Lib.hid h2; have HNX := Lib.hid hnx; clear hnot hb5 hb9 hx9 hF9 hpk hk1 hvke hvx hdf hfke hreach h1 h2 hnx
          go_upto_region 8 with fail
          have hbelc : ∀ (u : Bel wr.heap.size wr) b o, b < wr.heap.size → u.wd.cell? ⟨b, o, none⟩ = wr.cell? ⟨b, o, none⟩ := fun u b o h => u.h.cell (p := ⟨b, o, none⟩) h
          have hbeln : Nonempty (Bel wr.heap.size wr) := ⟨⟨wr, Below.refl _ _⟩⟩
          refine wp_region_bel wr.heap.size (by kernel_rfl) (by kernel_rfl) ?_
          repeat (go_big_quiet_step ((go_at_call 53; exact quiet_bel (Nat.le_refl _) (HPLACE.out _ _ _ (by first | exact HVX.out | exact HVL.out) (HB9.out.trans ((Bel.h _).mono HB9.out.size))))))
          refine wpQuiet_nil ?_
          intro wB hB0; obtain ⟨uB, hu⟩ := hB0; have hbB0 := uB.h; rw [← hu] at hbB0; clear hu uB hbelc hbeln
          obtain ⟨hbB, hcB, hsB⟩ := bcell2 hbB0; clear hbB0
          have hbY := HB5.out.trans (hbB.mono HB5.out.size)
          have hbZ := HBW.out.trans (hbY.mono HBW.out.size)
          have hszY := hbY.size
          have hownY := own_below3 HOWN.out hbY
          have hFY := BI.later HF.out hbY
          have hxY := (hbY.block _ (lt_of_block HX.out)).trans HX.out
          have hszZ := hbZ.size
          have hpl8 := HPL.out
          clear hbB hcB hsB c0 c1 lx ck
          have HBY := Lib.hid hbY; have HBZ := Lib.hid hbZ; have HOWNY := Lib.hid hownY; have HFY := Lib.hid hFY; have HXY := Lib.hid hxY; clear hbY hbZ hownY hFY hxY
          go_wp2_with (
            at_builtin
            go_must (refine wpList_app1_Try (by rfl) _ _ (by rfl) w.heap.size (.slice OA (outI pre).length oc) (outI pre) (by rfl) (HOWNY.out.alloc _) wB.heap.size (k : Int) (by rfl) (heap_alloc_new _ _) (by rw [outI_len]; omega) (by simp; omega) ?_)
            intro gg cc w7 ho7 hg7 hat7 hlt7
            have hg67 := gb_then (World.grownBy_alloc wB (.cells #[.int .i64 (k : Int)] 3) _) hg7
            have hF7 : BI w7 F 3 n1 f := (hg67.block F HFY.out.lt (fun e => HNEF.out e.symm)).trans HFY.out
            have hx7 := (hg67.block _ (lt_of_block HXY.out) (fun e => HNEX.out e.symm)).trans HXY.out
            have hb7 : Below w.heap.size w w7 := HBZ.out.grown hg67 hszZ (fun j hj => (HOWNY.out.lt j hj).1)
            have hlF7 := HFY.out.lt
            have hlX7 := lt_of_block HXY.out
            have hne7 : (Value.slice (some ⟨gg, 0, none⟩) ((outI pre).length + 1) cc).ownBlock ≠ some F := fun e => by
              have e9 : gg = F := Option.some.inj e
              rcases hat7 with h | h
              · exact HNEF.out (by rw [h, e9])
              · rw [h] at e9; simp at e9; omega
            have hneX7 : (Value.slice (some ⟨gg, 0, none⟩) ((outI pre).length + 1) cc).ownBlock ≠ some w.heap.size := fun e => by
              have e9 : gg = w.heap.size := Option.some.inj e
              rcases hat7 with h | h
              · exact HNEX.out (by rw [h, e9])
              · rw [h] at e9; simp at e9; omega
            have hke : (k : Int) = (k1 : Int) - 1 := by have := HK1.out; omega
            rw [hke, ← outI_snoc] at ho7
            clear hat7 hg7 hg67 hlt7 hlF7 hlX7 hke
            have hch7 : ∀ l, ChF (alF need ps) (ps.length + 2) most f k1 l → ChF (alF need ps) (ps.length + 2) most f 0 (pre ++ [k1] ++ l) := fun l hl => by
              rw [List.append_assoc]
              exact HCH.out _ (.cons (by rw [← HFIE.out]; exact HPOS.out) HNX.out hl)
            have hpl7 : (pre ++ [k1]).length ≤ k1 := by
              have := HK1.out
              simp only [List.length_append, List.length_cons, List.length_nil]
              omega
            have hf7 : 0 ≤ f k1 := by rw [← HFKE.out, H2.out, HFM.out]; have := HPOS.out; omega
            have hmes : (f ((k : Int) + 1).toNat).toNat < (f (z + 1).toNat).toNat := by
              have e1 : ((k : Int) + 1).toNat = k1 := by have := HK1.out; omega
              have e2 : (z + 1).toNat = i := by have := HZ.out; omega
              rw [e1, e2, ← HFKE.out, ← HFIE.out, H2.out, HFM.out]
              have := HPOS.out
              omega
            have HO7 := Lib.hid ho7; have HF7 := Lib.hid hF7; have HX7 := Lib.hid hx7; have HB7 := Lib.hid hb7; have HNE7 := Lib.hid hne7; have HNEX7 := Lib.hid hneX7; have HCH7 := Lib.hid hch7; have HPL7 := Lib.hid hpl7; have HF7 := Lib.hid hf7; have HMES := Lib.hid hmes; clear ho7 hF7 hx7 hb7 hne7 hneX7 hch7 hpl7 hf7 hmes
            skip)
          go_roundw
          case rel => exact ⟨k1, (k : Int), pre ++ [k1], rfl, by have := HK1.out; omega, hk1n, HPL7.out, HCH7.out, HF7.out, HO7.out, HNE7.out, HNEX7.out, by assumption, HX7.out, HB7.out⟩
          case measure => simpa [intOf] using HMES.out
        · have e1 : (fk == fm) = false := by rw [beq_eq_false_iff_ne]; exact h2
          have e2 : (fk != fm) = true := by rw [bne, e1]; rfl
          obtain ⟨hm1, hm2⟩ := hmore (fun h => h2 h.2)
          clear hmore
          have HNOT := Lib.hid hnot; have HB5 := Lib.hid hb5; have HB9 := Lib.hid hb9; have HX9 := Lib.hid hx9; have HF9 := Lib.hid hF9; have HPK := Lib.hid hpk; have HK1 := Lib.hid hk1; have HVKE := Lib.hid hvke; have HVX := Lib.hid hvx; have HDF := Lib.hid hdf; have HFKE := Lib.hid hfke; have HREACH := Lib.hid hreach; have H1 := Lib.hid h1; have HM1 := Lib.hid hm1; have H2 := Lib.hid h2; clear hnot hb5 hb9 hx9 hF9 hpk hk1 hvke hvx hdf hfke hreach h1 hm1 h2
          go_upto_region 8 with fail
          have hbelc : ∀ (u : Bel wr.heap.size wr) b o, b < wr.heap.size → u.wd.cell? ⟨b, o, none⟩ = wr.cell? ⟨b, o, none⟩ := fun u b o h => u.h.cell (p := ⟨b, o, none⟩) h
          have hbeln : Nonempty (Bel wr.heap.size wr) := ⟨⟨wr, Below.refl _ _⟩⟩
          refine wp_region_bel wr.heap.size (by kernel_rfl) (by kernel_rfl) ?_
          repeat (go_big_quiet_step ((go_at_call 53; exact quiet_bel (Nat.le_refl _) (HPLACE.out _ _ _ (by first | exact HVX.out | exact HVL.out) (HB9.out.trans ((Bel.h _).mono HB9.out.size))))))
          refine wpQuiet_nil ?_
          intro wB hB0; obtain ⟨uB, hu⟩ := hB0; have hbB0 := uB.h; rw [← hu] at hbB0; clear hu uB hbelc hbeln
          obtain ⟨hbB, hcB, hsB⟩ := bcell2 hbB0; clear hbB0
          have hbY := HB5.out.trans (hbB.mono HB5.out.size)
          clear hbB hcB hsB c0 c1 lx ck
          have HBY := Lib.hid hbY; clear hbY
          go_wp2
          go_roundw
          case rel => exact ⟨k1, rfl, by have := HK1.out; omega, hm2, HM1.out, HBY.out⟩
          case measure => have := HK1.out; simp [intOf]; omega
set_option maxRecDepth 100000 in
set_option maxHeartbeats 4000000 in
theorem rKnots20_ (need most : Int) (A : Option Addr) (c : Nat) (ps : List Int) (w : World) (hr : RdI w A ps) :
    Calls Try.prog 18 #[.agg #[.int .i64 need, .slice A ps.length c], .int .i64 most] w (OListPost (knL need ps most) (knE need ps most) w) := by
  obtain ⟨w0, hw0⟩ : ∃ w0, w0 = w.alloc (.cells #[.int .i64 need, .slice A ps.length c] 43) := ⟨_, rfl⟩
  have hb : Below w.heap.size w w0 := by rw [hw0]; exact (Below.refl _ _).alloc (Nat.le_refl _) _
  have hx : w0.heap[w.heap.size]? = some (.cells #[.int .i64 need, .slice A ps.length c] 43 (0, 0)) := by rw [hw0]; exact heap_alloc_new _ _
  have hr1 := hr.later hb (Nat.le_refl _)
  have c0 := cell_of_row _ _ 0 _ _ _ hx
  have c1 := cell_of_row _ _ 1 _ _ _ hx
  simp only [List.getElem?_toArray, List.getElem?_cons_zero, List.getElem?_cons_succ] at c0 c1
  have l1 := lt_of_block hx
  have HR := Lib.hid hr; have HB := Lib.hid hb; have HX := Lib.hid hx; have HR1 := Lib.hid hr1; have HW0 := Lib.hid hw0; clear hr hb hx hr1 hw0
  go_enter Try.func18, Try.ntmps18
  go_upto_region 1 with fail
  rw [← HW0.out]
  go_wp2_with fail
  refine (rCheck20_ need A c ps _ HR1.out).mono ?_
  rintro e w1 ⟨rfl, b1⟩
  have hb1 := HB.out.trans (b1.mono HB.out.size)
  have hx1 := (b1.block _ (lt_of_block HX.out)).trans HX.out
  clear b1 HB HX c0 c1 l1
  have c0 := cell_of_row _ _ 0 _ _ _ hx1
  have c1 := cell_of_row _ _ 1 _ _ _ hx1
  simp only [List.getElem?_toArray, List.getElem?_cons_zero, List.getElem?_cons_succ] at c0 c1
  have l1 := lt_of_block hx1
  have hthr := @thrE_ok need ps
  obtain ⟨x, hxe⟩ : ∃ x, x = knE need ps most := ⟨_, rfl⟩
  obtain ⟨l, hle⟩ : ∃ l, l = knL need ps most := ⟨_, rfl⟩
  have HXQ := Lib.hid hxe
  have HLQ := Lib.hid hle
  unfold knE at hxe
  unfold knL at hle
  by_cases he : thrE need ps = 0
  rotate_left
  · rw [if_pos he] at hxe
    rw [if_neg (fun h => he h.1)] at hle
    generalize thrE need ps = E at *
    have e1 : (E == 0) = false := by rw [beq_eq_false_iff_ne]; exact he
    have e2 : (E != 0) = true := by simp [he]
    have hn := own_nilI w1 w.heap.size 3
    have HB1 := Lib.hid hb1; have HX1 := Lib.hid hx1; have HXE := Lib.hid hxe; have HLE := Lib.hid hle; have HE := Lib.hid he; have HTHR := Lib.hid hthr; have HN := Lib.hid hn; clear hb1 hx1 hxe hle he hthr hn
    go_wp2
    go_ret2
    rw [← HLQ.out, ← HXQ.out, HLE.out, HXE.out]
    exact ⟨_, rfl, HN.out, HB1.out⟩
  rw [if_neg (fun h => h he)] at hxe
  obtain ⟨ho1, ho2, ho3⟩ := hthr he
  clear hthr
  have hcall := fun W (h : Below w1.heap.size w1 W) h2 => rknots20_ need most A c ps W ((HR.out.later (hb1.trans (h.mono hb1.size)) (Nat.le_refl _))) ho2 ho1 ho3 h2
  have hco := fun W => rFrom20_ most 1 1000000000000 W
  rw [he]
  obtain ⟨om, hom⟩ : ∃ om, om = outR most 1 1000000000000 := ⟨_, rfl⟩
  rw [← hom] at hxe hle hco
  cases om with
  | true =>
    rw [if_pos rfl] at hxe
    rw [if_neg (fun h => by have := h.2; cases this)] at hle
    have HB1 := Lib.hid hb1; have HX1 := Lib.hid hx1; have HXE := Lib.hid hxe; have HLE := Lib.hid hle; have HE := Lib.hid he; have HO1 := Lib.hid ho1; have HO2 := Lib.hid ho2; have HO3 := Lib.hid ho3; have HCALL := Lib.hid hcall; have HCO := Lib.hid hco; have HOM := Lib.hid hom; clear hb1 hx1 hxe hle he ho1 ho2 ho3 hcall hco hom
    go_wp2_with fail
    refine (HCO.out _).mono ?_
    rintro e w2 ⟨rfl, b1⟩
    have hb2 := HB1.out.trans (b1.mono HB1.out.size)
    clear b1
    have hn := own_nilI w2 w.heap.size 3
    have HB2 := Lib.hid hb2; have HN := Lib.hid hn; clear hb2 hn
    go_wp2
    go_ret2
    rw [← HLQ.out, ← HXQ.out, HLE.out, HXE.out]
    exact ⟨_, rfl, HN.out, HB2.out⟩
  | false =>
    rw [if_neg (by decide)] at hxe
    rw [if_pos ⟨he, rfl⟩] at hle
    have hm0 : 0 ≤ most ∧ most ≤ 1000000000000 := by have := outR_no hom.symm; omega
    have HB1 := Lib.hid hb1; have HX1 := Lib.hid hx1; have HXE := Lib.hid hxe; have HLE := Lib.hid hle; have HE := Lib.hid he; have HO1 := Lib.hid ho1; have HO2 := Lib.hid ho2; have HO3 := Lib.hid ho3; have HCALL := Lib.hid hcall; have HCO := Lib.hid hco; have HOM := Lib.hid hom; have HM0 := Lib.hid hm0; clear hb1 hx1 hxe hle he ho1 ho2 ho3 hcall hco hom hm0
    go_wp2_with fail
    refine (HCO.out _).mono ?_
    rintro e w2 ⟨rfl, b1⟩
    have hb2 := HB1.out.trans (b1.mono HB1.out.size)
    have hx2 := (b1.block _ (lt_of_block HX1.out)).trans HX1.out
    have hcall2 := HCALL.out w2 b1 HM0.out
    clear b1 c0 c1 l1
    have c0 := cell_of_row _ _ 0 _ _ _ hx2
    have c1 := cell_of_row _ _ 1 _ _ _ hx2
    simp only [List.getElem?_toArray, List.getElem?_cons_zero, List.getElem?_cons_succ] at c0 c1
    have l1 := lt_of_block hx2
    have HB2 := Lib.hid hb2; have HX2 := Lib.hid hx2; have HCALL2 := Lib.hid hcall2; clear hb2 hx2 hcall2
    go_wp2_with fail
    refine HCALL2.out.mono ?_
    rintro e w3 ⟨v, b, rfl, b2, hv⟩
    have hb3 := HB2.out.trans (b2.mono HB2.out.size)
    have hs := HB2.out.size
    clear b2
    cases hk : knO need ps most with
    | none =>
      rw [hk] at hv
      obtain ⟨rfl, rfl⟩ := hv
      have hl2 : l = [] := by rw [HLE.out, hk]; rfl
      have hx9 : x = 4 := by rw [HXE.out, if_pos hk]
      have hn := own_nilI w3 w.heap.size 3
      have HB3 := Lib.hid hb3; have HL2 := Lib.hid hl2; have HX9 := Lib.hid hx9; have HK := Lib.hid hk; have HN := Lib.hid hn; clear hb3 hl2 hx9 hk hn
      go_wp2
      go_ret2
      rw [← HLQ.out, ← HXQ.out, HL2.out, HX9.out]
      exact ⟨_, rfl, HN.out, HB3.out⟩
    | some q =>
      rw [hk] at hv
      obtain ⟨rfl, hv2⟩ := hv
      have hl2 : l = outI q := by rw [HLE.out, hk]; rfl
      have hx9 : x = 0 := by rw [HXE.out, if_neg (by rw [hk]; simp)]
      have hv3 := own_base (base' := w.heap.size) hv2 hs
      have HB3 := Lib.hid hb3; have HL2 := Lib.hid hl2; have HX9 := Lib.hid hx9; have HK := Lib.hid hk; have HV2 := Lib.hid hv2; have HV3 := Lib.hid hv3; clear hb3 hl2 hx9 hk hv2 hv3
      go_wp2
      go_ret2
      rw [← HLQ.out, ← HXQ.out, HL2.out, HX9.out]
      exact ⟨_, rfl, HV3.out, HB3.out⟩
end Go.Proofs.Ytdimaapiloojeaa
/- The law BobbinsKnots. -/
namespace Go.Proofs.Ytdimaapiloojeaa
open Go.RowKit

theorem knL_len (need : Int) (ps : List Int) (most : Int) : (knL need ps most).length ≤ 1000 := by
  unfold knL
  split
  · rename_i h
    have h1 := (thrE_ok h.1).2.1
    cases hk : knO need ps most with
    | none => simp
    | some q =>
      have h2 := knO_len hk
      show (outI q).length ≤ 1000
      rw [outI_len]
      omega
  · simp
set_option maxRecDepth 100000 in
set_option maxHeartbeats 8000000 in
theorem lawKnots_ (need most : Int) (A : Option Addr) (c : Nat) (ps : List Int) (w : World) (hr : RdI w A ps) :
    Calls Try.prog 5 #[.agg #[.int .i64 need, .slice A ps.length c], .int .i64 most] w (BoolPost true w) := by
  obtain ⟨w1, hw1⟩ : ∃ w1, w1 = w.alloc (.cells #[.int .i64 need, .slice A ps.length c] 43) := ⟨_, rfl⟩
  have hb1 : Below w.heap.size w w1 := by rw [hw1]; exact (Below.refl _ _).alloc (Nat.le_refl _) _
  have hx1 : w1.heap[w.heap.size]? = some (.cells #[.int .i64 need, .slice A ps.length c] 43 (0, 0)) := by rw [hw1]; exact heap_alloc_new _ _
  have c0 := cell_of_row _ _ 0 _ _ _ hx1
  have c1 := cell_of_row _ _ 1 _ _ _ hx1
  simp only [List.getElem?_toArray, List.getElem?_cons_zero, List.getElem?_cons_succ] at c0 c1
  have l1 := lt_of_block hx1
  have haw := fun W => awake20_ W
  have hlong := lLong20_ need 60 A c ps w1
  obtain ⟨lb, hlb⟩ : ∃ lb, lb = lgB ps 60 := ⟨_, rfl⟩
  rw [← hlb] at hlong
  cases lb with
  | true =>
    have HR := Lib.hid hr; have HW1 := Lib.hid hw1; have HB1 := Lib.hid hb1; have HX1 := Lib.hid hx1; have HAW := Lib.hid haw; have HLONG := Lib.hid hlong; have HLB := Lib.hid hlb; clear hr hw1 hb1 hx1 haw hlong hlb
    go_enter Try.func5, Try.ntmps5
    go_upto_region 1 with fail
    rw [← HW1.out]
    go_wp2_with fail
    refine HLONG.out.mono ?_
    rintro e w2 ⟨rfl, b2⟩
    have hb2 := HB1.out.trans (b2.mono HB1.out.size)
    have B2 := Lib.hid b2; have HB2 := Lib.hid hb2; clear b2 hb2
    go_wp2_with fail
    refine (HAW.out _).mono ?_
    rintro e w3 ⟨rfl, b3⟩
    have hb3 := HB2.out.trans (b3.mono HB2.out.size)
    clear b3
    have HB3 := Lib.hid hb3; clear hb3
    go_wp2
    go_ret
    exact ⟨rfl, HB3.out⟩
  | false =>
    have h1 := fun (W : World) (hW : Below w.heap.size w W) => bKnots_ need most A c ps W (hr.later hW (Nat.le_refl _))
    have h2 := fun (W : World) (hW : Below w.heap.size w W) => rKnots20_ need most A c ps W (hr.later hW (Nat.le_refl _))
    have h3 := fun (W : World) (hW : Below w.heap.size w W) => bCheck_ need A c ps W (hr.later hW (Nat.le_refl _))
    have h4 := fun (W : World) (hW : Below w.heap.size w W) => rCheck20_ need A c ps W (hr.later hW (Nat.le_refl _))
    have hkl := knL_len need ps most
    obtain ⟨E, hE⟩ : ∃ E, E = knE need ps most := ⟨_, rfl⟩
    obtain ⟨a, ha⟩ : ∃ a, a = knL need ps most := ⟨_, rfl⟩
    obtain ⟨T, hT⟩ : ∃ T, T = thrE need ps := ⟨_, rfl⟩
    rw [← hE, ← ha] at h1 h2
    rw [← ha] at hkl
    rw [← hT] at h3 h4
    have eE : (E == E) = true := by simp
    have eT : (T == T) = true := by simp
    have HR := Lib.hid hr; have HW1 := Lib.hid hw1; have HB1 := Lib.hid hb1; have HX1 := Lib.hid hx1; have HAW := Lib.hid haw; have HLONG := Lib.hid hlong; have HLB := Lib.hid hlb; have H1 := Lib.hid h1; have H2 := Lib.hid h2; have H3 := Lib.hid h3; have H4 := Lib.hid h4; have HE := Lib.hid hE; have HA := Lib.hid ha; have HT := Lib.hid hT; clear hr hw1 hb1 hx1 haw hlong hlb h1 h2 h3 h4 hE ha hT
    go_enter Try.func5, Try.ntmps5
    go_upto_region 1 with fail
    rw [← HW1.out]
    go_wp2_with fail
    refine HLONG.out.mono ?_
    rintro e w2 ⟨rfl, b2⟩
    have hb2 := HB1.out.trans (b2.mono HB1.out.size)
    have hx2 := (b2.block _ (lt_of_block HX1.out)).trans HX1.out
    clear b2 c0 c1 l1
    have c0 := cell_of_row _ _ 0 _ _ _ hx2
    have c1 := cell_of_row _ _ 1 _ _ _ hx2
    simp only [List.getElem?_toArray, List.getElem?_cons_zero, List.getElem?_cons_succ] at c0 c1
    have l1 := lt_of_block hx2
    have HB2 := Lib.hid hb2; have HX2 := Lib.hid hx2; clear hb2 hx2
    go_wp2_with fail
    refine (H1.out w2 HB2.out).mono ?_
    rintro e w3 ⟨v, rfl, ho3, b3⟩
    obtain ⟨A3, c3, rfl⟩ := own_slice1 ho3
    have hr3 : RdI w3 A3 a := rdI_of_own9 ho3 (by omega)
    have hb3 := HB2.out.trans (b3.mono HB2.out.size)
    have hx3 := (b3.block _ (lt_of_block HX2.out)).trans HX2.out
    clear b3 c0 c1 l1 ho3 HB2 HX2
    have c0 := cell_of_row _ _ 0 _ _ _ hx3
    have c1 := cell_of_row _ _ 1 _ _ _ hx3
    simp only [List.getElem?_toArray, List.getElem?_cons_zero, List.getElem?_cons_succ] at c0 c1
    have l1 := lt_of_block hx3
    have HB3 := Lib.hid hb3; have HX3 := Lib.hid hx3; have HR3 := Lib.hid hr3; clear hb3 hx3 hr3
    go_wp2_with fail
    refine (H2.out w3 HB3.out).mono ?_
    rintro e w4 ⟨v, rfl, ho4, b4⟩
    obtain ⟨A4, c4, rfl⟩ := own_slice1 ho4
    have hr4 : RdI w4 A4 a := rdI_of_own9 ho4 (by omega)
    have hb4 := HB3.out.trans (b4.mono HB3.out.size)
    have hx4 := (b4.block _ (lt_of_block HX3.out)).trans HX3.out
    have hq4 := HR3.out.later b4 (Nat.le_refl _)
    clear b4 c0 c1 l1 ho4 HB3 HX3 HR3
    have c0 := cell_of_row _ _ 0 _ _ _ hx4
    have c1 := cell_of_row _ _ 1 _ _ _ hx4
    simp only [List.getElem?_toArray, List.getElem?_cons_zero, List.getElem?_cons_succ] at c0 c1
    have l1 := lt_of_block hx4
    have hints := fun (W : World) (hW : Below w4.heap.size w4 W) => (show Calls Try.prog 21 #[.slice A3 a.length c3, .slice A4 a.length c4] W (BoolPost true W) by
      have h := lInts20_ A3 A4 c3 c4 a a W (hq4.later hW (Nat.le_refl _)) (hr4.later hW (Nat.le_refl _))
      rw [decide_eq_true rfl] at h
      exact h)
    have HB4 := Lib.hid hb4; have HX4 := Lib.hid hx4; have HR4 := Lib.hid hr4; have HQ4 := Lib.hid hq4; have HINTS := Lib.hid hints; clear hb4 hx4 hr4 hq4 hints
    go_upto_region 5 with fail
    have hbelc : ∀ (u : Bel w4.heap.size w4) b o, b < w4.heap.size → u.wd.cell? ⟨b, o, none⟩ = w4.cell? ⟨b, o, none⟩ := fun u b o h => u.h.cell (p := ⟨b, o, none⟩) h
    have hbeln : Nonempty (Bel w4.heap.size w4) := ⟨⟨w4, Below.refl _ _⟩⟩
    refine wp_region_bel w4.heap.size (by kernel_rfl) (by kernel_rfl) ?_
    repeat (go_big_quiet_step ((first | (go_at_call 19; exact quiet_bel (Nat.le_refl _) (H3.out _ (HB4.out.trans ((Bel.h _).mono HB4.out.size)))) | (go_at_call 20; exact quiet_bel (Nat.le_refl _) (H4.out _ (HB4.out.trans ((Bel.h _).mono HB4.out.size)))) | (go_at_call 21; exact quiet_bel (Nat.le_refl _) (HINTS.out _ (Bel.h _))) | (go_at_call 10; exact quiet_bel (Nat.le_refl _) (awake20_ _)))))
    refine wpQuiet_nil ?_
    intro wB hB0; obtain ⟨uB, hu⟩ := hB0; have hbB0 := uB.h; rw [← hu] at hbB0; clear hu uB hbelc hbeln
    obtain ⟨hbB, hcB, hsB⟩ := bcell2 hbB0; clear hbB0
    have hbY := HB4.out.trans (hbB.mono HB4.out.size)
    clear hbB hcB hsB
    have HBY := Lib.hid hbY; clear hbY
    go_wp2
    go_ret
    exact ⟨rfl, HBY.out⟩
end Go.Proofs.Ytdimaapiloojeaa
