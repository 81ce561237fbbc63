/- Texts of this claim, laid together: BoWdg. -/
import Derived.Test.YtdimaapiloojeaaMaI
/- The reference's place and Winding. -/
namespace Go.Proofs.Ytdimaapiloojeaa
open Go.RowKit

def plV (need : Int) (ps : List Int) (i : Int) : Int := if i < 0 then 0 else if (ps.length : Int) ≤ i then need else ps.getD i.toNat 0
theorem plV_al {need : Int} {ps : List Int} {i : Nat} (h : i < ps.length + 2) : plV need ps ((i : Int) - 1) = alF need ps i := by
  unfold plV
  cases i with
  | zero => rfl
  | succ k =>
    rw [if_neg (by omega)]
    by_cases h1 : k < ps.length
    · rw [if_neg (by omega), alF_in need ps k h1, show ((k + 1 : Nat) : Int) - 1 = (k : Int) by omega, Int.toNat_natCast]
    · rw [if_pos (by omega), show k = ps.length by omega, alF_end]
theorem plV_end (need : Int) (ps : List Int) : plV need ps (ps.length : Int) = need := by
  unfold plV
  rw [if_neg (by omega), if_pos (by omega)]
set_option maxRecDepth 100000 in
set_option maxHeartbeats 4000000 in
theorem rplace20_ (need i : Int) (A : Option Addr) (c : Nat) (ps : List Int) (w : World) (hr : RdI w A ps) : Calls Try.prog 53 #[.agg #[.int .i64 need, .slice A ps.length c], .int .i64 i] w (IntPost (plV need ps i) w) := by
  have hln := hr.1
  obtain ⟨R, hR⟩ : ∃ R, R = plV need ps i := ⟨_, rfl⟩
  rw [← hR]
  unfold plV at hR
  have hb : Below w.heap.size w (w.alloc (.cells #[.int .i64 need, .slice A ps.length c] 43)) := (Below.refl _ _).alloc (Nat.le_refl _) _
  by_cases h1 : i < 0
  · have d1 : decide (i < 0) = true := decide_eq_true h1
    rw [if_pos h1] at hR
    have HB := Lib.hid hb; have HR := Lib.hid hr; have HR := Lib.hid hR; clear hb hr hR
    go_enter Try.func53, Try.ntmps53
    go_wp2
    go_ret
    exact ⟨by rw [HR.out]; rfl, HB.out⟩
  have d1 : decide (i < 0) = false := decide_eq_false h1
  rw [if_neg h1] at hR
  obtain ⟨k, rfl⟩ := Int.eq_ofNat_of_zero_le (show 0 ≤ i by omega)
  by_cases h2 : (ps.length : Int) ≤ (k : Int)
  · have d2 : decide ((ps.length : Int) ≤ (k : Int)) = true := decide_eq_true h2
    have d3 : decide (ps.length ≤ k) = true := decide_eq_true (by omega)
    rw [if_pos h2] at hR
    have HB := Lib.hid hb; have HR := Lib.hid hr; have HR := Lib.hid hR; clear hb hr hR
    go_enter Try.func53, Try.ntmps53
    go_wp2
    go_ret
    exact ⟨by rw [HR.out]; rfl, HB.out⟩
  · have d2 : decide ((ps.length : Int) ≤ (k : Int)) = false := decide_eq_false h2
    have d3 : decide (ps.length ≤ k) = false := decide_eq_false (by omega)
    have hk : k < ps.length := by omega
    rw [if_neg h2, Int.toNat_natCast, show ps.getD k 0 = ps[k] by simp [List.getD_eq_getElem?_getD, hk]] at hR
    obtain ⟨bl, ol, rfl, hbl, l1⟩ := hr.at_ hk
    generalize ps[k] = x at *
    have x1 : (0 : Int) ≤ (k : Int) := by omega
    have x2 : (k : Int) < (ps.length : Int) := by omega
    have l2 : (w.alloc (.cells #[.int .i64 need, .slice (some ⟨bl, 0, none⟩) ps.length c] 43)).heap.size = w.heap.size + 1 := by simp
    have HB := Lib.hid hb; have HR := Lib.hid hr; have HR := Lib.hid hR; have L2 := Lib.hid l2; clear hb hr hR l2
    go_enter Try.func53, Try.ntmps53
    go_wp2
    go_ret
    exact ⟨by rw [HR.out]; rfl, HB.out⟩
/-- The reference's winding: from a place on. -/
def wdB (need : Int) (ps : List Int) (most : Int) : Int → List Int → Bool
  | last, [] => decide (plV need ps (ps.length : Int) - plV need ps last ≤ most)
  | last, x :: l => decide (last < x) && decide (x < (ps.length : Int)) && decide (plV need ps x - plV need ps last ≤ most) && wdB need ps most x l
theorem wdB_iff {need : Int} {ps : List Int} {most : Int} : ∀ (l : List Int) (i : Nat), i < ps.length + 2 → (wdB need ps most ((i : Int) - 1) l = true ↔ ∃ m : List Nat, l = outI m ∧ WdP (alF need ps) (ps.length + 2) most i m)
  | [], i, hi => by
    unfold wdB
    rw [decide_eq_true_eq, plV_end, plV_al hi]
    constructor
    · intro h
      refine ⟨[], rfl, ?_⟩
      unfold WdP
      rw [show ps.length + 2 - 1 = ps.length + 1 by omega, alF_end]
      exact h
    · rintro ⟨m, hm, hw⟩
      cases m with
      | cons q m => unfold outI at hm; simp at hm
      | nil =>
        unfold WdP at hw
        rw [show ps.length + 2 - 1 = ps.length + 1 by omega, alF_end] at hw
        exact hw
  | x :: l, i, hi => by
    unfold wdB
    simp only [Bool.and_eq_true, decide_eq_true_eq]
    constructor
    · rintro ⟨⟨⟨h1, h2⟩, h3⟩, h4⟩
      obtain ⟨q, hq⟩ := Int.eq_ofNat_of_zero_le (show 0 ≤ x + 1 by omega)
      have hx : x = (q : Int) - 1 := by omega
      subst hx
      obtain ⟨m, rfl, hm⟩ := (wdB_iff l q (by omega)).1 h4
      rw [plV_al (by omega), plV_al hi] at h3
      exact ⟨q :: m, rfl, by omega, by omega, h3, hm⟩
    · rintro ⟨m, hm, hw⟩
      cases m with
      | nil => unfold outI at hm; simp at hm
      | cons q m =>
        have e : x = (q : Int) - 1 ∧ l = outI m := by
          unfold outI at hm ⊢
          simpa using hm
        obtain ⟨rfl, rfl⟩ := e
        obtain ⟨w1, w2, w3, w4⟩ := hw
        refine ⟨⟨⟨by omega, by omega⟩, ?_⟩, (wdB_iff _ q (by omega)).2 ⟨m, rfl, w4⟩⟩
        rw [plV_al (by omega), plV_al hi]
        exact w3
def lstI : Int → List Int → Int
  | p, [] => p
  | _, x :: l => lstI x l
theorem lstI_snoc (x : Int) : ∀ (l : List Int) (p : Int), lstI p (l ++ [x]) = x
  | [], _ => rfl
  | y :: l, p => by rw [List.cons_append, lstI]; exact lstI_snoc x l y
/-- So far it is a winding. -/
def wdA (need : Int) (ps : List Int) (most : Int) : Int → List Int → Bool
  | _, [] => true
  | last, x :: l => decide (last < x) && decide (x < (ps.length : Int)) && decide (plV need ps x - plV need ps last ≤ most) && wdA need ps most x l
theorem wdA_snoc (need : Int) (ps : List Int) (most x : Int) : ∀ (l : List Int) (p : Int), wdA need ps most p (l ++ [x]) = (wdA need ps most p l && (decide (lstI p l < x) && decide (x < (ps.length : Int)) && decide (plV need ps x - plV need ps (lstI p l) ≤ most)))
  | [], p => by rw [List.nil_append, wdA, wdA, wdA, lstI, Bool.and_true, Bool.true_and]
  | y :: l, p => by
    rw [List.cons_append, wdA, wdA, wdA_snoc need ps most x l y, lstI, Bool.and_assoc, Bool.and_assoc, Bool.and_assoc, Bool.and_assoc, Bool.and_assoc]
    simp only [Bool.and_assoc]
theorem wdB_app (need : Int) (ps : List Int) (most : Int) : ∀ (l m : List Int) (p : Int), wdB need ps most p (l ++ m) = (wdA need ps most p l && wdB need ps most (lstI p l) m)
  | [], m, p => by simp [wdA, lstI]
  | y :: l, m, p => by
    rw [List.cons_append, wdB, wdA, wdB_app need ps most l m y, lstI]
    simp only [Bool.and_assoc]
theorem plV_rng {need : Int} {ps : List Int} (h : AscP need ps) (hn : need ≤ 1000000000000) (i : Int) : 0 ≤ plV need ps i ∧ plV need ps i ≤ 1000000000000 := by
  unfold plV
  have := h.2.2
  split
  · omega
  · split
    · omega
    · rename_i h1 h2
      have h3 : i.toNat < ps.length := by omega
      rw [show ps.getD i.toNat 0 = ps[i.toNat] by simp [List.getD_eq_getElem?_getD, h3]]
      have := h.1 _ (List.getElem_mem h3)
      omega
set_option maxRecDepth 100000 in
set_option maxHeartbeats 8000000 in
theorem rWinding20_ (need most : Int) (A LA : Option Addr) (c lc : Nat) (ps l : List Int) (w : World) (hr : RdI w A ps) (hl : RdI w LA l) (hasc : AscP need ps) (hn : need ≤ 1000000000000) (hm : 0 ≤ most ∧ most ≤ 1000000000000) :
    Calls Try.prog 30 #[.agg #[.int .i64 need, .slice A ps.length c], .int .i64 most, .slice LA l.length lc] w (BoolPost (wdB need ps most (-1) l) w) := by
  have hln := hl.1
  obtain ⟨R, hR⟩ : ∃ R, R = wdB need ps most (-1) l := ⟨_, rfl⟩
  rw [← hR]
  obtain ⟨w1, hw1⟩ : ∃ w1, w1 = w.alloc (.cells #[.int .i64 need, .slice A ps.length c] 43) := ⟨_, rfl⟩
  have hb1 : Below w.heap.size w w1 := by rw [hw1]; exact (Below.refl _ _).alloc (Nat.le_refl _) _
  have hx1 : w1.heap[w.heap.size]? = some (.cells #[.int .i64 need, .slice A ps.length c] 43 (0, 0)) := by rw [hw1]; exact heap_alloc_new _ _
  have hplr := plV_rng hasc hn
  have hplace := fun (i v : Int) (W : World) (hv : v = plV need ps i) (hW : Below w.heap.size w W) => (show Calls Try.prog 53 #[.agg #[.int .i64 need, .slice A ps.length c], .int .i64 i] W (IntPost v W) by rw [hv]; exact rplace20_ need i A c ps W (hr.later hW (Nat.le_refl _)))
  have HR := Lib.hid hr; have HL := Lib.hid hl; have HASC := Lib.hid hasc; have HN := Lib.hid hn; have HM := Lib.hid hm; have HR := Lib.hid hR; have HW1 := Lib.hid hw1; have HB1 := Lib.hid hb1; have HX1 := Lib.hid hx1; have HPLR := Lib.hid hplr; have HPLACE := Lib.hid hplace; clear hr hl hasc hn hm hR hw1 hb1 hx1 hplr hplace
  go_enter Try.func30, Try.ntmps30
  go_upto_region 3 with fail
  rw [← HW1.out]
  go_loopw [7, 8] (fun lv iv wr => ∃ k : Nat, iv = .int .i64 (k : Int) ∧ k ≤ l.length ∧ lv = .int .i64 (lstI (-1) (l.take k)) ∧ wdA need ps most (-1) (l.take k) = true ∧ Below w1.heap.size w1 wr) (fun _ iv _ => l.length - (intOf iv).toNat)
  case atStart => exact ⟨0, rfl, Nat.zero_le _, rfl, rfl, Below.refl _ _⟩
  case round =>
    obtain ⟨k, rfl, hk, rfl, hwa, hbw⟩ := hrel
    have hbX := HB1.out.trans (hbw.mono HB1.out.size)
    have hx := (hbw.block _ (lt_of_block HX1.out)).trans HX1.out
    have c0 := cell_of_row _ _ 0 _ _ _ hx
    have c1 := cell_of_row _ _ 1 _ _ _ hx
    simp only [List.getElem?_toArray, List.getElem?_cons_zero, List.getElem?_cons_succ] at c0 c1
    have l0 := lt_of_block hx
    have happ := wdB_app need ps most (l.take (k + 1)) (l.drop (k + 1)) (-1)
    rw [List.take_append_drop] at happ
    by_cases hlt : k < l.length
    · obtain ⟨bl, ol, rfl, hbl, l1⟩ := (HL.out.later hbX (Nat.le_refl _)).at_ hlt
      have hsn := List.take_succ_eq_append_getElem hlt
      have hA := wdA_snoc need ps most l[k] (l.take k) (-1)
      have hL := lstI_snoc l[k] (l.take k) (-1)
      rw [← hsn] at hA hL
      rw [hwa, Bool.true_and] at hA
      obtain ⟨la, hla⟩ : ∃ la, la = lstI (-1) (l.take k) := ⟨_, rfl⟩
      rw [← hla] at hA ⊢
      have hb2 := HPLR.out l[k]
      have hb3 := HPLR.out la
      have x1 : (0 : Int) ≤ (k : Int) := by omega
      have x2 : (k : Int) < (l.length : Int) := by omega
      generalize l[k] = x at *
      obtain ⟨vx, hvx⟩ : ∃ vx, vx = plV need ps x := ⟨_, rfl⟩
      obtain ⟨vl, hvl⟩ : ∃ vl, vl = plV need ps la := ⟨_, rfl⟩
      rw [← hvx] at hb2 hA
      rw [← hvl] at hb3 hA
      obtain ⟨df, hdf⟩ : ∃ df, df = vx - vl := ⟨_, rfl⟩
      rw [← hdf] at hA
      have hwr : IntKind.i64.wrap (vx - vl) = df := (IntWalk.i64_in _ (by omega)).trans hdf.symm
      have hbad : wdA need ps most (-1) (l.take (k + 1)) = false → R = false := fun h => by
        rw [HR.out, happ, h, Bool.false_and]
      by_cases h1 : x ≤ la
      · have d1 : decide (x ≤ la) = true := decide_eq_true h1
        have hres := hbad (by rw [hA, decide_eq_false (by omega), Bool.false_and, Bool.false_and])
        clear hbad
        have HWA := Lib.hid hwa; have HBW := Lib.hid hbw; have HBX := Lib.hid hbX; have HX := Lib.hid hx; have HAPP := Lib.hid happ; have HSN := Lib.hid hsn; have HA := Lib.hid hA; have HL := Lib.hid hL; have HLA := Lib.hid hla; have HB2 := Lib.hid hb2; have HB3 := Lib.hid hb3; have HVX := Lib.hid hvx; have HVL := Lib.hid hvl; have HDF := Lib.hid hdf; have HRES := Lib.hid hres; have H1 := Lib.hid h1; clear hwa hbw hbX hx happ hsn hA hL hla hb2 hb3 hvx hvl hdf hres h1
        go_upto_region 5 with fail
        have hbelc : ∀ (u : Bel wr.heap.size wr) b o, b < wr.heap.size → u.wd.cell? ⟨b, o, none⟩ = wr.cell? ⟨b, o, none⟩ := fun u b o h => u.h.cell (p := ⟨b, o, none⟩) h
        have hbeln : Nonempty (Bel wr.heap.size wr) := ⟨⟨wr, Below.refl _ _⟩⟩
        refine wp_region_bel wr.heap.size (by kernel_rfl) (by kernel_rfl) ?_
        repeat (go_big_quiet_step ((fail)))
        refine wpQuiet_nil ?_
        intro wB hB0; obtain ⟨uB, hu⟩ := hB0; have hbB0 := uB.h; rw [← hu] at hbB0; clear hu uB hbelc hbeln
        obtain ⟨hbB, hcB, hsB⟩ := bcell2 hbB0; clear hbB0
        have hbY := HBX.out.trans (hbB.mono HBX.out.size)
        clear hbB hcB hsB c0 c1 l0 l1
        have HBY := Lib.hid hbY; clear hbY
        go_wp2
        go_ret
        exact ⟨by rw [HRES.out]; rfl, HBY.out⟩
      have d1 : decide (x ≤ la) = false := decide_eq_false h1
      by_cases h2 : (ps.length : Int) ≤ x
      · have d2 : decide ((ps.length : Int) ≤ x) = true := decide_eq_true h2
        have hres := hbad (by rw [hA, decide_eq_false (show ¬ x < (ps.length : Int) by omega), Bool.and_false, Bool.false_and])
        clear hbad
        have HWA := Lib.hid hwa; have HBW := Lib.hid hbw; have HBX := Lib.hid hbX; have HX := Lib.hid hx; have HAPP := Lib.hid happ; have HSN := Lib.hid hsn; have HA := Lib.hid hA; have HL := Lib.hid hL; have HLA := Lib.hid hla; have HB2 := Lib.hid hb2; have HB3 := Lib.hid hb3; have HVX := Lib.hid hvx; have HVL := Lib.hid hvl; have HDF := Lib.hid hdf; have HRES := Lib.hid hres; have H1 := Lib.hid h1; have H2 := Lib.hid h2; clear hwa hbw hbX hx happ hsn hA hL hla hb2 hb3 hvx hvl hdf hres h1 h2
        go_upto_region 5 with fail
        have hbelc : ∀ (u : Bel wr.heap.size wr) b o, b < wr.heap.size → u.wd.cell? ⟨b, o, none⟩ = wr.cell? ⟨b, o, none⟩ := fun u b o h => u.h.cell (p := ⟨b, o, none⟩) h
        have hbeln : Nonempty (Bel wr.heap.size wr) := ⟨⟨wr, Below.refl _ _⟩⟩
        refine wp_region_bel wr.heap.size (by kernel_rfl) (by kernel_rfl) ?_
        repeat (go_big_quiet_step ((fail)))
        refine wpQuiet_nil ?_
        intro wB hB0; obtain ⟨uB, hu⟩ := hB0; have hbB0 := uB.h; rw [← hu] at hbB0; clear hu uB hbelc hbeln
        obtain ⟨hbB, hcB, hsB⟩ := bcell2 hbB0; clear hbB0
        have hbY := HBX.out.trans (hbB.mono HBX.out.size)
        clear hbB hcB hsB c0 c1 l0 l1
        have HBY := Lib.hid hbY; clear hbY
        go_wp2
        go_ret
        exact ⟨by rw [HRES.out]; rfl, HBY.out⟩
      have d2 : decide ((ps.length : Int) ≤ x) = false := decide_eq_false h2
      rw [decide_eq_true (show la < x by omega), decide_eq_true (show x < (ps.length : Int) by omega), Bool.true_and, Bool.true_and] at hA
      by_cases h3 : most < df
      · have d3 : decide (most < df) = true := decide_eq_true h3
        have hres := hbad (by rw [hA, decide_eq_false (by omega)])
        clear hbad
        have HWA := Lib.hid hwa; have HBW := Lib.hid hbw; have HBX := Lib.hid hbX; have HX := Lib.hid hx; have HAPP := Lib.hid happ; have HSN := Lib.hid hsn; have HA := Lib.hid hA; have HL := Lib.hid hL; have HLA := Lib.hid hla; have HB2 := Lib.hid hb2; have HB3 := Lib.hid hb3; have HVX := Lib.hid hvx; have HVL := Lib.hid hvl; have HDF := Lib.hid hdf; have HRES := Lib.hid hres; have H1 := Lib.hid h1; have H2 := Lib.hid h2; have H3 := Lib.hid h3; clear hwa hbw hbX hx happ hsn hA hL hla hb2 hb3 hvx hvl hdf hres h1 h2 h3
        go_upto_region 5 with fail
        have hbelc : ∀ (u : Bel wr.heap.size wr) b o, b < wr.heap.size → u.wd.cell? ⟨b, o, none⟩ = wr.cell? ⟨b, o, none⟩ := fun u b o h => u.h.cell (p := ⟨b, o, none⟩) h
        have hbeln : Nonempty (Bel wr.heap.size wr) := ⟨⟨wr, Below.refl _ _⟩⟩
        refine wp_region_bel wr.heap.size (by kernel_rfl) (by kernel_rfl) ?_
        repeat (go_big_quiet_step ((go_at_call 53; exact quiet_bel (Nat.le_refl _) (HPLACE.out _ _ _ (by first | exact HVX.out | exact HVL.out) (HBX.out.trans ((Bel.h _).mono HBX.out.size))))))
        refine wpQuiet_nil ?_
        intro wB hB0; obtain ⟨uB, hu⟩ := hB0; have hbB0 := uB.h; rw [← hu] at hbB0; clear hu uB hbelc hbeln
        obtain ⟨hbB, hcB, hsB⟩ := bcell2 hbB0; clear hbB0
        have hbY := HBX.out.trans (hbB.mono HBX.out.size)
        clear hbB hcB hsB c0 c1 l0 l1
        have HBY := Lib.hid hbY; clear hbY
        go_wp2
        go_ret
        exact ⟨by rw [HRES.out]; rfl, HBY.out⟩
      · have d3 : decide (most < df) = false := decide_eq_false h3
        have hA2 : wdA need ps most (-1) (l.take (k + 1)) = true := by rw [hA, decide_eq_true (by omega)]
        clear hbad
        have HWA := Lib.hid hwa; have HBW := Lib.hid hbw; have HBX := Lib.hid hbX; have HX := Lib.hid hx; have HAPP := Lib.hid happ; have HSN := Lib.hid hsn; have HA := Lib.hid hA; have HL := Lib.hid hL; have HLA := Lib.hid hla; have HB2 := Lib.hid hb2; have HB3 := Lib.hid hb3; have HVX := Lib.hid hvx; have HVL := Lib.hid hvl; have HDF := Lib.hid hdf; have H1 := Lib.hid h1; have H2 := Lib.hid h2; have H3 := Lib.hid h3; have HA2 := Lib.hid hA2; clear hwa hbw hbX hx happ hsn hA hL hla hb2 hb3 hvx hvl hdf h1 h2 h3 hA2
        go_upto_region 5 with fail
        have hbelc : ∀ (u : Bel wr.heap.size wr) b o, b < wr.heap.size → u.wd.cell? ⟨b, o, none⟩ = wr.cell? ⟨b, o, none⟩ := fun u b o h => u.h.cell (p := ⟨b, o, none⟩) h
        have hbeln : Nonempty (Bel wr.heap.size wr) := ⟨⟨wr, Below.refl _ _⟩⟩
        refine wp_region_bel wr.heap.size (by kernel_rfl) (by kernel_rfl) ?_
        repeat (go_big_quiet_step ((go_at_call 53; exact quiet_bel (Nat.le_refl _) (HPLACE.out _ _ _ (by first | exact HVX.out | exact HVL.out) (HBX.out.trans ((Bel.h _).mono HBX.out.size))))))
        refine wpQuiet_nil ?_
        intro wB hB0; obtain ⟨uB, hu⟩ := hB0; have hbB0 := uB.h; rw [← hu] at hbB0; clear hu uB hbelc hbeln
        obtain ⟨hbB, hcB, hsB⟩ := bcell2 hbB0; clear hbB0
        have hbY := HBW.out.trans (hbB.mono HBW.out.size)
        have l1 := (hcB _ _ hbl).trans l1
        have hbl := Nat.lt_of_lt_of_le hbl hsB
        clear hbB hcB hsB c0 c1 l0
        have HBY := Lib.hid hbY; clear hbY
        go_wp2
        go_roundw
        case rel => exact ⟨k + 1, by go_num, by omega, by rw [HL.out], HA2.out, HBY.out⟩
        case measure => simp [intOf]; omega
    · have htl : l.take k = l := List.take_of_length_le (by omega)
      rw [htl] at hwa ⊢
      obtain ⟨la, hla⟩ : ∃ la, la = lstI (-1) l := ⟨_, rfl⟩
      rw [← hla]
      have hRe : R = decide (plV need ps (ps.length : Int) - plV need ps la ≤ most) := by
        have h := wdB_app need ps most l [] (-1)
        rw [List.append_nil, hwa, Bool.true_and, ← hla] at h
        rw [HR.out, h]
        rfl
      have hb2 := HPLR.out (ps.length : Int)
      have hb3 := HPLR.out la
      obtain ⟨vx, hvx⟩ : ∃ vx, vx = plV need ps (ps.length : Int) := ⟨_, rfl⟩
      obtain ⟨vl, hvl⟩ : ∃ vl, vl = plV need ps la := ⟨_, rfl⟩
      rw [← hvx] at hb2 hRe
      rw [← hvl] at hb3 hRe
      obtain ⟨df, hdf⟩ : ∃ df, df = vx - vl := ⟨_, rfl⟩
      rw [← hdf] at hRe
      have hwr2 : IntKind.i64.wrap (vx - vl) = df := (IntWalk.i64_in _ (by omega)).trans hdf.symm
      have x3 : ¬ (k : Int) < (l.length : Int) := by omega
      clear happ
      by_cases h3 : df ≤ most
      · have d3 : decide (df ≤ most) = true := decide_eq_true h3
        rw [d3] at hRe
        have HWA := Lib.hid hwa; have HBW := Lib.hid hbw; have HBX := Lib.hid hbX; have HX := Lib.hid hx; have HTL := Lib.hid htl; have HLA := Lib.hid hla; have HRE := Lib.hid hRe; have HB2 := Lib.hid hb2; have HB3 := Lib.hid hb3; have HVX := Lib.hid hvx; have HVL := Lib.hid hvl; have HDF := Lib.hid hdf; have H3 := Lib.hid h3; clear hwa hbw hbX hx htl hla hRe hb2 hb3 hvx hvl hdf h3
        go_upto_region 8 with fail
        have hbelc : ∀ (u : Bel wr.heap.size wr) b o, b < wr.heap.size → u.wd.cell? ⟨b, o, none⟩ = wr.cell? ⟨b, o, none⟩ := fun u b o h => u.h.cell (p := ⟨b, o, none⟩) h
        have hbeln : Nonempty (Bel wr.heap.size wr) := ⟨⟨wr, Below.refl _ _⟩⟩
        refine wp_region_bel wr.heap.size (by kernel_rfl) (by kernel_rfl) ?_
        repeat (go_big_quiet_step ((go_at_call 53; exact quiet_bel (Nat.le_refl _) (HPLACE.out _ _ _ (by first | exact HVX.out | exact HVL.out) (HBX.out.trans ((Bel.h _).mono HBX.out.size))))))
        refine wpQuiet_nil ?_
        intro wB hB0; obtain ⟨uB, hu⟩ := hB0; have hbB0 := uB.h; rw [← hu] at hbB0; clear hu uB hbelc hbeln
        obtain ⟨hbB, hcB, hsB⟩ := bcell2 hbB0; clear hbB0
        have hbY := HBX.out.trans (hbB.mono HBX.out.size)
        clear hbB hcB hsB c0 c1 l0
        have HBY := Lib.hid hbY; clear hbY
        go_wp2
        go_ret
        exact ⟨by rw [HRE.out]; rfl, HBY.out⟩
      · have d3 : decide (df ≤ most) = false := decide_eq_false h3
        rw [d3] at hRe
        have HWA := Lib.hid hwa; have HBW := Lib.hid hbw; have HBX := Lib.hid hbX; have HX := Lib.hid hx; have HTL := Lib.hid htl; have HLA := Lib.hid hla; have HRE := Lib.hid hRe; have HB2 := Lib.hid hb2; have HB3 := Lib.hid hb3; have HVX := Lib.hid hvx; have HVL := Lib.hid hvl; have HDF := Lib.hid hdf; have H3 := Lib.hid h3; clear hwa hbw hbX hx htl hla hRe hb2 hb3 hvx hvl hdf h3
        go_upto_region 8 with fail
        have hbelc : ∀ (u : Bel wr.heap.size wr) b o, b < wr.heap.size → u.wd.cell? ⟨b, o, none⟩ = wr.cell? ⟨b, o, none⟩ := fun u b o h => u.h.cell (p := ⟨b, o, none⟩) h
        have hbeln : Nonempty (Bel wr.heap.size wr) := ⟨⟨wr, Below.refl _ _⟩⟩
        refine wp_region_bel wr.heap.size (by kernel_rfl) (by kernel_rfl) ?_
        repeat (go_big_quiet_step ((go_at_call 53; exact quiet_bel (Nat.le_refl _) (HPLACE.out _ _ _ (by first | exact HVX.out | exact HVL.out) (HBX.out.trans ((Bel.h _).mono HBX.out.size))))))
        refine wpQuiet_nil ?_
        intro wB hB0; obtain ⟨uB, hu⟩ := hB0; have hbB0 := uB.h; rw [← hu] at hbB0; clear hu uB hbelc hbeln
        obtain ⟨hbB, hcB, hsB⟩ := bcell2 hbB0; clear hbB0
        have hbY := HBX.out.trans (hbB.mono HBX.out.size)
        clear hbB hcB hsB c0 c1 l0
        have HBY := Lib.hid hbY; clear hbY
        go_wp2
        go_ret
        exact ⟨by rw [HRE.out]; rfl, HBY.out⟩
end Go.Proofs.Ytdimaapiloojeaa
