/- Texts of this claim, laid together: BoRfP, BoRFw. -/
import Derived.Test.YtdimaapiloojeaaMaM
/- The reference's fewest knots: pure. -/
namespace Go.Proofs.Ytdimaapiloojeaa
open Go.RowKit

/-- The fewest knots from a place on; -1: there is no winding. -/
def FwP (al : Nat → Int) (n : Nat) (most : Int) (v : Int) (j : Nat) : Prop := (v = -1 ∧ ∀ l, ¬ WdP al n most j l) ∨ (0 ≤ v ∧ (∃ l, WdP al n most j l ∧ (l.length : Int) = v) ∧ ∀ l, WdP al n most j l → v ≤ (l.length : Int))
/-- The least so far, over the places before k. -/
def MnF (al : Nat → Int) (_n : Nat) (most : Int) (f : Nat → Int) (j k : Nat) (v : Int) : Prop := (v = -1 ∧ ∀ m, j < m → m < k → al m - al j ≤ most → f m = -1) ∨ (0 ≤ v ∧ (∃ m, j < m ∧ m < k ∧ al m - al j ≤ most ∧ 0 ≤ f m ∧ v = f m + 1) ∧ ∀ m, j < m → m < k → al m - al j ≤ most → 0 ≤ f m → v ≤ f m + 1)
theorem MnF.start (al : Nat → Int) (n : Nat) (most : Int) (f : Nat → Int) (j : Nat) : MnF al n most f j (j + 1) (-1) := .inl ⟨rfl, fun m h1 h2 => absurd h1 (by omega)⟩
theorem MnF.skip {al : Nat → Int} {n : Nat} {most : Int} {f : Nat → Int} {j k : Nat} {v : Int} (h : MnF al n most f j k v) (hk : al k - al j ≤ most → f k = -1 ∨ (0 ≤ v ∧ v ≤ f k + 1)) (hf : -1 ≤ f k) : MnF al n most f j (k + 1) v := by
  rcases h with ⟨h1, h2⟩ | ⟨h1, ⟨m, m1, m2, m3, m4, m5⟩, h3⟩
  · refine .inl ⟨h1, fun m q1 q2 q3 => ?_⟩
    rcases Nat.lt_or_ge m k with h4 | h4
    · exact h2 m q1 h4 q3
    · obtain rfl : m = k := by omega
      rcases hk q3 with h5 | h5
      · exact h5
      · omega
  · refine .inr ⟨h1, ⟨m, m1, by omega, m3, m4, m5⟩, fun m q1 q2 q3 q4 => ?_⟩
    rcases Nat.lt_or_ge m k with h4 | h4
    · exact h3 m q1 h4 q3 q4
    · obtain rfl : m = k := by omega
      rcases hk q3 with h5 | h5
      · omega
      · exact h5.2
theorem MnF.take {al : Nat → Int} {n : Nat} {most : Int} {f : Nat → Int} {j k : Nat} {v : Int} (h : MnF al n most f j k v) (hj : j < k) (hr : al k - al j ≤ most) (hf : 0 ≤ f k) (hv : v < 0 ∨ f k + 1 < v) : MnF al n most f j (k + 1) (f k + 1) := by
  refine .inr ⟨by omega, ⟨k, hj, by omega, hr, hf, rfl⟩, fun m q1 q2 q3 q4 => ?_⟩
  rcases Nat.lt_or_ge m k with h4 | h4
  · rcases h with ⟨_, h2⟩ | ⟨h1, _, h3⟩
    · have := h2 m q1 h4 q3; omega
    · have := h3 m q1 h4 q3 q4
      omega
  · obtain rfl : m = k := by omega
    exact Int.le_refl _
theorem FwP.of_min {al : Nat → Int} {n : Nat} {most : Int} {f : Nat → Int} {j : Nat} {v : Int} (hf : ∀ m, j < m → m + 1 < n → FwP al n most (f m) m) (hend : ¬ al (n - 1) - al j ≤ most) (h : MnF al n most f j (n - 1) v) : FwP al n most v j := by
  rcases h with ⟨h1, h2⟩ | ⟨h1, ⟨m, m1, m2, m3, m4, m5⟩, h3⟩
  · refine .inl ⟨h1, fun l hw => ?_⟩
    cases l with
    | nil => exact hend hw
    | cons q l =>
      obtain ⟨w1, w2, w3, w4⟩ := hw
      have h4 := h2 q w1 (by omega) w3
      rcases hf q w1 w2 with ⟨_, h5⟩ | ⟨h5, _⟩
      · exact h5 l w4
      · omega
  · refine .inr ⟨h1, ?_, fun l hw => ?_⟩
    · rcases hf m m1 (by omega) with ⟨h5, _⟩ | ⟨_, ⟨l, l1, l2⟩, _⟩
      · omega
      · exact ⟨m :: l, ⟨m1, by omega, m3, l1⟩, by simp only [List.length_cons]; omega⟩
    · cases l with
      | nil => exact absurd hw hend
      | cons q l =>
        obtain ⟨w1, w2, w3, w4⟩ := hw
        rcases hf q w1 w2 with ⟨_, h5⟩ | ⟨h5, _, h6⟩
        · exact absurd w4 (h5 l)
        · have := h3 q w1 (by omega) w3 h5
          have := h6 l w4
          simp only [List.length_cons]
          omega
theorem FwP.zero {al : Nat → Int} {n : Nat} {most : Int} {j : Nat} (hend : al (n - 1) - al j ≤ most) : FwP al n most 0 j := .inr ⟨Int.le_refl _, ⟨[], hend, rfl⟩, fun _ _ => Int.natCast_nonneg _⟩
theorem FwP.rng {al : Nat → Int} {n : Nat} {most : Int} {j : Nat} {v : Int} (h : FwP al n most v j) (hj : j < n) : -1 ≤ v ∧ v < (n : Int) := by
  rcases h with ⟨h1, _⟩ | ⟨h1, ⟨l, l1, l2⟩, _⟩
  · omega
  · have := wdP_len l j hj l1
    omega
/-- The first place from which one knot less is needed. -/
def NxtF (al : Nat → Int) (n : Nat) (most : Int) (f : Nat → Int) (i q : Nat) : Prop := i < q ∧ q + 1 < n ∧ al q - al i ≤ most ∧ f q = f i - 1 ∧ ∀ k, i < k → k < q → ¬ (al k - al i ≤ most ∧ f k = f i - 1)
inductive ChF (al : Nat → Int) (n : Nat) (most : Int) (f : Nat → Int) : Nat → List Nat → Prop
  | nil {i : Nat} : f i = 0 → ChF al n most f i []
  | cons {i q : Nat} {l : List Nat} : 0 < f i → NxtF al n most f i q → ChF al n most f q l → ChF al n most f i (q :: l)
section
variable {al : Nat → Int} {n : Nat} {most : Int} {f : Nat → Int}
theorem fw_step (hf : ∀ m, m + 1 < n → FwP al n most (f m) m) {i : Nat} (hi : i + 1 < n) (h0 : 0 < f i) : ∃ q, i < q ∧ q + 1 < n ∧ al q - al i ≤ most ∧ f q = f i - 1 := by
  rcases hf i hi with ⟨h1, _⟩ | ⟨_, ⟨l, l1, l2⟩, h3⟩
  · omega
  · cases l with
    | nil => simp at l2; omega
    | cons q l =>
      obtain ⟨w1, w2, w3, w4⟩ := l1
      simp only [List.length_cons] at l2
      refine ⟨q, w1, w2, w3, ?_⟩
      rcases hf q w2 with ⟨_, h5⟩ | ⟨h5, ⟨m, m1, m2⟩, h6⟩
      · exact absurd w4 (h5 l)
      · have h7 := h6 l w4
        have h8 := h3 (q :: m) ⟨w1, w2, w3, m1⟩
        simp only [List.length_cons] at h8
        omega
theorem ChF.best (hf : ∀ m, m + 1 < n → FwP al n most (f m) m) {i : Nat} {l : List Nat} (hc : ChF al n most f i l) (hi : i + 1 < n) :
    WdP al n most i l ∧ (l.length : Int) = f i ∧ ∀ m, WdP al n most i m → m.length = l.length → lexLe l m := by
  induction hc with
  | @nil i h0 =>
    rcases hf i hi with ⟨h1, _⟩ | ⟨_, ⟨l, l1, l2⟩, _⟩
    · omega
    · have : l = [] := List.eq_nil_of_length_eq_zero (by omega)
      subst this
      exact ⟨l1, by simp [h0], fun m _ _ => trivial⟩
  | @cons i q l h0 hn hc ih =>
    obtain ⟨n1, n2, n3, n4, n5⟩ := hn
    obtain ⟨k1, k2, k3⟩ := ih n2
    refine ⟨⟨n1, n2, n3, k1⟩, by simp only [List.length_cons]; omega, fun m hw hl => ?_⟩
    cases m with
    | nil => simp at hl
    | cons q' m =>
      obtain ⟨w1, w2, w3, w4⟩ := hw
      simp only [List.length_cons, Nat.add_right_cancel_iff] at hl
      have h9 : f q' = f i - 1 := by
        rcases hf q' w2 with ⟨_, h5⟩ | ⟨h5, ⟨m', m1, m2⟩, h6⟩
        · exact absurd w4 (h5 m)
        · have h7 := h6 m w4
          rcases hf i hi with ⟨h1, _⟩ | ⟨_, _, h3⟩
          · omega
          · have h8 := h3 (q' :: m') ⟨w1, w2, w3, m1⟩
            simp only [List.length_cons] at h8
            omega
      unfold lexLe
      rcases Nat.lt_trichotomy q q' with h | h | h
      · exact .inl h
      · exact .inr ⟨h, k3 m (by rw [h]; exact w4) hl⟩
      · exact absurd ⟨w3, h9⟩ (n5 q' w1 h)
theorem ChF.bestW (hf : ∀ m, m + 1 < n → FwP al n most (f m) m) {l : List Nat} (hc : ChF al n most f 0 l) (hn : 1 < n) : BestW al n most l := by
  obtain ⟨k1, k2, k3⟩ := hc.best hf (by omega)
  refine ⟨k1, fun m hw => ⟨?_, fun e => k3 m hw e⟩⟩
  rcases hf 0 (by omega) with ⟨_, h1⟩ | ⟨_, _, h1⟩
  · exact absurd hw (h1 m)
  · have := h1 m hw; omega
end
end Go.Proofs.Ytdimaapiloojeaa
/- The reference's fewest knots behind each place. -/
namespace Go.Proofs.Ytdimaapiloojeaa
open Go.RowKit

/-- All numbers are right from here on. -/
def FwA (need : Int) (ps : List Int) (most : Int) (f : Nat → Int) (i : Nat) : Prop := ∀ m, i ≤ m → m < ps.length + 1 → FwP (alF need ps) (ps.length + 2) most (f m) m
def FwPost (need : Int) (ps : List Int) (most : Int) (w : World) (e : Ending) (w' : World) : Prop := ∃ (F : Nat) (f : Nat → Int), e = .returned (.slice (some ⟨F, 0, none⟩) (ps.length + 1) (ps.length + 1)) ∧ BI w' F 3 (ps.length + 1) f ∧ FwA need ps most f 0 ∧ w.heap.size ≤ F ∧ Below w.heap.size w w'
set_option maxRecDepth 100000 in
set_option maxHeartbeats 8000000 in
theorem rfewest20_ (need most : Int) (A : Option Addr) (c : Nat) (ps : List Int) (w : World) (hr : RdI w A ps) (hps : ps.length ≤ 200) (hasc : AscP need ps) (hn : need ≤ 1000000000000) (hm : 0 ≤ most ∧ most ≤ 1000000000000) :
    Calls Try.prog 77 #[.agg #[.int .i64 need, .slice A ps.length c], .int .i64 most] w (FwPost need ps most w) := by
  obtain ⟨w1, hw1⟩ : ∃ w1, w1 = w.alloc (.cells #[.int .i64 need, .slice A ps.length c] 43) := ⟨_, rfl⟩
  have hb1 : Below w.heap.size w w1 := by rw [hw1]; exact (Below.refl _ _).alloc (Nat.le_refl _) _
  have hx1 : w1.heap[w.heap.size]? = some (.cells #[.int .i64 need, .slice A ps.length c] 43 (0, 0)) := by rw [hw1]; exact heap_alloc_new _ _
  have hplace := fun (i v : Int) (W : World) (hv : v = plV need ps i) (hW : Below w.heap.size w W) => (show Calls Try.prog 53 #[.agg #[.int .i64 need, .slice A ps.length c], .int .i64 i] W (IntPost v W) by rw [hv]; exact rplace20_ need i A c ps W (hr.later hW (Nat.le_refl _)))
  have c0 := cell_of_row _ _ 0 _ _ _ hx1
  have c1 := cell_of_row _ _ 1 _ _ _ hx1
  simp only [List.getElem?_toArray, List.getElem?_cons_zero, List.getElem?_cons_succ] at c0 c1
  have l1 := lt_of_block hx1
  obtain ⟨n, hne⟩ : ∃ n, n = ps.length := ⟨_, rfl⟩
  obtain ⟨n1, hn1⟩ : ∃ n1, n1 = n + 1 := ⟨_, rfl⟩
  have hw9 : IntKind.i64.wrap ((ps.length : Int) + 1) = (n1 : Int) := by rw [IntWalk.i64_in _ (by omega)]; omega
  have hw8 : IntKind.i64.wrap ((ps.length : Int) - 1) = (n : Int) - 1 := by rw [IntWalk.i64_in _ (by omega)]; omega
  have hmk := run_make_row' (P := Try.prog) 23 3 (.int .i64 0) 8 Try.underlying23 info_int_Try rfl .i64 .i64 n1 (by omega) (by omega)
  have hal := fun j (hj : j < ps.length + 2) => alF_rng hasc hn j hj
  have hF : BI (w1.alloc (.cells (madeCells #[.int .i64 0] n1) 3)) w1.heap.size 3 n1 (fun _ => 0) := bI_zero w1 n1 3
  have hb2 := hb1.trans (((Below.refl w1.heap.size w1).alloc (Nat.le_refl _) (.cells (madeCells #[.int .i64 0] n1) 3)).mono hb1.size)
  have hx2 := (((Below.refl w1.heap.size w1).alloc (Nat.le_refl _) (.cells (madeCells #[.int .i64 0] n1) 3)).block _ l1).trans hx1
  have hsz1 := hb1.size
  have hn200 : n ≤ 200 := by omega
  have hn201 : n1 ≤ 201 := by omega
  have HR := Lib.hid hr; have HASC := Lib.hid hasc; have HN := Lib.hid hn; have HM := Lib.hid hm; have HW1 := Lib.hid hw1; have HB1 := Lib.hid hb1; have HX1 := Lib.hid hx1; have HPLACE := Lib.hid hplace; have HNE := Lib.hid hne; have HN1 := Lib.hid hn1; have HAL := Lib.hid hal; have HF := Lib.hid hF; have HB2 := Lib.hid hb2; have HX2 := Lib.hid hx2; have HPS := Lib.hid hps; clear hr hasc hn hm hw1 hb1 hx1 hplace hne hn1 hal hF hb2 hx2 hps
  go_enter Try.func77, Try.ntmps77
  go_upto_region 1 with fail
  rw [← HW1.out]
  go_wp2
  clear hmk hw9 hw8 c0 c1
  obtain ⟨F, hFe⟩ : ∃ F, F = w1.heap.size := ⟨_, rfl⟩
  have HF2 := HF.out
  have HX2 := HX2.out
  rw [← hFe] at HF2 ⊢
  have HF3 := Lib.hid HF2
  have HX3 := Lib.hid HX2
  clear HF2 HF HX2
  have hXF : w.heap.size < F := by omega
  have HFE := Lib.hid hFe
  clear hFe l1 hsz1
  go_loopw [7, 8] (fun iv _ wr => ∃ (j : Nat) (f : Nat → Int) (z : Int), iv = .int .i64 z ∧ z = (j : Int) - 2 ∧ j ≤ n1 ∧ FwA need ps most f j ∧ BI wr F 3 n1 f ∧ wr.heap[w.heap.size]? = some (.cells #[.int .i64 need, .slice A ps.length c] 43 (0, 0)) ∧ Below w.heap.size w wr) (fun iv _ _ => (intOf iv + 2).toNat)
  case atStart => exact ⟨n + 1, _, _, rfl, by omega, by have := HN1.out; omega, fun m h1 h2 => absurd h1 (by have := HNE.out; omega), HF3.out, HX3.out, HB2.out⟩
  case round =>
    clear HF3 HX3 HB2
    obtain ⟨j, f, z, rfl, hz, hjn, hfa, hF, hx, hbw⟩ := hrel
    have c0 := cell_of_row _ _ 0 _ _ _ hx
    have c1 := cell_of_row _ _ 1 _ _ _ hx
    simp only [List.getElem?_toArray, List.getElem?_cons_zero, List.getElem?_cons_succ] at c0 c1
    have lx := lt_of_block hx
    have lF := hF.lt
    cases j with
    | zero =>
      have d0 : decide ((-1 : Int) ≤ z) = false := decide_eq_false (by omega)
      have hpost : FwPost need ps most w (.returned (.slice (some ⟨F, 0, none⟩) n1 n1)) wr := ⟨F, f, by rw [HN1.out, HNE.out], by rw [← HNE.out, ← HN1.out]; exact hF, hfa, by omega, hbw⟩
      have HZ := Lib.hid hz; have HFA := Lib.hid hfa; have HF := Lib.hid hF; have HX := Lib.hid hx; have HBW := Lib.hid hbw; have HPOST := Lib.hid hpost; clear hz hfa hF hx hbw hpost
      go_wp2
      go_ret
      exact HPOST.out
    | succ k =>
      have d0 : decide ((-1 : Int) ≤ z) = true := decide_eq_true (by omega)
      have hwz : IntKind.i64.wrap (z + 1) = (k : Int) := by rw [IntWalk.i64_in _ (by omega)]; omega
      have hwd : IntKind.i64.wrap (z - 1) = ((k : Int) - 2) := by rw [IntWalk.i64_in _ (by omega)]; omega
      have hk1 : k < n1 := by omega
      have hkn : k < ps.length + 2 := by have := HN1.out; have := HNE.out; omega
      have x1 : (0 : Int) ≤ (k : Int) := by omega
      have x2 : (k : Int) < (n1 : Int) := by omega
      have ck := hF.at_ hk1
      have fk := hF.free k
      obtain ⟨w3, hw3⟩ : ∃ w3, w3 = wr.setCell ⟨F, k, none⟩ (.int .i64 (-1)) := ⟨_, rfl⟩
      have hF3 : BI w3 F 3 n1 (upD f k (-1)) := by rw [hw3]; exact hF.put k (-1)
      have hx3 : w3.heap[w.heap.size]? = some (.cells #[.int .i64 need, .slice A ps.length c] 43 (0, 0)) := by rw [hw3]; exact (heap_setCell_other wr ⟨F, k, none⟩ _ _ (by show w.heap.size ≠ F; omega)).trans hx
      have hb3 : Below w.heap.size w w3 := by rw [hw3]; exact hbw.setCell (p := ⟨F, k, none⟩) (by show w.heap.size ≤ F; omega) _
      have hakr := HAL.out k hkn
      have hplk : plV need ps z = alF need ps k := by rw [← plV_al hkn]; congr 1; omega
      have hend9 := alF_end need ps
      obtain ⟨vk, hvke⟩ : ∃ vk, vk = alF need ps k := ⟨_, rfl⟩
      have hvx : vk = plV need ps z := by rw [hplk, hvke]
      rw [← hvke] at hakr
      have hneed0 : 0 ≤ need := by have := HASC.out.2.2; omega
      have hneed1 := HN.out
      obtain ⟨df, hdf⟩ : ∃ df, df = need - vk := ⟨_, rfl⟩
      have hwf : IntKind.i64.wrap (need - vk) = df := (IntWalk.i64_in _ (by omega)).trans hdf.symm
      clear c0 c1 lx hneed1
      have c0 := cell_of_row _ _ 0 _ _ _ hx3
      have c1 := cell_of_row _ _ 1 _ _ _ hx3
      simp only [List.getElem?_toArray, List.getElem?_cons_zero, List.getElem?_cons_succ] at c0 c1
      have lx := lt_of_block hx3
      have HZ := Lib.hid hz; have HFA := Lib.hid hfa; have HF := Lib.hid hF; have HX := Lib.hid hx; have HBW := Lib.hid hbw; have HW3 := Lib.hid hw3; have HF3 := Lib.hid hF3; have HX3 := Lib.hid hx3; have HB3 := Lib.hid hb3; have HAKR := Lib.hid hakr; have HPLK := Lib.hid hplk; have HEND9 := Lib.hid hend9; have HVKE := Lib.hid hvke; have HVX := Lib.hid hvx; have HNEED0 := Lib.hid hneed0; have HDF := Lib.hid hdf; clear hz hfa hF hx hbw hw3 hF3 hx3 hb3 hakr hplk hend9 hvke hvx hneed0 hdf
      go_upto_region 7 with fail
      rw [← HW3.out]
      by_cases hd : df ≤ most
      · have d1 : decide (df ≤ most) = true := decide_eq_true hd
        have hz0 : FwA need ps most (upD (upD f k (-1)) k 0) k := fun m h1 h2 => by
          by_cases e : m = k
          · rw [e, upD_same]
            refine FwP.zero ?_
            rw [show ps.length + 2 - 1 = ps.length + 1 by omega, HEND9.out, ← HVKE.out]
            have := HDF.out
            omega
          · rw [upD_other _ _ e, upD_other _ _ e]; exact HFA.out m (by omega) h2
        have HD := Lib.hid hd; have HZ0 := Lib.hid hz0; clear hd hz0
        have hbelc : ∀ (u : Bel w3.heap.size w3) b o, b < w3.heap.size → u.wd.cell? ⟨b, o, none⟩ = w3.cell? ⟨b, o, none⟩ := fun u b o h => u.h.cell (p := ⟨b, o, none⟩) h
        have hbeln : Nonempty (Bel w3.heap.size w3) := ⟨⟨w3, Below.refl _ _⟩⟩
        refine wp_region_bel w3.heap.size (by kernel_rfl) (by kernel_rfl) ?_
        repeat (go_big_quiet_step ((go_at_call 53; exact quiet_bel (Nat.le_refl _) (HPLACE.out _ _ _ (by first | exact HVX.out | exact HVL.out) (HB3.out.trans ((Bel.h _).mono HB3.out.size))))))
        refine wpQuiet_nil ?_
        intro wB hB0; obtain ⟨uB, hu⟩ := hB0; have hbB0 := uB.h; rw [← hu] at hbB0; clear hu uB hbelc hbeln
        obtain ⟨hbB, hcB, hsB⟩ := bcell2 hbB0; clear hbB0
        have hF4 := BI.later HF3.out hbB
        have hx4 := (hbB.block _ lx).trans HX3.out
        have hb4 := HB3.out.trans (hbB.mono HB3.out.size)
        have fk4 := hF4.free k
        have ck4 := hF4.at_ hk1
        have lF4 := hF4.lt
        have hF5 := hF4.put k 0
        have hx5 : (wB.setCell ⟨F, k, none⟩ (.int .i64 0)).heap[w.heap.size]? = some (.cells #[.int .i64 need, .slice A ps.length c] 43 (0, 0)) := (heap_setCell_other wB ⟨F, k, none⟩ _ _ (by show w.heap.size ≠ F; omega)).trans hx4
        have hb5 : Below w.heap.size w (wB.setCell ⟨F, k, none⟩ (.int .i64 0)) := hb4.setCell (p := ⟨F, k, none⟩) (by show w.heap.size ≤ F; omega) _
        clear hbB hcB hsB c0 c1 lx hwf
        have HF4 := Lib.hid hF4; have HX4 := Lib.hid hx4; have HB4 := Lib.hid hb4; have HF5 := Lib.hid hF5; have HX5 := Lib.hid hx5; have HB5 := Lib.hid hb5; clear hF4 hx4 hb4 hF5 hx5 hb5
        go_wp2
        go_roundw
        case rel => exact ⟨k, _, _, rfl, by omega, by omega, HZ0.out, HF5.out, HX5.out, HB5.out⟩
        case measure => have := HZ.out; simp [intOf]; omega
      · have d1 : decide (df ≤ most) = false := decide_eq_false hd
        have hnend : ¬ alF need ps (ps.length + 2 - 1) - alF need ps k ≤ most := by
          rw [show ps.length + 2 - 1 = ps.length + 1 by omega, HEND9.out, ← HVKE.out]
          have := HDF.out
          omega
        have HD := Lib.hid hd; have HNEND := Lib.hid hnend; clear hd hnend
        have hbelc : ∀ (u : Bel w3.heap.size w3) b o, b < w3.heap.size → u.wd.cell? ⟨b, o, none⟩ = w3.cell? ⟨b, o, none⟩ := fun u b o h => u.h.cell (p := ⟨b, o, none⟩) h
        have hbeln : Nonempty (Bel w3.heap.size w3) := ⟨⟨w3, Below.refl _ _⟩⟩
        refine wp_region_bel w3.heap.size (by kernel_rfl) (by kernel_rfl) ?_
        repeat (go_big_quiet_step ((go_at_call 53; exact quiet_bel (Nat.le_refl _) (HPLACE.out _ _ _ (by first | exact HVX.out | exact HVL.out) (HB3.out.trans ((Bel.h _).mono HB3.out.size))))))
        refine wpQuiet_nil ?_
        intro wB hB0; obtain ⟨uB, hu⟩ := hB0; have hbB0 := uB.h; rw [← hu] at hbB0; clear hu uB hbelc hbeln
        obtain ⟨hbB, hcB, hsB⟩ := bcell2 hbB0; clear hbB0
        have hF4 := BI.later HF3.out hbB
        have hx4 := (hbB.block _ lx).trans HX3.out
        have hb4 := HB3.out.trans (hbB.mono HB3.out.size)
        clear hbB hcB hsB c0 c1 lx hwf
        have HF4 := Lib.hid hF4; have HX4 := Lib.hid hx4; have HB4 := Lib.hid hb4; clear hF4 hx4 hb4
        go_wp2
        go_loopw [8] (fun iv wr => ∃ (q : Nat) (v : Int), iv = .int .i64 (q : Int) ∧ k ≤ q ∧ q ≤ ps.length ∧ -1 ≤ v ∧ v ≤ 300 ∧ MnF (alF need ps) (ps.length + 2) most f k (q + 1) v ∧ BI wr F 3 n1 (upD f k v) ∧ wr.heap[w.heap.size]? = some (.cells #[.int .i64 need, .slice A ps.length c] 43 (0, 0)) ∧ Below w.heap.size w wr) (fun iv _ => ps.length - (intOf iv).toNat)
        case atStart => exact ⟨k, -1, rfl, Nat.le_refl _, by have := HN1.out; have := HNE.out; omega, by omega, by omega, MnF.start _ _ _ _ _, HF4.out, HX4.out, HB4.out⟩
        case round =>
          clear HF4 HX4 HB4
          obtain ⟨q, v, rfl, hkq, hqn, hv1, hv2, hmn, hFq, hxq, hbq⟩ := hrel
          have hps9 := HPS.out
          have c0 := cell_of_row _ _ 0 _ _ _ hxq
          have c1 := cell_of_row _ _ 1 _ _ _ hxq
          simp only [List.getElem?_toArray, List.getElem?_cons_zero, List.getElem?_cons_succ] at c0 c1
          have lx := lt_of_block hxq
          have lF := hFq.lt
          have ck := hFq.at_ hk1
          rw [upD_same] at ck
          have fk := hFq.free k
          by_cases hlt : q < ps.length
          · have d2 : decide (q < ps.length) = true := decide_eq_true hlt
            have d3 : decide ((q : Int) < (ps.length : Int)) = true := decide_eq_true (by omega)
            have hq1 : q + 1 < n1 := by have := HN1.out; have := HNE.out; omega
            have cq := hFq.at_ hq1
            rw [upD_other _ _ (show q + 1 ≠ k by omega)] at cq
            have hfr := (HFA.out (q + 1) (by omega) (by omega)).rng (by omega)
            have hpq : plV need ps (q : Int) = alF need ps (q + 1) := by rw [← plV_al (show q + 1 < ps.length + 2 by omega)]; congr 1; omega
            have haqr := HAL.out (q + 1) (by omega)
            have hmnq := hmn
            obtain ⟨vq, hvqe⟩ : ∃ vq, vq = alF need ps (q + 1) := ⟨_, rfl⟩
            have hvl : vq = plV need ps (q : Int) := by rw [hpq, hvqe]
            rw [← hvqe] at haqr
            have hakr := HAKR.out
            obtain ⟨dq, hdq⟩ : ∃ dq, dq = vq - vk := ⟨_, rfl⟩
            have hwq : IntKind.i64.wrap (vq - vk) = dq := (IntWalk.i64_in _ (by omega)).trans hdq.symm
            have hwq1 : IntKind.i64.wrap ((q : Int) + 1) = ((q + 1 : Nat) : Int) := by rw [IntWalk.i64_in _ (by omega)]; omega
            obtain ⟨q1, hq1e⟩ : ∃ q1, q1 = q + 1 := ⟨_, rfl⟩
            have hskip := fun h1 => hmn.skip (k := q + 1) h1 hfr.1
            have htake := fun h1 h2 h3 => hmn.take (k := q + 1) (by omega) h1 h2 h3
            rw [← hq1e] at cq hwq1 hfr hq1 hskip htake
            obtain ⟨fq, hfqe⟩ : ∃ fq, fq = f q1 := ⟨_, rfl⟩
            rw [← hfqe] at cq hfr hskip htake
            have hreach : alF need ps q1 - alF need ps k ≤ most ↔ dq ≤ most := by rw [hq1e, ← hvqe, ← HVKE.out, hdq]
            have hwf1 : IntKind.i64.wrap (fq + 1) = fq + 1 := IntWalk.i64_in _ (by omega)
            have x3 : (0 : Int) ≤ (q1 : Int) := by omega
            have x4 : (q1 : Int) < (n1 : Int) := by omega
            clear haqr hakr
            by_cases h1 : dq ≤ most
            rotate_left
            · have d4 : decide (dq ≤ most) = false := decide_eq_false h1
              have hnew := hskip (fun h => absurd (hreach.1 h) h1)
              clear hskip htake
              have HMN := Lib.hid hmn; have HMNQ := Lib.hid hmnq; have HFQ := Lib.hid hFq; have HXQ := Lib.hid hxq; have HBQ := Lib.hid hbq; have HPQ := Lib.hid hpq; have HVQE := Lib.hid hvqe; have HVL := Lib.hid hvl; have HDQ := Lib.hid hdq; have HQ1E := Lib.hid hq1e; have HFQE := Lib.hid hfqe; have HREACH := Lib.hid hreach; have HNEW := Lib.hid hnew; clear hmn hmnq hFq hxq hbq hpq hvqe hvl hdq hq1e hfqe hreach hnew
              go_upto_region 12 with fail
              have hbelc : ∀ (u : Bel wr.heap.size wr) b o, b < wr.heap.size → u.wd.cell? ⟨b, o, none⟩ = wr.cell? ⟨b, o, none⟩ := fun u b o h => u.h.cell (p := ⟨b, o, none⟩) h
              have hbeln : Nonempty (Bel wr.heap.size wr) := ⟨⟨wr, Below.refl _ _⟩⟩
              refine wp_region_bel wr.heap.size (by kernel_rfl) (by kernel_rfl) ?_
              repeat (go_big_quiet_step ((go_at_call 53; exact quiet_bel (Nat.le_refl _) (HPLACE.out _ _ _ (by first | exact HVX.out | exact HVL.out) (HBQ.out.trans ((Bel.h _).mono HBQ.out.size))))))
              refine wpQuiet_nil ?_
              intro wB hB0; obtain ⟨uB, hu⟩ := hB0; have hbB0 := uB.h; rw [← hu] at hbB0; clear hu uB hbelc hbeln
              obtain ⟨hbB, hcB, hsB⟩ := bcell2 hbB0; clear hbB0
              have hF6 := BI.later HFQ.out hbB
              have hx6 := (hbB.block _ lx).trans HXQ.out
              have hb6 := HBQ.out.trans (hbB.mono HBQ.out.size)
              clear hbB hcB hsB c0 c1 lx ck cq
              have HF6 := Lib.hid hF6; have HX6 := Lib.hid hx6; have HB6 := Lib.hid hb6; clear hF6 hx6 hb6
              go_wp2
              go_roundw
              case rel => exact ⟨q1, v, rfl, by have := HQ1E.out; omega, by have := HQ1E.out; omega, hv1, hv2, by have h := HNEW.out; rw [HQ1E.out] at h ⊢; exact h, HF6.out, HX6.out, HB6.out⟩
              case measure => have := HQ1E.out; simp [intOf]; omega
            have d4 : decide (dq ≤ most) = true := decide_eq_true h1
            by_cases h2 : 0 ≤ fq
            rotate_left
            · have d5 : decide (0 ≤ fq) = false := decide_eq_false h2
              have hnew := hskip (fun _ => .inl (by omega))
              clear hskip htake
              have HMN := Lib.hid hmn; have HMNQ := Lib.hid hmnq; have HFQ := Lib.hid hFq; have HXQ := Lib.hid hxq; have HBQ := Lib.hid hbq; have HPQ := Lib.hid hpq; have HVQE := Lib.hid hvqe; have HVL := Lib.hid hvl; have HDQ := Lib.hid hdq; have HQ1E := Lib.hid hq1e; have HFQE := Lib.hid hfqe; have HREACH := Lib.hid hreach; have HNEW := Lib.hid hnew; clear hmn hmnq hFq hxq hbq hpq hvqe hvl hdq hq1e hfqe hreach hnew
              go_upto_region 12 with fail
              have hbelc : ∀ (u : Bel wr.heap.size wr) b o, b < wr.heap.size → u.wd.cell? ⟨b, o, none⟩ = wr.cell? ⟨b, o, none⟩ := fun u b o h => u.h.cell (p := ⟨b, o, none⟩) h
              have hbeln : Nonempty (Bel wr.heap.size wr) := ⟨⟨wr, Below.refl _ _⟩⟩
              refine wp_region_bel wr.heap.size (by kernel_rfl) (by kernel_rfl) ?_
              repeat (go_big_quiet_step ((go_at_call 53; exact quiet_bel (Nat.le_refl _) (HPLACE.out _ _ _ (by first | exact HVX.out | exact HVL.out) (HBQ.out.trans ((Bel.h _).mono HBQ.out.size))))))
              refine wpQuiet_nil ?_
              intro wB hB0; obtain ⟨uB, hu⟩ := hB0; have hbB0 := uB.h; rw [← hu] at hbB0; clear hu uB hbelc hbeln
              obtain ⟨hbB, hcB, hsB⟩ := bcell2 hbB0; clear hbB0
              have hF6 := BI.later HFQ.out hbB
              have hx6 := (hbB.block _ lx).trans HXQ.out
              have hb6 := HBQ.out.trans (hbB.mono HBQ.out.size)
              clear hbB hcB hsB c0 c1 lx ck cq
              have HF6 := Lib.hid hF6; have HX6 := Lib.hid hx6; have HB6 := Lib.hid hb6; clear hF6 hx6 hb6
              go_wp2
              go_roundw
              case rel => exact ⟨q1, v, rfl, by have := HQ1E.out; omega, by have := HQ1E.out; omega, hv1, hv2, by have h := HNEW.out; rw [HQ1E.out] at h ⊢; exact h, HF6.out, HX6.out, HB6.out⟩
              case measure => have := HQ1E.out; simp [intOf]; omega
            have d5 : decide (0 ≤ fq) = true := decide_eq_true h2
            by_cases h3 : v < 0
            · have d6 : decide (v < 0) = true := decide_eq_true h3
              have hnew := htake (hreach.2 h1) h2 (.inl h3)
              clear hskip htake
              have HMN := Lib.hid hmn; have HMNQ := Lib.hid hmnq; have HFQ := Lib.hid hFq; have HXQ := Lib.hid hxq; have HBQ := Lib.hid hbq; have HPQ := Lib.hid hpq; have HVQE := Lib.hid hvqe; have HVL := Lib.hid hvl; have HDQ := Lib.hid hdq; have HQ1E := Lib.hid hq1e; have HFQE := Lib.hid hfqe; have HREACH := Lib.hid hreach; have HNEW := Lib.hid hnew; clear hmn hmnq hFq hxq hbq hpq hvqe hvl hdq hq1e hfqe hreach hnew
              go_upto_region 12 with fail
              have hbelc : ∀ (u : Bel wr.heap.size wr) b o, b < wr.heap.size → u.wd.cell? ⟨b, o, none⟩ = wr.cell? ⟨b, o, none⟩ := fun u b o h => u.h.cell (p := ⟨b, o, none⟩) h
              have hbeln : Nonempty (Bel wr.heap.size wr) := ⟨⟨wr, Below.refl _ _⟩⟩
              refine wp_region_bel wr.heap.size (by kernel_rfl) (by kernel_rfl) ?_
              repeat (go_big_quiet_step ((go_at_call 53; exact quiet_bel (Nat.le_refl _) (HPLACE.out _ _ _ (by first | exact HVX.out | exact HVL.out) (HBQ.out.trans ((Bel.h _).mono HBQ.out.size))))))
              refine wpQuiet_nil ?_
              intro wB hB0; obtain ⟨uB, hu⟩ := hB0; have hbB0 := uB.h; rw [← hu] at hbB0; clear hu uB hbelc hbeln
              obtain ⟨hbB, hcB, hsB⟩ := bcell2 hbB0; clear hbB0
              have hF6 := BI.later HFQ.out hbB
              have hx6 := (hbB.block _ lx).trans HXQ.out
              have hb6 := HBQ.out.trans (hbB.mono HBQ.out.size)
              have cq := (hcB _ _ lF).trans cq
              have ck := (hcB _ _ lF).trans ck
              have fk6 := hF6.free k
              have lF6 := hF6.lt
              have hF7 := (hF6.put k (fq + 1)).eqv (g' := upD f k (fq + 1)) (fun a _ => by
                by_cases e : a = k
                · rw [e, upD_same, upD_same]
                · rw [upD_other _ _ e, upD_other _ _ e, upD_other _ _ e])
              have hx7 : (wB.setCell ⟨F, k, none⟩ (.int .i64 (fq + 1))).heap[w.heap.size]? = some (.cells #[.int .i64 need, .slice A ps.length c] 43 (0, 0)) := (heap_setCell_other wB ⟨F, k, none⟩ _ _ (by show w.heap.size ≠ F; omega)).trans hx6
              have hb7 : Below w.heap.size w (wB.setCell ⟨F, k, none⟩ (.int .i64 (fq + 1))) := hb6.setCell (p := ⟨F, k, none⟩) (by show w.heap.size ≤ F; omega) _
              clear hbB hcB hsB c0 c1 lx fk
              have HF6 := Lib.hid hF6; have HX6 := Lib.hid hx6; have HB6 := Lib.hid hb6; have HF7 := Lib.hid hF7; have HX7 := Lib.hid hx7; have HB7 := Lib.hid hb7; clear hF6 hx6 hb6 hF7 hx7 hb7
              go_wp2
              go_roundw
              case rel => exact ⟨q1, fq + 1, rfl, by have := HQ1E.out; omega, by have := HQ1E.out; omega, by omega, by omega, by have h := HNEW.out; rw [HQ1E.out] at h ⊢; exact h, HF7.out, HX7.out, HB7.out⟩
              case measure => have := HQ1E.out; simp [intOf]; omega
            have d6 : decide (v < 0) = false := decide_eq_false h3
            by_cases h4 : fq + 1 < v
            · have d7 : decide (fq + 1 < v) = true := decide_eq_true h4
              have hnew := htake (hreach.2 h1) h2 (.inr h4)
              clear hskip htake
              have HMN := Lib.hid hmn; have HMNQ := Lib.hid hmnq; have HFQ := Lib.hid hFq; have HXQ := Lib.hid hxq; have HBQ := Lib.hid hbq; have HPQ := Lib.hid hpq; have HVQE := Lib.hid hvqe; have HVL := Lib.hid hvl; have HDQ := Lib.hid hdq; have HQ1E := Lib.hid hq1e; have HFQE := Lib.hid hfqe; have HREACH := Lib.hid hreach; have HNEW := Lib.hid hnew; clear hmn hmnq hFq hxq hbq hpq hvqe hvl hdq hq1e hfqe hreach hnew
              go_upto_region 12 with fail
              have hbelc : ∀ (u : Bel wr.heap.size wr) b o, b < wr.heap.size → u.wd.cell? ⟨b, o, none⟩ = wr.cell? ⟨b, o, none⟩ := fun u b o h => u.h.cell (p := ⟨b, o, none⟩) h
              have hbeln : Nonempty (Bel wr.heap.size wr) := ⟨⟨wr, Below.refl _ _⟩⟩
              refine wp_region_bel wr.heap.size (by kernel_rfl) (by kernel_rfl) ?_
              repeat (go_big_quiet_step ((go_at_call 53; exact quiet_bel (Nat.le_refl _) (HPLACE.out _ _ _ (by first | exact HVX.out | exact HVL.out) (HBQ.out.trans ((Bel.h _).mono HBQ.out.size))))))
              refine wpQuiet_nil ?_
              intro wB hB0; obtain ⟨uB, hu⟩ := hB0; have hbB0 := uB.h; rw [← hu] at hbB0; clear hu uB hbelc hbeln
              obtain ⟨hbB, hcB, hsB⟩ := bcell2 hbB0; clear hbB0
              have hF6 := BI.later HFQ.out hbB
              have hx6 := (hbB.block _ lx).trans HXQ.out
              have hb6 := HBQ.out.trans (hbB.mono HBQ.out.size)
              have cq := (hcB _ _ lF).trans cq
              have ck := (hcB _ _ lF).trans ck
              have fk6 := hF6.free k
              have lF6 := hF6.lt
              have hF7 := (hF6.put k (fq + 1)).eqv (g' := upD f k (fq + 1)) (fun a _ => by
                by_cases e : a = k
                · rw [e, upD_same, upD_same]
                · rw [upD_other _ _ e, upD_other _ _ e, upD_other _ _ e])
              have hx7 : (wB.setCell ⟨F, k, none⟩ (.int .i64 (fq + 1))).heap[w.heap.size]? = some (.cells #[.int .i64 need, .slice A ps.length c] 43 (0, 0)) := (heap_setCell_other wB ⟨F, k, none⟩ _ _ (by show w.heap.size ≠ F; omega)).trans hx6
              have hb7 : Below w.heap.size w (wB.setCell ⟨F, k, none⟩ (.int .i64 (fq + 1))) := hb6.setCell (p := ⟨F, k, none⟩) (by show w.heap.size ≤ F; omega) _
              clear hbB hcB hsB c0 c1 lx fk
              have HF6 := Lib.hid hF6; have HX6 := Lib.hid hx6; have HB6 := Lib.hid hb6; have HF7 := Lib.hid hF7; have HX7 := Lib.hid hx7; have HB7 := Lib.hid hb7; clear hF6 hx6 hb6 hF7 hx7 hb7
              go_wp2
              go_roundw
              case rel => exact ⟨q1, fq + 1, rfl, by have := HQ1E.out; omega, by have := HQ1E.out; omega, by omega, by omega, by have h := HNEW.out; rw [HQ1E.out] at h ⊢; exact h, HF7.out, HX7.out, HB7.out⟩
              case measure => have := HQ1E.out; simp [intOf]; omega
            · have d7 : decide (fq + 1 < v) = false := decide_eq_false h4
              have hnew := hskip (fun _ => .inr ⟨by omega, by omega⟩)
              clear hskip htake
              have HMN := Lib.hid hmn; have HMNQ := Lib.hid hmnq; have HFQ := Lib.hid hFq; have HXQ := Lib.hid hxq; have HBQ := Lib.hid hbq; have HPQ := Lib.hid hpq; have HVQE := Lib.hid hvqe; have HVL := Lib.hid hvl; have HDQ := Lib.hid hdq; have HQ1E := Lib.hid hq1e; have HFQE := Lib.hid hfqe; have HREACH := Lib.hid hreach; have HNEW := Lib.hid hnew; clear hmn hmnq hFq hxq hbq hpq hvqe hvl hdq hq1e hfqe hreach hnew
              go_upto_region 12 with fail
              have hbelc : ∀ (u : Bel wr.heap.size wr) b o, b < wr.heap.size → u.wd.cell? ⟨b, o, none⟩ = wr.cell? ⟨b, o, none⟩ := fun u b o h => u.h.cell (p := ⟨b, o, none⟩) h
              have hbeln : Nonempty (Bel wr.heap.size wr) := ⟨⟨wr, Below.refl _ _⟩⟩
              refine wp_region_bel wr.heap.size (by kernel_rfl) (by kernel_rfl) ?_
              repeat (go_big_quiet_step ((go_at_call 53; exact quiet_bel (Nat.le_refl _) (HPLACE.out _ _ _ (by first | exact HVX.out | exact HVL.out) (HBQ.out.trans ((Bel.h _).mono HBQ.out.size))))))
              refine wpQuiet_nil ?_
              intro wB hB0; obtain ⟨uB, hu⟩ := hB0; have hbB0 := uB.h; rw [← hu] at hbB0; clear hu uB hbelc hbeln
              obtain ⟨hbB, hcB, hsB⟩ := bcell2 hbB0; clear hbB0
              have hF6 := BI.later HFQ.out hbB
              have hx6 := (hbB.block _ lx).trans HXQ.out
              have hb6 := HBQ.out.trans (hbB.mono HBQ.out.size)
              clear hbB hcB hsB c0 c1 lx ck cq
              have HF6 := Lib.hid hF6; have HX6 := Lib.hid hx6; have HB6 := Lib.hid hb6; clear hF6 hx6 hb6
              go_wp2
              go_roundw
              case rel => exact ⟨q1, v, rfl, by have := HQ1E.out; omega, by have := HQ1E.out; omega, hv1, hv2, by have h := HNEW.out; rw [HQ1E.out] at h ⊢; exact h, HF6.out, HX6.out, HB6.out⟩
              case measure => have := HQ1E.out; simp [intOf]; omega
          · have d2 : decide (q < ps.length) = false := decide_eq_false hlt
            have d3 : decide ((q : Int) < (ps.length : Int)) = false := decide_eq_false (by omega)
            have hqe : q + 1 = ps.length + 2 - 1 := by omega
            rw [hqe] at hmn
            have hfw := FwP.of_min (f := f) (j := k) (fun m h1 h2 => HFA.out m (by omega) (by omega)) (fun h9 => absurd h9 (by have := HNEND.out; omega)) hmn
            have hfa2 : FwA need ps most (upD f k v) k := fun m h1 h2 => by
              by_cases e : m = k
              · rw [e, upD_same]; exact hfw
              · rw [upD_other _ _ e]; exact HFA.out m (by omega) h2
            have HMN := Lib.hid hmn; have HFQ := Lib.hid hFq; have HXQ := Lib.hid hxq; have HBQ := Lib.hid hbq; have HFW := Lib.hid hfw; have HFA2 := Lib.hid hfa2; have HQE := Lib.hid hqe; clear hmn hFq hxq hbq hfw hfa2 hqe
            go_wp2
            go_roundw
            case rel => exact ⟨k, _, _, rfl, by omega, by omega, HFA2.out, HFQ.out, HXQ.out, HBQ.out⟩
            case measure => have := HZ.out; simp [intOf]; omega
end Go.Proofs.Ytdimaapiloojeaa
