/- Texts of this claim, laid together: TnSame19, TnAwake, TnLWi. -/
import Derived.Test.YtlmhgcllikcedaaMaH
import Derived.Laws.StructEq
/- The law's comparisons of lists. -/
namespace Go.Proofs.Ytlmhgcllikcedaa
open Go.RowKit
set_option maxRecDepth 100000 in
theorem pairNe_TnRoot (x y : Int × Int) (w : World) : (binOp .neq 26 (.agg #[.int .i64 x.1, .int .i64 x.2]) (.agg #[.int .i64 y.1, .int .i64 y.2])).run Try.prog w = .ok (.bool (decide (x ≠ y))) w := by
  have hS : Try.prog.underlying 26 = some (.struct (Try.prog.fieldsOf 26)) := by kernel_rfl
  have hp : Try.prog.stoodInHeld 26 = false := by kernel_rfl
  obtain ⟨a, b⟩ := x
  obtain ⟨c, d⟩ := y
  rw [run_neq_struct, show (10000 : Nat) = 9999 + 1 from rfl, run_equalIn_agg w 9999 26 _ _ hS hp]
  simp only [Program.fieldsOf, Try.underlying26]
  go_simp
  by_cases h1 : a = c
  · subst h1
    by_cases h2 : b = d <;> simp [h2]
  · by_cases h2 : b = d <;> simp [h1, h2]
set_option maxRecDepth 100000 in
theorem pairNe_GrPoint (x y : Int × Int) (w : World) : (binOp .neq 45 (.agg #[.int .i64 x.1, .int .i64 x.2]) (.agg #[.int .i64 y.1, .int .i64 y.2])).run Try.prog w = .ok (.bool (decide (x ≠ y))) w := by
  have hS : Try.prog.underlying 45 = some (.struct (Try.prog.fieldsOf 45)) := by kernel_rfl
  have hp : Try.prog.stoodInHeld 45 = false := by kernel_rfl
  obtain ⟨a, b⟩ := x
  obtain ⟨c, d⟩ := y
  rw [run_neq_struct, show (10000 : Nat) = 9999 + 1 from rfl, run_equalIn_agg w 9999 45 _ _ hS hp]
  simp only [Program.fieldsOf, Try.underlying45]
  go_simp
  by_cases h1 : a = c
  · subst h1
    by_cases h2 : b = d <;> simp [h2]
  · by_cases h2 : b = d <;> simp [h1, h2]
set_option maxRecDepth 100000 in
set_option maxHeartbeats 4000000 in
theorem lSame19_ (A B : Option Addr) (c d : Nat) (xs ys : List (Int × Int)) (w : World) (hx : RdR w A xs) (hy : RdR w B ys) : Calls Try.prog 24 #[.slice A xs.length c, .slice B ys.length d] w (BoolPost (decide (xs = ys)) w) := by
  have hln := hx.1
  have hb := Below.refl w.heap.size w
  obtain ⟨R, hR⟩ : ∃ R, R = decide (xs = ys) := ⟨_, rfl⟩
  rw [← hR]
  by_cases hl : xs.length = ys.length
  rotate_left
  · have q1 : (xs.length == ys.length) = false := by rw [beq_eq_false_iff_ne]; exact hl
    have q2 : ((xs.length : Int) == (ys.length : Int)) = false := by rw [beq_eq_false_iff_ne]; omega
    have q3 : ((xs.length : Int) != (ys.length : Int)) = true := by rw [bne, q2]; rfl
    have q4 : (xs.length != ys.length) = true := by rw [bne, q1]; rfl
    rw [decide_eq_false (fun h => hl (by rw [h]))] at hR
    have HX := Lib.hid hx; have HY := Lib.hid hy; have HB := Lib.hid hb; have HR := Lib.hid hR; have HL := Lib.hid hl; clear hx hy hb hR hl
    go_enter Try.func24, Try.ntmps24
    go_wp2
    go_ret
    exact ⟨by rw [HR.out]; rfl, HB.out⟩
  have q1 : (xs.length == ys.length) = true := by rw [hl]; simp
  have q2 : ((xs.length : Int) == (ys.length : Int)) = true := by rw [hl]; simp
  have q3 : ((xs.length : Int) != (ys.length : Int)) = false := by rw [bne, q2]; rfl
  have q4 : (xs.length != ys.length) = false := by rw [bne, q1]; rfl
  have HX := Lib.hid hx; have HY := Lib.hid hy; have HB := Lib.hid hb; have HR := Lib.hid hR; have HL := Lib.hid hl; clear hx hy hb hR hl
  go_enter Try.func24, Try.ntmps24
  go_wp2
  clear q1 q2 q3 q4
  go_loopw [5] (fun iv wr => ∃ k : Nat, iv = .int .i64 (k : Int) ∧ k ≤ xs.length ∧ xs.take k = ys.take k ∧ Below w.heap.size w wr) (fun iv _ => xs.length - (intOf iv).toNat)
  case atStart => exact ⟨0, rfl, Nat.zero_le _, rfl, HB.out⟩
  case round =>
    obtain ⟨k, rfl, hk, ht, hbw⟩ := hrel
    by_cases hlt : k < xs.length
    · have hly : k < ys.length := by have := HL.out; omega
      obtain ⟨b1, o1, rfl, hb1, l1, m1⟩ := (HX.out.later hbw (Nat.le_refl _)).at_ hlt
      obtain ⟨b2, o2, rfl, hb2, l2, m2⟩ := (HY.out.later hbw (Nat.le_refl _)).at_ hly
      have hne : xs[k] ≠ ys[k] → xs ≠ ys := fun h e => h (by simp [e])
      have heq : xs[k] = ys[k] → xs.take (k + 1) = ys.take (k + 1) := fun h => by
        rw [List.take_succ_eq_append_getElem hlt, List.take_succ_eq_append_getElem hly, ht, h]
      have x1 : (0 : Int) ≤ (k : Int) := by omega
      have x2 : (k : Int) < (xs.length : Int) := by omega
      have x3 : (k : Int) < (ys.length : Int) := by omega
      generalize xs[k] = x at *
      generalize ys[k] = y at *
      have hv := fun W => pairNe_TnRoot x y W
      by_cases he : x = y
      · have e1 : (decide (x ≠ y)) = false := by rw [he]; simp
        rw [e1] at hv
        clear e1
        have ht2 := heq he
        clear hne heq
        have HT := Lib.hid ht; have HBW := Lib.hid hbw; have HT2 := Lib.hid ht2; have HE := Lib.hid he; clear ht hbw ht2 he
        go_upto_region 6 with fail
        have hbelc : ∀ (u : Bel wr.heap.size wr) b o, b < wr.heap.size → u.wd.cell? ⟨b, o, none⟩ = wr.cell? ⟨b, o, none⟩ := fun u b o h => u.h.cell (p := ⟨b, o, none⟩) h
        have hbeln : Nonempty (Bel wr.heap.size wr) := ⟨⟨wr, Below.refl _ _⟩⟩
        refine wp_region_bel wr.heap.size (by kernel_rfl) (by kernel_rfl) ?_
        repeat (go_big_quiet_step ((fail)))
        refine wpQuiet_nil ?_
        intro wB hB0; obtain ⟨uB, hu⟩ := hB0; have hbB0 := uB.h; rw [← hu] at hbB0; clear hu uB hbelc hbeln
        obtain ⟨hbB, hcB, hsB⟩ := bcell2 hbB0; clear hbB0
        have hbw2 := HBW.out.trans (hbB.mono HBW.out.size)
        clear hbB hcB hsB l1 l2 m1 m2
        have HBW2 := Lib.hid hbw2; clear hbw2
        go_wp2
        go_roundw
        case rel => exact ⟨k + 1, by go_num, by omega, HT2.out, HBW2.out⟩
        case measure => simp [intOf]; omega
      · have e1 : (decide (x ≠ y)) = true := by simp [he]
        rw [e1] at hv
        clear e1
        have hres : R = false := by rw [HR.out, decide_eq_false (hne he)]
        clear hne heq
        have HT := Lib.hid ht; have HBW := Lib.hid hbw; have HE := Lib.hid he; have HRES := Lib.hid hres; clear ht hbw he hres
        go_upto_region 6 with fail
        have hbelc : ∀ (u : Bel wr.heap.size wr) b o, b < wr.heap.size → u.wd.cell? ⟨b, o, none⟩ = wr.cell? ⟨b, o, none⟩ := fun u b o h => u.h.cell (p := ⟨b, o, none⟩) h
        have hbeln : Nonempty (Bel wr.heap.size wr) := ⟨⟨wr, Below.refl _ _⟩⟩
        refine wp_region_bel wr.heap.size (by kernel_rfl) (by kernel_rfl) ?_
        repeat (go_big_quiet_step ((fail)))
        refine wpQuiet_nil ?_
        intro wB hB0; obtain ⟨uB, hu⟩ := hB0; have hbB0 := uB.h; rw [← hu] at hbB0; clear hu uB hbelc hbeln
        obtain ⟨hbB, hcB, hsB⟩ := bcell2 hbB0; clear hbB0
        have hbw2 := HBW.out.trans (hbB.mono HBW.out.size)
        clear hbB hcB hsB l1 l2 m1 m2
        have HBW2 := Lib.hid hbw2; clear hbw2
        go_wp2
        go_ret
        exact ⟨by rw [HRES.out]; rfl, HBW2.out⟩
    · have hres : R = true := by
        rw [HR.out]
        rw [List.take_of_length_le (by omega), List.take_of_length_le (by have := HL.out; omega)] at ht
        exact decide_eq_true ht
      have x3 : ¬ (k : Int) < (xs.length : Int) := by omega
      have HT := Lib.hid ht; have HBW := Lib.hid hbw; have HRES := Lib.hid hres; clear ht hbw hres
      go_wp2
      go_ret
      exact ⟨by rw [HRES.out]; rfl, HBW.out⟩
set_option maxRecDepth 100000 in
set_option maxHeartbeats 4000000 in
theorem lPoints19_ (A B : Option Addr) (c d : Nat) (xs ys : List (Int × Int)) (w : World) (hx : RdR w A xs) (hy : RdR w B ys) : Calls Try.prog 28 #[.slice A xs.length c, .slice B ys.length d] w (BoolPost (decide (xs = ys)) w) := by
  have hln := hx.1
  have hb := Below.refl w.heap.size w
  obtain ⟨R, hR⟩ : ∃ R, R = decide (xs = ys) := ⟨_, rfl⟩
  rw [← hR]
  by_cases hl : xs.length = ys.length
  rotate_left
  · have q1 : (xs.length == ys.length) = false := by rw [beq_eq_false_iff_ne]; exact hl
    have q2 : ((xs.length : Int) == (ys.length : Int)) = false := by rw [beq_eq_false_iff_ne]; omega
    have q3 : ((xs.length : Int) != (ys.length : Int)) = true := by rw [bne, q2]; rfl
    have q4 : (xs.length != ys.length) = true := by rw [bne, q1]; rfl
    rw [decide_eq_false (fun h => hl (by rw [h]))] at hR
    have HX := Lib.hid hx; have HY := Lib.hid hy; have HB := Lib.hid hb; have HR := Lib.hid hR; have HL := Lib.hid hl; clear hx hy hb hR hl
    go_enter Try.func28, Try.ntmps28
    go_wp2
    go_ret
    exact ⟨by rw [HR.out]; rfl, HB.out⟩
  have q1 : (xs.length == ys.length) = true := by rw [hl]; simp
  have q2 : ((xs.length : Int) == (ys.length : Int)) = true := by rw [hl]; simp
  have q3 : ((xs.length : Int) != (ys.length : Int)) = false := by rw [bne, q2]; rfl
  have q4 : (xs.length != ys.length) = false := by rw [bne, q1]; rfl
  have HX := Lib.hid hx; have HY := Lib.hid hy; have HB := Lib.hid hb; have HR := Lib.hid hR; have HL := Lib.hid hl; clear hx hy hb hR hl
  go_enter Try.func28, Try.ntmps28
  go_wp2
  clear q1 q2 q3 q4
  go_loopw [5] (fun iv wr => ∃ k : Nat, iv = .int .i64 (k : Int) ∧ k ≤ xs.length ∧ xs.take k = ys.take k ∧ Below w.heap.size w wr) (fun iv _ => xs.length - (intOf iv).toNat)
  case atStart => exact ⟨0, rfl, Nat.zero_le _, rfl, HB.out⟩
  case round =>
    obtain ⟨k, rfl, hk, ht, hbw⟩ := hrel
    by_cases hlt : k < xs.length
    · have hly : k < ys.length := by have := HL.out; omega
      obtain ⟨b1, o1, rfl, hb1, l1, m1⟩ := (HX.out.later hbw (Nat.le_refl _)).at_ hlt
      obtain ⟨b2, o2, rfl, hb2, l2, m2⟩ := (HY.out.later hbw (Nat.le_refl _)).at_ hly
      have hne : xs[k] ≠ ys[k] → xs ≠ ys := fun h e => h (by simp [e])
      have heq : xs[k] = ys[k] → xs.take (k + 1) = ys.take (k + 1) := fun h => by
        rw [List.take_succ_eq_append_getElem hlt, List.take_succ_eq_append_getElem hly, ht, h]
      have x1 : (0 : Int) ≤ (k : Int) := by omega
      have x2 : (k : Int) < (xs.length : Int) := by omega
      have x3 : (k : Int) < (ys.length : Int) := by omega
      generalize xs[k] = x at *
      generalize ys[k] = y at *
      have hv := fun W => pairNe_GrPoint x y W
      by_cases he : x = y
      · have e1 : (decide (x ≠ y)) = false := by rw [he]; simp
        rw [e1] at hv
        clear e1
        have ht2 := heq he
        clear hne heq
        have HT := Lib.hid ht; have HBW := Lib.hid hbw; have HT2 := Lib.hid ht2; have HE := Lib.hid he; clear ht hbw ht2 he
        go_upto_region 6 with fail
        have hbelc : ∀ (u : Bel wr.heap.size wr) b o, b < wr.heap.size → u.wd.cell? ⟨b, o, none⟩ = wr.cell? ⟨b, o, none⟩ := fun u b o h => u.h.cell (p := ⟨b, o, none⟩) h
        have hbeln : Nonempty (Bel wr.heap.size wr) := ⟨⟨wr, Below.refl _ _⟩⟩
        refine wp_region_bel wr.heap.size (by kernel_rfl) (by kernel_rfl) ?_
        repeat (go_big_quiet_step ((fail)))
        refine wpQuiet_nil ?_
        intro wB hB0; obtain ⟨uB, hu⟩ := hB0; have hbB0 := uB.h; rw [← hu] at hbB0; clear hu uB hbelc hbeln
        obtain ⟨hbB, hcB, hsB⟩ := bcell2 hbB0; clear hbB0
        have hbw2 := HBW.out.trans (hbB.mono HBW.out.size)
        clear hbB hcB hsB l1 l2 m1 m2
        have HBW2 := Lib.hid hbw2; clear hbw2
        go_wp2
        go_roundw
        case rel => exact ⟨k + 1, by go_num, by omega, HT2.out, HBW2.out⟩
        case measure => simp [intOf]; omega
      · have e1 : (decide (x ≠ y)) = true := by simp [he]
        rw [e1] at hv
        clear e1
        have hres : R = false := by rw [HR.out, decide_eq_false (hne he)]
        clear hne heq
        have HT := Lib.hid ht; have HBW := Lib.hid hbw; have HE := Lib.hid he; have HRES := Lib.hid hres; clear ht hbw he hres
        go_upto_region 6 with fail
        have hbelc : ∀ (u : Bel wr.heap.size wr) b o, b < wr.heap.size → u.wd.cell? ⟨b, o, none⟩ = wr.cell? ⟨b, o, none⟩ := fun u b o h => u.h.cell (p := ⟨b, o, none⟩) h
        have hbeln : Nonempty (Bel wr.heap.size wr) := ⟨⟨wr, Below.refl _ _⟩⟩
        refine wp_region_bel wr.heap.size (by kernel_rfl) (by kernel_rfl) ?_
        repeat (go_big_quiet_step ((fail)))
        refine wpQuiet_nil ?_
        intro wB hB0; obtain ⟨uB, hu⟩ := hB0; have hbB0 := uB.h; rw [← hu] at hbB0; clear hu uB hbelc hbeln
        obtain ⟨hbB, hcB, hsB⟩ := bcell2 hbB0; clear hbB0
        have hbw2 := HBW.out.trans (hbB.mono HBW.out.size)
        clear hbB hcB hsB l1 l2 m1 m2
        have HBW2 := Lib.hid hbw2; clear hbw2
        go_wp2
        go_ret
        exact ⟨by rw [HRES.out]; rfl, HBW2.out⟩
    · have hres : R = true := by
        rw [HR.out]
        rw [List.take_of_length_le (by omega), List.take_of_length_le (by have := HL.out; omega)] at ht
        exact decide_eq_true ht
      have x3 : ¬ (k : Int) < (xs.length : Int) := by omega
      have HT := Lib.hid ht; have HBW := Lib.hid hbw; have HRES := Lib.hid hres; clear ht hbw hres
      go_wp2
      go_ret
      exact ⟨by rw [HRES.out]; rfl, HBW.out⟩
set_option maxRecDepth 100000 in
set_option maxHeartbeats 4000000 in
theorem lInts19_ (A B : Option Addr) (c d : Nat) (xs ys : List Int) (w : World) (hx : RdI w A xs) (hy : RdI w B ys) : Calls Try.prog 31 #[.slice A xs.length c, .slice B ys.length d] w (BoolPost (decide (xs = ys)) w) := by
  have hln := hx.1
  have hb := Below.refl w.heap.size w
  obtain ⟨R, hR⟩ : ∃ R, R = decide (xs = ys) := ⟨_, rfl⟩
  rw [← hR]
  by_cases hl : xs.length = ys.length
  rotate_left
  · have q1 : (xs.length == ys.length) = false := by rw [beq_eq_false_iff_ne]; exact hl
    have q2 : ((xs.length : Int) == (ys.length : Int)) = false := by rw [beq_eq_false_iff_ne]; omega
    have q3 : ((xs.length : Int) != (ys.length : Int)) = true := by rw [bne, q2]; rfl
    have q4 : (xs.length != ys.length) = true := by rw [bne, q1]; rfl
    rw [decide_eq_false (fun h => hl (by rw [h]))] at hR
    have HX := Lib.hid hx; have HY := Lib.hid hy; have HB := Lib.hid hb; have HR := Lib.hid hR; have HL := Lib.hid hl; clear hx hy hb hR hl
    go_enter Try.func31, Try.ntmps31
    go_wp2
    go_ret
    exact ⟨by rw [HR.out]; rfl, HB.out⟩
  have q1 : (xs.length == ys.length) = true := by rw [hl]; simp
  have q2 : ((xs.length : Int) == (ys.length : Int)) = true := by rw [hl]; simp
  have q3 : ((xs.length : Int) != (ys.length : Int)) = false := by rw [bne, q2]; rfl
  have q4 : (xs.length != ys.length) = false := by rw [bne, q1]; rfl
  have HX := Lib.hid hx; have HY := Lib.hid hy; have HB := Lib.hid hb; have HR := Lib.hid hR; have HL := Lib.hid hl; clear hx hy hb hR hl
  go_enter Try.func31, Try.ntmps31
  go_wp2
  clear q1 q2 q3 q4
  go_loopw [5] (fun iv wr => ∃ k : Nat, iv = .int .i64 (k : Int) ∧ k ≤ xs.length ∧ xs.take k = ys.take k ∧ Below w.heap.size w wr) (fun iv _ => xs.length - (intOf iv).toNat)
  case atStart => exact ⟨0, rfl, Nat.zero_le _, rfl, HB.out⟩
  case round =>
    obtain ⟨k, rfl, hk, ht, hbw⟩ := hrel
    by_cases hlt : k < xs.length
    · have hly : k < ys.length := by have := HL.out; omega
      obtain ⟨b1, o1, rfl, hb1, l1⟩ := (HX.out.later hbw (Nat.le_refl _)).at_ hlt
      obtain ⟨b2, o2, rfl, hb2, l2⟩ := (HY.out.later hbw (Nat.le_refl _)).at_ hly
      have hne : xs[k] ≠ ys[k] → xs ≠ ys := fun h e => h (by simp [e])
      have heq : xs[k] = ys[k] → xs.take (k + 1) = ys.take (k + 1) := fun h => by
        rw [List.take_succ_eq_append_getElem hlt, List.take_succ_eq_append_getElem hly, ht, h]
      have x1 : (0 : Int) ≤ (k : Int) := by omega
      have x2 : (k : Int) < (xs.length : Int) := by omega
      have x3 : (k : Int) < (ys.length : Int) := by omega
      generalize xs[k] = x at *
      generalize ys[k] = y at *
      by_cases he : x = y
      · have e1 : (x == y) = true := by rw [he]; simp
        have e2 : (x != y) = false := by rw [bne, e1]; rfl
        have ht2 := heq he
        clear hne heq
        have HT := Lib.hid ht; have HBW := Lib.hid hbw; have HT2 := Lib.hid ht2; have HE := Lib.hid he; clear ht hbw ht2 he
        go_upto_region 6 with fail
        have hbelc : ∀ (u : Bel wr.heap.size wr) b o, b < wr.heap.size → u.wd.cell? ⟨b, o, none⟩ = wr.cell? ⟨b, o, none⟩ := fun u b o h => u.h.cell (p := ⟨b, o, none⟩) h
        have hbeln : Nonempty (Bel wr.heap.size wr) := ⟨⟨wr, Below.refl _ _⟩⟩
        refine wp_region_bel wr.heap.size (by kernel_rfl) (by kernel_rfl) ?_
        repeat (go_big_quiet_step ((fail)))
        refine wpQuiet_nil ?_
        intro wB hB0; obtain ⟨uB, hu⟩ := hB0; have hbB0 := uB.h; rw [← hu] at hbB0; clear hu uB hbelc hbeln
        obtain ⟨hbB, hcB, hsB⟩ := bcell2 hbB0; clear hbB0
        have hbw2 := HBW.out.trans (hbB.mono HBW.out.size)
        clear hbB hcB hsB l1 l2
        have HBW2 := Lib.hid hbw2; clear hbw2
        go_wp2
        go_roundw
        case rel => exact ⟨k + 1, by go_num, by omega, HT2.out, HBW2.out⟩
        case measure => simp [intOf]; omega
      · have e1 : (x == y) = false := by rw [beq_eq_false_iff_ne]; exact he
        have e2 : (x != y) = true := by rw [bne, e1]; rfl
        have hres : R = false := by rw [HR.out, decide_eq_false (hne he)]
        clear hne heq
        have HT := Lib.hid ht; have HBW := Lib.hid hbw; have HE := Lib.hid he; have HRES := Lib.hid hres; clear ht hbw he hres
        go_upto_region 6 with fail
        have hbelc : ∀ (u : Bel wr.heap.size wr) b o, b < wr.heap.size → u.wd.cell? ⟨b, o, none⟩ = wr.cell? ⟨b, o, none⟩ := fun u b o h => u.h.cell (p := ⟨b, o, none⟩) h
        have hbeln : Nonempty (Bel wr.heap.size wr) := ⟨⟨wr, Below.refl _ _⟩⟩
        refine wp_region_bel wr.heap.size (by kernel_rfl) (by kernel_rfl) ?_
        repeat (go_big_quiet_step ((fail)))
        refine wpQuiet_nil ?_
        intro wB hB0; obtain ⟨uB, hu⟩ := hB0; have hbB0 := uB.h; rw [← hu] at hbB0; clear hu uB hbelc hbeln
        obtain ⟨hbB, hcB, hsB⟩ := bcell2 hbB0; clear hbB0
        have hbw2 := HBW.out.trans (hbB.mono HBW.out.size)
        clear hbB hcB hsB l1 l2
        have HBW2 := Lib.hid hbw2; clear hbw2
        go_wp2
        go_ret
        exact ⟨by rw [HRES.out]; rfl, HBW2.out⟩
    · have hres : R = true := by
        rw [HR.out]
        rw [List.take_of_length_le (by omega), List.take_of_length_le (by have := HL.out; omega)] at ht
        exact decide_eq_true ht
      have x3 : ¬ (k : Int) < (xs.length : Int) := by omega
      have HT := Lib.hid ht; have HBW := Lib.hid hbw; have HRES := Lib.hid hres; clear ht hbw hres
      go_wp2
      go_ret
      exact ⟨by rw [HRES.out]; rfl, HBW.out⟩
end Go.Proofs.Ytlmhgcllikcedaa
/- The law's check of some results. -/
namespace Go.Proofs.Ytlmhgcllikcedaa
open Go.RowKit

set_option maxRecDepth 100000 in
set_option maxHeartbeats 4000000 in
theorem lPt19_ (x y : Int) (w : World) :
    Calls Try.prog 37 #[.int .i64 x, .int .i64 y] w fun e w' => e = .returned (.agg #[.int .i64 x, .int .i64 y]) ∧ Below w.heap.size w w' := by
  obtain ⟨w1, hw1⟩ : ∃ w1, w1 = w.alloc (.cells #[.int .i64 0, .int .i64 0] 45) := ⟨_, rfl⟩
  have hb1 : Below w.heap.size w w1 := by rw [hw1]; exact (Below.refl _ _).alloc (Nat.le_refl _) _
  have hT : w1.heap[w.heap.size]? = some (.cells #[.int .i64 0, .int .i64 0] 45 (0, 0)) := by rw [hw1]; exact heap_alloc_new _ _
  have z0 := frozen_of_row _ _ 0 _ _ hT
  have z1 := frozen_of_row _ _ 1 _ _ hT
  have y0 := cell_of_row _ _ 0 _ _ _ hT
  have y1 := cell_of_row _ _ 1 _ _ _ hT
  have hTl := lt_of_block hT
  simp only [List.getElem?_toArray, List.getElem?_cons_zero, List.getElem?_cons_succ] at y0 y1
  have hb2 := fun u v => (hb1.setCell (p := ⟨w.heap.size, 0, none⟩) (Nat.le_refl _) u).setCell (p := ⟨w.heap.size, 1, none⟩) (Nat.le_refl _) v
  have HB1 := Lib.hid hb1; have HW1 := Lib.hid hw1; have HB2 := Lib.hid hb2; have HT := Lib.hid hT; clear hb1 hw1 hb2 hT
  go_enter Try.func37, Try.ntmps37
  go_upto_region 1 with fail
  rw [← HW1.out]
  go_wp2
  refine bodyPost_ret (v := .agg #[.int .i64 x, .int .i64 y]) (by obtain ⟨r1, _, r3⟩ := res2_ (w := w1) HT.out (.int .i64 x) (.int .i64 y); simp [results, Try.results37, go_sem, r1, r3]) rfl ⟨rfl, HB2.out _ _⟩
theorem rdR_blk {w : World} {R : Nat} {T : TypeId} {cs : Array Value} (xs : List (Int × Int)) (h : w.heap[R]? = some (.cells cs T (0, 0))) (hc : cs.toList = rootC xs) (hn : xs.length ≤ 1000) : RdR w (some ⟨R, 0, none⟩) xs := by
  refine ⟨by omega, fun _ => ⟨R, 0, rfl, lt_of_block h, fun j hj => ?_⟩⟩
  rw [cell_of_row _ _ _ _ _ _ h, ← Array.getElem?_toList, hc, Nat.zero_add, rootC_get xs j hj]
theorem rdG_blk {w : World} {R : Nat} {T : TypeId} {cs : Array Value} (xs : List Gt) (h : w.heap[R]? = some (.cells cs T (0, 0))) (hc : cs.toList = gateC xs) (hn : xs.length ≤ 1000) : RdG w (some ⟨R, 0, none⟩) xs := by
  refine ⟨by omega, fun _ => ⟨R, 0, rfl, lt_of_block h, fun j hj => ?_⟩⟩
  rw [cell_of_row _ _ _ _ _ _ h, ← Array.getElem?_toList, hc, Nat.zero_add, gateC_get xs j hj]
theorem rdI_blk {w : World} {R : Nat} {T : TypeId} {cs : Array Value} (xs : List Int) (h : w.heap[R]? = some (.cells cs T (0, 0))) (hc : cs.toList = ints xs) (hn : xs.length ≤ 1000) : RdI w (some ⟨R, 0, none⟩) xs := by
  refine ⟨by omega, fun _ => ⟨R, 0, rfl, lt_of_block h, fun j hj => ?_⟩⟩
  rw [cell_of_row _ _ _ _ _ _ h, ← Array.getElem?_toList, hc, Nat.zero_add]
  have hj2 : j < xs.length := by omega
  simp [ints, List.getD_eq_getElem?_getD, hj2]
set_option maxRecDepth 100000 in
theorem ivEq_ (w : World) : (binOp .eql 33 (.agg #[.int .i64 1414, .int .i64 1415]) (.agg #[.int .i64 1414, .int .i64 1415])).run Try.prog w = .ok (.bool true) w := by
  have hS : Try.prog.underlying 33 = some (.struct (Try.prog.fieldsOf 33)) := by kernel_rfl
  have hp : Try.prog.stoodInHeld 33 = false := by kernel_rfl
  rw [run_eql_struct, show (10000 : Nat) = 9999 + 1 from rfl, run_equalIn_agg w 9999 33 _ _ hS hp]
  simp only [Program.fieldsOf, Try.underlying33]
  go_simp
set_option maxRecDepth 100000 in
theorem rtEq_ (w : World) : (binOp .eql 26 (.agg #[.int .i64 6, .int .i64 2]) (.agg #[.int .i64 6, .int .i64 2])).run Try.prog w = .ok (.bool true) w := by
  have hS : Try.prog.underlying 26 = some (.struct (Try.prog.fieldsOf 26)) := by kernel_rfl
  have hp : Try.prog.stoodInHeld 26 = false := by kernel_rfl
  rw [run_eql_struct, show (10000 : Nat) = 9999 + 1 from rfl, run_equalIn_agg w 9999 26 _ _ hS hp]
  simp only [Program.fieldsOf, Try.underlying26]
  go_simp
theorem aw_lenC (b : Nat) (W : World) (h : W.heap[b]? = some (.cells #[.int .i64 0, .int .i64 0, .int .i64 3, .int .i64 4, .int .i64 4, .int .i64 5, .int .i64 6, .int .i64 7] 45 (0, 0))) :
    Calls Try.prog 22 #[.agg #[.int .i64 1, .int .i64 0, .int .i64 1], .slice (some ⟨b, 0, none⟩) 4 4] W fun e w' => ∃ A c, e = .returned (.tuple #[.slice A 2 c, .int .i64 0]) ∧ RdR w' A [(5, 1), (3, 2)] ∧ Below W.heap.size W w' := by
  refine (tnLength_ (some ⟨b, 0, none⟩) 4 1 0 1 [(0, 0), (3, 4), (4, 5), (6, 7)] W (rdR_blk _ h (by simp [rootC]) (by decide))).mono ?_
  rw [aw_len]
  rintro e w' ⟨A, c, he, hr, _, _, hb⟩
  exact ⟨A, c, he, hr, hb⟩
theorem aw_tautC (b : Nat) (W : World) (h : W.heap[b]? = some (.cells #[.int .i64 2, .int .i64 1, .int .i64 3] 68 (0, 0))) :
    Calls Try.prog 26 #[.agg #[.int .i64 0, .int .i64 0], .slice (some ⟨b, 0, none⟩) 1 1, .agg #[.int .i64 0, .int .i64 4]] W fun e w' => ∃ A c, e = .returned (.tuple #[.slice A 3 c, .int .i64 0]) ∧ RdR w' A [(0, 0), (1, 2), (0, 4)] ∧ Below W.heap.size W w' := by
  refine (tnTaut_ (some ⟨b, 0, none⟩) 1 (0, 0) (0, 4) [(2, 1, 3)] W (rdG_blk _ h (by simp [gateC]) (by decide))).mono ?_
  rw [aw_taut]
  rintro e w' ⟨A, c, he, hr, _, hb⟩
  exact ⟨A, c, he, hr, hb⟩
theorem aw_tightC (b G R : Nat) (W : World) (h : W.heap[b]? = some (.cells #[.int .i64 0, .int .i64 0, .int .i64 0, .int .i64 4, .slice (some ⟨G, 0, none⟩) 1 1, .slice (some ⟨R, 0, none⟩) 1 1] 48 (0, 0)))
    (hG : W.heap[G]? = some (.cells #[.int .i64 2, .int .i64 1, .int .i64 3] 68 (0, 0))) (hR : W.heap[R]? = some (.cells #[.int .i64 4, .int .i64 1] 26 (0, 0))) :
    Calls Try.prog 29 #[.agg #[.int .i64 1, .int .i64 0, .int .i64 1], .slice (some ⟨b, 0, none⟩) 1 1] W fun e w' => ∃ A c, e = .returned (.tuple #[.slice A 1 c, .int .i64 0]) ∧ RdI w' A [0] ∧ Below W.heap.size W w' := by
  have hr : RdThr W (some ⟨b, 0, none⟩) [awT] := by
    refine ⟨by decide, fun _ => ⟨b, 0, rfl, lt_of_block h, fun k hk => ?_⟩⟩
    obtain rfl : k = 0 := by simpa using hk
    show ThrAt W b (0 + 0 * 6) awT
    refine ⟨?_, ?_, ?_, ?_, some ⟨G, 0, none⟩, 1, some ⟨R, 0, none⟩, 1, ?_, ?_, rdG_blk _ hG (by simp [gateC, awT]) (by decide), rdR_blk _ hR (by simp [rootC, awT]) (by decide), by decide, by decide⟩
    all_goals
      rw [cell_of_row _ _ _ _ _ _ h]
      rfl
  refine (tnTight_ (some ⟨b, 0, none⟩) 1 1 0 1 [awT] W hr aw_hh).mono ?_
  rw [aw_tight]
  rintro e w' ⟨A, c, he, hr, hb⟩
  exact ⟨A, c, he, hr, hb⟩
theorem aw_cmpC (b d : Nat) (W : World) (h : W.heap[b]? = some (.cells #[.int .i64 1, .int .i64 2, .int .i64 1, .int .i64 3] 26 (0, 0))) (h2 : W.heap[d]? = some (.cells #[.int .i64 1, .int .i64 10] 26 (0, 0))) :
    Calls Try.prog 32 #[.slice (some ⟨b, 0, none⟩) 2 2, .slice (some ⟨d, 0, none⟩) 1 1] W fun e w' => e = .returned (.tuple #[.int .i64 (-1), .int .i64 0]) ∧ Below W.heap.size W w' := by
  refine (tnCmp_ (some ⟨b, 0, none⟩) (some ⟨d, 0, none⟩) 2 1 40 [(1, 2), (1, 3)] [(1, 10)] W (rdR_blk _ h (by simp [rootC]) (by decide)) (rdR_blk _ h2 (by simp [rootC]) (by decide)) (by decide) (by decide) (by decide) aw_stop).mono ?_
  rw [aw_cmp, show bothE [((1 : Int), (2 : Int)), (1, 3)] [(1, 10)] = 0 by decide]
  exact fun e w' h => h
theorem aw_bndC (b : Nat) (W : World) (h : W.heap[b]? = some (.cells #[.int .i64 1, .int .i64 2] 26 (0, 0))) :
    Calls Try.prog 20 #[.slice (some ⟨b, 0, none⟩) 1 1, .int .i64 1000] W fun e w' => e = .returned (.tuple #[.agg #[.int .i64 1414, .int .i64 1415], .int .i64 0]) ∧ Below W.heap.size W w' := by
  refine (tnBounds_ (some ⟨b, 0, none⟩) 1 1000 [(1, 2)] W (rdR_blk _ h (by simp [rootC]) (by decide)) (fun _ => by decide)).mono ?_
  rw [aw_bnd]
  exact fun e w' h => h
set_option maxRecDepth 100000 in
set_option maxHeartbeats 16000000 in
theorem awake19_ (w : World) : Calls Try.prog 15 #[] w fun e w' => e = .returned (.bool true) ∧ Below w.heap.size w w' := by
  obtain ⟨w1, hw1⟩ : ∃ w1, w1 = w.alloc (.cells #[.int .i64 1, .int .i64 0, .int .i64 1] 38) := ⟨_, rfl⟩
  have hb1 : Below w.heap.size w w1 := by rw [hw1]; exact (Below.refl _ _).alloc (Nat.le_refl _) _
  have hL1 : w1.heap[w.heap.size]? = some (.cells #[.int .i64 1, .int .i64 0, .int .i64 1] 38 (0, 0)) := by rw [hw1]; exact heap_alloc_new _ _
  have HB1 := Lib.hid hb1; have HW1 := Lib.hid hw1; have HL1 := Lib.hid hL1; clear hb1 hw1 hL1
  go_enter Try.func15, Try.ntmps15
  go_upto_region 2 with fail
  rw [← HW1.out]
  clear HW1
  go_wp2_with fail
  refine (tnRoot_ 72 w1 (by decide) (by decide)).mono ?_
  intro e w2 hroot
  obtain ⟨rfl, b1⟩ := aw_root hroot
  have hL2 := (b1.block _ (lt_of_block HL1.out)).trans HL1.out
  have hb2 := HB1.out.trans (b1.mono HB1.out.size)
  clear b1 hroot HL1 HB1
  obtain ⟨w3, hw3⟩ : ∃ w3, w3 = w2.alloc (.cells #[.int .i64 6, .int .i64 2] 26) := ⟨_, rfl⟩
  have b1 : Below w2.heap.size w2 w3 := by rw [hw3]; exact (Below.refl _ _).alloc (Nat.le_refl _) _
  have hR3 : w3.heap[w2.heap.size]? = some (.cells #[.int .i64 6, .int .i64 2] 26 (0, 0)) := by rw [hw3]; exact heap_alloc_new _ _
  have hL3 := (b1.block _ (lt_of_block hL2)).trans hL2
  have hb3 := hb2.trans (b1.mono hb2.size)
  clear b1 hL2 hb2
  have HB3 := Lib.hid hb3; have HW3 := Lib.hid hw3; have HL3 := Lib.hid hL3; have HR3 := Lib.hid hR3; clear hb3 hw3 hL3 hR3
  go_upto_region 3 with fail
  rw [← HW3.out]
  clear HW3
  generalize w2.heap.size = RR at *
  have l0 := cell_of_row _ _ 0 _ _ _ HL3.out
  have l1 := cell_of_row _ _ 1 _ _ _ HL3.out
  have l2 := cell_of_row _ _ 2 _ _ _ HL3.out
  simp only [List.getElem?_toArray, List.getElem?_cons_zero, List.getElem?_cons_succ] at l0 l1 l2
  have hll := lt_of_block HL3.out
  go_cut [4, 5] (fun sv ev wx => ∃ A c, sv = .slice A 2 c ∧ ev = .int .i64 0 ∧ RdR wx A [(5, 1), (3, 2)] ∧ Below w3.heap.size w3 wx)
  case first =>
    go_region_held3 (fun wX => Below w3.heap.size w3 wX ∧ (∀ b o, b < w3.heap.size → wX.cell? ⟨b, o, none⟩ = w3.cell? ⟨b, o, none⟩) ∧ w3.heap.size ≤ wX.heap.size) ((refine bcell2 ?_; first | exact (Below.refl _ _).drew | exact ‹Below w3.heap.size w3 _ ∧ _›.1.trans (hbH.mono ‹Below w3.heap.size w3 _ ∧ _›.1.size) | exact ‹Below w3.heap.size w3 _ ∧ _›.1.alloc ‹Below w3.heap.size w3 _ ∧ _›.1.size _ | exact ‹Below w3.heap.size w3 _ ∧ _›.1)) ((first | (go_at_call 37; refine (lPt19_ _ _ _).mono ?_; rintro e w4 ⟨rfl, hbH⟩) | (go_at_call 22; refine (aw_lenC _ _ (heap_alloc_new _ _)).mono ?_; rintro e w4 ⟨LA, lc, rfl, hrl, hbH⟩)))
    all_goals
      go_wp2_with fail
      go_meet
      exact ⟨LA, lc, rfl, rfl, hrl, ‹Below w3.heap.size w3 _ ∧ _›.1⟩
  case rest =>
    obtain ⟨LA, lc, rfl, rfl, hrl, hbc⟩ := hcut
    obtain ⟨w4, rfl⟩ : ∃ w4, w4 = wc := ⟨_, rfl⟩
    have hL4 := (hbc.block _ (lt_of_block HL3.out)).trans HL3.out
    have hR4 := (hbc.block _ (lt_of_block HR3.out)).trans HR3.out
    have hb4 := HB3.out.trans (hbc.mono HB3.out.size)
    clear hbc l0 l1 l2 hll HL3 HR3 HB3
    -- Cmp
    obtain ⟨w5, hw5⟩ : ∃ w5, w5 = (w4.alloc (.cells #[.int .i64 1, .int .i64 2, .int .i64 1, .int .i64 3] 26)).alloc (.cells #[.int .i64 1, .int .i64 10] 26) := ⟨_, rfl⟩
    have b1 : Below w4.heap.size w4 w5 := by rw [hw5]; exact ((Below.refl _ _).alloc (Nat.le_refl _) _).alloc (by simp) _
    have hc5 := aw_cmpC w4.heap.size (w4.heap.size + 1) w5 (by rw [hw5]; exact heap_alloc2_old _ _ _) (by rw [hw5]; exact heap_alloc2_new _ _ _)
    have hL5 := (b1.block _ (lt_of_block hL4)).trans hL4
    have hR5 := (b1.block _ (lt_of_block hR4)).trans hR4
    have hrl5 := hrl.later b1 (Nat.le_refl _)
    have hb5 := hb4.trans (b1.mono hb4.size)
    clear b1 hL4 hR4 hrl hb4
    have HW5 := Lib.hid hw5; have HC5 := Lib.hid hc5; have HL5 := Lib.hid hL5; have HR5 := Lib.hid hR5; have HRL5 := Lib.hid hrl5; have HB5 := Lib.hid hb5; clear hw5 hc5 hL5 hR5 hrl5 hb5
    go_wp2_with fail
    rw [← HW5.out]
    clear HW5
    refine HC5.out.mono ?_
    rintro e w6 ⟨rfl, b1⟩
    have hL6 := (b1.block _ (lt_of_block HL5.out)).trans HL5.out
    have hR6 := (b1.block _ (lt_of_block HR5.out)).trans HR5.out
    have hrl6 := HRL5.out.later b1 (Nat.le_refl _)
    have hb6 := HB5.out.trans (b1.mono HB5.out.size)
    clear b1 HL5 HR5 HRL5 HB5 HC5
    -- Bounds
    obtain ⟨w7, hw7⟩ : ∃ w7, w7 = w6.alloc (.cells #[.int .i64 1, .int .i64 2] 26) := ⟨_, rfl⟩
    have b1 : Below w6.heap.size w6 w7 := by rw [hw7]; exact (Below.refl _ _).alloc (Nat.le_refl _) _
    have hc7 := aw_bndC w6.heap.size w7 (by rw [hw7]; exact heap_alloc_new _ _)
    have hL7 := (b1.block _ (lt_of_block hL6)).trans hL6
    have hR7 := (b1.block _ (lt_of_block hR6)).trans hR6
    have hrl7 := hrl6.later b1 (Nat.le_refl _)
    have hb7 := hb6.trans (b1.mono hb6.size)
    clear b1 hL6 hR6 hrl6 hb6
    have HW7 := Lib.hid hw7; have HC7 := Lib.hid hc7; have HL7 := Lib.hid hL7; have HR7 := Lib.hid hR7; have HRL7 := Lib.hid hrl7; have HB7 := Lib.hid hb7; clear hw7 hc7 hL7 hR7 hrl7 hb7
    go_wp2_with fail
    rw [← HW7.out]
    clear HW7
    refine HC7.out.mono ?_
    rintro e w8 ⟨rfl, b1⟩
    have hL8 := (b1.block _ (lt_of_block HL7.out)).trans HL7.out
    have hR8 := (b1.block _ (lt_of_block HR7.out)).trans HR7.out
    have hrl8 := HRL7.out.later b1 (Nat.le_refl _)
    have hb8 := HB7.out.trans (b1.mono HB7.out.size)
    clear b1 HL7 HR7 HRL7 HB7 HC7
    -- the block of the bounds, the gates
    obtain ⟨w9, hw9⟩ : ∃ w9, w9 = (w8.alloc (.cells #[.int .i64 1414, .int .i64 1415] 33)).alloc (.cells #[.int .i64 2, .int .i64 1, .int .i64 3] 68) := ⟨_, rfl⟩
    have b1 : Below w8.heap.size w8 w9 := by rw [hw9]; exact ((Below.refl _ _).alloc (Nat.le_refl _) _).alloc (by simp) _
    have hI9 : w9.heap[w8.heap.size]? = some (.cells #[.int .i64 1414, .int .i64 1415] 33 (0, 0)) := by rw [hw9]; exact heap_alloc2_old _ _ _
    have hG9 : w9.heap[w8.heap.size + 1]? = some (.cells #[.int .i64 2, .int .i64 1, .int .i64 3] 68 (0, 0)) := by rw [hw9]; exact heap_alloc2_new _ _ _
    have hL9 := (b1.block _ (lt_of_block hL8)).trans hL8
    have hR9 := (b1.block _ (lt_of_block hR8)).trans hR8
    have hrl9 := hrl8.later b1 (Nat.le_refl _)
    have hb9 := hb8.trans (b1.mono hb8.size)
    clear b1 hL8 hR8 hrl8 hb8
    have HW9 := Lib.hid hw9; have HI9 := Lib.hid hI9; have HG9 := Lib.hid hG9; have HL9 := Lib.hid hL9; have HR9 := Lib.hid hR9; have HRL9 := Lib.hid hrl9; have HB9 := Lib.hid hb9; clear hw9 hI9 hG9 hL9 hR9 hrl9 hb9
    go_upto_region 7 with fail
    rw [← HW9.out]
    clear HW9
    generalize w8.heap.size + 1 = GG at *
    generalize w8.heap.size = II at *
    go_wp2_with fail
    refine (lPt19_ 0 0 w9).mono ?_
    rintro e w10 ⟨rfl, b1⟩
    have hI10 := (b1.block _ (lt_of_block HI9.out)).trans HI9.out
    have hG10 := (b1.block _ (lt_of_block HG9.out)).trans HG9.out
    have hL10 := (b1.block _ (lt_of_block HL9.out)).trans HL9.out
    have hR10 := (b1.block _ (lt_of_block HR9.out)).trans HR9.out
    have hrl10 := HRL9.out.later b1 (Nat.le_refl _)
    have hb10 := HB9.out.trans (b1.mono HB9.out.size)
    clear b1 HI9 HG9 HL9 HR9 HRL9 HB9
    have HI10 := Lib.hid hI10; have HG10 := Lib.hid hG10; have HL10 := Lib.hid hL10; have HR10 := Lib.hid hR10; have HRL10 := Lib.hid hrl10; have HB10 := Lib.hid hb10; clear hI10 hG10 hL10 hR10 hrl10 hb10
    go_wp2_with fail
    refine (lPt19_ 0 4 w10).mono ?_
    rintro e w11 ⟨rfl, b1⟩
    have hI11 := (b1.block _ (lt_of_block HI10.out)).trans HI10.out
    have hG11 := (b1.block _ (lt_of_block HG10.out)).trans HG10.out
    have hL11 := (b1.block _ (lt_of_block HL10.out)).trans HL10.out
    have hR11 := (b1.block _ (lt_of_block HR10.out)).trans HR10.out
    have hrl11 := HRL10.out.later b1 (Nat.le_refl _)
    have hb11 := HB10.out.trans (b1.mono HB10.out.size)
    clear b1 HI10 HG10 HL10 HR10 HRL10 HB10
    have htc := aw_tautC GG w11 hG11
    have HI11 := Lib.hid hI11; have HG11 := Lib.hid hG11; have HL11 := Lib.hid hL11; have HR11 := Lib.hid hR11; have HRL11 := Lib.hid hrl11; have HB11 := Lib.hid hb11; have HTC := Lib.hid htc; clear hI11 hG11 hL11 hR11 hrl11 hb11 htc
    go_wp2_with fail
    refine HTC.out.mono ?_
    rintro e w12 ⟨WA, wk, rfl, hrw12, b1⟩
    have hI12 := (b1.block _ (lt_of_block HI11.out)).trans HI11.out
    have hG12 := (b1.block _ (lt_of_block HG11.out)).trans HG11.out
    have hL12 := (b1.block _ (lt_of_block HL11.out)).trans HL11.out
    have hR12 := (b1.block _ (lt_of_block HR11.out)).trans HR11.out
    have hrl12 := HRL11.out.later b1 (Nat.le_refl _)
    have hb12 := HB11.out.trans (b1.mono HB11.out.size)
    clear b1 HI11 HG11 HL11 HR11 HRL11 HB11 HTC
    have l0 := cell_of_row _ _ 0 _ _ _ hL12
    have l1 := cell_of_row _ _ 1 _ _ _ hL12
    have l2 := cell_of_row _ _ 2 _ _ _ hL12
    simp only [List.getElem?_toArray, List.getElem?_cons_zero, List.getElem?_cons_succ] at l0 l1 l2
    have hll := lt_of_block hL12
    have htg : ∀ W : World, Below w12.heap.size w12 ((W.alloc (.cells #[.int .i64 4, .int .i64 1] 26)).alloc (.cells #[.int .i64 0, .int .i64 0, .int .i64 0, .int .i64 4, .slice (some ⟨GG, 0, none⟩) 1 1, .slice (some ⟨W.heap.size, 0, none⟩) 1 1] 48)) → Calls Try.prog 29 #[.agg #[.int .i64 1, .int .i64 0, .int .i64 1], .slice (some ⟨W.heap.size + 1, 0, none⟩) 1 1] ((W.alloc (.cells #[.int .i64 4, .int .i64 1] 26)).alloc (.cells #[.int .i64 0, .int .i64 0, .int .i64 0, .int .i64 4, .slice (some ⟨GG, 0, none⟩) 1 1, .slice (some ⟨W.heap.size, 0, none⟩) 1 1] 48))
        fun e w' => ∃ A c, e = .returned (.tuple #[.slice A 1 c, .int .i64 0]) ∧ RdI w' A [0] ∧ Below w12.heap.size w12 w' := fun W hW2 => by
      refine (aw_tightC _ GG _ _ (heap_alloc2_new _ _ _) ((hW2.block _ (lt_of_block hG12)).trans hG12) (heap_alloc2_old _ _ _)).mono ?_
      rintro e w' ⟨A, c, he, hr, hb⟩
      exact ⟨A, c, he, hr, hW2.trans (hb.mono hW2.size)⟩
    have hpt : ∀ W : World, Below w12.heap.size w12 W → Calls Try.prog 37 #[.int .i64 0, .int .i64 4] W fun e w' => e = .returned (.agg #[.int .i64 0, .int .i64 4]) ∧ Below w12.heap.size w12 w' ∧ w'.cell? ⟨w.heap.size, 0, none⟩ = some (.int .i64 1) ∧ w'.cell? ⟨w.heap.size, 1, none⟩ = some (.int .i64 0) ∧ w'.cell? ⟨w.heap.size, 2, none⟩ = some (.int .i64 1) ∧ w.heap.size < w'.heap.size ∧ (W.heap[w12.heap.size]? = some (.cells #[.int .i64 4, .int .i64 1] 26 (0, 0)) → w'.heap[w12.heap.size]? = some (.cells #[.int .i64 4, .int .i64 1] 26 (0, 0))) := fun W hW => by
      refine (lPt19_ 0 4 W).mono ?_
      rintro e w' ⟨he, hb⟩
      have hb2 := hW.trans (hb.mono hW.size)
      exact ⟨he, hb2, below_at hb2 (Nat.le_refl _) l0, below_at hb2 (Nat.le_refl _) l1, below_at hb2 (Nat.le_refl _) l2, Nat.lt_of_lt_of_le hll hb2.size, fun h => (hb.block _ (lt_of_block h)).trans h⟩
    have htg2 : ∀ W : World, Below w12.heap.size w12 W → W.heap[w12.heap.size]? = some (.cells #[.int .i64 4, .int .i64 1] 26 (0, 0)) → Calls Try.prog 29 #[.agg #[.int .i64 1, .int .i64 0, .int .i64 1], .slice (some ⟨W.heap.size, 0, none⟩) 1 1] (W.alloc (.cells #[.int .i64 0, .int .i64 0, .int .i64 0, .int .i64 4, .slice (some ⟨GG, 0, none⟩) 1 1, .slice (some ⟨w12.heap.size, 0, none⟩) 1 1] 48))
        fun e w' => ∃ A c, e = .returned (.tuple #[.slice A 1 c, .int .i64 0]) ∧ RdI w' A [0] ∧ Below w12.heap.size w12 w' := fun W hW hR => by
      have hW2 : Below w12.heap.size w12 (W.alloc (.cells #[.int .i64 0, .int .i64 0, .int .i64 0, .int .i64 4, .slice (some ⟨GG, 0, none⟩) 1 1, .slice (some ⟨w12.heap.size, 0, none⟩) 1 1] 48)) := hW.alloc hW.size _
      refine (aw_tightC _ GG _ _ (heap_alloc_new _ _) ((hW2.block _ (lt_of_block hG12)).trans hG12) ((Below.heap_alloc W _ _ (lt_of_block hR)).trans hR)).mono ?_
      rintro e w' ⟨A, c, he, hr, hb⟩
      exact ⟨A, c, he, hr, hW2.trans (hb.mono hW2.size)⟩
    have HI12 := Lib.hid hI12; have HG12 := Lib.hid hG12; have HL12 := Lib.hid hL12; have HR12 := Lib.hid hR12; have HRL12 := Lib.hid hrl12; have HRW12 := Lib.hid hrw12; have HB12 := Lib.hid hb12; have HTG := Lib.hid htg; have HPT := Lib.hid hpt; have HTG2 := Lib.hid htg2; clear hI12 hG12 hL12 hR12 hrl12 hrw12 hb12 htg hpt htg2
    go_upto_region 8 with fail
    go_cut [13, 14] (fun sv ev wx => ∃ A c, sv = .slice A 1 c ∧ ev = .int .i64 0 ∧ RdI wx A [0] ∧ Below w12.heap.size w12 wx)
    case first =>
      go_region_with (first | (go_at_call 37; refine (HPT.out _ ?hq1).mono ?_; (case hq1 => first | (with_reducible exact Below.refl _ _) | (with_reducible exact (Below.refl _ _).drew) | exact ((Below.refl _ _).alloc (Nat.le_refl _) _).drew); rintro e w13 ⟨rfl, hb13, l0, l1, l2, hll, himp⟩) | (go_at_call 29; with_reducible refine (HTG.out w13 ?hq2).mono ?_; (case hq2 => exact (hb13.alloc hb13.size _).alloc (by have := hb13.size; simp; omega) _); rintro e w14 ⟨NA, nc, rfl, hrn, hbK⟩) | (go_at_call 29; with_reducible refine (HTG2.out w13 ?hq3 ?hq4).mono ?_; (case hq3 => exact hb13); (case hq4 => exact himp (heap_alloc_new _ _)); rintro e w14 ⟨NA, nc, rfl, hrn, hbK⟩))
      all_goals
        go_wp2_with fail
        go_meet
        exact ⟨NA, nc, rfl, rfl, hrn, hbK⟩
    case rest =>
      obtain ⟨NA, nc, rfl, rfl, hrn, hbc⟩ := hcut
      obtain ⟨w15, rfl⟩ : ∃ w15, w15 = wc := ⟨_, rfl⟩
      have hI15 := (hbc.block _ (lt_of_block HI12.out)).trans HI12.out
      have hR15 := (hbc.block _ (lt_of_block HR12.out)).trans HR12.out
      have hrl15 := HRL12.out.later hbc (Nat.le_refl _)
      have hrw15 := HRW12.out.later hbc (Nat.le_refl _)
      have hb15 := HB12.out.trans (hbc.mono HB12.out.size)
      clear hbc l0 l1 l2 hll HI12 HG12 HL12 HR12 HRL12 HRW12 HB12 HTG HPT HTG2
      have r0 := cell_of_row _ _ 0 _ _ _ hR15
      have r1 := cell_of_row _ _ 1 _ _ _ hR15
      simp only [List.getElem?_toArray, List.getElem?_cons_zero, List.getElem?_cons_succ] at r0 r1
      have hRl := lt_of_block hR15
      obtain ⟨w16, hw16⟩ : ∃ w16, w16 = w15.alloc (.cells #[.int .i64 5, .int .i64 1, .int .i64 3, .int .i64 2] 26) := ⟨_, rfl⟩
      have b1 : Below w15.heap.size w15 w16 := by rw [hw16]; exact (Below.refl _ _).alloc (Nat.le_refl _) _
      have hnew : RdR w16 (some ⟨w15.heap.size, 0, none⟩) [(5, 1), (3, 2)] := rdR_blk _ (by rw [hw16]; exact heap_alloc_new _ _) (by simp [rootC]) (by decide)
      have hcall := lSame19_ LA (some ⟨w15.heap.size, 0, none⟩) lc 2 [(5, 1), (3, 2)] [(5, 1), (3, 2)] w16 (hrl15.later b1 (Nat.le_refl _)) hnew
      rw [decide_eq_true rfl] at hcall
      have hI16 := (b1.block _ (lt_of_block hI15)).trans hI15
      have hrw16 := hrw15.later b1 (Nat.le_refl _)
      have hrn16 := hrn.later b1 (Nat.le_refl _)
      have hb16 := hb15.trans (b1.mono hb15.size)
      have hv1 := fun W => rtEq_ W
      have hv2 := fun W => ivEq_ W
      clear b1 hR15 hI15 hrl15 hrw15 hrn hb15 hnew
      have HW16 := Lib.hid hw16; have HCALL := Lib.hid hcall; have HI16 := Lib.hid hI16; have HRW16 := Lib.hid hrw16; have HRN16 := Lib.hid hrn16; have HB16 := Lib.hid hb16; clear hw16 hcall hI16 hrw16 hrn16 hb16
      go_wp2_with fail
      rw [← HW16.out]
      clear HW16
      refine HCALL.out.mono ?_
      rintro e w17 ⟨rfl, b1⟩
      have hI17 := (b1.block _ (lt_of_block HI16.out)).trans HI16.out
      have hrw17 := HRW16.out.later b1 (Nat.le_refl _)
      have hrn17 := HRN16.out.later b1 (Nat.le_refl _)
      have hb17 := HB16.out.trans (b1.mono HB16.out.size)
      clear b1 HI16 HRW16 HRN16 HB16 HCALL r0 r1 hRl
      have i0 := cell_of_row _ _ 0 _ _ _ hI17
      have i1 := cell_of_row _ _ 1 _ _ _ hI17
      simp only [List.getElem?_toArray, List.getElem?_cons_zero, List.getElem?_cons_succ] at i0 i1
      have hIl := lt_of_block hI17
      clear hI17
      have HRW17 := Lib.hid hrw17; have HRN17 := Lib.hid hrn17; have HB17 := Lib.hid hb17; clear hrw17 hrn17 hb17
      go_wp2_with fail
      refine (lPt19_ 0 0 w17).mono ?_
      rintro e w18 ⟨rfl, b1⟩
      have hrw18 := HRW17.out.later b1 (Nat.le_refl _)
      have hrn18 := HRN17.out.later b1 (Nat.le_refl _)
      have hb18 := HB17.out.trans (b1.mono HB17.out.size)
      clear b1 HRW17 HRN17 HB17 i0 i1 hIl
      have HRW18 := Lib.hid hrw18; have HRN18 := Lib.hid hrn18; have HB18 := Lib.hid hb18; clear hrw18 hrn18 hb18
      go_wp2_with fail
      refine (lPt19_ 1 2 w18).mono ?_
      rintro e w19 ⟨rfl, b1⟩
      have hrw19 := HRW18.out.later b1 (Nat.le_refl _)
      have hrn19 := HRN18.out.later b1 (Nat.le_refl _)
      have hb19 := HB18.out.trans (b1.mono HB18.out.size)
      clear b1 HRW18 HRN18 HB18
      have HRW19 := Lib.hid hrw19; have HRN19 := Lib.hid hrn19; have HB19 := Lib.hid hb19; clear hrw19 hrn19 hb19
      go_wp2_with fail
      refine (lPt19_ 0 4 w19).mono ?_
      rintro e w20 ⟨rfl, b1⟩
      have hrw20 := HRW19.out.later b1 (Nat.le_refl _)
      have hrn20 := HRN19.out.later b1 (Nat.le_refl _)
      have hb20 := HB19.out.trans (b1.mono HB19.out.size)
      clear b1 HRW19 HRN19 HB19
      obtain ⟨w21, hw21⟩ : ∃ w21, w21 = w20.alloc (.cells #[.int .i64 0, .int .i64 0, .int .i64 1, .int .i64 2, .int .i64 0, .int .i64 4] 45) := ⟨_, rfl⟩
      have b1 : Below w20.heap.size w20 w21 := by rw [hw21]; exact (Below.refl _ _).alloc (Nat.le_refl _) _
      have hnew : RdR w21 (some ⟨w20.heap.size, 0, none⟩) [(0, 0), (1, 2), (0, 4)] := rdR_blk _ (by rw [hw21]; exact heap_alloc_new _ _) (by simp [rootC]) (by decide)
      have hcall := lPoints19_ WA (some ⟨w20.heap.size, 0, none⟩) wk 3 [(0, 0), (1, 2), (0, 4)] [(0, 0), (1, 2), (0, 4)] w21 (hrw20.later b1 (Nat.le_refl _)) hnew
      rw [decide_eq_true rfl] at hcall
      have hrn21 := hrn20.later b1 (Nat.le_refl _)
      have hb21 := hb20.trans (b1.mono hb20.size)
      clear b1 hrw20 hrn20 hb20 hnew
      have HW21 := Lib.hid hw21; have HCALL := Lib.hid hcall; have HRN21 := Lib.hid hrn21; have HB21 := Lib.hid hb21; clear hw21 hcall hrn21 hb21
      go_wp2_with fail
      rw [← HW21.out]
      clear HW21
      refine HCALL.out.mono ?_
      rintro e w22 ⟨rfl, b1⟩
      have hrn22 := HRN21.out.later b1 (Nat.le_refl _)
      have hb22 := HB21.out.trans (b1.mono HB21.out.size)
      clear b1 HRN21 HB21 HCALL
      obtain ⟨w23, hw23⟩ : ∃ w23, w23 = w22.alloc (.cells #[.int .i64 0] 3) := ⟨_, rfl⟩
      have b1 : Below w22.heap.size w22 w23 := by rw [hw23]; exact (Below.refl _ _).alloc (Nat.le_refl _) _
      have hnew : RdI w23 (some ⟨w22.heap.size, 0, none⟩) [0] := rdI_blk _ (by rw [hw23]; exact heap_alloc_new _ _) (by simp [ints]) (by decide)
      have hcall := lInts19_ NA (some ⟨w22.heap.size, 0, none⟩) nc 1 [0] [0] w23 (hrn22.later b1 (Nat.le_refl _)) hnew
      rw [decide_eq_true rfl] at hcall
      have hb23 := hb22.trans (b1.mono hb22.size)
      clear b1 hrn22 hb22 hnew
      have HW23 := Lib.hid hw23; have HCALL := Lib.hid hcall; have HB23 := Lib.hid hb23; clear hw23 hcall hb23
      go_wp2_with fail
      rw [← HW23.out]
      clear HW23
      refine HCALL.out.mono ?_
      rintro e w24 ⟨rfl, b1⟩
      have hb24 := HB23.out.trans (b1.mono HB23.out.size)
      clear b1 HB23 HCALL
      have HB24 := Lib.hid hb24; clear hb24
      go_wp2
      go_ret
      exact ⟨rfl, HB24.out⟩
end Go.Proofs.Ytlmhgcllikcedaa
/- The law TensionWithin, walked. -/
namespace Go.Proofs.Ytlmhgcllikcedaa
open Go.RowKit

/-- A whole number as a sum. -/
def nbrL (n : Int) : List (Int × Int) := if n = 0 then [] else [(n, 1)]
theorem nbr_chk {n : Int} (h1 : -1000000000 ≤ n) (h2 : n ≤ 1000000000) : chkE (nbrL n) = 0 := by
  unfold nbrL
  split
  · decide
  · rename_i h
    unfold chkE
    rw [if_neg (by simp), if_neg (by simp [rngB, wrongB]; omega), if_pos]
    simp [normB]
    decide
theorem nbr_len (n : Int) : (nbrL n).length ≤ 1 := by unfold nbrL; split <;> simp
theorem nbr_vl (n : Int) (m : Nat) : vl (nbrL n) m = (n : Rat) := by
  unfold nbrL
  split
  · rename_i h; rw [h]; rfl
  · show (n : Rat) * rtq (1 : Int).toNat m + 0 = _
    rw [show (1 : Int).toNat = 1 from rfl, rtq_one]
    grind
theorem nbr_nm (n : Int) : Nm (nbrL n) := by
  unfold nbrL
  split
  · exact ⟨rfl, by simp⟩
  · rename_i h
    refine ⟨by simp [normB]; decide, fun x hx => ?_⟩
    rw [List.mem_singleton.1 hx]
    exact h
theorem cmpO_eq {a b : List (Int × Int)} (ha : chkE a = 0) (hb : chkE b = 0) : bothE a b = 0 ∧ cmpO a b = sgV (mg (-1) a b) := by
  have h : bothE a b = 0 := by unfold bothE; rw [if_neg (by simpa using ha)]; exact hb
  exact ⟨h, by unfold cmpO; rw [if_pos h]⟩
/-- THE PLAIN LAW. -/
theorem within_ok {xs : List (Int × Int)} (h : chkE xs = 0) (hl : xs.length ≤ 38) {lo hi : Int} (hb : bndV 1 xs = ((lo, hi), 0)) (h1 : -1000000000 ≤ lo) (h2 : hi ≤ 1000000000) :
    chkE (nbrL lo) = 0 ∧ chkE (nbrL hi) = 0 ∧ 0 ≤ cmpO xs (nbrL lo) ∧ cmpO xs (nbrL hi) ≤ 0 ∧ (lo = hi ∧ cmpO xs (nbrL lo) = 0 ∨ lo ≠ hi ∧ hi - lo = 1 ∧ 0 < cmpO xs (nbrL lo) ∧ cmpO xs (nbrL hi) < 0) := by
  obtain ⟨_, hn, _⟩ := chk_nm h
  have hst := bnd_stops h hl (sc := 1) (by decide) (by decide)
  unfold bndV at hb
  split at hb
  · injection hb with _ hb; cases hb
  have hlo : flT 1 xs = lo := by injection hb with hb _; injection hb
  have hhi : upT 1 xs = hi := by injection hb with hb _; injection hb
  clear hb
  unfold upT at hhi
  rw [hlo] at hhi
  unfold flT at hlo
  generalize bigQ = Q at *
  have hF := (flI_iff _ _ Q).1 hlo
  have hle : lo ≤ hi := by rw [← hhi]; split <;> omega
  have c1 := nbr_chk h1 (by omega)
  have c2 := nbr_chk (n := hi) (by omega) h2
  obtain ⟨e1, e2⟩ := cmpO_eq h c1
  obtain ⟨e3, e4⟩ := cmpO_eq h c2
  rw [e2, e4]
  obtain ⟨a1, a2, a3, a4⟩ := cmp_le hn (nbr_nm lo)
  obtain ⟨b1, b2, b3, b4⟩ := cmp_le hn (nbr_nm hi)
  have v1 : vl (nbrL lo) = fun _ => (lo : Rat) := funext fun m => nbr_vl lo m
  have v2 : vl (nbrL hi) = fun _ => (hi : Rat) := funext fun m => nbr_vl hi m
  rw [v1] at a1 a2
  rw [v2] at b1 b2
  have L := a2.2 (lo_le hn.ps hF.1)
  refine ⟨c1, c2, L, ?_⟩
  by_cases hi0 : intB xs = true
  · rw [if_pos hi0, Int.add_zero] at hhi
    subst hhi
    obtain ⟨k1, k2⟩ := int_val 1 hn.ps (int_all.1 hi0) Q
    have hU : upI 1 Q xs ≤ lo * ((2 ^ Q : Nat) : Int) := by
      have := flI_mul (wlV 1 xs) Q
      rw [← k1, hlo] at this
      rw [k2, this]
      exact Int.le_refl _
    have U := b1.2 (up_le hn.ps hU)
    exact ⟨U, .inl ⟨rfl, by omega⟩⟩
  · rw [if_neg hi0] at hhi
    have hi1 : intB xs = false := by simpa using hi0
    rw [stop_iff hi1] at hst
    have hG := (flI_iff _ _ Q).1 (hst.symm.trans hlo)
    have U := b1.2 (up_le (m := hi) hn.ps (q := Q) (by rw [← hhi]; omega))
    have hne : ∀ n, xs ≠ nbrL n := fun n e => by
      obtain ⟨x, hx, h3⟩ := int_no hi1
      rw [e] at hx
      unfold nbrL at hx
      split at hx
      · cases hx
      · rw [List.mem_singleton.1 hx] at h3
        simp at h3
    refine ⟨U, .inr ⟨by omega, by omega, ?_, ?_⟩⟩
    · rcases (by omega : 0 < sgV (mg (-1) xs (nbrL lo)) ∨ sgV (mg (-1) xs (nbrL lo)) = 0) with h | h
      · exact h
      · exact absurd (a3.1 h) (hne lo)
    · rcases (by omega : sgV (mg (-1) xs (nbrL hi)) < 0 ∨ sgV (mg (-1) xs (nbrL hi)) = 0) with h | h
      · exact h
      · exact absurd (b3.1 h) (hne hi)
theorem bndO_one {xs : List (Int × Int)} : ∃ lo hi E : Int, bndO xs 1 = ((lo, hi), E) ∧ (E ≠ 0 → lo = 0 ∧ hi = 0) ∧ (E = 0 → chkE xs = 0 ∧ bndV 1 xs = ((lo, hi), 0)) := by
  unfold bndO
  split
  · rename_i h
    exact ⟨0, 0, _, rfl, fun _ => ⟨rfl, rfl⟩, fun h0 => absurd h0 h⟩
  · rename_i h
    rw [if_neg (by decide), show (1 : Int).toNat = 1 from rfl]
    have hz : (bndV 1 xs).2 ≠ 0 → (bndV 1 xs).1 = (0, 0) := fun h0 => by
      unfold bndV at h0 ⊢
      by_cases h2 : flT 1 xs < -4000000000000000000 ∨ 4000000000000000000 < upT 1 xs
      · rw [if_pos h2]
      · rw [if_neg h2] at h0
        exact absurd rfl h0
    generalize bndV 1 xs = p at *
    obtain ⟨⟨lo, hi⟩, E⟩ := p
    refine ⟨lo, hi, E, rfl, fun h0 => ?_, fun h0 => ⟨by simpa using h, by rw [h0]⟩⟩
    have := hz h0
    injection this with h1 h2
    exact ⟨h1, h2⟩
set_option maxRecDepth 100000 in
set_option maxHeartbeats 4000000 in
theorem lNumber19_ (n : Int) (w : World) : Calls Try.prog 33 #[.int .i64 n] w fun e w' => ∃ A c, e = .returned (.slice A (nbrL n).length c) ∧ RdR w' A (nbrL n) ∧ (nbrL n).length ≤ c ∧ Below w.heap.size w w' := by
  have hb := Below.refl w.heap.size w
  by_cases h0 : n = 0
  · have e : nbrL n = [] := by unfold nbrL; rw [if_pos h0]
    rw [e]
    subst h0
    have HB := Lib.hid hb; have E := Lib.hid e; clear hb e
    go_enter Try.func33, Try.ntmps33
    go_wp2
    go_ret
    exact ⟨none, 0, rfl, ⟨by simp, fun h => by simp at h⟩, Nat.le_refl _, HB.out⟩
  · have e : nbrL n = [(n, 1)] := by unfold nbrL; rw [if_neg h0]
    rw [e]
    have f1 : (n == 0) = false := by rw [beq_eq_false_iff_ne]; exact h0
    have hnew : RdR (w.alloc (.cells #[.int .i64 n, .int .i64 1] 26)) (some ⟨w.heap.size, 0, none⟩) [(n, 1)] := rdR_blk _ (heap_alloc_new _ _) (by simp [rootC]) (by simp)
    have hb1 : Below w.heap.size w (w.alloc (.cells #[.int .i64 n, .int .i64 1] 26)) := (Below.refl _ _).alloc (Nat.le_refl _) _
    have HB := Lib.hid hb; have E := Lib.hid e; have H0 := Lib.hid h0; have HNEW := Lib.hid hnew; have HB1 := Lib.hid hb1; clear hb e h0 hnew hb1
    go_enter Try.func33, Try.ntmps33
    go_wp2
    go_ret
    exact ⟨_, _, rfl, HNEW.out, Nat.le_refl _, HB1.out⟩
set_option maxRecDepth 100000 in
theorem ivEq0_ (w : World) : (binOp .eql 33 (.agg #[.int .i64 0, .int .i64 0]) (.agg #[.int .i64 0, .int .i64 0])).run Try.prog w = .ok (.bool true) w := by
  have hS : Try.prog.underlying 33 = some (.struct (Try.prog.fieldsOf 33)) := by kernel_rfl
  have hp : Try.prog.stoodInHeld 33 = false := by kernel_rfl
  rw [run_eql_struct, show (10000 : Nat) = 9999 + 1 from rfl, run_equalIn_agg w 9999 33 _ _ hS hp]
  simp only [Program.fieldsOf, Try.underlying33]
  go_simp
set_option maxRecDepth 100000 in
set_option maxHeartbeats 16000000 in
theorem lawWithin_ (A : Option Addr) (c : Nat) (xs : List (Int × Int)) (w : World) (hr : RdR w A xs) (hc : xs.length ≤ c) :
    Calls Try.prog 8 #[.slice A xs.length c] w fun e w' => e = .returned (.bool true) ∧ Below w.heap.size w w' := by
  have hln := hr.1
  have haw := fun W => awake19_ W
  by_cases h6 : 6 < xs.length
  · have f1 : decide ((6 : Int) < (xs.length : Int)) = true := decide_eq_true (by omega)
    have HR := Lib.hid hr; have HC := Lib.hid hc; have HAW := Lib.hid haw; have HLN := Lib.hid hln; clear hr hc haw hln
    go_enter Try.func8, Try.ntmps8
    go_wp2_with fail
    refine (HAW.out _).mono ?_
    rintro e w1 ⟨rfl, hb1⟩
    have HB1 := Lib.hid hb1; clear hb1
    go_wp2
    go_ret
    exact ⟨rfl, HB1.out⟩
  have f1 : decide ((6 : Int) < (xs.length : Int)) = false := decide_eq_false (by omega)
  obtain ⟨lo, hi, E, hbd, hE1, hE2⟩ := @bndO_one xs
  have hcall := tnBounds_ A c 1 xs w hr (fun _ => by omega)
  unfold IvPost at hcall
  rw [hbd] at hcall
  simp only at hcall
  have h38 : xs.length ≤ 6 := by omega
  have HR := Lib.hid hr; have HC := Lib.hid hc; have HAW := Lib.hid haw; have HLN := Lib.hid hln; have HBD := Lib.hid hbd; have HE1 := Lib.hid hE1; have HE2 := Lib.hid hE2; have HCALL := Lib.hid hcall; have H38 := Lib.hid h38; clear hr hc haw hln hbd hE1 hE2 hcall h38
  go_enter Try.func8, Try.ntmps8
  go_wp2_with fail
  refine HCALL.out.mono ?_
  rintro e w1 ⟨rfl, b1⟩
  obtain ⟨w2, hw2⟩ : ∃ w2, w2 = w1.alloc (.cells #[.int .i64 lo, .int .i64 hi] 33) := ⟨_, rfl⟩
  have hb2 : Below w.heap.size w w2 := by rw [hw2]; exact b1.alloc b1.size _
  have hI : w2.heap[w1.heap.size]? = some (.cells #[.int .i64 lo, .int .i64 hi] 33 (0, 0)) := by rw [hw2]; exact heap_alloc_new _ _
  clear b1
  have HW2 := Lib.hid hw2; have HB2 := Lib.hid hb2; have HI := Lib.hid hI; clear hw2 hb2 hI
  go_upto_region 4 with fail
  rw [← HW2.out]
  clear HW2
  generalize w1.heap.size = II at *
  have i0 := cell_of_row _ _ 0 _ _ _ HI.out
  have i1 := cell_of_row _ _ 1 _ _ _ HI.out
  simp only [List.getElem?_toArray, List.getElem?_cons_zero, List.getElem?_cons_succ] at i0 i1
  have hIl := lt_of_block HI.out
  by_cases hE : E = 0
  rotate_left
  · obtain ⟨rfl, rfl⟩ := HE1.out hE
    have g1 : (E != 0) = true := by simp [hE]
    have g2 : (E == 0) = false := by simp [hE]
    have hv := fun W => ivEq0_ W
    have HE := Lib.hid hE; clear hE
    go_wp2_with fail
    refine (HAW.out _).mono ?_
    rintro e w3 ⟨rfl, b1⟩
    have hb3 := HB2.out.trans (b1.mono HB2.out.size)
    clear b1 i0 i1 hIl
    have HB3 := Lib.hid hb3; clear hb3
    go_wp2
    go_ret
    exact ⟨rfl, HB3.out⟩
  obtain ⟨hchk, hbv⟩ := HE2.out hE
  subst hE
  by_cases hlo : lo < -1000000000
  · have g1 : decide (lo < -1000000000) = true := decide_eq_true hlo
    have HCHK := Lib.hid hchk; have HBV := Lib.hid hbv; have HLO := Lib.hid hlo; clear hchk hbv hlo
    go_wp2_with fail
    refine (HAW.out _).mono ?_
    rintro e w3 ⟨rfl, b1⟩
    have hb3 := HB2.out.trans (b1.mono HB2.out.size)
    clear b1 i0 i1 hIl
    have HB3 := Lib.hid hb3; clear hb3
    go_wp2
    go_ret
    exact ⟨rfl, HB3.out⟩
  have g1 : decide (lo < -1000000000) = false := decide_eq_false hlo
  by_cases hhi : 1000000000 < hi
  · have g2 : decide (1000000000 < hi) = true := decide_eq_true hhi
    have HCHK := Lib.hid hchk; have HBV := Lib.hid hbv; have HLO := Lib.hid hlo; have HHI := Lib.hid hhi; clear hchk hbv hlo hhi
    go_wp2_with fail
    refine (HAW.out _).mono ?_
    rintro e w3 ⟨rfl, b1⟩
    have hb3 := HB2.out.trans (b1.mono HB2.out.size)
    clear b1 i0 i1 hIl
    have HB3 := Lib.hid hb3; clear hb3
    go_wp2
    go_ret
    exact ⟨rfl, HB3.out⟩
  have g2 : decide (1000000000 < hi) = false := decide_eq_false hhi
  obtain ⟨c1, c2, L, U, hfin⟩ := within_ok hchk (by have := H38.out; omega) hbv (by omega) (by omega)
  have hbo1 := (cmpO_eq hchk c1).1
  have hbo2 := (cmpO_eq hchk c2).1
  have hw1 : IntKind.i64.wrap (hi - lo) = hi - lo := by
    have : lo ≤ hi + 1 := by omega
    exact IntWalk.i64_in _ (by omega)
  have hc1 := fun B d W (h : RdR W A xs) (hb : RdR W B (nbrL lo)) (hd : (nbrL lo).length ≤ d) => tnCmp_ A B c d 40 xs (nbrL lo) W h hb HC.out hd (by decide) (cmp_stops (by have := nbr_len lo; have := H38.out; omega))
  have hc2 := fun B d W (h : RdR W A xs) (hb : RdR W B (nbrL hi)) (hd : (nbrL hi).length ≤ d) => tnCmp_ A B c d 40 xs (nbrL hi) W h hb HC.out hd (by decide) (cmp_stops (by have := nbr_len hi; have := H38.out; omega))
  rw [hbo1] at hc1
  rw [hbo2] at hc2
  generalize cmpO xs (nbrL lo) = P at *
  generalize cmpO xs (nbrL hi) = Q at *
  have HCHK := Lib.hid hchk; have HBV := Lib.hid hbv; have HLO := Lib.hid hlo; have HHI := Lib.hid hhi; have C1 := Lib.hid c1; have C2 := Lib.hid c2; have HBO1 := Lib.hid hbo1; have HBO2 := Lib.hid hbo2; have HC1 := Lib.hid hc1; have HC2 := Lib.hid hc2; clear hchk hbv hlo hhi c1 c2 hbo1 hbo2 hc1 hc2
  go_wp2_with fail
  refine (lNumber19_ lo w2).mono ?_
  rintro e w3 ⟨B1, d1, rfl, hr1, hd1, b1⟩
  have hI3 := (b1.block _ (lt_of_block HI.out)).trans HI.out
  have hb3 := HB2.out.trans (b1.mono HB2.out.size)
  clear b1 i0 i1 hIl
  have hk := HC1.out B1 d1 w3 (HR.out.later hb3 (Nat.le_refl _)) hr1 hd1
  have HI3 := Lib.hid hI3; have HB3 := Lib.hid hb3; have HK := Lib.hid hk; have HR1 := Lib.hid hr1; have HD1 := Lib.hid hd1; clear hI3 hb3 hk hr1 hd1
  go_wp2_with fail
  refine HK.out.mono ?_
  rintro e w4 ⟨rfl, b1⟩
  have hI4 := (b1.block _ (lt_of_block HI3.out)).trans HI3.out
  have hb4 := HB3.out.trans (b1.mono HB3.out.size)
  clear b1 HK HR1 HI3 HB3 HC1
  have i0 := cell_of_row _ _ 0 _ _ _ hI4
  have i1 := cell_of_row _ _ 1 _ _ _ hI4
  simp only [List.getElem?_toArray, List.getElem?_cons_zero, List.getElem?_cons_succ] at i0 i1
  have hIl := lt_of_block hI4
  have HI4 := Lib.hid hI4; have HB4 := Lib.hid hb4; clear hI4 hb4
  go_wp2_with fail
  refine (lNumber19_ hi w4).mono ?_
  rintro e w5 ⟨B2, d3, rfl, hr2, hd3, b1⟩
  have hI5 := (b1.block _ (lt_of_block HI4.out)).trans HI4.out
  have hb5 := HB4.out.trans (b1.mono HB4.out.size)
  clear b1 i0 i1 hIl
  have hk := HC2.out B2 d3 w5 (HR.out.later hb5 (Nat.le_refl _)) hr2 hd3
  have HI5 := Lib.hid hI5; have HB5 := Lib.hid hb5; have HK := Lib.hid hk; have HR2 := Lib.hid hr2; have HD3 := Lib.hid hd3; clear hI5 hb5 hk hr2 hd3
  go_wp2_with fail
  refine HK.out.mono ?_
  rintro e w6 ⟨rfl, b1⟩
  have hI6 := (b1.block _ (lt_of_block HI5.out)).trans HI5.out
  have hb6 := HB5.out.trans (b1.mono HB5.out.size)
  clear b1 HK HR2 HI5 HB5 HC2
  have i0 := cell_of_row _ _ 0 _ _ _ hI6
  have i1 := cell_of_row _ _ 1 _ _ _ hI6
  simp only [List.getElem?_toArray, List.getElem?_cons_zero, List.getElem?_cons_succ] at i0 i1
  have hIl := lt_of_block hI6
  have k1 : decide (P < 0) = false := decide_eq_false (by omega)
  have k2 : decide (0 < Q) = false := decide_eq_false (by omega)
  rcases hfin with ⟨e1, e2⟩ | ⟨e0, e1, e2, e3⟩
  · subst e1
    subst e2
    clear L U
    have HI6 := Lib.hid hI6; have HB6 := Lib.hid hb6; clear hI6 hb6
    go_wp2_with fail
    refine (HAW.out _).mono ?_
    rintro e w7 ⟨rfl, b1⟩
    have hb7 := HB6.out.trans (b1.mono HB6.out.size)
    clear b1 i0 i1 hIl
    have HB7 := Lib.hid hb7; clear hb7
    go_wp2
    go_ret
    exact ⟨rfl, HB7.out⟩
  · have k3 : decide (0 < P) = true := decide_eq_true e2
    have k4 : decide (Q < 0) = true := decide_eq_true e3
    have k5 : (lo == hi) = false := by rw [beq_eq_false_iff_ne]; exact e0
    have k6 : (hi - lo == 1) = true := by rw [e1]; rfl
    clear L U
    have HI6 := Lib.hid hI6; have HB6 := Lib.hid hb6; have E0 := Lib.hid e0; have E1 := Lib.hid e1; have E2 := Lib.hid e2; have E3 := Lib.hid e3; clear hI6 hb6 e0 e1 e2 e3
    go_wp2_with fail
    refine (HAW.out _).mono ?_
    rintro e w7 ⟨rfl, b1⟩
    have hb7 := HB6.out.trans (b1.mono HB6.out.size)
    clear b1 i0 i1 hIl
    have HB7 := Lib.hid hb7; clear hb7
    go_wp2
    go_ret
    exact ⟨rfl, HB7.out⟩
end Go.Proofs.Ytlmhgcllikcedaa
