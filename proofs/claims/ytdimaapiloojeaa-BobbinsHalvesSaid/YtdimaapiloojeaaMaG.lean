/- Texts of this claim, laid together: TnBds, OwnR, TnMg, TnGr, TnGr2, TnLenP, TnMax, TnLen, TnHi, BoNeed. -/
import Derived.Test.YtdimaapiloojeaaMaA
import Derived.Test.YtdimaapiloojeaaMaF
import Derived.Maps.AppendAt
/- Bounds of a sum. -/
namespace Go.Proofs.Ytdimaapiloojeaa
open Go.RowKit

def intB (xs : List (Int × Int)) : Bool := !(xs.any fun x => decide (1 < x.2))
def gF (sc b : Nat) (xs : List (Int × Int)) (j : Nat) : Nat := if j = 1 then vF sc b xs 1 + (if intB xs = true then 0 else 1) else vF sc b xs j
def lsV (sc : Nat) (xs : List (Int × Int)) (b : Nat) : Nat := flV (gF sc b xs 0) (gF sc b xs 3) b
def lsB (sc : Nat) (xs : List (Int × Int)) (b : Nat) : Bool := flB (gF sc b xs 0) (gF sc b xs 3)
def mrV (sc : Nat) (xs : List (Int × Int)) (b : Nat) : Nat := flV (gF sc b xs 2) (gF sc b xs 1) b
def mrB (sc : Nat) (xs : List (Int × Int)) (b : Nat) : Bool := flB (gF sc b xs 2) (gF sc b xs 1)
def stopQ (sc : Nat) (xs : List (Int × Int)) (b : Nat) : Bool := intB xs || (lsB sc xs b == mrB sc xs b && decide (lsV sc xs b = mrV sc xs b))
def loQ (v : Nat) (t : Bool) : Int := if 4000000000000000000 < v then 0 else if t = true then -(v : Int) else (v : Int)
def hiQ (i : Bool) (v : Nat) (t : Bool) : Int := if i = true then loQ v t else loQ v t + 1
def badQ (i : Bool) (v : Nat) (t : Bool) : Bool := decide (4000000000000000000 < v) || decide (4000000000000000000 < hiQ i v t)
def BdsPost (sc : Nat) (xs : List (Int × Int)) (M : Nat) (w : World) (e : Ending) (w' : World) : Prop :=
  ∃ b, 32 ≤ b ∧ b ≤ M ∧ stopQ sc xs b = true ∧ (e = .returned (.tuple (if badQ (intB xs) (lsV sc xs b) (lsB sc xs b) = true then #[.agg #[.int .i64 0, .int .i64 0], .int .i64 7] else #[.agg #[.int .i64 (loQ (lsV sc xs b) (lsB sc xs b)), .int .i64 (hiQ (intB xs) (lsV sc xs b) (lsB sc xs b))], .int .i64 0]))) ∧ Below w.heap.size w w'
theorem flV_le (p n b : Nat) : flV p n b ≤ max p n := by
  have hq := Nat.two_pow_pos b
  unfold flV
  generalize 2 ^ b = q at *
  split
  · have := Nat.div_le_self (p - n) q
    omega
  · rename_i h
    have h2 : (n - p + q - 1) / q ≤ n - p := by
      refine Nat.le_of_lt_succ ((Nat.div_lt_iff_lt_mul hq).2 ?_)
      have : n - p ≤ (n - p) * q := Nat.le_mul_of_pos_right _ hq
      rw [Nat.succ_mul]
      omega
    omega
theorem gF_lt {sc b : Nat} (hs : sc < 2 ^ 62) {xs : List (Int × Int)} (hm : Mod xs) (j : Nat) : gF sc b xs j < 2 ^ (166 + b) := by
  have h1 := vF_lt (bits := b) hs hm xs.length j
  have h2 := vF_lt (bits := b) hs hm xs.length 1
  rw [List.take_length] at h1 h2
  have e : 2 ^ (166 + b) = 2 ^ (165 + b) + 2 ^ (165 + b) := by rw [show 166 + b = (165 + b) + 1 by omega, Nat.pow_succ]; omega
  have hp := Nat.two_pow_pos (165 + b)
  unfold gF
  rw [e]
  generalize 2 ^ (165 + b) = X at *
  split
  · split <;> omega
  · omega
theorem gF_nl {sc b : Nat} (hs : sc < 2 ^ 62) {xs : List (Int × Int)} (hm : Mod xs) (hb : b ≤ 35184372088832) (j : Nat) : nl (gF sc b xs j) ≤ 1099511627784 := by
  refine Nat.le_trans (nl_bits (gF_lt hs hm j)) ?_
  omega
theorem vF_nl {sc b : Nat} (hs : sc < 2 ^ 62) {xs : List (Int × Int)} (hm : Mod xs) (hb : b ≤ 35184372088832) (j : Nat) : nl (vF sc b xs j) ≤ 1099511627784 := by
  have h := vF_lt (bits := b) hs hm xs.length j
  rw [List.take_length] at h
  refine Nat.le_trans (nl_bits h) ?_
  omega
theorem ls_nl {sc b : Nat} (hs : sc < 2 ^ 62) {xs : List (Int × Int)} (hm : Mod xs) (hb : b ≤ 35184372088832) : nl (lsV sc xs b) ≤ 1099511627784 ∧ nl (mrV sc xs b) ≤ 1099511627784 := by
  constructor
  · refine Nat.le_trans (nl_bits (b := 166 + b) (Nat.lt_of_le_of_lt (flV_le _ _ _) (Nat.max_lt.2 ⟨gF_lt hs hm _, gF_lt hs hm _⟩))) ?_
    omega
  · refine Nat.le_trans (nl_bits (b := 166 + b) (Nat.lt_of_le_of_lt (flV_le _ _ _) (Nat.max_lt.2 ⟨gF_lt hs hm _, gF_lt hs hm _⟩))) ?_
    omega
def ErrIv (x : Int) (w : World) (e : Ending) (w' : World) : Prop := e = .returned (.tuple #[.agg #[.int .i64 0, .int .i64 0], .int .i64 x]) ∧ Below w.heap.size w w'
set_option maxRecDepth 100000 in
set_option maxHeartbeats 4000000 in
theorem tnBounds_err (A : Option Addr) (c : Nat) (sc : Int) (xs : List (Int × Int)) (w : World) (hr : RdR w A xs) (h0 : chkE xs ≠ 0) :
    Calls Try.prog 42 #[.slice A xs.length c, .int .i64 sc] w (ErrIv (chkE xs) w) := by
  have hb : Below w.heap.size w (w.alloc (.cells #[.int .i64 0, .int .i64 0] 76)) := (Below.refl _ _).alloc (Nat.le_refl _) _
  have hx := heap_alloc_new w (.cells #[.int .i64 0, .int .i64 0] 76)
  have hr1 := hr.later hb (Nat.le_refl _)
  have f1 : (chkE xs != 0) = true := by simp [h0]
  generalize hce : chkE xs = ce at *
  have HB := Lib.hid hb; have HX := Lib.hid hx; have HR1 := Lib.hid hr1; have HR := Lib.hid hr; have H0 := Lib.hid h0; have HCE := Lib.hid hce; clear hb hx hr1 hr h0 hce
  go_enter Try.func42, Try.ntmps42
  go_wp2_with fail
  go_step3
  go_wp2_with fail
  refine (tnCheck_ A c xs _ HR1.out).mono ?_
  rw [HCE.out]
  rintro e w1 ⟨rfl, b1⟩
  have hb1 := HB.out.trans (b1.mono HB.out.size)
  have hx1 := (b1.block _ (lt_of_block HX.out)).trans HX.out
  have hl := lt_of_block hx1
  have c0 := cell_of_row _ _ 0 _ _ _ hx1
  have c1 := cell_of_row _ _ 1 _ _ _ hx1
  simp only [List.getElem?_toArray, List.getElem?_cons_zero, List.getElem?_cons_succ] at c0 c1
  have z0 := frozen_of_row _ _ 0 _ _ hx1
  have z1 := frozen_of_row _ _ 1 _ _ hx1
  have hb2 := fun u v => (hb1.setCell (p := ⟨w.heap.size, 0, none⟩) (Nat.le_refl _) u).setCell (p := ⟨w.heap.size, 1, none⟩) (Nat.le_refl _) v
  clear b1 HB HX
  have HB1 := Lib.hid hb1; have HX1 := Lib.hid hx1; have HB2 := Lib.hid hb2; clear hb1 hx1 hb2
  go_wp2
  try rw [Exit.noGoto_ret]
  refine bodyPost_ret (v := .tuple #[.agg #[.int .i64 0, .int .i64 0], .int .i64 ce]) (by simp [results, Try.results42, go_sem, c0, c1]) rfl ⟨rfl, HB2.out _ _⟩
set_option maxRecDepth 100000 in
set_option maxHeartbeats 4000000 in
theorem tnBounds_arg (A : Option Addr) (c : Nat) (sc : Int) (xs : List (Int × Int)) (w : World) (hr : RdR w A xs) (h0 : chkE xs = 0) (hsc : sc < 1 ∨ 1000000000 < sc) :
    Calls Try.prog 42 #[.slice A xs.length c, .int .i64 sc] w (ErrIv 2 w) := by
  have hb : Below w.heap.size w (w.alloc (.cells #[.int .i64 0, .int .i64 0] 76)) := (Below.refl _ _).alloc (Nat.le_refl _) _
  have hx := heap_alloc_new w (.cells #[.int .i64 0, .int .i64 0] 76)
  have hr1 := hr.later hb (Nat.le_refl _)
  have HB := Lib.hid hb; have HX := Lib.hid hx; have HR1 := Lib.hid hr1; have HR := Lib.hid hr; have H0 := Lib.hid h0; have HSC := Lib.hid hsc; clear hb hx hr1 hr h0 hsc
  go_enter Try.func42, Try.ntmps42
  go_wp2_with fail
  go_step3
  go_wp2_with fail
  refine (tnCheck_ A c xs _ HR1.out).mono ?_
  rw [H0.out]
  rintro e w1 ⟨rfl, b1⟩
  have hb1 := HB.out.trans (b1.mono HB.out.size)
  have hx1 := (b1.block _ (lt_of_block HX.out)).trans HX.out
  have hl := lt_of_block hx1
  have c0 := cell_of_row _ _ 0 _ _ _ hx1
  have c1 := cell_of_row _ _ 1 _ _ _ hx1
  simp only [List.getElem?_toArray, List.getElem?_cons_zero, List.getElem?_cons_succ] at c0 c1
  have z0 := frozen_of_row _ _ 0 _ _ hx1
  have z1 := frozen_of_row _ _ 1 _ _ hx1
  have hb2 := fun u v => (hb1.setCell (p := ⟨w.heap.size, 0, none⟩) (Nat.le_refl _) u).setCell (p := ⟨w.heap.size, 1, none⟩) (Nat.le_refl _) v
  clear b1 HB HX
  by_cases h1 : sc < 1
  · have f1 : decide (sc < 1) = true := decide_eq_true h1
    have HB1 := Lib.hid hb1; have HX1 := Lib.hid hx1; have HB2 := Lib.hid hb2; clear hb1 hx1 hb2
    go_wp2
    try rw [Exit.noGoto_ret]
    refine bodyPost_ret (v := .tuple #[.agg #[.int .i64 0, .int .i64 0], .int .i64 2]) (by simp [results, Try.results42, go_sem, c0, c1]) rfl ⟨rfl, HB2.out _ _⟩
  · have f1 : decide (sc < 1) = false := decide_eq_false h1
    have h2 : 1000000000 < sc := HSC.out.resolve_left h1
    have f2 : decide (1000000000 < sc) = true := decide_eq_true h2
    have HB1 := Lib.hid hb1; have HX1 := Lib.hid hx1; have HB2 := Lib.hid hb2; clear hb1 hx1 hb2
    go_wp2
    try rw [Exit.noGoto_ret]
    refine bodyPost_ret (v := .tuple #[.agg #[.int .i64 0, .int .i64 0], .int .i64 2]) (by simp [results, Try.results42, go_sem, c0, c1]) rfl ⟨rfl, HB2.out _ _⟩
def Halt (sc : Nat) (xs : List (Int × Int)) (J : Nat) : Prop := J ≤ 40 ∧ stopQ sc xs (32 * 2 ^ J) = true
theorem mod_of_chk {xs : List (Int × Int)} (h : chkE xs = 0) : Mod xs := by
  unfold chkE at h
  split at h
  · cases h
  · rename_i h1
    split at h
    · cases h
    · rename_i h2
      refine ⟨by omega, fun x hx => ?_⟩
      have h3 : xs.any rngB = false := by simpa using h2
      have := List.any_eq_false.1 h3 x hx
      unfold rngB wrongB at this
      simp at this
      omega
set_option maxRecDepth 100000 in
set_option maxHeartbeats 8000000 in
theorem tnBounds_ok (A : Option Addr) (c sc : Nat) (xs : List (Int × Int)) (w : World) (hr : RdR w A xs) (h0 : chkE xs = 0) (hsc1 : 1 ≤ sc) (hsc2 : sc ≤ 1000000000) (J : Nat) (hJ : J ≤ 40) (hstop : stopQ sc xs (32 * 2 ^ J) = true) :
    Calls Try.prog 42 #[.slice A xs.length c, .int .i64 (sc : Int)] w (BdsPost sc xs (32 * 2 ^ J) w) := by
  have hb : Below w.heap.size w (w.alloc (.cells #[.int .i64 0, .int .i64 0] 76)) := (Below.refl _ _).alloc (Nat.le_refl _) _
  have hx := heap_alloc_new w (.cells #[.int .i64 0, .int .i64 0] 76)
  have hr1 := hr.later hb (Nat.le_refl _)
  have hmod := mod_of_chk h0
  have HB := Lib.hid hb; have HX := Lib.hid hx; have HR1 := Lib.hid hr1; have HR := Lib.hid hr; have H0 := Lib.hid h0; have HMOD := Lib.hid hmod; have HSC1 := Lib.hid hsc1; have HSC2 := Lib.hid hsc2; have HJ := Lib.hid hJ; have HSTOP := Lib.hid hstop; clear hb hx hr1 hr h0 hmod hsc1 hsc2 hJ hstop
  go_enter Try.func42, Try.ntmps42
  go_wp2_with fail
  go_step3
  go_wp2_with fail
  refine (tnCheck_ A c xs _ HR1.out).mono ?_
  rw [H0.out]
  rintro e w1 ⟨rfl, b1⟩
  have hb1 := HB.out.trans (b1.mono HB.out.size)
  have hx1 := (b1.block _ (lt_of_block HX.out)).trans HX.out
  have hr2 := HR.out.later hb1 (Nat.le_refl _)
  clear b1 HB HX HR1
  have f1 : decide ((sc : Int) < 1) = false := decide_eq_false (by have := HSC1.out; omega)
  have f2 : decide ((1000000000 : Int) < (sc : Int)) = false := decide_eq_false (by have := HSC2.out; omega)
  have HB1 := Lib.hid hb1; have HX1 := Lib.hid hx1; have HR2 := Lib.hid hr2; clear hb1 hx1 hr2
  go_wp2_with fail
  refine (contR_ 68 (.inr rfl) _ tnBounds1_ A c xs _ HR2.out).mono ?_
  rintro e w2 ⟨rfl, b1⟩
  have hb2 := HB1.out.trans (b1.mono HB1.out.size)
  have hx2 := (b1.block _ (lt_of_block HX1.out)).trans HX1.out
  clear b1 HB1 HX1 HR2 f1 f2
  have HB2 := Lib.hid hb2; have HX2 := Lib.hid hx2; clear hb2 hx2
  rcases Bool.eq_false_or_eq_true (xs.any fun x => decide (1 < x.2)) with han | han <;> rw [han]
  · have hint : intB xs = false := by unfold intB; rw [han]; rfl
    have HAN := Lib.hid han; have HINT := Lib.hid hint; clear han hint
    go_wp2
    go_step3
    go_wp2
    go_loopw [8, 9, 10, 11, 12, 13] (fun _ _ bv _ _ _ wr => ∃ j : Nat, bv = .int .u64 ((32 * 2 ^ j : Nat) : Int) ∧ j ≤ J ∧ wr.heap[w.heap.size]? = some (.cells #[.int .i64 0, .int .i64 0] 76 (0, 0)) ∧ Below w.heap.size w wr) (fun _ _ bv _ _ _ _ => 32 * 2 ^ J - (intOf bv).toNat)
    case atStart => exact ⟨0, rfl, Nat.zero_le _, HX2.out, HB2.out⟩
    case round =>
      clear HX2 HB2
      obtain ⟨j, rfl, hjJ, hx, hbw⟩ := hrel
      have hrr := HR.out.later hbw (Nat.le_refl _)
      have hbM : 32 * 2 ^ j ≤ 32 * 2 ^ J := Nat.mul_le_mul_left _ (Nat.pow_le_pow_right (by decide) hjJ)
      have hbM2 : 32 * 2 ^ J ≤ 35184372088832 := Nat.mul_le_mul_left 32 (Nat.pow_le_pow_right (show 2 > 0 by decide) HJ.out : 2 ^ J ≤ 2 ^ 40)
      have hb1 : 32 ≤ 32 * 2 ^ j := by have := Nat.two_pow_pos j; omega
      have hnx : 32 * 2 ^ (j + 1) = 2 * (32 * 2 ^ j) := by rw [Nat.pow_succ]; omega
      have hst : j = J → stopQ sc xs (32 * 2 ^ j) = true := fun h => by subst h; exact HSTOP.out
      have hlt : j < J → 32 * 2 ^ (j + 1) ≤ 32 * 2 ^ J := fun h => Nat.mul_le_mul_left _ (Nat.pow_le_pow_right (by decide) h)
      generalize hM : 32 * 2 ^ J = M at *
      generalize hbe : 32 * 2 ^ j = b at *
      generalize hb2e : 32 * 2 ^ (j + 1) = bb at *
      have hbt := fun W h => tnBetween_ A c sc b xs W h HMOD.out (by have := HSC2.out; omega) (by omega)
      have hgn := fun q => gF_nl (sc := sc) (b := b) (xs := xs) (by have := HSC2.out; omega) HMOD.out (by omega) q
      have hvn := fun q => vF_nl (sc := sc) (b := b) (xs := xs) (by have := HSC2.out; omega) HMOD.out (by omega) q
      have hln := ls_nl (sc := sc) (b := b) (xs := xs) (by have := HSC2.out; omega) HMOD.out (by omega)
      have hwr : IntKind.u64.wrap ((b : Int) * 2) = (bb : Int) := by rw [IntWalk.u64_in _ (by omega)]; omega
      have HJJ := Lib.hid hjJ; have HX := Lib.hid hx; have HBW := Lib.hid hbw; have HRR := Lib.hid hrr; have HBM := Lib.hid hbM; have HBM2 := Lib.hid hbM2; have HB1 := Lib.hid hb1; have HNX := Lib.hid hnx; have HST := Lib.hid hst; have HLT := Lib.hid hlt; have HBT := Lib.hid hbt; have HGN := Lib.hid hgn; have HVN := Lib.hid hvn; have HLN := Lib.hid hln; have HM := Lib.hid hM; have HBE := Lib.hid hbe; have HB2E := Lib.hid hb2e; clear hjJ hx hbw hrr hbM hbM2 hb1 hnx hst hlt hbt hgn hvn hln hM hbe hb2e
      go_wp2_with fail
      refine (HBT.out _ HRR.out).mono ?_
      rintro e w1 ⟨VA, VC, rfl, hvv, b1⟩
      have hx1 := (b1.block _ (lt_of_block HX.out)).trans HX.out
      have hbw1 := HBW.out.trans (b1.mono HBW.out.size)
      clear b1 HX HBW HRR
      have hV : VB (w1.alloc (.cells #[.slice (VA 0) (nl (vF sc b xs 0)) (VC 0), .slice (VA 1) (nl (vF sc b xs 1)) (VC 1), .slice (VA 2) (nl (vF sc b xs 2)) (VC 2), .slice (VA 3) (nl (vF sc b xs 3)) (VC 3)] 106)) w1.heap.size (vF sc b xs) VA VC := by
        have hbT : Below w1.heap.size w1 (w1.alloc (.cells #[.slice (VA 0) (nl (vF sc b xs 0)) (VC 0), .slice (VA 1) (nl (vF sc b xs 1)) (VC 1), .slice (VA 2) (nl (vF sc b xs 2)) (VC 2), .slice (VA 3) (nl (vF sc b xs 3)) (VC 3)] 106)) := (Below.refl _ _).alloc (Nat.le_refl _) _
        exact ⟨heap_alloc_new _ _, fun j hj => (hvv j hj).1.later hbT (Nat.le_refl _), fun j hj => (hvv j hj).2⟩
      have hx2 : (w1.alloc (.cells #[.slice (VA 0) (nl (vF sc b xs 0)) (VC 0), .slice (VA 1) (nl (vF sc b xs 1)) (VC 1), .slice (VA 2) (nl (vF sc b xs 2)) (VC 2), .slice (VA 3) (nl (vF sc b xs 3)) (VC 3)] 106)).heap[w.heap.size]? = some (.cells #[.int .i64 0, .int .i64 0] 76 (0, 0)) := by rw [heap_alloc_old _ _ (lt_of_block hx1)]; exact hx1
      have hbw2 : Below w.heap.size w (w1.alloc (.cells #[.slice (VA 0) (nl (vF sc b xs 0)) (VC 0), .slice (VA 1) (nl (vF sc b xs 1)) (VC 1), .slice (VA 2) (nl (vF sc b xs 2)) (VC 2), .slice (VA 3) (nl (vF sc b xs 3)) (VC 3)] 106)) := hbw1.alloc hbw1.size _
      have hVw : w.heap.size < w1.heap.size := lt_of_block hx1
      clear hvv hx1 hbw1
      have HV := Lib.hid hV; have HX2 := Lib.hid hx2; have HBW2 := Lib.hid hbw2; have HVW := Lib.hid hVw; clear hV hx2 hbw2 hVw
      go_upto_region 13 with fail
      obtain ⟨w2, hw2⟩ : ∃ w2, w2 = w1.alloc (.cells #[.slice (VA 0) (nl (vF sc b xs 0)) (VC 0), .slice (VA 1) (nl (vF sc b xs 1)) (VC 1), .slice (VA 2) (nl (vF sc b xs 2)) (VC 2), .slice (VA 3) (nl (vF sc b xs 3)) (VC 3)] 106) := ⟨_, rfl⟩
      have hV3 := HV.out
      have hx3 := HX2.out
      have hbw3 := HBW2.out
      rw [← hw2] at hV3 hx3 hbw3 ⊢
      clear HV HX2 HBW2 hw2
      generalize w1.heap.size = V at *
      have q1 := hV3.at_ (j := 1) (by decide)
      have hVl := hV3.lt
      have hbo : Below w2.heap.size w2 (w2.alloc (.cells #[.int .u32 1] 109)) := (Below.refl _ _).alloc (Nat.le_refl _) _
      have hone := one_at (w := w2)
      have hr1 := (hV3.rd 1 (by decide)).later hbo (Nat.le_refl _)
      have hV4 := hV3.later hbo
      have hx4 := (hbo.block _ (lt_of_block hx3)).trans hx3
      have hbw4 := hbw3.trans (hbo.mono hbw3.size)
      have n1 : nl 1 = 1 := by decide
      have hpl : ∀ R W, RdN W (VA 1) (vF sc b xs 1) → RdN W (some ⟨R, 0, none⟩) 1 → Calls Try.prog 70 #[.slice (VA 1) (nl (vF sc b xs 1)) (VC 1), .slice (some ⟨R, 0, none⟩) 1 1] W (NatPost (vF sc b xs 1 + 1) W) := fun R W h1 h2 => by
        have h := natPlus_ (VA 1) (some ⟨R, 0, none⟩) (VC 1) 1 (vF sc b xs 1) 1 W h1 h2 (by have := HVN.out 1; omega) (by omega)
        rw [n1] at h; exact h
      clear hbo n1
      generalize hf1 : vF sc b xs 1 = f1 at *
      have HV3 := Lib.hid hV3; have HX3 := Lib.hid hx3; have HBW3 := Lib.hid hbw3; have HONE := Lib.hid hone; have HR1 := Lib.hid hr1; have HV4 := Lib.hid hV4; have HX4 := Lib.hid hx4; have HBW4 := Lib.hid hbw4; have HPL := Lib.hid hpl; have HF1 := Lib.hid hf1; clear hV3 hx3 hbw3 hone hr1 hV4 hx4 hbw4 hpl hf1
      go_wp2_with fail
      refine (HPL.out _ _ HR1.out HONE.out).mono ?_
      rintro e w3 ⟨A1, c1, rfl, h1, hc1, b1⟩
      have hV5 := HV4.out.later b1
      have hx5 := (b1.block _ (lt_of_block HX4.out)).trans HX4.out
      have hbw5 := HBW4.out.trans (b1.mono HBW4.out.size)
      clear b1 HV3 HX3 HBW3 HONE HR1 HV4 HX4 HBW4 HPL q1 hVl
      have hz := hV5.free 1
      have q1 := hV5.at_ (j := 1) (by decide)
      rw [HF1.out] at q1
      have hVl := hV5.lt
      have hVp := hV5.put (j := 1) (by decide) h1 hc1
      have hxp := (heap_setCell_other w3 ⟨V, 1, none⟩ w.heap.size (.slice A1 (nl (f1 + 1)) c1) (by show w.heap.size ≠ V; have := HVW.out; omega)).trans hx5
      have hbwp := hbw5.setCell (p := ⟨V, 1, none⟩) (by show w.heap.size ≤ V; have := HVW.out; omega) (.slice A1 (nl (f1 + 1)) c1)
      have hVg : VB (w3.setCell ⟨V, 1, none⟩ (.slice A1 (nl (f1 + 1)) c1)) V (gF sc b xs) (upD VA 1 A1) (upD VC 1 c1) := hVp.eqv fun j hj => by
        unfold gF
        rw [HINT.out]
        by_cases e : j = 1
        · subst e; rw [upD_same, if_pos rfl, HF1.out]; rfl
        · rw [upD_other _ _ e, if_neg e]
      clear hVp h1 hc1 hV5 hx5 hbw5
      have HVG := Lib.hid hVg; have HXP := Lib.hid hxp; have HBWP := Lib.hid hbwp; clear hVg hxp hbwp
      go_upto_region 14 with fail
      have hVg := HVG.out
      have hx5 := HXP.out
      have hbw5 := HBWP.out
      clear HVG HXP HBWP q1 hz hVl
      obtain ⟨w2, hw2⟩ : ∃ w2, w2 = w3.setCell ⟨V, 1, none⟩ (.slice A1 (nl (f1 + 1)) c1) := ⟨_, rfl⟩
      rw [← hw2] at hVg hx5 hbw5 ⊢
      clear hw2
      generalize upD VA 1 A1 = VA at *
      generalize upD VC 1 c1 = VC at *
      have q0 := hVg.at_ (j := 0) (by decide)
      have q3 := hVg.at_ (j := 3) (by decide)
      have hVl := hVg.lt
      have r0 := hVg.rd 0 (by decide)
      have r3 := hVg.rd 3 (by decide)
      have hfl := fun W h h2 => tnFloor_ (VA 0) (VA 3) (VC 0) (VC 3) (gF sc b xs 0) (gF sc b xs 3) b W h h2 (by have := HGN.out 0; omega) (by have := HGN.out 3; omega) (by have := HBM.out; have := HBM2.out; omega)
      have hfl2 := fun W h h2 => tnFloor_ (VA 2) (VA 1) (VC 2) (VC 1) (gF sc b xs 2) (gF sc b xs 1) b W h h2 (by have := HGN.out 2; omega) (by have := HGN.out 1; omega) (by have := HBM.out; have := HBM2.out; omega)
      have HVG := Lib.hid hVg; have HX5 := Lib.hid hx5; have HBW5 := Lib.hid hbw5; have R0 := Lib.hid r0; have R3 := Lib.hid r3; have HFL := Lib.hid hfl; have HFL2 := Lib.hid hfl2; clear hVg hx5 hbw5 r0 r3 hfl hfl2
      go_wp2_with fail
      refine (HFL.out _ R0.out R3.out).mono ?_
      rintro e w6 ⟨A6, c6, rfl, h6, hc6, b1⟩
      have hVg6 := HVG.out.later b1
      have hx6 := (b1.block _ (lt_of_block HX5.out)).trans HX5.out
      have hbw6 := HBW5.out.trans (b1.mono HBW5.out.size)
      clear b1 HVG HX5 HBW5 R0 R3 q0 q3 hVl HFL
      have q1 := hVg6.at_ (j := 1) (by decide)
      have q2 := hVg6.at_ (j := 2) (by decide)
      have hVl := hVg6.lt
      have r1 := hVg6.rd 1 (by decide)
      have r2 := hVg6.rd 2 (by decide)
      change RdN w6 A6 (lsV sc xs b) at h6
      change nl (lsV sc xs b) ≤ c6 at hc6
      rw [show flV (gF sc b xs 0) (gF sc b xs 3) b = lsV sc xs b from rfl, show flB (gF sc b xs 0) (gF sc b xs 3) = lsB sc xs b from rfl]
      obtain ⟨lv, hlv⟩ : ∃ lv, lv = lsV sc xs b := ⟨_, rfl⟩
      obtain ⟨lb, hlb⟩ : ∃ lb, lb = lsB sc xs b := ⟨_, rfl⟩
      rw [← hlv, ← hlb]
      rw [← hlv] at h6 hc6
      have HVG6 := Lib.hid hVg6; have HX6 := Lib.hid hx6; have HBW6 := Lib.hid hbw6; have R1 := Lib.hid r1; have R2 := Lib.hid r2; have H6 := Lib.hid h6; have HC6 := Lib.hid hc6; have HLV := Lib.hid hlv; have HLB := Lib.hid hlb; clear hVg6 hx6 hbw6 r1 r2 h6 hc6 hlv hlb
      go_wp2_with fail
      refine (HFL2.out _ R2.out R1.out).mono ?_
      rintro e w7 ⟨A7, c7, rfl, h7, hc7, b1⟩
      have h67 := H6.out.later b1 (Nat.le_refl _)
      have hx7 := (b1.block _ (lt_of_block HX6.out)).trans HX6.out
      have hbw7 := HBW6.out.trans (b1.mono HBW6.out.size)
      clear b1 HVG6 HX6 HBW6 R1 R2 q1 q2 hVl HFL2 H6
      change RdN w7 A7 (mrV sc xs b) at h7
      rw [show flV (gF sc b xs 2) (gF sc b xs 1) b = mrV sc xs b from rfl, show flB (gF sc b xs 2) (gF sc b xs 1) = mrB sc xs b from rfl]
      obtain ⟨mv, hmv⟩ : ∃ mv, mv = mrV sc xs b := ⟨_, rfl⟩
      obtain ⟨mb, hmb⟩ : ∃ mb, mb = mrB sc xs b := ⟨_, rfl⟩
      rw [← hmv, ← hmb]
      rw [← hmv] at h7
      have hsq : stopQ sc xs b = (intB xs || (lb == mb && decide (lv = mv))) := by rw [HLB.out, HLV.out, hmv, hmb]; rfl
      have HMV := Lib.hid hmv; have HMB := Lib.hid hmb; clear hmv hmb
      rw [HINT.out, Bool.false_or] at hsq
      cases hbb : (lb == mb) with
      | false =>
        rw [hbb, Bool.false_and] at hsq
        have hne : j ≠ J := fun h => by have := HST.out h; rw [hsq] at this; cases this
        have H67 := Lib.hid h67; have HX7 := Lib.hid hx7; have HBW7 := Lib.hid hbw7; have H7 := Lib.hid h7; have HC7 := Lib.hid hc7; have HSQ := Lib.hid hsq; have HNE := Lib.hid hne; clear h67 hx7 hbw7 h7 hc7 hsq hne
        go_wp2
        go_roundw
        case rel => exact ⟨j + 1, by rw [HB2E.out], by have := HJJ.out; have := HNE.out; omega, HX7.out, HBW7.out⟩
        case measure => have h1 := HLT.out (by have := HJJ.out; have := HNE.out; omega); have h2 := HNX.out; have h3 := HB1.out; simp [intOf]; omega
      | true =>
        rw [hbb, Bool.true_and] at hsq
        have hcmp := natCompare_ A6 A7 c6 c7 lv mv w7 h67 h7 (by rw [HLV.out]; have := HLN.out.1; omega) (by rw [HMV.out]; have := HLN.out.2; omega)
        have H67 := Lib.hid h67; have HX7 := Lib.hid hx7; have HBW7 := Lib.hid hbw7; have H7 := Lib.hid h7; have HC7 := Lib.hid hc7; have HSQ := Lib.hid hsq; have HCMP := Lib.hid hcmp; clear h67 hx7 hbw7 h7 hc7 hsq hcmp
        go_wp2_with fail
        refine HCMP.out.mono ?_
        rintro e w8 ⟨z, rfl, hz, b1⟩
        have h68 := H67.out.later b1 (Nat.le_refl _)
        have hx8 := (b1.block _ (lt_of_block HX7.out)).trans HX7.out
        have hbw8 := HBW7.out.trans (b1.mono HBW7.out.size)
        clear b1 H67 HX7 HBW7 H7
        by_cases hzz : z = 0
        rotate_left
        · have y1 : (z == 0) = false := by rw [beq_eq_false_iff_ne]; exact hzz
          have hne2 : lv ≠ mv := fun h => hzz (hz.2.1.2 h)
          have hne : j ≠ J := fun h => by have := HST.out h; rw [HSQ.out, decide_eq_false hne2] at this; cases this
          have H68 := Lib.hid h68; have HX8 := Lib.hid hx8; have HBW8 := Lib.hid hbw8; have HZ := Lib.hid hz; have HZZ := Lib.hid hzz; have HNE := Lib.hid hne; have HNE2 := Lib.hid hne2; clear h68 hx8 hbw8 hz hzz hne hne2
          go_wp2
          go_roundw
          case rel => exact ⟨j + 1, by rw [HB2E.out], by have := HJJ.out; have := HNE.out; omega, HX8.out, HBW8.out⟩
          case measure => have h1 := HLT.out (by have := HJJ.out; have := HNE.out; omega); have h2 := HNX.out; have h3 := HB1.out; simp [intOf]; omega
        · subst hzz
          have heq : lv = mv := hz.2.1.1 rfl
          have hsq2 : stopQ sc xs b = true := by rw [HSQ.out, decide_eq_true heq]
          clear HSQ
          have H68 := Lib.hid h68; have HX8 := Lib.hid hx8; have HBW8 := Lib.hid hbw8; have HZ := Lib.hid hz; have HEQ := Lib.hid heq; have HSQ2 := Lib.hid hsq2; clear h68 hx8 hbw8 hz heq hsq2
          have hln2 : nl lv ≤ 281474976710656 := by rw [HLV.out]; have := HLN.out.1; omega
          have HLN2 := Lib.hid hln2; clear hln2
          go_wp2_with fail
          refine (tnSigned_ A6 c6 lv lb _ H68.out HLN2.out).mono ?_
          rintro e w9 ⟨rfl, b1⟩
          have hx9 := (b1.block _ (lt_of_block HX8.out)).trans HX8.out
          have hbw9 := HBW8.out.trans (b1.mono HBW8.out.size)
          clear b1 H68 HX8 HBW8
          have hl := lt_of_block hx9
          have c0 := cell_of_row _ _ 0 _ _ _ hx9
          have c1 := cell_of_row _ _ 1 _ _ _ hx9
          simp only [List.getElem?_toArray, List.getElem?_cons_zero, List.getElem?_cons_succ] at c0 c1
          have z0 := frozen_of_row _ _ 0 _ _ hx9
          have z1 := frozen_of_row _ _ 1 _ _ hx9
          have hb2 := fun u v => (hbw9.setCell (p := ⟨w.heap.size, 0, none⟩) (Nat.le_refl _) u).setCell (p := ⟨w.heap.size, 1, none⟩) (Nat.le_refl _) v
          have hlo : loQ lv lb = if 4000000000000000000 < lv then 0 else if lb = true then -(lv : Int) else (lv : Int) := rfl
          rw [← hlo]
          have hlr : -4000000000000000000 ≤ loQ lv lb ∧ loQ lv lb ≤ 4000000000000000000 := by
            rw [hlo]
            split
            · omega
            · split <;> omega
          have hhi : hiQ false lv lb = loQ lv lb + 1 := rfl
          have hbq : badQ false lv lb = (decide (4000000000000000000 < lv) || decide (4000000000000000000 < hiQ false lv lb)) := rfl
          have hpost : ∀ E W, (E = .returned (.tuple (if badQ false lv lb = true then #[.agg #[.int .i64 0, .int .i64 0], .int .i64 7] else #[.agg #[.int .i64 (loQ lv lb), .int .i64 (hiQ false lv lb)], .int .i64 0]))) → Below w.heap.size w W → BdsPost sc xs M w E W := fun E W h1 h2 => by
            refine ⟨b, HB1.out, HBM.out, HSQ2.out, ?_, h2⟩
            rw [HINT.out, ← HLV.out, ← HLB.out]
            exact h1
          clear hlo
          rw [hhi] at hbq hpost
          clear hhi
          obtain ⟨lo, hloe⟩ : ∃ lo, lo = loQ lv lb := ⟨_, rfl⟩
          rw [← hloe] at hlr hbq hpost ⊢
          obtain ⟨g1, g2⟩ := hlr
          have hw1 : IntKind.i64.wrap (lo + 1) = lo + 1 := IntWalk.i64_in _ (by omega)
          by_cases hbig : 4000000000000000000 < lv
          · have f1 : decide (lv ≤ 4000000000000000000) = false := decide_eq_false (by omega)
            rw [f1]
            rw [decide_eq_true hbig, Bool.true_or] at hbq
            have HBIG := Lib.hid hbig; have HBQ := Lib.hid hbq; have HPOST := Lib.hid hpost; have HLOE := Lib.hid hloe; have G1 := Lib.hid g1; have G2 := Lib.hid g2; have HBW9 := Lib.hid hbw9; have HX9 := Lib.hid hx9; have HB2 := Lib.hid hb2; clear hbig hbq hpost hloe g1 g2 hbw9 hx9 hb2
            go_wp2
            try rw [Exit.noGoto_ret]
            refine bodyPost_ret (v := .tuple #[.agg #[.int .i64 0, .int .i64 0], .int .i64 7]) (by simp [results, Try.results42, go_sem, c0, c1]) rfl (HPOST.out _ _ (by rw [HBQ.out]; rfl) (HB2.out _ _))
          · have f1 : decide (lv ≤ 4000000000000000000) = true := decide_eq_true (by omega)
            rw [f1]
            rw [decide_eq_false hbig, Bool.false_or] at hbq
            by_cases htop : 4000000000000000000 < lo + 1
            · have f2 : decide (4000000000000000000 < lo + 1) = true := decide_eq_true htop
              rw [f2] at hbq
              have HBIG := Lib.hid hbig; have HBQ := Lib.hid hbq; have HPOST := Lib.hid hpost; have HLOE := Lib.hid hloe; have G1 := Lib.hid g1; have G2 := Lib.hid g2; have HBW9 := Lib.hid hbw9; have HX9 := Lib.hid hx9; have HB2 := Lib.hid hb2; clear hbig hbq hpost hloe g1 g2 hbw9 hx9 hb2
              go_wp2
              try rw [Exit.noGoto_ret]
              refine bodyPost_ret (v := .tuple #[.agg #[.int .i64 0, .int .i64 0], .int .i64 7]) (by simp [results, Try.results42, go_sem, c0, c1]) rfl (HPOST.out _ _ (by rw [HBQ.out]; rfl) (HB2.out _ _))
            · have f2 : decide (4000000000000000000 < lo + 1) = false := decide_eq_false htop
              rw [f2] at hbq
              have HBIG := Lib.hid hbig; have HBQ := Lib.hid hbq; have HPOST := Lib.hid hpost; have HLOE := Lib.hid hloe; have G1 := Lib.hid g1; have G2 := Lib.hid g2; have HBW9 := Lib.hid hbw9; have HX9 := Lib.hid hx9; have HB2 := Lib.hid hb2; clear hbig hbq hpost hloe g1 g2 hbw9 hx9 hb2
              go_wp2
              try rw [Exit.noGoto_ret]
              refine bodyPost_ret (v := .tuple #[.agg #[.int .i64 lo, .int .i64 (lo + 1)], .int .i64 0]) (by simp [results, Try.results42, go_sem, c0, c1]) rfl (HPOST.out _ _ (by rw [HBQ.out]; rfl) (HB2.out _ _))
  · have hint : intB xs = true := by unfold intB; rw [han]; rfl
    have HAN := Lib.hid han; have HINT := Lib.hid hint; clear han hint
    go_wp2
    go_step3
    go_wp2
    go_loopw [8, 9, 10, 11, 12, 13] (fun _ _ bv _ _ _ wr => ∃ j : Nat, bv = .int .u64 ((32 * 2 ^ j : Nat) : Int) ∧ j ≤ J ∧ wr.heap[w.heap.size]? = some (.cells #[.int .i64 0, .int .i64 0] 76 (0, 0)) ∧ Below w.heap.size w wr) (fun _ _ bv _ _ _ _ => 32 * 2 ^ J - (intOf bv).toNat)
    case atStart => exact ⟨0, rfl, Nat.zero_le _, HX2.out, HB2.out⟩
    case round =>
      clear HX2 HB2
      obtain ⟨j, rfl, hjJ, hx, hbw⟩ := hrel
      have hrr := HR.out.later hbw (Nat.le_refl _)
      have hbM : 32 * 2 ^ j ≤ 32 * 2 ^ J := Nat.mul_le_mul_left _ (Nat.pow_le_pow_right (by decide) hjJ)
      have hbM2 : 32 * 2 ^ J ≤ 35184372088832 := Nat.mul_le_mul_left 32 (Nat.pow_le_pow_right (show 2 > 0 by decide) HJ.out : 2 ^ J ≤ 2 ^ 40)
      have hb1 : 32 ≤ 32 * 2 ^ j := by have := Nat.two_pow_pos j; omega
      have hnx : 32 * 2 ^ (j + 1) = 2 * (32 * 2 ^ j) := by rw [Nat.pow_succ]; omega
      have hst : j = J → stopQ sc xs (32 * 2 ^ j) = true := fun h => by subst h; exact HSTOP.out
      have hlt : j < J → 32 * 2 ^ (j + 1) ≤ 32 * 2 ^ J := fun h => Nat.mul_le_mul_left _ (Nat.pow_le_pow_right (by decide) h)
      generalize hM : 32 * 2 ^ J = M at *
      generalize hbe : 32 * 2 ^ j = b at *
      generalize hb2e : 32 * 2 ^ (j + 1) = bb at *
      have hbt := fun W h => tnBetween_ A c sc b xs W h HMOD.out (by have := HSC2.out; omega) (by omega)
      have hgn := fun q => gF_nl (sc := sc) (b := b) (xs := xs) (by have := HSC2.out; omega) HMOD.out (by omega) q
      have hvn := fun q => vF_nl (sc := sc) (b := b) (xs := xs) (by have := HSC2.out; omega) HMOD.out (by omega) q
      have hln := ls_nl (sc := sc) (b := b) (xs := xs) (by have := HSC2.out; omega) HMOD.out (by omega)
      have hwr : IntKind.u64.wrap ((b : Int) * 2) = (bb : Int) := by rw [IntWalk.u64_in _ (by omega)]; omega
      have HJJ := Lib.hid hjJ; have HX := Lib.hid hx; have HBW := Lib.hid hbw; have HRR := Lib.hid hrr; have HBM := Lib.hid hbM; have HBM2 := Lib.hid hbM2; have HB1 := Lib.hid hb1; have HNX := Lib.hid hnx; have HST := Lib.hid hst; have HLT := Lib.hid hlt; have HBT := Lib.hid hbt; have HGN := Lib.hid hgn; have HVN := Lib.hid hvn; have HLN := Lib.hid hln; have HM := Lib.hid hM; have HBE := Lib.hid hbe; have HB2E := Lib.hid hb2e; clear hjJ hx hbw hrr hbM hbM2 hb1 hnx hst hlt hbt hgn hvn hln hM hbe hb2e
      go_wp2_with fail
      refine (HBT.out _ HRR.out).mono ?_
      rintro e w1 ⟨VA, VC, rfl, hvv, b1⟩
      have hx1 := (b1.block _ (lt_of_block HX.out)).trans HX.out
      have hbw1 := HBW.out.trans (b1.mono HBW.out.size)
      clear b1 HX HBW HRR
      have hV : VB (w1.alloc (.cells #[.slice (VA 0) (nl (vF sc b xs 0)) (VC 0), .slice (VA 1) (nl (vF sc b xs 1)) (VC 1), .slice (VA 2) (nl (vF sc b xs 2)) (VC 2), .slice (VA 3) (nl (vF sc b xs 3)) (VC 3)] 106)) w1.heap.size (vF sc b xs) VA VC := by
        have hbT : Below w1.heap.size w1 (w1.alloc (.cells #[.slice (VA 0) (nl (vF sc b xs 0)) (VC 0), .slice (VA 1) (nl (vF sc b xs 1)) (VC 1), .slice (VA 2) (nl (vF sc b xs 2)) (VC 2), .slice (VA 3) (nl (vF sc b xs 3)) (VC 3)] 106)) := (Below.refl _ _).alloc (Nat.le_refl _) _
        exact ⟨heap_alloc_new _ _, fun j hj => (hvv j hj).1.later hbT (Nat.le_refl _), fun j hj => (hvv j hj).2⟩
      have hx2 : (w1.alloc (.cells #[.slice (VA 0) (nl (vF sc b xs 0)) (VC 0), .slice (VA 1) (nl (vF sc b xs 1)) (VC 1), .slice (VA 2) (nl (vF sc b xs 2)) (VC 2), .slice (VA 3) (nl (vF sc b xs 3)) (VC 3)] 106)).heap[w.heap.size]? = some (.cells #[.int .i64 0, .int .i64 0] 76 (0, 0)) := by rw [heap_alloc_old _ _ (lt_of_block hx1)]; exact hx1
      have hbw2 : Below w.heap.size w (w1.alloc (.cells #[.slice (VA 0) (nl (vF sc b xs 0)) (VC 0), .slice (VA 1) (nl (vF sc b xs 1)) (VC 1), .slice (VA 2) (nl (vF sc b xs 2)) (VC 2), .slice (VA 3) (nl (vF sc b xs 3)) (VC 3)] 106)) := hbw1.alloc hbw1.size _
      have hVw : w.heap.size < w1.heap.size := lt_of_block hx1
      clear hvv hx1 hbw1
      have HV := Lib.hid hV; have HX2 := Lib.hid hx2; have HBW2 := Lib.hid hbw2; have HVW := Lib.hid hVw; clear hV hx2 hbw2 hVw
      go_upto_region 14 with fail
      obtain ⟨w2, hw2⟩ : ∃ w2, w2 = w1.alloc (.cells #[.slice (VA 0) (nl (vF sc b xs 0)) (VC 0), .slice (VA 1) (nl (vF sc b xs 1)) (VC 1), .slice (VA 2) (nl (vF sc b xs 2)) (VC 2), .slice (VA 3) (nl (vF sc b xs 3)) (VC 3)] 106) := ⟨_, rfl⟩
      have hV5 := HV.out
      have hx5 := HX2.out
      have hbw5 := HBW2.out
      rw [← hw2] at hV5 hx5 hbw5 ⊢
      have hVg : VB w2 w1.heap.size (gF sc b xs) VA VC := hV5.eqv fun j hj => by
        unfold gF
        rw [HINT.out]
        split
        · rename_i h; subst h; rfl
        · rfl
      clear hV5 HV HX2 HBW2 hw2
      generalize w1.heap.size = V at *
      have q0 := hVg.at_ (j := 0) (by decide)
      have q3 := hVg.at_ (j := 3) (by decide)
      have hVl := hVg.lt
      have r0 := hVg.rd 0 (by decide)
      have r3 := hVg.rd 3 (by decide)
      have hfl := fun W h h2 => tnFloor_ (VA 0) (VA 3) (VC 0) (VC 3) (gF sc b xs 0) (gF sc b xs 3) b W h h2 (by have := HGN.out 0; omega) (by have := HGN.out 3; omega) (by have := HBM.out; have := HBM2.out; omega)
      have hfl2 := fun W h h2 => tnFloor_ (VA 2) (VA 1) (VC 2) (VC 1) (gF sc b xs 2) (gF sc b xs 1) b W h h2 (by have := HGN.out 2; omega) (by have := HGN.out 1; omega) (by have := HBM.out; have := HBM2.out; omega)
      have HVG := Lib.hid hVg; have HX5 := Lib.hid hx5; have HBW5 := Lib.hid hbw5; have R0 := Lib.hid r0; have R3 := Lib.hid r3; have HFL := Lib.hid hfl; have HFL2 := Lib.hid hfl2; clear hVg hx5 hbw5 r0 r3 hfl hfl2
      go_wp2_with fail
      refine (HFL.out _ R0.out R3.out).mono ?_
      rintro e w6 ⟨A6, c6, rfl, h6, hc6, b1⟩
      have hVg6 := HVG.out.later b1
      have hx6 := (b1.block _ (lt_of_block HX5.out)).trans HX5.out
      have hbw6 := HBW5.out.trans (b1.mono HBW5.out.size)
      clear b1 HVG HX5 HBW5 R0 R3 q0 q3 hVl HFL
      have q1 := hVg6.at_ (j := 1) (by decide)
      have q2 := hVg6.at_ (j := 2) (by decide)
      have hVl := hVg6.lt
      have r1 := hVg6.rd 1 (by decide)
      have r2 := hVg6.rd 2 (by decide)
      change RdN w6 A6 (lsV sc xs b) at h6
      change nl (lsV sc xs b) ≤ c6 at hc6
      rw [show flV (gF sc b xs 0) (gF sc b xs 3) b = lsV sc xs b from rfl, show flB (gF sc b xs 0) (gF sc b xs 3) = lsB sc xs b from rfl]
      obtain ⟨lv, hlv⟩ : ∃ lv, lv = lsV sc xs b := ⟨_, rfl⟩
      obtain ⟨lb, hlb⟩ : ∃ lb, lb = lsB sc xs b := ⟨_, rfl⟩
      rw [← hlv, ← hlb]
      rw [← hlv] at h6 hc6
      have HVG6 := Lib.hid hVg6; have HX6 := Lib.hid hx6; have HBW6 := Lib.hid hbw6; have R1 := Lib.hid r1; have R2 := Lib.hid r2; have H6 := Lib.hid h6; have HC6 := Lib.hid hc6; have HLV := Lib.hid hlv; have HLB := Lib.hid hlb; clear hVg6 hx6 hbw6 r1 r2 h6 hc6 hlv hlb
      go_wp2_with fail
      refine (HFL2.out _ R2.out R1.out).mono ?_
      rintro e w7 ⟨A7, c7, rfl, h7, hc7, b1⟩
      have h67 := H6.out.later b1 (Nat.le_refl _)
      have hx7 := (b1.block _ (lt_of_block HX6.out)).trans HX6.out
      have hbw7 := HBW6.out.trans (b1.mono HBW6.out.size)
      clear b1 HVG6 HX6 HBW6 R1 R2 q1 q2 hVl HFL2 H6
      change RdN w7 A7 (mrV sc xs b) at h7
      rw [show flV (gF sc b xs 2) (gF sc b xs 1) b = mrV sc xs b from rfl, show flB (gF sc b xs 2) (gF sc b xs 1) = mrB sc xs b from rfl]
      obtain ⟨mv, hmv⟩ : ∃ mv, mv = mrV sc xs b := ⟨_, rfl⟩
      obtain ⟨mb, hmb⟩ : ∃ mb, mb = mrB sc xs b := ⟨_, rfl⟩
      rw [← hmv, ← hmb]
      rw [← hmv] at h7
      have hsq : stopQ sc xs b = (intB xs || (lb == mb && decide (lv = mv))) := by rw [HLB.out, HLV.out, hmv, hmb]; rfl
      have HMV := Lib.hid hmv; have HMB := Lib.hid hmb; clear hmv hmb
      rw [HINT.out, Bool.true_or] at hsq
      have H67 := Lib.hid h67; have HX7 := Lib.hid hx7; have HBW7 := Lib.hid hbw7; have H7 := Lib.hid h7; have HC7 := Lib.hid hc7; have HSQ := Lib.hid hsq; clear h67 hx7 hbw7 h7 hc7 hsq
      have hln2 : nl lv ≤ 281474976710656 := by rw [HLV.out]; have := HLN.out.1; omega
      have HLN2 := Lib.hid hln2; clear hln2
      go_wp2_with fail
      refine (tnSigned_ A6 c6 lv lb _ H67.out HLN2.out).mono ?_
      rintro e w9 ⟨rfl, b1⟩
      have hx9 := (b1.block _ (lt_of_block HX7.out)).trans HX7.out
      have hbw9 := HBW7.out.trans (b1.mono HBW7.out.size)
      clear b1 H67 HX7 HBW7
      have hl := lt_of_block hx9
      have c0 := cell_of_row _ _ 0 _ _ _ hx9
      have c1 := cell_of_row _ _ 1 _ _ _ hx9
      simp only [List.getElem?_toArray, List.getElem?_cons_zero, List.getElem?_cons_succ] at c0 c1
      have z0 := frozen_of_row _ _ 0 _ _ hx9
      have z1 := frozen_of_row _ _ 1 _ _ hx9
      have hb2 := fun u v => (hbw9.setCell (p := ⟨w.heap.size, 0, none⟩) (Nat.le_refl _) u).setCell (p := ⟨w.heap.size, 1, none⟩) (Nat.le_refl _) v
      have hlo : loQ lv lb = if 4000000000000000000 < lv then 0 else if lb = true then -(lv : Int) else (lv : Int) := rfl
      rw [← hlo]
      have hlr : -4000000000000000000 ≤ loQ lv lb ∧ loQ lv lb ≤ 4000000000000000000 := by
        rw [hlo]
        split
        · omega
        · split <;> omega
      have hhi : hiQ true lv lb = loQ lv lb := rfl
      have hbq : badQ true lv lb = (decide (4000000000000000000 < lv) || decide (4000000000000000000 < hiQ true lv lb)) := rfl
      have hpost : ∀ E W, (E = .returned (.tuple (if badQ true lv lb = true then #[.agg #[.int .i64 0, .int .i64 0], .int .i64 7] else #[.agg #[.int .i64 (loQ lv lb), .int .i64 (hiQ true lv lb)], .int .i64 0]))) → Below w.heap.size w W → BdsPost sc xs M w E W := fun E W h1 h2 => by
        refine ⟨b, HB1.out, HBM.out, HSQ.out, ?_, h2⟩
        rw [HINT.out, ← HLV.out, ← HLB.out]
        exact h1
      clear hlo
      rw [hhi] at hbq hpost
      clear hhi
      obtain ⟨lo, hloe⟩ : ∃ lo, lo = loQ lv lb := ⟨_, rfl⟩
      rw [← hloe] at hlr hbq hpost ⊢
      obtain ⟨g1, g2⟩ := hlr
      by_cases hbig : 4000000000000000000 < lv
      · have f1 : decide (lv ≤ 4000000000000000000) = false := decide_eq_false (by omega)
        rw [f1]
        rw [decide_eq_true hbig, Bool.true_or] at hbq
        have HBIG := Lib.hid hbig; have HBQ := Lib.hid hbq; have HPOST := Lib.hid hpost; have HLOE := Lib.hid hloe; have G1 := Lib.hid g1; have G2 := Lib.hid g2; have HBW9 := Lib.hid hbw9; have HX9 := Lib.hid hx9; have HB2 := Lib.hid hb2; clear hbig hbq hpost hloe g1 g2 hbw9 hx9 hb2
        go_wp2
        try rw [Exit.noGoto_ret]
        refine bodyPost_ret (v := .tuple #[.agg #[.int .i64 0, .int .i64 0], .int .i64 7]) (by simp [results, Try.results42, go_sem, c0, c1]) rfl (HPOST.out _ _ (by rw [HBQ.out]; rfl) (HB2.out _ _))
      · have f1 : decide (lv ≤ 4000000000000000000) = true := decide_eq_true (by omega)
        rw [f1]
        rw [decide_eq_false hbig, Bool.false_or] at hbq
        have f2 : decide (4000000000000000000 < lo) = false := decide_eq_false (by omega)
        rw [f2] at hbq
        have HBIG := Lib.hid hbig; have HBQ := Lib.hid hbq; have HPOST := Lib.hid hpost; have HLOE := Lib.hid hloe; have G1 := Lib.hid g1; have G2 := Lib.hid g2; have HBW9 := Lib.hid hbw9; have HX9 := Lib.hid hx9; have HB2 := Lib.hid hb2; clear hbig hbq hpost hloe g1 g2 hbw9 hx9 hb2
        go_wp2
        try rw [Exit.noGoto_ret]
        refine bodyPost_ret (v := .tuple #[.agg #[.int .i64 lo, .int .i64 lo], .int .i64 0]) (by simp [results, Try.results42, go_sem, c0, c1]) rfl (HPOST.out _ _ (by rw [HBQ.out]; rfl) (HB2.out _ _))
end Go.Proofs.Ytdimaapiloojeaa
/- Lists of roots of the call's own. -/
namespace Go.Proofs.Ytdimaapiloojeaa
open Go.RowKit

def rootC (wl : List (Int × Int)) : List Value := wl.flatMap fun x => [.int .i64 x.1, .int .i64 x.2]
theorem rootC_length : ∀ wl, (rootC wl).length = wl.length * 2
  | [] => rfl
  | x :: wl => by
    have ih := rootC_length wl
    unfold rootC at ih ⊢
    simp only [List.flatMap_cons, List.length_append, List.length_cons, List.length_nil, ih]
    omega
theorem rootC_append (xs ys : List (Int × Int)) : rootC (xs ++ ys) = rootC xs ++ rootC ys := by unfold rootC; simp
theorem rootC_one (wl : List (Int × Int)) : ∀ u ∈ rootC wl, u.oneCell' = true := by
  intro u hu
  simp only [rootC, List.mem_flatMap] at hu
  obtain ⟨x, _, hx⟩ := hu
  simp only [List.mem_cons, List.not_mem_nil, or_false] at hx
  rcases hx with rfl | rfl <;> rfl
theorem rootC_get : ∀ (wl : List (Int × Int)) (j : Nat), j < wl.length * 2 → (rootC wl)[j]? = some (cellsR wl j)
  | [], j, h => by simp at h
  | x :: wl, j, h => by
    have e : rootC (x :: wl) = [.int .i64 x.1, .int .i64 x.2] ++ rootC wl := by unfold rootC; simp
    rw [e]
    rcases Nat.lt_or_ge j 2 with h2 | h2
    · rw [List.getElem?_append_left (by simpa using h2)]
      obtain rfl | rfl : j = 0 ∨ j = 1 := by omega
      all_goals simp [cellsR]
    · rw [List.getElem?_append_right (by simpa using h2)]
      have ih := rootC_get wl (j - 2) (by simp at h; omega)
      simp only [List.length_cons, List.length_nil, Nat.zero_add]
      rw [ih]
      unfold cellsR
      rw [show (j - 2) % 2 = j % 2 by omega, show j / 2 = (j - 2) / 2 + 1 by omega]
      simp [List.getD_eq_getElem?_getD]
theorem own_rdR {w : World} {base e n c : Nat} {A : Option Addr} {wl : List (Int × Int)} (h : w.ownsRow base e 2 (.slice A n c) n (rootC wl)) : Rd w A 2 wl.length (cellsR wl) := fun h0 => by
  have hl : n = wl.length := by have := h.1; rw [rootC_length] at this; omega
  obtain ⟨g, cap, hv, _, hlt⟩ := h.form (by omega)
  injection hv with hA
  subst hA
  refine ⟨g, 0, rfl, hlt, fun j hj => ?_⟩
  have := h.cells (g := g) rfl j (cellsR wl j) (rootC_get wl j hj)
  unfold Addr.add at this
  by_cases hj0 : j = 0
  · subst hj0; simpa using this
  · simpa [hj0] using this
theorem RdR.of_own {w : World} {base e n c : Nat} {A : Option Addr} {wl : List (Int × Int)} (h : w.ownsRow base e 2 (.slice A n c) n (rootC wl)) (hl : wl.length ≤ 281474976710656) : RdR w A wl := ⟨hl, own_rdR h⟩
theorem own_slice2 {w : World} {base e n : Nat} {v : Value} {xs : List Value} (h : w.ownsRow base e 2 v n xs) : ∃ A c, v = .slice A n c ∧ n ≤ c := by
  rcases h.2 with ⟨rfl, h0⟩ | ⟨g, cap, cur, rfl, _, _, hn, _⟩
  · exact ⟨none, 0, by rw [h0], by omega⟩
  · exact ⟨_, cap, rfl, hn⟩
theorem info_root_Try : (Try.prog.info? 94).map (fun i => (i.zero, i.size, i.bytes)) = some (some (.agg #[.int .i64 0, .int .i64 0]), 2, 16) := by kernel_rfl
theorem step_appR_Try {ops : Array Oper} {o : Oper} {a : Act} {K : Act → World → Prop} {Q : Exit → Act → World → Prop} {E : Prop} {w : World} (hgd : o.guard = none) (s x : Operand)
    (ho : o.op = .call { callee := .builtin .append, args := #[s, x], argTypes := #[72, 72] })
    (base : Nat) (v : Value) (xs : List (Int × Int)) (hs : a.eval s = v) (hown : w.ownsRow base 94 2 v xs.length (rootC xs)) (b : Nat) (z : Int × Int) (hx : a.eval x = .slice (some ⟨b, 0, none⟩) 1 1)
    (hb : w.heap[b]? = some (.cells #[.int .i64 z.1, .int .i64 z.2] 94 (0, 0))) (hn : xs.length ≤ 1000000) (hbase : base ≤ w.heap.size)
    (h : ∀ g cap w', w'.ownsRow base 94 2 (.slice (some ⟨g, 0, none⟩) (xs.length + 1) cap) (xs ++ [z]).length (rootC (xs ++ [z])) → w.grownBy w' v.ownBlock → (v.ownBlock = some g ∨ g = w.heap.size) → g < w'.heap.size →
      K (a.put o.dst (.slice (some ⟨g, 0, none⟩) (xs.length + 1) cap)) w') :
    if Region.wanted o (yielded ops a.tmps) = true then Oper.wp Try.prog o a w K Q else E := by
  obtain ⟨i0, hi, hz0, hz1, hz2⟩ := info_parts info_root_Try
  refine step_append_lies w hgd s x 72 ho base 94 i0 _ 2 16 Try.underlying72 hi hz0 hz1 hz2 rfl (by omega) v xs.length (rootC xs) hs hown ⟨b, 0, none⟩ 1 1 (rootC [z]) hx rfl
    (World.news_of_block hb) (rootC_one [z]) (by omega) (by unfold maxLen; omega) (by omega) hbase w.heap.size rfl fun g cap w' h2 h3 h4 h5 => h g cap w' ?_ h3 h4 h5
  rw [List.length_append, rootC_append]
  exact h2
theorem wpList_appR_Try {ops : Array Oper} {rest : List Oper} {o : Oper} {a : Act} {Q : Exit → Act → World → Prop} {w : World} (hgd : o.guard = none) (s x : Operand)
    (ho : o.op = .call { callee := .builtin .append, args := #[s, x], argTypes := #[72, 72] })
    (base : Nat) (v : Value) (xs : List (Int × Int)) (hs : a.eval s = v) (hown : w.ownsRow base 94 2 v xs.length (rootC xs)) (b : Nat) (z : Int × Int) (hx : a.eval x = .slice (some ⟨b, 0, none⟩) 1 1)
    (hb : w.heap[b]? = some (.cells #[.int .i64 z.1, .int .i64 z.2] 94 (0, 0))) (hn : xs.length ≤ 1000000) (hbase : base ≤ w.heap.size)
    (h : ∀ g cap w', w'.ownsRow base 94 2 (.slice (some ⟨g, 0, none⟩) (xs.length + 1) cap) (xs ++ [z]).length (rootC (xs ++ [z])) → w.grownBy w' v.ownBlock → (v.ownBlock = some g ∨ g = w.heap.size) → g < w'.heap.size →
      wpList Try.prog ops Q rest (a.put o.dst (.slice (some ⟨g, 0, none⟩) (xs.length + 1) cap)) w') : wpList Try.prog ops Q (o :: rest) a w := by
  obtain ⟨i0, hi, hz0, hz1, hz2⟩ := info_parts info_root_Try
  refine wpList_append_lies w hgd s x 72 ho base 94 i0 _ 2 16 Try.underlying72 hi hz0 hz1 hz2 rfl (by omega) v xs.length (rootC xs) hs hown ⟨b, 0, none⟩ 1 1 (rootC [z]) hx rfl
    (World.news_of_block hb) (rootC_one [z]) (by omega) (by unfold maxLen; omega) (by omega) hbase w.heap.size rfl fun g cap w' h2 h3 h4 h5 => h g cap w' ?_ h3 h4 h5
  rw [List.length_append, rootC_append]
  exact h2
theorem own_keepR {w w' : World} {base e n size : Nat} {v : Value} {xs : List Value} (h : w.ownsRow base e size v n xs) (hb : Below w.heap.size w w') : w'.ownsRow base e size v n xs :=
  h.kept (show w.grownBy w' none from ⟨hb.os, hb.tape, hb.output, hb.size, fun i hi _ => hb.block i hi⟩) (by cases v.ownBlock <;> simp)
theorem own_nilR (w : World) (base e size : Nat) : w.ownsRow base e size (.slice none 0 0) 0 [] := ⟨by simp, .inl ⟨rfl, rfl⟩⟩
theorem RdR.tail {w : World} {b off : Nat} {x : Int × Int} {l : List (Int × Int)} (h : RdR w (some ⟨b, off, none⟩) (x :: l)) : RdR w (some ⟨b, off + 2, none⟩) l := by
  refine ⟨by have := h.1; simp at this; omega, fun h0 => ?_⟩
  obtain ⟨b', off', e, hlt, hc⟩ := h.2 (by simp)
  injection e with e; injection e with e1 e2; subst e1; subst e2
  refine ⟨b, off + 2, rfl, hlt, fun j hj => ?_⟩
  have := hc (j + 2) (by simp; omega)
  rw [show off + 2 + j = off + (j + 2) by omega, this]
  unfold cellsR
  rw [show (j + 2) % 2 = j % 2 by omega, show (j + 2) / 2 = j / 2 + 1 by omega]
  simp [List.getD_eq_getElem?_getD]
end Go.Proofs.Ytdimaapiloojeaa
/- Sums of roots added: merge. -/
namespace Go.Proofs.Ytdimaapiloojeaa
open Go.RowKit

/-- A sum, and by times another one. -/
def mg (bz : Int) : List (Int × Int) → List (Int × Int) → List (Int × Int)
  | [], ys => ys.map fun y => (bz * y.1, y.2)
  | x :: xs, [] => x :: xs
  | x :: xs, y :: ys => if x.2 < y.2 then x :: mg bz xs (y :: ys) else if y.2 < x.2 then (bz * y.1, y.2) :: mg bz (x :: xs) ys else if x.1 + bz * y.1 = 0 then mg bz xs ys else (x.1 + bz * y.1, x.2) :: mg bz xs ys
termination_by xs ys => xs.length + ys.length
theorem mg_nil (bz : Int) (ys : List (Int × Int)) : mg bz [] ys = ys.map fun y => (bz * y.1, y.2) := by rw [mg]
theorem mg_nil2 (bz : Int) : ∀ xs : List (Int × Int), mg bz xs [] = xs
  | [] => by rw [mg]; rfl
  | x :: xs => by rw [mg]
theorem mg_cons (bz : Int) (x y : Int × Int) (xs ys : List (Int × Int)) : mg bz (x :: xs) (y :: ys) = if x.2 < y.2 then x :: mg bz xs (y :: ys) else if y.2 < x.2 then (bz * y.1, y.2) :: mg bz (x :: xs) ys else if x.1 + bz * y.1 = 0 then mg bz xs ys else (x.1 + bz * y.1, x.2) :: mg bz xs ys := by rw [mg]
/-- Factors that can be added. -/
def Med (xs : List (Int × Int)) : Prop := ∀ x ∈ xs, -1000000000000000000 ≤ x.1 ∧ x.1 ≤ 1000000000000000000
theorem Med.tail {x : Int × Int} {xs : List (Int × Int)} (h : Med (x :: xs)) : Med xs := fun y hy => h y (List.mem_cons_of_mem _ hy)
def MgPost (l : List (Int × Int)) (w : World) (e : Ending) (w' : World) : Prop := ∃ A c, e = .returned (.slice A l.length c) ∧ RdR w' A l ∧ l.length ≤ c ∧ Below w.heap.size w w'
theorem RdR.head {w : World} {A : Option Addr} {x : Int × Int} {l : List (Int × Int)} (h : RdR w A (x :: l)) : ∃ b off, A = some ⟨b, off, none⟩ ∧ b < w.heap.size ∧ w.cell? ⟨b, off, none⟩ = some (.int .i64 x.1) ∧ w.cell? ⟨b, off + 1, none⟩ = some (.int .i64 x.2) := by
  obtain ⟨b, off, e, hl, h1, h2⟩ := h.at_ (k := 0) (by simp)
  simp only [Nat.zero_mul, Nat.add_zero, List.getElem_cons_zero] at h1 h2
  exact ⟨b, off, e, hl, h1, h2⟩
/-- How far merge has come. -/
structure MgI (w : World) (bz : Int) (goal : List (Int × Int)) (A B : Option Addr) (c d : Nat) (xs ys o : List (Int × Int)) (v : Value) (wr : World) : Prop where
  ra : RdR w A xs
  rb : RdR w B ys
  ca : xs.length ≤ c
  cb : ys.length ≤ d
  ma : Med xs
  mb : Med ys
  ow : wr.ownsRow w.heap.size 94 2 v o.length (rootC o)
  eq : o ++ mg bz xs ys = goal
  le : o.length + xs.length + ys.length ≤ 1000000
  bl : Below w.heap.size w wr
theorem len_facts {n : Nat} (h : 0 < n) : decide ((0 : Int) < (n : Int)) = true ∧ decide (0 < n) = true ∧ ((n : Int) == 0) = false ∧ (n == 0) = false ∧ (1 : Int) ≤ (n : Int) ∧ (0 : Int) < (n : Int) ∧ 0 < n ∧ 1 ≤ n := by
  refine ⟨decide_eq_true (by omega), decide_eq_true h, ?_, ?_, by omega, by omega, h, h⟩
  · rw [beq_eq_false_iff_ne]; omega
  · rw [beq_eq_false_iff_ne]; omega
theorem MgI.later {w wr w2 : World} {bz : Int} {goal xs ys o : List (Int × Int)} {A B : Option Addr} {c d : Nat} {v : Value} (h : MgI w bz goal A B c d xs ys o v wr) (hb : Below wr.heap.size wr w2) : MgI w bz goal A B c d xs ys o v w2 :=
  ⟨h.ra, h.rb, h.ca, h.cb, h.ma, h.mb, own_keepR h.ow hb, h.eq, h.le, h.bl.trans (hb.mono h.bl.size)⟩
theorem rdR_nil9 (w : World) (A : Option Addr) : RdR w A [] := ⟨by simp, fun h => by simp at h⟩
theorem tailA {w : World} {b off c : Nat} {x : Int × Int} {l : List (Int × Int)} (h : RdR w (some ⟨b, off, none⟩) (x :: l)) (hc : (x :: l).length ≤ c) : RdR w (if c = 1 then some ⟨b, off, none⟩ else some ⟨b, off + 2, none⟩) l := by
  split
  · rename_i h1
    have : l = [] := by cases l with
      | nil => rfl
      | cons y l => simp at hc; omega
    subst this; exact rdR_nil9 _ _
  · exact h.tail
theorem MgI.stepA {w wr w3 : World} {bz : Int} {goal xs ys o : List (Int × Int)} {b off : Nat} {B : Option Addr} {c d : Nat} {v v' : Value} {x z : Int × Int} (h : MgI w bz goal (some ⟨b, off, none⟩) B c d (x :: xs) ys o v wr)
    (ho : w3.ownsRow w.heap.size 94 2 v' (o ++ [z]).length (rootC (o ++ [z]))) (hb : Below w.heap.size w w3) (he : mg bz (x :: xs) ys = z :: mg bz xs ys) :
    MgI w bz goal (if c = 1 then some ⟨b, off, none⟩ else some ⟨b, off + 2, none⟩) B (c - 1) d xs ys (o ++ [z]) v' w3 :=
  ⟨tailA h.ra h.ca, h.rb, by have := h.ca; simp at this; omega, h.cb, h.ma.tail, h.mb, ho, by rw [← h.eq, he]; simp, by have := h.le; simp at this ⊢; omega, hb⟩
theorem MgI.stepB {w wr w3 : World} {bz : Int} {goal xs ys o : List (Int × Int)} {b off : Nat} {A : Option Addr} {c d : Nat} {v v' : Value} {y z : Int × Int} (h : MgI w bz goal A (some ⟨b, off, none⟩) c d xs (y :: ys) o v wr)
    (ho : w3.ownsRow w.heap.size 94 2 v' (o ++ [z]).length (rootC (o ++ [z]))) (hb : Below w.heap.size w w3) (he : mg bz xs (y :: ys) = z :: mg bz xs ys) :
    MgI w bz goal A (if d = 1 then some ⟨b, off, none⟩ else some ⟨b, off + 2, none⟩) c (d - 1) xs ys (o ++ [z]) v' w3 :=
  ⟨h.ra, tailA h.rb h.cb, h.ca, by have := h.cb; simp at this; omega, h.ma, h.mb.tail, ho, by rw [← h.eq, he]; simp, by have := h.le; simp at this ⊢; omega, hb⟩
theorem MgI.stepAB {w wr w3 : World} {bz : Int} {goal xs ys o o2 : List (Int × Int)} {b off b2 off2 : Nat} {c d : Nat} {v v' : Value} {x y : Int × Int} (h : MgI w bz goal (some ⟨b, off, none⟩) (some ⟨b2, off2, none⟩) c d (x :: xs) (y :: ys) o v wr)
    (ho : w3.ownsRow w.heap.size 94 2 v' (o ++ o2).length (rootC (o ++ o2))) (h2 : o2.length ≤ 1) (hb : Below w.heap.size w w3) (he : mg bz (x :: xs) (y :: ys) = o2 ++ mg bz xs ys) :
    MgI w bz goal (if c = 1 then some ⟨b, off, none⟩ else some ⟨b, off + 2, none⟩) (if d = 1 then some ⟨b2, off2, none⟩ else some ⟨b2, off2 + 2, none⟩) (c - 1) (d - 1) xs ys (o ++ o2) v' w3 :=
  ⟨tailA h.ra h.ca, tailA h.rb h.cb, by have := h.ca; simp at this; omega, by have := h.cb; simp at this; omega, h.ma.tail, h.mb.tail, ho, by rw [← h.eq, he]; simp, by have := h.le; simp at this ⊢; omega, hb⟩
def lenOf : Value → Nat
  | .slice _ n _ => n
  | _ => 0
set_option maxRecDepth 100000 in
set_option maxHeartbeats 8000000 in
theorem tnMerge_ (A B : Option Addr) (ca cb : Nat) (bz : Int) (hbz : bz = 1 ∨ bz = -1) (xs ys : List (Int × Int)) (w : World) (hra : RdR w A xs) (hrb : RdR w B ys) (hca : xs.length ≤ ca) (hcb : ys.length ≤ cb) (hma : Med xs) (hmb : Med ys) (hle : xs.length + ys.length ≤ 1000000) :
    Calls Try.prog 65 #[.slice A xs.length ca, .slice B ys.length cb, .int .i64 bz] w (MgPost (mg bz xs ys) w) := by
  have hI : MgI w bz (mg bz xs ys) A B ca cb xs ys [] (.slice none 0 0) w := ⟨hra, hrb, hca, hcb, hma, hmb, own_nilR _ _ _ _, rfl, by simpa using hle, Below.refl _ _⟩
  have hl9 : (mg bz xs ys).length ≤ 281474976710656 ∨ True := .inr trivial
  generalize mg bz xs ys = goal at *
  clear hra hrb hma hmb hle hl9
  generalize hn1 : xs.length = n1 at *
  generalize hn2 : ys.length = n2 at *
  have HI := Lib.hid hI; have HCA := Lib.hid hca; have HCB := Lib.hid hcb; have HBZ := Lib.hid hbz; have HN1 := Lib.hid hn1; have HN2 := Lib.hid hn2; clear hI hca hcb hbz hn1 hn2
  go_enter Try.func65, Try.ntmps65
  go_wp2
  go_loopw [0, 1, 7, 8] (fun av bv ov _ wr => ∃ (A' B' : Option Addr) (c d m n : Nat) (xs' ys' o : List (Int × Int)), av = .slice A' m c ∧ bv = .slice B' n d ∧ xs'.length = m ∧ ys'.length = n ∧ MgI w bz goal A' B' c d xs' ys' o ov wr) (fun av bv _ _ _ => lenOf av + lenOf bv)
  case atStart => exact ⟨_, _, _, _, _, _, _, _, _, rfl, rfl, HN1.out, HN2.out, HI.out⟩
  case round =>
    clear HI
    obtain ⟨A', B', c, d, m, n, xs', ys', o, rfl, rfl, hm, hn, hI⟩ := hrel

    cases xs' with
    | nil =>
      obtain rfl : m = 0 := hm.symm
      cases ys' with
      | nil =>
        obtain rfl : n = 0 := hn.symm
        have heq : o = goal := by have := hI.eq; rwa [mg_nil2, List.append_nil] at this
        have hle := hI.le
        have hown := hI.ow
        have hbl := hI.bl
        obtain ⟨A9, c9, rfl, hc9⟩ := own_slice2 hown
        have HI := Lib.hid hI; have HEQ := Lib.hid heq; have HOWN := Lib.hid hown; have HLE := Lib.hid hle; have HBL := Lib.hid hbl; have HC9 := Lib.hid hc9; clear hI heq hown hle hbl hc9
        go_wp2
        go_ret
        rw [HEQ.out] at HOWN HLE HC9 ⊢
        exact ⟨A9, c9, rfl, RdR.of_own HOWN.out (by have := HLE.out; omega), HC9.out, HBL.out⟩
      | cons y ys2 =>
        obtain ⟨g1, g2, g3, g4, g5, g6, g7, g8⟩ := len_facts (show 0 < n by simp at hn; omega)
        obtain ⟨b2, o2, rfl, hl2, q2, q3⟩ := (hI.rb.later hI.bl (Nat.le_refl _)).head
        have hnd : n ≤ d := by rw [← hn]; exact hI.cb
        have hown := hI.ow
        have hle := hI.le
        have hvl := hown.lt
        have hsz := hI.bl.size
        have hyr := hI.mb _ (List.mem_cons_self ..)
        obtain ⟨P, hP⟩ : ∃ P, P = bz * y.1 := ⟨_, rfl⟩
        have hPr : -1000000000000000000 ≤ P ∧ P ≤ 1000000000000000000 := by
          rcases HBZ.out with h | h <;> (subst h; omega)
        have w1 : IntKind.i64.wrap (bz * y.1) = P := by rw [← hP]; exact IntWalk.i64_in _ (by omega)
        have HI := Lib.hid hI; have HOWN := Lib.hid hown; have HLE := Lib.hid hle; have HN := Lib.hid hn; have HVL := Lib.hid hvl; have HSZ := Lib.hid hsz; have HYR := Lib.hid hyr; have HP := Lib.hid hP; have HPR := Lib.hid hPr; clear hI hown hle hn hvl hsz hyr hP hPr
        go_upto_region 7 with fail
        have hbelc : ∀ (u : Bel wr.heap.size wr) b o, b < wr.heap.size → u.wd.cell? ⟨b, o, none⟩ = wr.cell? ⟨b, o, none⟩ := fun u b o h => u.h.cell (p := ⟨b, o, none⟩) h
        have hbeln : Nonempty (Bel wr.heap.size wr) := ⟨⟨wr, Below.refl _ _⟩⟩
        refine wp_region_bel wr.heap.size (by kernel_rfl) (by kernel_rfl) ?_
        repeat (go_big_quiet_step ((fail)))
        refine wpQuiet_nil ?_
        intro wB hB0; obtain ⟨uB, hu⟩ := hB0; have hbB0 := uB.h; rw [← hu] at hbB0; clear hu uB hbelc hbeln
        obtain ⟨hbB, hcB, hsB⟩ := bcell2 hbB0; clear hbB0
        have hI := HI.out.later hbB
        have hown := hI.ow
        have hvl := hown.lt
        have hsz := hI.bl.size
        have q2z := (hcB b2 o2 hl2).trans q2
        clear q2
        have q2 := q2z
        clear q2z
        have q3z := (hcB b2 (o2 + 1) hl2).trans q3
        clear q3
        have q3 := q3z
        clear q3z
        have hl2z : b2 < wB.heap.size := Nat.lt_of_lt_of_le hl2 hsB
        clear hl2
        have hl2 := hl2z
        clear hl2z
        clear hcB hsB hbB HI HOWN HVL HSZ
        generalize wB = wv1 at *
        have HI := Lib.hid hI; have HOWN := Lib.hid hown; have HVL := Lib.hid hvl; have HSZ := Lib.hid hsz; clear hI hown hvl hsz
        go_upto_region 9 with fail
        have hbelc : ∀ (u : Bel wv1.heap.size wv1) b o, b < wv1.heap.size → u.wd.cell? ⟨b, o, none⟩ = wv1.cell? ⟨b, o, none⟩ := fun u b o h => u.h.cell (p := ⟨b, o, none⟩) h
        have hbeln : Nonempty (Bel wv1.heap.size wv1) := ⟨⟨wv1, Below.refl _ _⟩⟩
        refine wp_region_bel wv1.heap.size (by kernel_rfl) (by kernel_rfl) ?_
        repeat (go_big_quiet_step ((fail)))
        refine wpQuiet_nil ?_
        intro wB hB0; obtain ⟨uB, hu⟩ := hB0; have hbB0 := uB.h; rw [← hu] at hbB0; clear hu uB hbelc hbeln
        obtain ⟨hbB, hcB, hsB⟩ := bcell2 hbB0; clear hbB0
        have hI := HI.out.later hbB
        have hown := hI.ow
        have hvl := hown.lt
        have hsz := hI.bl.size
        have q2z := (hcB b2 o2 hl2).trans q2
        clear q2
        have q2 := q2z
        clear q2z
        have q3z := (hcB b2 (o2 + 1) hl2).trans q3
        clear q3
        have q3 := q3z
        clear q3z
        have hl2z : b2 < wB.heap.size := Nat.lt_of_lt_of_le hl2 hsB
        clear hl2
        have hl2 := hl2z
        clear hl2z
        clear hcB hsB hbB HI HOWN HVL HSZ
        generalize wB = wv2 at *
        have HI := Lib.hid hI; have HOWN := Lib.hid hown; have HVL := Lib.hid hvl; have HSZ := Lib.hid hsz; clear hI hown hvl hsz
        go_upto_region 10 with fail
        go_region_law
          (first | (refine step_appR_Try (by rfl) _ _ (by rfl) w.heap.size u7 o (by rfl) (by repeat (first | exact HOWN.out | refine World.ownsRow.alloc ?_ _ | exact (World.ownsRow.alloc HOWN.out _).drew)) wv2.heap.size (P, y.2) (by rfl) (heap_alloc_new _ _) (by have := HLE.out; omega) (by simp; have := HSZ.out; omega) ?_; intro g cap w3 hown3 hgrow hat3 hlt3))
        all_goals
          have hb3 : Below w.heap.size w w3 := (HI.out.bl.alloc HI.out.bl.size _).drew.grown hgrow (by simp; have := HSZ.out; omega) (fun k' hk' => by have := (HVL.out k' hk').1; omega)
          have hI3 := HI.out.stepB (z := (P, y.2)) hown3 hb3 (by rw [mg_nil, mg_nil, List.map_cons, HP.out])
          clear hown3 hgrow hat3 hlt3 hb3
          obtain ⟨A9, hA9⟩ : ∃ A9, A9 = (if d = 1 then some (⟨b2, o2, none⟩ : Addr) else some ⟨b2, o2 + 2, none⟩) := ⟨_, rfl⟩
          rw [← hA9] at hI3 ⊢
          have HI3 := Lib.hid hI3; have HA9 := Lib.hid hA9; clear hI3 hA9
          go_simp
          go_wp2
          go_roundw
          case rel => exact ⟨_, _, _, _, _, _, _, _, _, rfl, rfl, rfl, by have := HN.out; simp at this; omega, HI3.out⟩
          case measure => simp [lenOf]; omega
    | cons x xs2 =>
      cases ys' with
      | nil =>
        obtain rfl : n = 0 := hn.symm
        obtain ⟨f1, f2, f3, f4, f5, f6, f7, f8⟩ := len_facts (show 0 < m by simp at hm; omega)
        obtain ⟨b1, o1, rfl, hl1, q0, q1⟩ := (hI.ra.later hI.bl (Nat.le_refl _)).head
        have hmc : m ≤ c := by rw [← hm]; exact hI.ca
        have hown := hI.ow
        have hle := hI.le
        have hvl := hown.lt
        have hsz := hI.bl.size
        have HI := Lib.hid hI; have HOWN := Lib.hid hown; have HLE := Lib.hid hle; have HM := Lib.hid hm; have HVL := Lib.hid hvl; have HSZ := Lib.hid hsz; clear hI hown hle hm hvl hsz
        go_upto_region 7 with fail
        have hbelc : ∀ (u : Bel wr.heap.size wr) b o, b < wr.heap.size → u.wd.cell? ⟨b, o, none⟩ = wr.cell? ⟨b, o, none⟩ := fun u b o h => u.h.cell (p := ⟨b, o, none⟩) h
        have hbeln : Nonempty (Bel wr.heap.size wr) := ⟨⟨wr, Below.refl _ _⟩⟩
        refine wp_region_bel wr.heap.size (by kernel_rfl) (by kernel_rfl) ?_
        repeat (go_big_quiet_step ((fail)))
        refine wpQuiet_nil ?_
        intro wB hB0; obtain ⟨uB, hu⟩ := hB0; have hbB0 := uB.h; rw [← hu] at hbB0; clear hu uB hbelc hbeln
        obtain ⟨hbB, hcB, hsB⟩ := bcell2 hbB0; clear hbB0
        have hI := HI.out.later hbB
        have hown := hI.ow
        have hvl := hown.lt
        have hsz := hI.bl.size
        have q0z := (hcB b1 o1 hl1).trans q0
        clear q0
        have q0 := q0z
        clear q0z
        have q1z := (hcB b1 (o1 + 1) hl1).trans q1
        clear q1
        have q1 := q1z
        clear q1z
        have hl1z : b1 < wB.heap.size := Nat.lt_of_lt_of_le hl1 hsB
        clear hl1
        have hl1 := hl1z
        clear hl1z
        clear hcB hsB hbB HI HOWN HVL HSZ
        generalize wB = wv1 at *
        have HI := Lib.hid hI; have HOWN := Lib.hid hown; have HVL := Lib.hid hvl; have HSZ := Lib.hid hsz; clear hI hown hvl hsz
        go_upto_region 8 with fail
        go_region_law
          (first | (refine step_appR_Try (by rfl) _ _ (by rfl) w.heap.size u7 o (by rfl) (by repeat (first | exact HOWN.out | refine World.ownsRow.alloc ?_ _ | exact (World.ownsRow.alloc HOWN.out _).drew)) wv1.heap.size x (by rfl) (heap_alloc_new _ _) (by have := HLE.out; omega) (by simp; have := HSZ.out; omega) ?_; intro g cap w3 hown3 hgrow hat3 hlt3))
        all_goals
          have hb3 : Below w.heap.size w w3 := (HI.out.bl.alloc HI.out.bl.size _).drew.grown hgrow (by simp; have := HSZ.out; omega) (fun k' hk' => by have := (HVL.out k' hk').1; omega)
          have hI3 := HI.out.stepA (z := x) hown3 hb3 (by rw [mg_nil2, mg_nil2])
          clear hown3 hgrow hat3 hlt3 hb3
          obtain ⟨A9, hA9⟩ : ∃ A9, A9 = (if c = 1 then some (⟨b1, o1, none⟩ : Addr) else some ⟨b1, o1 + 2, none⟩) := ⟨_, rfl⟩
          rw [← hA9] at hI3 ⊢
          have HI3 := Lib.hid hI3; have HA9 := Lib.hid hA9; clear hI3 hA9
          go_simp
          go_wp2
          go_roundw
          case rel => exact ⟨_, _, _, _, _, _, _, _, _, rfl, rfl, by have := HM.out; simp at this; omega, rfl, HI3.out⟩
          case measure => simp [lenOf]; omega
      | cons y ys2 =>
        obtain ⟨f1, f2, f3, f4, f5, f6, f7, f8⟩ := len_facts (show 0 < m by simp at hm; omega)
        obtain ⟨b1, o1, rfl, hl1, q0, q1⟩ := (hI.ra.later hI.bl (Nat.le_refl _)).head
        have hmc : m ≤ c := by rw [← hm]; exact hI.ca
        obtain ⟨g1, g2, g3, g4, g5, g6, g7, g8⟩ := len_facts (show 0 < n by simp at hn; omega)
        obtain ⟨b2, o2, rfl, hl2, q2, q3⟩ := (hI.rb.later hI.bl (Nat.le_refl _)).head
        have hnd : n ≤ d := by rw [← hn]; exact hI.cb
        have hown := hI.ow
        have hle := hI.le
        have hvl := hown.lt
        have hsz := hI.bl.size
        have hyr := hI.mb _ (List.mem_cons_self ..)
        obtain ⟨P, hP⟩ : ∃ P, P = bz * y.1 := ⟨_, rfl⟩
        have hPr : -1000000000000000000 ≤ P ∧ P ≤ 1000000000000000000 := by
          rcases HBZ.out with h | h <;> (subst h; omega)
        have w1 : IntKind.i64.wrap (bz * y.1) = P := by rw [← hP]; exact IntWalk.i64_in _ (by omega)
        have hmg := mg_cons bz x y xs2 ys2
        by_cases h1 : x.2 < y.2
        · have k1 : decide (x.2 < y.2) = true := decide_eq_true h1
          rw [if_pos h1] at hmg
          have HI := Lib.hid hI; have HOWN := Lib.hid hown; have HLE := Lib.hid hle; have HM := Lib.hid hm; have HN := Lib.hid hn; have HVL := Lib.hid hvl; have HSZ := Lib.hid hsz; have HYR := Lib.hid hyr; have HP := Lib.hid hP; have HPR := Lib.hid hPr; have HMG := Lib.hid hmg; clear hI hown hle hm hn hvl hsz hyr hP hPr hmg
          go_upto_region 7 with fail
          have hbelc : ∀ (u : Bel wr.heap.size wr) b o, b < wr.heap.size → u.wd.cell? ⟨b, o, none⟩ = wr.cell? ⟨b, o, none⟩ := fun u b o h => u.h.cell (p := ⟨b, o, none⟩) h
          have hbeln : Nonempty (Bel wr.heap.size wr) := ⟨⟨wr, Below.refl _ _⟩⟩
          refine wp_region_bel wr.heap.size (by kernel_rfl) (by kernel_rfl) ?_
          repeat (go_big_quiet_step ((fail)))
          refine wpQuiet_nil ?_
          intro wB hB0; obtain ⟨uB, hu⟩ := hB0; have hbB0 := uB.h; rw [← hu] at hbB0; clear hu uB hbelc hbeln
          obtain ⟨hbB, hcB, hsB⟩ := bcell2 hbB0; clear hbB0
          have hI := HI.out.later hbB
          have hown := hI.ow
          have hvl := hown.lt
          have hsz := hI.bl.size
          have q0z := (hcB b1 o1 hl1).trans q0
          clear q0
          have q0 := q0z
          clear q0z
          have q1z := (hcB b1 (o1 + 1) hl1).trans q1
          clear q1
          have q1 := q1z
          clear q1z
          have hl1z : b1 < wB.heap.size := Nat.lt_of_lt_of_le hl1 hsB
          clear hl1
          have hl1 := hl1z
          clear hl1z
          have q2z := (hcB b2 o2 hl2).trans q2
          clear q2
          have q2 := q2z
          clear q2z
          have q3z := (hcB b2 (o2 + 1) hl2).trans q3
          clear q3
          have q3 := q3z
          clear q3z
          have hl2z : b2 < wB.heap.size := Nat.lt_of_lt_of_le hl2 hsB
          clear hl2
          have hl2 := hl2z
          clear hl2z
          clear hcB hsB hbB HI HOWN HVL HSZ
          generalize wB = wv1 at *
          have HI := Lib.hid hI; have HOWN := Lib.hid hown; have HVL := Lib.hid hvl; have HSZ := Lib.hid hsz; clear hI hown hvl hsz
          go_upto_region 8 with fail
          go_region_law
            (first | (refine step_appR_Try (by rfl) _ _ (by rfl) w.heap.size u7 o (by rfl) (by repeat (first | exact HOWN.out | refine World.ownsRow.alloc ?_ _ | exact (World.ownsRow.alloc HOWN.out _).drew)) wv1.heap.size x (by rfl) (heap_alloc_new _ _) (by have := HLE.out; omega) (by simp; have := HSZ.out; omega) ?_; intro g cap w3 hown3 hgrow hat3 hlt3))
          all_goals
            have hb3 : Below w.heap.size w w3 := (HI.out.bl.alloc HI.out.bl.size _).drew.grown hgrow (by simp; have := HSZ.out; omega) (fun k' hk' => by have := (HVL.out k' hk').1; omega)
            have hI3 := HI.out.stepA (z := x) hown3 hb3 (HMG.out)
            clear hown3 hgrow hat3 hlt3 hb3
            obtain ⟨A9, hA9⟩ : ∃ A9, A9 = (if c = 1 then some (⟨b1, o1, none⟩ : Addr) else some ⟨b1, o1 + 2, none⟩) := ⟨_, rfl⟩
            rw [← hA9] at hI3 ⊢
            have HI3 := Lib.hid hI3; have HA9 := Lib.hid hA9; clear hI3 hA9
            go_simp
            go_wp2
            go_roundw
            case rel => exact ⟨_, _, _, _, _, _, _, _, _, rfl, rfl, by have := HM.out; simp at this; omega, HN.out, HI3.out⟩
            case measure => simp [lenOf]; omega
        · have k1 : decide (x.2 < y.2) = false := decide_eq_false h1
          rw [if_neg h1] at hmg
          by_cases h2 : y.2 < x.2
          · have k2 : decide (y.2 < x.2) = true := decide_eq_true h2
            rw [if_pos h2, ← hP] at hmg
            have HI := Lib.hid hI; have HOWN := Lib.hid hown; have HLE := Lib.hid hle; have HM := Lib.hid hm; have HN := Lib.hid hn; have HVL := Lib.hid hvl; have HSZ := Lib.hid hsz; have HYR := Lib.hid hyr; have HP := Lib.hid hP; have HPR := Lib.hid hPr; have HMG := Lib.hid hmg; clear hI hown hle hm hn hvl hsz hyr hP hPr hmg
            go_upto_region 7 with fail
            have hbelc : ∀ (u : Bel wr.heap.size wr) b o, b < wr.heap.size → u.wd.cell? ⟨b, o, none⟩ = wr.cell? ⟨b, o, none⟩ := fun u b o h => u.h.cell (p := ⟨b, o, none⟩) h
            have hbeln : Nonempty (Bel wr.heap.size wr) := ⟨⟨wr, Below.refl _ _⟩⟩
            refine wp_region_bel wr.heap.size (by kernel_rfl) (by kernel_rfl) ?_
            repeat (go_big_quiet_step ((fail)))
            refine wpQuiet_nil ?_
            intro wB hB0; obtain ⟨uB, hu⟩ := hB0; have hbB0 := uB.h; rw [← hu] at hbB0; clear hu uB hbelc hbeln
            obtain ⟨hbB, hcB, hsB⟩ := bcell2 hbB0; clear hbB0
            have hI := HI.out.later hbB
            have hown := hI.ow
            have hvl := hown.lt
            have hsz := hI.bl.size
            have q0z := (hcB b1 o1 hl1).trans q0
            clear q0
            have q0 := q0z
            clear q0z
            have q1z := (hcB b1 (o1 + 1) hl1).trans q1
            clear q1
            have q1 := q1z
            clear q1z
            have hl1z : b1 < wB.heap.size := Nat.lt_of_lt_of_le hl1 hsB
            clear hl1
            have hl1 := hl1z
            clear hl1z
            have q2z := (hcB b2 o2 hl2).trans q2
            clear q2
            have q2 := q2z
            clear q2z
            have q3z := (hcB b2 (o2 + 1) hl2).trans q3
            clear q3
            have q3 := q3z
            clear q3z
            have hl2z : b2 < wB.heap.size := Nat.lt_of_lt_of_le hl2 hsB
            clear hl2
            have hl2 := hl2z
            clear hl2z
            clear hcB hsB hbB HI HOWN HVL HSZ
            generalize wB = wv1 at *
            have HI := Lib.hid hI; have HOWN := Lib.hid hown; have HVL := Lib.hid hvl; have HSZ := Lib.hid hsz; clear hI hown hvl hsz
            go_upto_region 9 with fail
            have hbelc : ∀ (u : Bel wv1.heap.size wv1) b o, b < wv1.heap.size → u.wd.cell? ⟨b, o, none⟩ = wv1.cell? ⟨b, o, none⟩ := fun u b o h => u.h.cell (p := ⟨b, o, none⟩) h
            have hbeln : Nonempty (Bel wv1.heap.size wv1) := ⟨⟨wv1, Below.refl _ _⟩⟩
            refine wp_region_bel wv1.heap.size (by kernel_rfl) (by kernel_rfl) ?_
            repeat (go_big_quiet_step ((fail)))
            refine wpQuiet_nil ?_
            intro wB hB0; obtain ⟨uB, hu⟩ := hB0; have hbB0 := uB.h; rw [← hu] at hbB0; clear hu uB hbelc hbeln
            obtain ⟨hbB, hcB, hsB⟩ := bcell2 hbB0; clear hbB0
            have hI := HI.out.later hbB
            have hown := hI.ow
            have hvl := hown.lt
            have hsz := hI.bl.size
            have q0z := (hcB b1 o1 hl1).trans q0
            clear q0
            have q0 := q0z
            clear q0z
            have q1z := (hcB b1 (o1 + 1) hl1).trans q1
            clear q1
            have q1 := q1z
            clear q1z
            have hl1z : b1 < wB.heap.size := Nat.lt_of_lt_of_le hl1 hsB
            clear hl1
            have hl1 := hl1z
            clear hl1z
            have q2z := (hcB b2 o2 hl2).trans q2
            clear q2
            have q2 := q2z
            clear q2z
            have q3z := (hcB b2 (o2 + 1) hl2).trans q3
            clear q3
            have q3 := q3z
            clear q3z
            have hl2z : b2 < wB.heap.size := Nat.lt_of_lt_of_le hl2 hsB
            clear hl2
            have hl2 := hl2z
            clear hl2z
            clear hcB hsB hbB HI HOWN HVL HSZ
            generalize wB = wv2 at *
            have HI := Lib.hid hI; have HOWN := Lib.hid hown; have HVL := Lib.hid hvl; have HSZ := Lib.hid hsz; clear hI hown hvl hsz
            go_upto_region 10 with fail
            go_region_law
              (first | (refine step_appR_Try (by rfl) _ _ (by rfl) w.heap.size u7 o (by rfl) (by repeat (first | exact HOWN.out | refine World.ownsRow.alloc ?_ _ | exact (World.ownsRow.alloc HOWN.out _).drew)) wv2.heap.size (P, y.2) (by rfl) (heap_alloc_new _ _) (by have := HLE.out; omega) (by simp; have := HSZ.out; omega) ?_; intro g cap w3 hown3 hgrow hat3 hlt3))
            all_goals
              have hb3 : Below w.heap.size w w3 := (HI.out.bl.alloc HI.out.bl.size _).drew.grown hgrow (by simp; have := HSZ.out; omega) (fun k' hk' => by have := (HVL.out k' hk').1; omega)
              have hI3 := HI.out.stepB (z := (P, y.2)) hown3 hb3 (HMG.out)
              clear hown3 hgrow hat3 hlt3 hb3
              obtain ⟨A9, hA9⟩ : ∃ A9, A9 = (if d = 1 then some (⟨b2, o2, none⟩ : Addr) else some ⟨b2, o2 + 2, none⟩) := ⟨_, rfl⟩
              rw [← hA9] at hI3 ⊢
              have HI3 := Lib.hid hI3; have HA9 := Lib.hid hA9; clear hI3 hA9
              go_simp
              go_wp2
              go_roundw
              case rel => exact ⟨_, _, _, _, _, _, _, _, _, rfl, rfl, HM.out, by have := HN.out; simp at this; omega, HI3.out⟩
              case measure => simp [lenOf]; omega
          · have k2 : decide (y.2 < x.2) = false := decide_eq_false h2
            rw [if_neg h2, ← hP] at hmg
            have hxr := hI.ma _ (List.mem_cons_self ..)
            obtain ⟨Q, hQ⟩ : ∃ Q, Q = x.1 + P := ⟨_, rfl⟩
            have w2 : IntKind.i64.wrap (x.1 + P) = Q := by rw [← hQ]; exact IntWalk.i64_in _ (by omega)
            rw [← hQ] at hmg
            by_cases h3 : Q = 0
            · have k3 : (Q != 0) = false := by simp [h3]
              rw [if_pos h3] at hmg
              have HI := Lib.hid hI; have HOWN := Lib.hid hown; have HLE := Lib.hid hle; have HM := Lib.hid hm; have HN := Lib.hid hn; have HVL := Lib.hid hvl; have HSZ := Lib.hid hsz; have HYR := Lib.hid hyr; have HP := Lib.hid hP; have HPR := Lib.hid hPr; have HMG := Lib.hid hmg; have HXR := Lib.hid hxr; have HQ := Lib.hid hQ; have H3 := Lib.hid h3; clear hI hown hle hm hn hvl hsz hyr hP hPr hmg hxr hQ h3
              go_upto_region 7 with fail
              have hbelc : ∀ (u : Bel wr.heap.size wr) b o, b < wr.heap.size → u.wd.cell? ⟨b, o, none⟩ = wr.cell? ⟨b, o, none⟩ := fun u b o h => u.h.cell (p := ⟨b, o, none⟩) h
              have hbeln : Nonempty (Bel wr.heap.size wr) := ⟨⟨wr, Below.refl _ _⟩⟩
              refine wp_region_bel wr.heap.size (by kernel_rfl) (by kernel_rfl) ?_
              repeat (go_big_quiet_step ((fail)))
              refine wpQuiet_nil ?_
              intro wB hB0; obtain ⟨uB, hu⟩ := hB0; have hbB0 := uB.h; rw [← hu] at hbB0; clear hu uB hbelc hbeln
              obtain ⟨hbB, hcB, hsB⟩ := bcell2 hbB0; clear hbB0
              have hI := HI.out.later hbB
              have hown := hI.ow
              have hvl := hown.lt
              have hsz := hI.bl.size
              have q0z := (hcB b1 o1 hl1).trans q0
              clear q0
              have q0 := q0z
              clear q0z
              have q1z := (hcB b1 (o1 + 1) hl1).trans q1
              clear q1
              have q1 := q1z
              clear q1z
              have hl1z : b1 < wB.heap.size := Nat.lt_of_lt_of_le hl1 hsB
              clear hl1
              have hl1 := hl1z
              clear hl1z
              have q2z := (hcB b2 o2 hl2).trans q2
              clear q2
              have q2 := q2z
              clear q2z
              have q3z := (hcB b2 (o2 + 1) hl2).trans q3
              clear q3
              have q3 := q3z
              clear q3z
              have hl2z : b2 < wB.heap.size := Nat.lt_of_lt_of_le hl2 hsB
              clear hl2
              have hl2 := hl2z
              clear hl2z
              clear hcB hsB hbB HI HOWN HVL HSZ
              generalize wB = wv1 at *
              have HI := Lib.hid hI; have HOWN := Lib.hid hown; have HVL := Lib.hid hvl; have HSZ := Lib.hid hsz; clear hI hown hvl hsz
              go_upto_region 9 with fail
              have hbelc : ∀ (u : Bel wv1.heap.size wv1) b o, b < wv1.heap.size → u.wd.cell? ⟨b, o, none⟩ = wv1.cell? ⟨b, o, none⟩ := fun u b o h => u.h.cell (p := ⟨b, o, none⟩) h
              have hbeln : Nonempty (Bel wv1.heap.size wv1) := ⟨⟨wv1, Below.refl _ _⟩⟩
              refine wp_region_bel wv1.heap.size (by kernel_rfl) (by kernel_rfl) ?_
              repeat (go_big_quiet_step ((fail)))
              refine wpQuiet_nil ?_
              intro wB hB0; obtain ⟨uB, hu⟩ := hB0; have hbB0 := uB.h; rw [← hu] at hbB0; clear hu uB hbelc hbeln
              obtain ⟨hbB, hcB, hsB⟩ := bcell2 hbB0; clear hbB0
              have hI := HI.out.later hbB
              have hown := hI.ow
              have hvl := hown.lt
              have hsz := hI.bl.size
              have q0z := (hcB b1 o1 hl1).trans q0
              clear q0
              have q0 := q0z
              clear q0z
              have q1z := (hcB b1 (o1 + 1) hl1).trans q1
              clear q1
              have q1 := q1z
              clear q1z
              have hl1z : b1 < wB.heap.size := Nat.lt_of_lt_of_le hl1 hsB
              clear hl1
              have hl1 := hl1z
              clear hl1z
              have q2z := (hcB b2 o2 hl2).trans q2
              clear q2
              have q2 := q2z
              clear q2z
              have q3z := (hcB b2 (o2 + 1) hl2).trans q3
              clear q3
              have q3 := q3z
              clear q3z
              have hl2z : b2 < wB.heap.size := Nat.lt_of_lt_of_le hl2 hsB
              clear hl2
              have hl2 := hl2z
              clear hl2z
              clear hcB hsB hbB HI HOWN HVL HSZ
              generalize wB = wv2 at *
              have HI := Lib.hid hI; have HOWN := Lib.hid hown; have HVL := Lib.hid hvl; have HSZ := Lib.hid hsz; clear hI hown hvl hsz
              go_upto_region 3 with fail
              have hbelc : ∀ (u : Bel wv2.heap.size wv2) b o, b < wv2.heap.size → u.wd.cell? ⟨b, o, none⟩ = wv2.cell? ⟨b, o, none⟩ := fun u b o h => u.h.cell (p := ⟨b, o, none⟩) h
              have hbeln : Nonempty (Bel wv2.heap.size wv2) := ⟨⟨wv2, Below.refl _ _⟩⟩
              refine wp_region_bel wv2.heap.size (by kernel_rfl) (by kernel_rfl) ?_
              repeat (go_big_quiet_step ((fail)))
              refine wpQuiet_nil ?_
              intro wB hB0; obtain ⟨uB, hu⟩ := hB0; have hbB0 := uB.h; rw [← hu] at hbB0; clear hu uB hbelc hbeln
              obtain ⟨hbB, hcB, hsB⟩ := bcell2 hbB0; clear hbB0
              have hI := HI.out.later hbB
              have hown := hI.ow
              have hvl := hown.lt
              have hsz := hI.bl.size
              have q0z := (hcB b1 o1 hl1).trans q0
              clear q0
              have q0 := q0z
              clear q0z
              have q1z := (hcB b1 (o1 + 1) hl1).trans q1
              clear q1
              have q1 := q1z
              clear q1z
              have hl1z : b1 < wB.heap.size := Nat.lt_of_lt_of_le hl1 hsB
              clear hl1
              have hl1 := hl1z
              clear hl1z
              have q2z := (hcB b2 o2 hl2).trans q2
              clear q2
              have q2 := q2z
              clear q2z
              have q3z := (hcB b2 (o2 + 1) hl2).trans q3
              clear q3
              have q3 := q3z
              clear q3z
              have hl2z : b2 < wB.heap.size := Nat.lt_of_lt_of_le hl2 hsB
              clear hl2
              have hl2 := hl2z
              clear hl2z
              clear hcB hsB hbB HI HOWN HVL HSZ
              generalize wB = wv3 at *
              have HI := Lib.hid hI; have HOWN := Lib.hid hown; have HVL := Lib.hid hvl; have HSZ := Lib.hid hsz; clear hI hown hvl hsz
              go_upto_region 6 with fail
              have hbelc : ∀ (u : Bel wv3.heap.size wv3) b o, b < wv3.heap.size → u.wd.cell? ⟨b, o, none⟩ = wv3.cell? ⟨b, o, none⟩ := fun u b o h => u.h.cell (p := ⟨b, o, none⟩) h
              have hbeln : Nonempty (Bel wv3.heap.size wv3) := ⟨⟨wv3, Below.refl _ _⟩⟩
              refine wp_region_bel wv3.heap.size (by kernel_rfl) (by kernel_rfl) ?_
              repeat (go_big_quiet_step ((fail)))
              refine wpQuiet_nil ?_
              intro wB hB0; obtain ⟨uB, hu⟩ := hB0; have hbB0 := uB.h; rw [← hu] at hbB0; clear hu uB hbelc hbeln
              obtain ⟨hbB, hcB, hsB⟩ := bcell2 hbB0; clear hbB0
              have hI := HI.out.later hbB
              have hown := hI.ow
              have hvl := hown.lt
              have hsz := hI.bl.size
              have q0z := (hcB b1 o1 hl1).trans q0
              clear q0
              have q0 := q0z
              clear q0z
              have q1z := (hcB b1 (o1 + 1) hl1).trans q1
              clear q1
              have q1 := q1z
              clear q1z
              have hl1z : b1 < wB.heap.size := Nat.lt_of_lt_of_le hl1 hsB
              clear hl1
              have hl1 := hl1z
              clear hl1z
              have q2z := (hcB b2 o2 hl2).trans q2
              clear q2
              have q2 := q2z
              clear q2z
              have q3z := (hcB b2 (o2 + 1) hl2).trans q3
              clear q3
              have q3 := q3z
              clear q3z
              have hl2z : b2 < wB.heap.size := Nat.lt_of_lt_of_le hl2 hsB
              clear hl2
              have hl2 := hl2z
              clear hl2z
              clear hcB hsB hbB HI HOWN HVL HSZ
              generalize wB = wv4 at *
              have HI := Lib.hid hI; have HOWN := Lib.hid hown; have HVL := Lib.hid hvl; have HSZ := Lib.hid hsz; clear hI hown hvl hsz
              have hI3 := HI.out.stepAB (o2 := []) (by rw [List.append_nil]; exact HOWN.out) (by simp) HI.out.bl HMG.out
              rw [List.append_nil] at hI3
              have HI3 := Lib.hid hI3; clear hI3
              go_wp2
              go_roundw
              case rel => exact ⟨_, _, _, _, _, _, _, _, _, rfl, rfl, by have := HM.out; simp at this; omega, by have := HN.out; simp at this; omega, HI3.out⟩
              case measure => simp [lenOf]; omega
            · have k3 : (Q != 0) = true := by simp [h3]
              rw [if_neg h3] at hmg
              have HI := Lib.hid hI; have HOWN := Lib.hid hown; have HLE := Lib.hid hle; have HM := Lib.hid hm; have HN := Lib.hid hn; have HVL := Lib.hid hvl; have HSZ := Lib.hid hsz; have HYR := Lib.hid hyr; have HP := Lib.hid hP; have HPR := Lib.hid hPr; have HMG := Lib.hid hmg; have HXR := Lib.hid hxr; have HQ := Lib.hid hQ; have H3 := Lib.hid h3; clear hI hown hle hm hn hvl hsz hyr hP hPr hmg hxr hQ h3
              go_upto_region 7 with fail
              have hbelc : ∀ (u : Bel wr.heap.size wr) b o, b < wr.heap.size → u.wd.cell? ⟨b, o, none⟩ = wr.cell? ⟨b, o, none⟩ := fun u b o h => u.h.cell (p := ⟨b, o, none⟩) h
              have hbeln : Nonempty (Bel wr.heap.size wr) := ⟨⟨wr, Below.refl _ _⟩⟩
              refine wp_region_bel wr.heap.size (by kernel_rfl) (by kernel_rfl) ?_
              repeat (go_big_quiet_step ((fail)))
              refine wpQuiet_nil ?_
              intro wB hB0; obtain ⟨uB, hu⟩ := hB0; have hbB0 := uB.h; rw [← hu] at hbB0; clear hu uB hbelc hbeln
              obtain ⟨hbB, hcB, hsB⟩ := bcell2 hbB0; clear hbB0
              have hI := HI.out.later hbB
              have hown := hI.ow
              have hvl := hown.lt
              have hsz := hI.bl.size
              have q0z := (hcB b1 o1 hl1).trans q0
              clear q0
              have q0 := q0z
              clear q0z
              have q1z := (hcB b1 (o1 + 1) hl1).trans q1
              clear q1
              have q1 := q1z
              clear q1z
              have hl1z : b1 < wB.heap.size := Nat.lt_of_lt_of_le hl1 hsB
              clear hl1
              have hl1 := hl1z
              clear hl1z
              have q2z := (hcB b2 o2 hl2).trans q2
              clear q2
              have q2 := q2z
              clear q2z
              have q3z := (hcB b2 (o2 + 1) hl2).trans q3
              clear q3
              have q3 := q3z
              clear q3z
              have hl2z : b2 < wB.heap.size := Nat.lt_of_lt_of_le hl2 hsB
              clear hl2
              have hl2 := hl2z
              clear hl2z
              clear hcB hsB hbB HI HOWN HVL HSZ
              generalize wB = wv1 at *
              have HI := Lib.hid hI; have HOWN := Lib.hid hown; have HVL := Lib.hid hvl; have HSZ := Lib.hid hsz; clear hI hown hvl hsz
              go_upto_region 9 with fail
              have hbelc : ∀ (u : Bel wv1.heap.size wv1) b o, b < wv1.heap.size → u.wd.cell? ⟨b, o, none⟩ = wv1.cell? ⟨b, o, none⟩ := fun u b o h => u.h.cell (p := ⟨b, o, none⟩) h
              have hbeln : Nonempty (Bel wv1.heap.size wv1) := ⟨⟨wv1, Below.refl _ _⟩⟩
              refine wp_region_bel wv1.heap.size (by kernel_rfl) (by kernel_rfl) ?_
              repeat (go_big_quiet_step ((fail)))
              refine wpQuiet_nil ?_
              intro wB hB0; obtain ⟨uB, hu⟩ := hB0; have hbB0 := uB.h; rw [← hu] at hbB0; clear hu uB hbelc hbeln
              obtain ⟨hbB, hcB, hsB⟩ := bcell2 hbB0; clear hbB0
              have hI := HI.out.later hbB
              have hown := hI.ow
              have hvl := hown.lt
              have hsz := hI.bl.size
              have q0z := (hcB b1 o1 hl1).trans q0
              clear q0
              have q0 := q0z
              clear q0z
              have q1z := (hcB b1 (o1 + 1) hl1).trans q1
              clear q1
              have q1 := q1z
              clear q1z
              have hl1z : b1 < wB.heap.size := Nat.lt_of_lt_of_le hl1 hsB
              clear hl1
              have hl1 := hl1z
              clear hl1z
              have q2z := (hcB b2 o2 hl2).trans q2
              clear q2
              have q2 := q2z
              clear q2z
              have q3z := (hcB b2 (o2 + 1) hl2).trans q3
              clear q3
              have q3 := q3z
              clear q3z
              have hl2z : b2 < wB.heap.size := Nat.lt_of_lt_of_le hl2 hsB
              clear hl2
              have hl2 := hl2z
              clear hl2z
              clear hcB hsB hbB HI HOWN HVL HSZ
              generalize wB = wv2 at *
              have HI := Lib.hid hI; have HOWN := Lib.hid hown; have HVL := Lib.hid hvl; have HSZ := Lib.hid hsz; clear hI hown hvl hsz
              go_upto_region 3 with fail
              have hbelc : ∀ (u : Bel wv2.heap.size wv2) b o, b < wv2.heap.size → u.wd.cell? ⟨b, o, none⟩ = wv2.cell? ⟨b, o, none⟩ := fun u b o h => u.h.cell (p := ⟨b, o, none⟩) h
              have hbeln : Nonempty (Bel wv2.heap.size wv2) := ⟨⟨wv2, Below.refl _ _⟩⟩
              refine wp_region_bel wv2.heap.size (by kernel_rfl) (by kernel_rfl) ?_
              repeat (go_big_quiet_step ((fail)))
              refine wpQuiet_nil ?_
              intro wB hB0; obtain ⟨uB, hu⟩ := hB0; have hbB0 := uB.h; rw [← hu] at hbB0; clear hu uB hbelc hbeln
              obtain ⟨hbB, hcB, hsB⟩ := bcell2 hbB0; clear hbB0
              have hI := HI.out.later hbB
              have hown := hI.ow
              have hvl := hown.lt
              have hsz := hI.bl.size
              have q0z := (hcB b1 o1 hl1).trans q0
              clear q0
              have q0 := q0z
              clear q0z
              have q1z := (hcB b1 (o1 + 1) hl1).trans q1
              clear q1
              have q1 := q1z
              clear q1z
              have hl1z : b1 < wB.heap.size := Nat.lt_of_lt_of_le hl1 hsB
              clear hl1
              have hl1 := hl1z
              clear hl1z
              have q2z := (hcB b2 o2 hl2).trans q2
              clear q2
              have q2 := q2z
              clear q2z
              have q3z := (hcB b2 (o2 + 1) hl2).trans q3
              clear q3
              have q3 := q3z
              clear q3z
              have hl2z : b2 < wB.heap.size := Nat.lt_of_lt_of_le hl2 hsB
              clear hl2
              have hl2 := hl2z
              clear hl2z
              clear hcB hsB hbB HI HOWN HVL HSZ
              generalize wB = wv3 at *
              have HI := Lib.hid hI; have HOWN := Lib.hid hown; have HVL := Lib.hid hvl; have HSZ := Lib.hid hsz; clear hI hown hvl hsz
              go_upto_region 6 with (refine wpList_appR_Try (by rfl) _ _ (by rfl) w.heap.size u7 o (by rfl) (by repeat (first | exact HOWN.out | refine World.ownsRow.alloc ?_ _ | exact (World.ownsRow.alloc HOWN.out _).drew)) wv3.heap.size (Q, x.2) (by rfl) (heap_alloc_new _ _) (by have := HLE.out; omega) (by simp; have := HSZ.out; omega) ?_; intro g cap w3 hown3 hgrow hat3 hlt3)
              have hb3 : Below w.heap.size w w3 := (HI.out.bl.alloc HI.out.bl.size _).grown hgrow (by simp; have := HSZ.out; omega) (fun k' hk' => by have := (HVL.out k' hk').1; omega)
              have hI3 := HI.out.stepAB (o2 := [(Q, x.2)]) hown3 (by simp) hb3 HMG.out
              clear hown3 hgrow hat3 hlt3 hb3
              have HI3 := Lib.hid hI3; clear hI3
              have hbelc : ∀ (u : Bel w3.heap.size w3) b o, b < w3.heap.size → u.wd.cell? ⟨b, o, none⟩ = w3.cell? ⟨b, o, none⟩ := fun u b o h => u.h.cell (p := ⟨b, o, none⟩) h
              have hbeln : Nonempty (Bel w3.heap.size w3) := ⟨⟨w3, Below.refl _ _⟩⟩
              refine wp_region_bel w3.heap.size (by kernel_rfl) (by kernel_rfl) ?_
              repeat (go_big_quiet_step ((fail)))
              refine wpQuiet_nil ?_
              intro wB hB0; obtain ⟨uB, hu⟩ := hB0; have hbB0 := uB.h; rw [← hu] at hbB0; clear hu uB hbelc hbeln
              obtain ⟨hbB, hcB, hsB⟩ := bcell2 hbB0; clear hbB0
              have hI4 := HI3.out.later hbB
              have HI4 := Lib.hid hI4; clear hI4
              go_wp2
              go_roundw
              case rel => exact ⟨_, _, _, _, _, _, _, _, _, rfl, rfl, by have := HM.out; simp at this; omega, by have := HN.out; simp at this; omega, HI4.out⟩
              case measure => simp [lenOf]; omega
end Go.Proofs.Ytdimaapiloojeaa
/- The grid: points, steps, products. -/
namespace Go.Proofs.Ytdimaapiloojeaa
open Go.RowKit

def outB (n m : Int) : Bool := decide (n < -m) || decide (m < n)
def offP (x : Int × Int) : Bool := outB x.1 1000000 || outB x.2 1000000
set_option maxRecDepth 100000 in
set_option maxHeartbeats 2000000 in
theorem gOutside_ (n m : Int) (hm : 0 ≤ m) (hm2 : m ≤ 1000000000) (w : World) : Calls Try.prog 81 #[.int .i64 n, .int .i64 m] w (BoolPost (outB n m) w) := by
  have hb := Below.refl w.heap.size w
  have w1 : IntKind.i64.wrap (-m) = -m := IntWalk.i64_in _ (by omega)
  have hr : outB n m = (decide (n < -m) || decide (m < n)) := rfl
  by_cases h1 : n < -m
  · have f1 : decide (n < -m) = true := decide_eq_true h1
    rw [f1, Bool.true_or] at hr
    have HB := Lib.hid hb; have HR := Lib.hid hr; have HM := Lib.hid hm; have HM2 := Lib.hid hm2; clear hb hr hm hm2
    go_enter Try.func81, Try.ntmps81
    go_wp2
    go_ret
    exact ⟨by rw [HR.out]; rfl, HB.out⟩
  · have f1 : decide (n < -m) = false := decide_eq_false h1
    rw [f1, Bool.false_or] at hr
    have HB := Lib.hid hb; have HR := Lib.hid hr; have HM := Lib.hid hm; have HM2 := Lib.hid hm2; clear hb hr hm hm2
    go_enter Try.func81, Try.ntmps81
    go_wp2
    go_ret
    exact ⟨by rw [HR.out]; rfl, HB.out⟩
set_option maxRecDepth 100000 in
set_option maxHeartbeats 2000000 in
theorem gPoint1_ (x : Int × Int) (w : World) : Calls Try.prog 102 #[.agg #[.int .i64 x.1, .int .i64 x.2]] w (BoolPost (offP x) w) := by
  obtain ⟨X, Y⟩ := x
  have hb : Below w.heap.size w (w.alloc (.cells #[.int .i64 X, .int .i64 Y] 59)) := (Below.refl _ _).alloc (Nat.le_refl _) _
  have hx := heap_alloc_new w (.cells #[.int .i64 X, .int .i64 Y] 59)
  have hr : offP (X, Y) = (outB X 1000000 || outB Y 1000000) := rfl
  have hc1 := fun W => gOutside_ X 1000000 (by decide) (by decide) W
  have hc2 := fun W => gOutside_ Y 1000000 (by decide) (by decide) W
  have HB := Lib.hid hb; have HX := Lib.hid hx; have HC1 := Lib.hid hc1; have HC2 := Lib.hid hc2; clear hb hx hc1 hc2
  go_enter Try.func102, Try.ntmps102
  go_wp2_with fail
  refine (HC1.out _).mono ?_
  rintro e w1 ⟨rfl, b1⟩
  have hb1 := HB.out.trans (b1.mono HB.out.size)
  have hx1 := (b1.block _ (lt_of_block HX.out)).trans HX.out
  have c1 := cell_of_row _ _ 1 _ _ _ hx1
  simp only [List.getElem?_toArray, List.getElem?_cons_zero, List.getElem?_cons_succ] at c1
  have hl := lt_of_block hx1
  clear b1 HX HB
  cases hw : outB X 1000000 with
  | true =>
    rw [hw] at hr
    have hr2 : offP (X, Y) = true := hr
    clear hr
    have HB1 := Lib.hid hb1; have HX1 := Lib.hid hx1; have HR2 := Lib.hid hr2; have HW := Lib.hid hw; clear hb1 hx1 hr2 hw
    go_wp2
    go_ret
    exact ⟨by rw [HR2.out]; rfl, HB1.out⟩
  | false =>
    rw [hw, Bool.false_or] at hr
    have HB1 := Lib.hid hb1; have HX1 := Lib.hid hx1; have HR := Lib.hid hr; have HW := Lib.hid hw; clear hb1 hx1 hr hw
    go_wp2_with fail
    refine (HC2.out _).mono ?_
    rintro e w2 ⟨rfl, b1⟩
    have hb2 := HB1.out.trans (b1.mono HB1.out.size)
    clear b1
    have HB2 := Lib.hid hb2; clear hb2
    go_wp2
    go_ret
    exact ⟨by rw [HR.out]; rfl, HB2.out⟩
set_option maxRecDepth 100000 in
set_option maxHeartbeats 2000000 in
theorem indP_ (A : Option Addr) (c : Nat) (xs : List (Int × Int)) (w : World) (hr : RdR w A xs) :
    Calls Try.prog 103 #[.slice A xs.length c, .func (.func 102) #[] #[]] w (IdxRP (xs.any offP) w) := by
  have hln := hr.1
  have hb := Below.refl w.heap.size w
  have HR := Lib.hid hr; have HB := Lib.hid hb; clear hr hb
  go_enter Try.func103, Try.ntmps103
  go_wp2
  go_loopw [5, 8] (fun _ iv wr => ∃ k : Nat, iv = .int .i64 k ∧ k ≤ xs.length ∧ (xs.take k).any offP = false ∧ Below w.heap.size w wr) (fun _ iv _ => xs.length - (intOf iv).toNat)
  case atStart => exact ⟨0, rfl, Nat.zero_le _, rfl, HB.out⟩
  case round =>
    obtain ⟨k, rfl, hk, hno, hbw⟩ := hrel
    by_cases hlt : k < xs.length
    · obtain ⟨bl, ol, rfl, hbl, l1, l2⟩ := (HR.out.later hbw (Nat.le_refl _)).at_ hlt
      have hts := any_succR xs offP k hlt
      have hhit : offP xs[k] = true → xs.any offP = true := fun h => List.any_eq_true.2 ⟨_, List.getElem_mem hlt, h⟩
      have hcall := fun W => gPoint1_ xs[k] W
      generalize xs[k] = x at *
      have x1 : (0 : Int) ≤ (k : Int) := by omega
      have x2 : (k : Int) < (xs.length : Int) := by omega
      cases hg : offP x with
      | true =>
        have hres := hhit hg
        rw [hg] at hcall
        clear hhit
        have HNO := Lib.hid hno; have HTS := Lib.hid hts; have HRES := Lib.hid hres; have HBW := Lib.hid hbw; have HCALL := Lib.hid hcall; have HG := Lib.hid hg; clear hno hts hres hbw hcall hg
        go_wp2_with fail
        refine (HCALL.out _).mono ?_
        rintro e w1 ⟨rfl, b1⟩
        have hb1 := HBW.out.trans (b1.mono HBW.out.size)
        clear b1
        have HB1 := Lib.hid hb1; clear hb1
        go_wp2
        go_ret
        exact ⟨k, rfl, by rw [HRES.out]; simp, HB1.out⟩
      | false =>
        have hno2 : (xs.take (k + 1)).any offP = false := by rw [hts, hno, hg]; rfl
        rw [hg] at hcall
        clear hhit
        have HNO := Lib.hid hno; have HTS := Lib.hid hts; have HNO2 := Lib.hid hno2; have HBW := Lib.hid hbw; have HCALL := Lib.hid hcall; have HG := Lib.hid hg; clear hno hts hno2 hbw hcall hg
        go_wp2_with fail
        refine (HCALL.out _).mono ?_
        rintro e w1 ⟨rfl, b1⟩
        have hb1 := HBW.out.trans (b1.mono HBW.out.size)
        clear b1
        have HB1 := Lib.hid hb1; clear hb1
        go_wp2
        go_roundw
        case rel => exact ⟨k + 1, by go_num, by omega, HNO2.out, HB1.out⟩
        case measure => simp [intOf]; omega
    · have hres : xs.any offP = false := by
        obtain rfl : k = xs.length := by omega
        rwa [List.take_length] at hno
      have HNO := Lib.hid hno; have HRES := Lib.hid hres; have HBW := Lib.hid hbw; clear hno hres hbw
      go_wp2
      go_ret
      exact ⟨-1, rfl, by rw [HRES.out]; simp, HBW.out⟩
set_option maxRecDepth 100000 in
set_option maxHeartbeats 2000000 in
theorem contP_ (A : Option Addr) (c : Nat) (xs : List (Int × Int)) (w : World) (hr : RdR w A xs) :
    Calls Try.prog 101 #[.slice A xs.length c, .func (.func 102) #[] #[]] w (BoolPost (xs.any offP) w) := by
  have HR := Lib.hid hr; clear hr
  go_enter Try.func101, Try.ntmps101
  go_wp2_with fail
  refine (indP_ A c xs _ HR.out).mono ?_
  rintro e w1 ⟨r, rfl, hr2, hb⟩
  have HR2 := Lib.hid hr2; have HB := Lib.hid hb; clear hr2 hb
  go_wp2
  go_ret
  exact ⟨ret_bool HR2.out, HB.out⟩
set_option maxRecDepth 100000 in
set_option maxHeartbeats 2000000 in
theorem gPoint_ (A : Option Addr) (c : Nat) (xs : List (Int × Int)) (w : World) (hr : RdR w A xs) : Calls Try.prog 95 #[.slice A xs.length c] w (BoolPost (!xs.any offP) w) := by
  have HR := Lib.hid hr; clear hr
  go_enter Try.func95, Try.ntmps95
  go_wp2_with fail
  refine (contP_ A c xs _ HR.out).mono ?_
  rintro e w1 ⟨rfl, hb⟩
  have HB := Lib.hid hb; clear hb
  cases h : xs.any offP with
  | true => go_wp2; go_ret; exact ⟨by rw [h]; rfl, HB.out⟩
  | false => go_wp2; go_ret; exact ⟨by rw [h]; rfl, HB.out⟩
/-- A lattice that is not one. -/
def latB (a b c : Int) : Bool := decide (a < 1) || decide (c < 1) || decide (10000 < a) || decide (10000 < c) || outB b 10000 || decide (a * c ≤ b * b)
def latE (a b c : Int) : Int := if latB a b c = true then 2 else 0
set_option maxRecDepth 100000 in
set_option maxHeartbeats 4000000 in
theorem gCheck_ (a b c : Int) (w : World) : Calls Try.prog 61 #[.agg #[.int .i64 a, .int .i64 b, .int .i64 c]] w fun e w' => e = .returned (.int .i64 (latE a b c)) ∧ Below w.heap.size w w' := by
  have hb : Below w.heap.size w (w.alloc (.cells #[.int .i64 a, .int .i64 b, .int .i64 c] 35)) := (Below.refl _ _).alloc (Nat.le_refl _) _
  have hx := heap_alloc_new w (.cells #[.int .i64 a, .int .i64 b, .int .i64 c] 35)
  have hr : latB a b c = (decide (a < 1) || decide (c < 1) || decide (10000 < a) || decide (10000 < c) || outB b 10000 || decide (a * c ≤ b * b)) := rfl
  have he : latE a b c = if latB a b c = true then 2 else 0 := rfl
  by_cases g1 : a < 1
  · have f0 : decide (a < 1) = true := decide_eq_true g1
    rw [f0] at hr
    have hr2 : latE a b c = 2 := by rw [he, hr]; simp
    have HB := Lib.hid hb; have HX := Lib.hid hx; have HR := Lib.hid hr; have HE := Lib.hid he; have HR2 := Lib.hid hr2; clear hb hx hr he hr2
    go_enter Try.func61, Try.ntmps61
    go_wp2
    go_ret
    exact ⟨by rw [HR2.out]; rfl, HB.out⟩
  have f0 : decide (a < 1) = false := decide_eq_false g1
  rw [f0] at hr
  by_cases g2 : c < 1
  · have f1 : decide (c < 1) = true := decide_eq_true g2
    rw [f1] at hr
    have hr2 : latE a b c = 2 := by rw [he, hr]; simp
    have HB := Lib.hid hb; have HX := Lib.hid hx; have HR := Lib.hid hr; have HE := Lib.hid he; have HR2 := Lib.hid hr2; clear hb hx hr he hr2
    go_enter Try.func61, Try.ntmps61
    go_wp2
    go_ret
    exact ⟨by rw [HR2.out]; rfl, HB.out⟩
  have f1 : decide (c < 1) = false := decide_eq_false g2
  rw [f1] at hr
  by_cases g3 : 10000 < a
  · have f2 : decide (10000 < a) = true := decide_eq_true g3
    rw [f2] at hr
    have hr2 : latE a b c = 2 := by rw [he, hr]; simp
    have HB := Lib.hid hb; have HX := Lib.hid hx; have HR := Lib.hid hr; have HE := Lib.hid he; have HR2 := Lib.hid hr2; clear hb hx hr he hr2
    go_enter Try.func61, Try.ntmps61
    go_wp2
    go_ret
    exact ⟨by rw [HR2.out]; rfl, HB.out⟩
  have f2 : decide (10000 < a) = false := decide_eq_false g3
  rw [f2] at hr
  by_cases g4 : 10000 < c
  · have f3 : decide (10000 < c) = true := decide_eq_true g4
    rw [f3] at hr
    have hr2 : latE a b c = 2 := by rw [he, hr]; simp
    have HB := Lib.hid hb; have HX := Lib.hid hx; have HR := Lib.hid hr; have HE := Lib.hid he; have HR2 := Lib.hid hr2; clear hb hx hr he hr2
    go_enter Try.func61, Try.ntmps61
    go_wp2
    go_ret
    exact ⟨by rw [HR2.out]; rfl, HB.out⟩
  have f3 : decide (10000 < c) = false := decide_eq_false g4
  rw [f3] at hr
  simp only [Bool.false_or] at hr
  have t1 : IntKind.i64.wrap (a * c) = a * c := by
    have h1 := Int.mul_le_mul (show a ≤ 10000 by omega) (show c ≤ 10000 by omega) (by omega) (by decide)
    have h2 := Int.mul_nonneg (show 0 ≤ a by omega) (show 0 ≤ c by omega)
    exact IntWalk.i64_in _ (by omega)
  have HB := Lib.hid hb; have HX := Lib.hid hx; have HE := Lib.hid he; clear hb hx he
  go_enter Try.func61, Try.ntmps61
  go_wp2_with fail
  refine (gOutside_ b 10000 (by decide) (by decide) _).mono ?_
  rintro e w1 ⟨rfl, b1⟩
  have hb1 := HB.out.trans (b1.mono HB.out.size)
  have hx1 := (b1.block _ (lt_of_block HX.out)).trans HX.out
  have c0 := cell_of_row _ _ 0 _ _ _ hx1
  have c1 := cell_of_row _ _ 1 _ _ _ hx1
  have c2 := cell_of_row _ _ 2 _ _ _ hx1
  simp only [List.getElem?_toArray, List.getElem?_cons_zero, List.getElem?_cons_succ] at c0 c1 c2
  have hl := lt_of_block hx1
  clear b1 HX HB
  cases hw : outB b 10000 with
  | true =>
    rw [hw, Bool.true_or] at hr
    have hr2 : latE a b c = 2 := by rw [HE.out, hr]; rfl
    have HB1 := Lib.hid hb1; have HX1 := Lib.hid hx1; have HR := Lib.hid hr; have HR2 := Lib.hid hr2; have HW := Lib.hid hw; clear hb1 hx1 hr hr2 hw
    go_wp2
    go_ret
    exact ⟨by rw [HR2.out]; rfl, HB1.out⟩
  | false =>
    rw [hw, Bool.false_or] at hr
    have hbb : -10000 ≤ b ∧ b ≤ 10000 := by unfold outB at hw; simp at hw; omega
    have t2 : IntKind.i64.wrap (b * b) = b * b := by
      have h3 : b * b ≤ 100000000 := by
        rcases Int.le_total 0 b with h | h
        · have := Int.mul_le_mul (show b ≤ 10000 by omega) (show b ≤ 10000 by omega) h (by decide); omega
        · have := Int.mul_le_mul (show -b ≤ 10000 by omega) (show -b ≤ 10000 by omega) (by omega) (by decide)
          rw [Int.neg_mul_neg] at this; omega
      have h4 : 0 ≤ b * b := by
        rcases Int.le_total 0 b with h | h
        · exact Int.mul_nonneg h h
        · have := Int.mul_nonneg (show 0 ≤ -b by omega) (show 0 ≤ -b by omega)
          rw [Int.neg_mul_neg] at this; exact this
      exact IntWalk.i64_in _ (by omega)
    obtain ⟨AC, hAC⟩ : ∃ AC, AC = a * c := ⟨_, rfl⟩
    obtain ⟨BB, hBB⟩ : ∃ BB, BB = b * b := ⟨_, rfl⟩
    rw [← hAC] at t1 hr
    rw [← hBB] at t2 hr
    rw [hAC] at t1
    rw [hBB] at t2
    by_cases h9 : AC ≤ BB
    · have f9 : decide (AC ≤ BB) = true := decide_eq_true h9
      rw [f9] at hr
      have hr2 : latE a b c = 2 := by rw [HE.out, hr]; rfl
      have HB1 := Lib.hid hb1; have HX1 := Lib.hid hx1; have HR := Lib.hid hr; have HR2 := Lib.hid hr2; have HW := Lib.hid hw; have HBB := Lib.hid hbb; clear hb1 hx1 hr hr2 hw hbb
      subst hAC; subst hBB
      go_wp2
      go_ret
      exact ⟨by rw [HR2.out]; rfl, HB1.out⟩
    · have f9 : decide (AC ≤ BB) = false := decide_eq_false h9
      rw [f9] at hr
      have hr2 : latE a b c = 0 := by rw [HE.out, hr]; rfl
      have HB1 := Lib.hid hb1; have HX1 := Lib.hid hx1; have HR := Lib.hid hr; have HR2 := Lib.hid hr2; have HW := Lib.hid hw; have HBB := Lib.hid hbb; clear hb1 hx1 hr hr2 hw hbb
      subst hAC; subst hBB
      go_wp2
      go_ret
      exact ⟨by rw [HR2.out]; rfl, HB1.out⟩
theorem mul_rng {x y X Y : Int} (h1 : -X ≤ x) (h2 : x ≤ X) (h3 : -Y ≤ y) (h4 : y ≤ Y) : -(X * Y) ≤ x * y ∧ x * y ≤ X * Y := by
  have a1 := Int.mul_nonneg (show 0 ≤ X - x by omega) (show 0 ≤ Y - y by omega)
  have a2 := Int.mul_nonneg (show 0 ≤ X + x by omega) (show 0 ≤ Y + y by omega)
  have a3 := Int.mul_nonneg (show 0 ≤ X - x by omega) (show 0 ≤ Y + y by omega)
  have a4 := Int.mul_nonneg (show 0 ≤ X + x by omega) (show 0 ≤ Y - y by omega)
  rw [Int.sub_mul, Int.mul_sub, Int.mul_sub] at a1
  rw [Int.add_mul, Int.mul_add, Int.mul_add] at a2
  rw [Int.sub_mul, Int.mul_add, Int.mul_add] at a3
  rw [Int.add_mul, Int.mul_sub, Int.mul_sub] at a4
  omega
theorem offP_no {x : Int × Int} (h : offP x = false) : (-1000000 ≤ x.1 ∧ x.1 ≤ 1000000) ∧ -1000000 ≤ x.2 ∧ x.2 ≤ 1000000 := by
  unfold offP outB at h
  simp at h
  omega
set_option maxRecDepth 100000 in
set_option maxHeartbeats 2000000 in
theorem gTo_ (p q : Int × Int) (w : World) (h1 : offP p = false) (h2 : offP q = false) : Calls Try.prog 96 #[.agg #[.int .i64 p.1, .int .i64 p.2], .agg #[.int .i64 q.1, .int .i64 q.2]] w fun e w' => e = .returned (.agg #[.int .i64 (q.1 - p.1), .int .i64 (q.2 - p.2)]) ∧ Below w.heap.size w w' := by
  obtain ⟨a1, a2⟩ := offP_no h1
  obtain ⟨b1, b2⟩ := offP_no h2
  obtain ⟨px, py⟩ := p
  obtain ⟨qx, qy⟩ := q
  have t1 : IntKind.i64.wrap (qx - px) = qx - px := IntWalk.i64_in _ (by simp only at *; omega)
  have t2 : IntKind.i64.wrap (qy - py) = qy - py := IntWalk.i64_in _ (by simp only at *; omega)
  obtain ⟨X, hX⟩ : ∃ X, X = qx - px := ⟨_, rfl⟩
  obtain ⟨Y, hY⟩ : ∃ Y, Y = qy - py := ⟨_, rfl⟩
  rw [← hX, hX] at t1
  rw [← hY, hY] at t2
  have hb : Below w.heap.size w (((w.alloc (.cells #[.int .i64 px, .int .i64 py] 59)).alloc (.cells #[.int .i64 qx, .int .i64 qy] 59)).alloc (.cells #[.int .i64 (qx - px), .int .i64 (qy - py)] 131)) := (((Below.refl _ _).alloc (Nat.le_refl _) _).alloc (by simp) _).alloc (by simp; omega) _
  clear a1 a2 b1 b2
  have H1 := Lib.hid h1; have H2 := Lib.hid h2; have HX := Lib.hid hX; have HY := Lib.hid hY; have HB := Lib.hid hb; clear h1 h2 hX hY hb
  go_enter Try.func96, Try.ntmps96
  go_wp2
  refine bodyPost_ret (v := .agg #[.int .i64 (qx - px), .int .i64 (qy - py)]) (by simp [results, Try.results96, go_sem]) rfl ⟨rfl, HB.out⟩
/-- The product of two steps. -/
def prodG (a b c : Int) (s t : Int × Int) : Int := s.1 * (a * t.1 + b * t.2) + s.2 * (b * t.1 + c * t.2)
def Stp (s : Int × Int) : Prop := (-2000000 ≤ s.1 ∧ s.1 ≤ 2000000) ∧ -2000000 ≤ s.2 ∧ s.2 ≤ 2000000
theorem lat_rng {a b c : Int} (h : latB a b c = false) : (1 ≤ a ∧ a ≤ 10000) ∧ (-10000 ≤ b ∧ b ≤ 10000) ∧ (1 ≤ c ∧ c ≤ 10000) ∧ b * b < a * c := by
  unfold latB outB at h
  simp at h
  omega
set_option maxRecDepth 100000 in
set_option maxHeartbeats 2000000 in
theorem gProduct_ (a b c : Int) (s t : Int × Int) (w : World) (hl : latB a b c = false) (hs : Stp s) (ht : Stp t) : Calls Try.prog 97 #[.agg #[.int .i64 s.1, .int .i64 s.2], .agg #[.int .i64 a, .int .i64 b, .int .i64 c], .agg #[.int .i64 t.1, .int .i64 t.2]] w fun e w' => e = .returned (.int .i64 (prodG a b c s t)) ∧ Below w.heap.size w w' := by
  obtain ⟨⟨la1, la2⟩, ⟨lb1, lb2⟩, ⟨lc1, lc2⟩, _⟩ := lat_rng hl
  obtain ⟨x, y⟩ := s
  obtain ⟨u, v⟩ := t
  obtain ⟨⟨s1, s2⟩, s3, s4⟩ := hs
  obtain ⟨⟨r1, r2⟩, r3, r4⟩ := ht
  simp only at s1 s2 s3 s4 r1 r2 r3 r4
  have e1 := mul_rng (show -10000 ≤ a by omega) la2 r1 r2
  have e2 := mul_rng lb1 lb2 r3 r4
  have e3 := mul_rng lb1 lb2 r1 r2
  have e4 := mul_rng (show -10000 ≤ c by omega) lc2 r3 r4
  have e5 := mul_rng s1 s2 (show -40000000000 ≤ a * u + b * v by omega) (by omega)
  have e6 := mul_rng s3 s4 (show -40000000000 ≤ b * u + c * v by omega) (by omega)
  have t1 : IntKind.i64.wrap (a * u) = a * u := IntWalk.i64_in _ (by omega)
  have t2 : IntKind.i64.wrap (b * v) = b * v := IntWalk.i64_in _ (by omega)
  have t3 : IntKind.i64.wrap (b * u) = b * u := IntWalk.i64_in _ (by omega)
  have t4 : IntKind.i64.wrap (c * v) = c * v := IntWalk.i64_in _ (by omega)
  have t5 : IntKind.i64.wrap (a * u + b * v) = a * u + b * v := IntWalk.i64_in _ (by omega)
  have t6 : IntKind.i64.wrap (b * u + c * v) = b * u + c * v := IntWalk.i64_in _ (by omega)
  have t7 : IntKind.i64.wrap (x * (a * u + b * v)) = x * (a * u + b * v) := IntWalk.i64_in _ (by omega)
  have t8 : IntKind.i64.wrap (y * (b * u + c * v)) = y * (b * u + c * v) := IntWalk.i64_in _ (by omega)
  have t9 : IntKind.i64.wrap (x * (a * u + b * v) + y * (b * u + c * v)) = x * (a * u + b * v) + y * (b * u + c * v) := IntWalk.i64_in _ (by omega)
  have hb : Below w.heap.size w (((w.alloc (.cells #[.int .i64 x, .int .i64 y] 131)).alloc (.cells #[.int .i64 a, .int .i64 b, .int .i64 c] 35)).alloc (.cells #[.int .i64 u, .int .i64 v] 131)) := (((Below.refl _ _).alloc (Nat.le_refl _) _).alloc (by simp) _).alloc (by simp; omega) _
  clear e1 e2 e3 e4 e5 e6 la1 la2 lb1 lb2 lc1 lc2 s1 s2 s3 s4 r1 r2 r3 r4
  have HL := Lib.hid hl; have HB := Lib.hid hb; clear hl hb
  go_enter Try.func97, Try.ntmps97
  go_wp2
  go_ret
  exact ⟨rfl, HB.out⟩
end Go.Proofs.Ytdimaapiloojeaa
/- The grid: products from a point. -/
namespace Go.Proofs.Ytdimaapiloojeaa
open Go.RowKit

def stp (p q : Int × Int) : Int × Int := (q.1 - p.1, q.2 - p.2)
theorem stp_stp {p q : Int × Int} (h1 : offP p = false) (h2 : offP q = false) : Stp (stp p q) := by
  have a1 := offP_no h1
  have a2 := offP_no h2
  unfold Stp stp
  simp only
  omega
def dotB (a b c : Int) (o p q : Int × Int) : Bool := latB a b c || [o, p, q].any offP
def DotPost (a b c : Int) (o p q : Int × Int) (w : World) (e : Ending) (w' : World) : Prop := (e = .returned (.tuple (if dotB a b c o p q = true then #[.int .i64 0, .int .i64 2] else #[.int .i64 (prodG a b c (stp o p) (stp o q)), .int .i64 0]))) ∧ Below w.heap.size w w'
theorem rdR_three {w : World} {R : Nat} {o p q : Int × Int} (h : w.heap[R]? = some (.cells #[.int .i64 o.1, .int .i64 o.2, .int .i64 p.1, .int .i64 p.2, .int .i64 q.1, .int .i64 q.2] 59 (0, 0))) : RdR w (some ⟨R, 0, none⟩) [o, p, q] := by
  refine ⟨by simp, fun _ => ⟨R, 0, rfl, lt_of_block h, fun j hj => ?_⟩⟩
  rw [cell_of_row _ _ _ _ _ _ h]
  simp at hj
  obtain rfl | rfl | rfl | rfl | rfl | rfl : j = 0 ∨ j = 1 ∨ j = 2 ∨ j = 3 ∨ j = 4 ∨ j = 5 := by omega
  all_goals rfl
set_option maxRecDepth 100000 in
set_option maxHeartbeats 4000000 in
theorem gDot_ (a b c : Int) (o p q : Int × Int) (w : World) : Calls Try.prog 82 #[.agg #[.int .i64 a, .int .i64 b, .int .i64 c], .agg #[.int .i64 o.1, .int .i64 o.2], .agg #[.int .i64 p.1, .int .i64 p.2], .agg #[.int .i64 q.1, .int .i64 q.2]] w (DotPost a b c o p q w) := by
  have hb : Below w.heap.size w ((((w.alloc (.cells #[.int .i64 a, .int .i64 b, .int .i64 c] 35)).alloc (.cells #[.int .i64 o.1, .int .i64 o.2] 59)).alloc (.cells #[.int .i64 p.1, .int .i64 p.2] 59)).alloc (.cells #[.int .i64 q.1, .int .i64 q.2] 59)) := ((((Below.refl _ _).alloc (Nat.le_refl _) _).alloc (by simp) _).alloc (by simp; omega) _).alloc (by simp; omega) _
  have hd : dotB a b c o p q = (latB a b c || [o, p, q].any offP) := rfl
  obtain ⟨w0, hw0⟩ : ∃ w0, w0 = (((w.alloc (.cells #[.int .i64 a, .int .i64 b, .int .i64 c] 35)).alloc (.cells #[.int .i64 o.1, .int .i64 o.2] 59)).alloc (.cells #[.int .i64 p.1, .int .i64 p.2] 59)).alloc (.cells #[.int .i64 q.1, .int .i64 q.2] 59) := ⟨_, rfl⟩
  have k0 : w0.cell? ⟨w.heap.size, 0, none⟩ = some (.int .i64 a) := by rw [hw0]; go_simp
  have k1 : w0.cell? ⟨w.heap.size, 1, none⟩ = some (.int .i64 b) := by rw [hw0]; go_simp
  have k2 : w0.cell? ⟨w.heap.size, 2, none⟩ = some (.int .i64 c) := by rw [hw0]; go_simp
  have k3 : w0.cell? ⟨w.heap.size + 1, 0, none⟩ = some (.int .i64 o.1) := by rw [hw0]; go_simp
  have k4 : w0.cell? ⟨w.heap.size + 1, 1, none⟩ = some (.int .i64 o.2) := by rw [hw0]; go_simp
  have k5 : w0.cell? ⟨w.heap.size + 2, 0, none⟩ = some (.int .i64 p.1) := by rw [hw0]; go_simp
  have k6 : w0.cell? ⟨w.heap.size + 2, 1, none⟩ = some (.int .i64 p.2) := by rw [hw0]; go_simp
  have k7 : w0.cell? ⟨w.heap.size + 3, 0, none⟩ = some (.int .i64 q.1) := by rw [hw0]; go_simp
  have k8 : w0.cell? ⟨w.heap.size + 3, 1, none⟩ = some (.int .i64 q.2) := by rw [hw0]; go_simp
  have hs0 : w.heap.size + 4 ≤ w0.heap.size := by rw [hw0]; simp
  have hb0 : Below w.heap.size w w0 := by rw [hw0]; exact hb
  clear hb
  have HD := Lib.hid hd; clear hd
  go_enter Try.func82, Try.ntmps82
  go_upto_region 1 with fail
  rw [← hw0]
  clear hw0
  have x0 : w.heap.size < w0.heap.size := by omega
  have x1 : w.heap.size + 1 < w0.heap.size := by omega
  have x2 : w.heap.size + 2 < w0.heap.size := by omega
  have x3 : w.heap.size + 3 < w0.heap.size := by omega
  have HB0 := Lib.hid hb0; have HS0 := Lib.hid hs0; clear hb0 hs0
  go_wp2_with fail
  refine (gCheck_ a b c _).mono ?_
  rintro e w1 ⟨rfl, b1⟩
  have k0 := below_at b1 (Nat.le_refl _) k0
  have k1 := below_at b1 (Nat.le_refl _) k1
  have k2 := below_at b1 (Nat.le_refl _) k2
  have k3 := below_at b1 (Nat.le_refl _) k3
  have k4 := below_at b1 (Nat.le_refl _) k4
  have k5 := below_at b1 (Nat.le_refl _) k5
  have k6 := below_at b1 (Nat.le_refl _) k6
  have k7 := below_at b1 (Nat.le_refl _) k7
  have k8 := below_at b1 (Nat.le_refl _) k8
  have hs1 : w.heap.size + 4 ≤ w1.heap.size := Nat.le_trans HS0.out b1.size
  have hb1 := HB0.out.trans (b1.mono HB0.out.size)
  clear b1 x0 x1 x2 x3 HB0 HS0
  have x0 : w.heap.size < w1.heap.size := by omega
  have x1 : w.heap.size + 1 < w1.heap.size := by omega
  have x2 : w.heap.size + 2 < w1.heap.size := by omega
  have x3 : w.heap.size + 3 < w1.heap.size := by omega
  have he : latE a b c = if latB a b c = true then 2 else 0 := rfl
  cases hl : latB a b c with
  | true =>
    rw [hl] at he
    have hd2 : dotB a b c o p q = true := by rw [HD.out, hl]; rfl
    have he2 : latE a b c = 2 := he
    rw [he2]
    clear he he2
    have HB1 := Lib.hid hb1; have HS1 := Lib.hid hs1; have HL := Lib.hid hl; have HD2 := Lib.hid hd2; clear hb1 hs1 hl hd2
    go_wp2
    go_ret2
    exact ⟨by rw [HD2.out]; rfl, HB1.out⟩
  | false =>
    rw [hl] at he
    have hd2 : dotB a b c o p q = [o, p, q].any offP := by rw [HD.out, hl]; rfl
    have he2 : latE a b c = 0 := he
    rw [he2]
    clear he he2
    have hT := heap_alloc_new w1 (.cells #[.int .i64 o.1, .int .i64 o.2, .int .i64 p.1, .int .i64 p.2, .int .i64 q.1, .int .i64 q.2] 59)
    have hbT : Below w1.heap.size w1 (w1.alloc (.cells #[.int .i64 o.1, .int .i64 o.2, .int .i64 p.1, .int .i64 p.2, .int .i64 q.1, .int .i64 q.2] 59)) := (Below.refl _ _).alloc (Nat.le_refl _) _
    have HB1 := Lib.hid hb1; have HS1 := Lib.hid hs1; have HL := Lib.hid hl; have HD2 := Lib.hid hd2; have HT := Lib.hid hT; have HBT := Lib.hid hbT; clear hb1 hs1 hl hd2 hT hbT
    go_wp2_with fail
    refine (gPoint_ (some ⟨w1.heap.size, 0, none⟩) 3 [o, p, q] _ (rdR_three HT.out)).mono ?_
    rintro e w2 ⟨rfl, b1⟩
    have b2 := HBT.out.trans (b1.mono HBT.out.size)
    have k0 := below_at b2 (Nat.le_refl _) k0
    have k1 := below_at b2 (Nat.le_refl _) k1
    have k2 := below_at b2 (Nat.le_refl _) k2
    have k3 := below_at b2 (Nat.le_refl _) k3
    have k4 := below_at b2 (Nat.le_refl _) k4
    have k5 := below_at b2 (Nat.le_refl _) k5
    have k6 := below_at b2 (Nat.le_refl _) k6
    have k7 := below_at b2 (Nat.le_refl _) k7
    have k8 := below_at b2 (Nat.le_refl _) k8
    have hs2 : w.heap.size + 4 ≤ w2.heap.size := Nat.le_trans HS1.out b2.size
    have hb2 := HB1.out.trans (b2.mono HB1.out.size)
    clear b1 b2 x0 x1 x2 x3 HB1 HS1 HBT HT
    have x0 : w.heap.size < w2.heap.size := by omega
    have x1 : w.heap.size + 1 < w2.heap.size := by omega
    have x2 : w.heap.size + 2 < w2.heap.size := by omega
    have x3 : w.heap.size + 3 < w2.heap.size := by omega
    cases hany : [o, p, q].any offP with
    | true =>
      have hd3 : dotB a b c o p q = true := by rw [HD2.out, hany]
      have HB2 := Lib.hid hb2; have HS2 := Lib.hid hs2; have HANY := Lib.hid hany; have HD3 := Lib.hid hd3; clear hb2 hs2 hany hd3
      go_wp2
      go_ret2
      exact ⟨by rw [HD3.out]; rfl, HB2.out⟩
    | false =>
      have hd3 : dotB a b c o p q = false := by rw [HD2.out, hany]
      have ho : offP o = false ∧ offP p = false ∧ offP q = false := by simpa using hany
      obtain ⟨ho1, ho2, ho3⟩ := ho
      have hto := fun (q : Int × Int) (hq : offP q = false) (W : World) => gTo_ o q W ho1 hq
      have hpr : ∀ W, Calls Try.prog 97 #[.agg #[.int .i64 (p.1 - o.1), .int .i64 (p.2 - o.2)], .agg #[.int .i64 a, .int .i64 b, .int .i64 c], .agg #[.int .i64 (q.1 - o.1), .int .i64 (q.2 - o.2)]] W fun e w' => e = .returned (.int .i64 (prodG a b c (stp o p) (stp o q))) ∧ Below W.heap.size W w' := fun W => gProduct_ a b c (stp o p) (stp o q) W HL.out (stp_stp ho1 ho2) (stp_stp ho1 ho3)
      obtain ⟨D, hD⟩ : ∃ D, D = prodG a b c (stp o p) (stp o q) := ⟨_, rfl⟩
      rw [← hD] at hpr
      have HB2 := Lib.hid hb2; have HS2 := Lib.hid hs2; have HANY := Lib.hid hany; have HD3 := Lib.hid hd3; have HO1 := Lib.hid ho1; have HO2 := Lib.hid ho2; have HO3 := Lib.hid ho3; have HTO := Lib.hid hto; have HPR := Lib.hid hpr; have HD := Lib.hid hD; clear hb2 hs2 hany hd3 ho1 ho2 ho3 hto hpr hD
      go_upto_region 3 with fail
      have hbelc : ∀ (u : Bel w2.heap.size w2) b o, b < w2.heap.size → u.wd.cell? ⟨b, o, none⟩ = w2.cell? ⟨b, o, none⟩ := fun u b o h => u.h.cell (p := ⟨b, o, none⟩) h
      have hbeln : Nonempty (Bel w2.heap.size w2) := ⟨⟨w2, Below.refl _ _⟩⟩
      refine wp_region_bel w2.heap.size (by kernel_rfl) (by kernel_rfl) ?_
      repeat (go_big_quiet_step ((first | (go_at_call 96; refine quiet_bel (Nat.le_refl _) (HTO.out _ ?_ _); first | exact HO2.out | exact HO3.out) | (go_at_call 97; exact quiet_bel (Nat.le_refl _) (HPR.out _)))))
      refine wpQuiet_nil ?_
      intro wB hB0; obtain ⟨uB, hu⟩ := hB0; have hbB0 := uB.h; rw [← hu] at hbB0; clear hu uB hbelc hbeln
      obtain ⟨hbB, hcB, hsB⟩ := bcell2 hbB0; clear hbB0
      have hb3 := HB2.out.trans (hbB.mono HB2.out.size)
      have HB3 := Lib.hid hb3; clear hb3
      clear hcB hsB hbB
      go_wp2
      go_ret2
      exact ⟨by rw [HD3.out, HD.out]; rfl, HB3.out⟩
def sqN (a b c : Int) (p q : Int × Int) : Int := prodG a b c (stp p q) (stp p q)
def sqB (a b c : Int) (p q : Int × Int) : Bool := latB a b c || offP p || offP q
def SqPost (a b c : Int) (p q : Int × Int) (w : World) (e : Ending) (w' : World) : Prop := (e = .returned (.tuple (if sqB a b c p q = true then #[.int .i64 0, .int .i64 2] else #[.int .i64 (sqN a b c p q), .int .i64 0]))) ∧ Below w.heap.size w w'
set_option maxRecDepth 100000 in
set_option maxHeartbeats 4000000 in
theorem gSquare_ (a b c : Int) (p q : Int × Int) (w : World) : Calls Try.prog 62 #[.agg #[.int .i64 a, .int .i64 b, .int .i64 c], .agg #[.int .i64 p.1, .int .i64 p.2], .agg #[.int .i64 q.1, .int .i64 q.2]] w (SqPost a b c p q w) := by
  have hb : Below w.heap.size w (((w.alloc (.cells #[.int .i64 a, .int .i64 b, .int .i64 c] 35)).alloc (.cells #[.int .i64 p.1, .int .i64 p.2] 59)).alloc (.cells #[.int .i64 q.1, .int .i64 q.2] 59)) := (((Below.refl _ _).alloc (Nat.le_refl _) _).alloc (by simp) _).alloc (by simp; omega) _
  have hdot := fun W => gDot_ a b c p q q W
  have he : dotB a b c p q q = sqB a b c p q := by
    unfold dotB sqB
    simp only [List.any_cons, List.any_nil, Bool.or_false]
    cases latB a b c <;> cases offP p <;> cases offP q <;> rfl
  have hn : prodG a b c (stp p q) (stp p q) = sqN a b c p q := rfl
  unfold DotPost at hdot
  rw [he, hn] at hdot
  unfold SqPost
  generalize sqN a b c p q = D at *
  cases hs : sqB a b c p q with
  | true =>
    simp only [hs, ↓reduceIte] at hdot
    have HB := Lib.hid hb; have HDOT := Lib.hid hdot; have HE := Lib.hid he; have HN := Lib.hid hn; have HS := Lib.hid hs; clear hb hdot he hn hs
    go_enter Try.func62, Try.ntmps62
    go_wp2_with fail
    refine (HDOT.out _).mono ?_
    rintro e w1 ⟨rfl, b1⟩
    have hb1 := HB.out.trans (b1.mono HB.out.size)
    clear b1
    have HB1 := Lib.hid hb1; clear hb1
    go_wp2
    go_ret2
    exact ⟨rfl, HB1.out⟩
  | false =>
    simp only [hs, Bool.false_eq_true, ↓reduceIte] at hdot
    have HB := Lib.hid hb; have HDOT := Lib.hid hdot; have HE := Lib.hid he; have HN := Lib.hid hn; have HS := Lib.hid hs; clear hb hdot he hn hs
    go_enter Try.func62, Try.ntmps62
    go_wp2_with fail
    refine (HDOT.out _).mono ?_
    rintro e w1 ⟨rfl, b1⟩
    have hb1 := HB.out.trans (b1.mono HB.out.size)
    clear b1
    have HB1 := Lib.hid hb1; clear hb1
    go_wp2
    go_ret2
    exact ⟨rfl, HB1.out⟩
end Go.Proofs.Ytdimaapiloojeaa
/- The length of a path: what it comes to. -/
namespace Go.Proofs.Ytdimaapiloojeaa
open Go.RowKit

open Classical in
/-- The normal root of a number. -/
noncomputable def nrt (n : Int) : Int × Int := if h : ∃ ks : Nat × Nat, 0 < n ∧ IsRt n.toNat ks.1 ks.2 then ((h.choose.1 : Int), (h.choose.2 : Int)) else (0, 1)
theorem nrt_is {n : Int} {K S : Nat} (h0 : 0 < n) (h : IsRt n.toNat K S) : nrt n = ((K : Int), (S : Int)) := by
  have hx : ∃ ks : Nat × Nat, 0 < n ∧ IsRt n.toNat ks.1 ks.2 := ⟨(K, S), h0, h⟩
  unfold nrt
  rw [dif_pos hx]
  obtain ⟨e1, e2⟩ := isRt_unique (by omega) hx.choose_spec.2 h
  rw [e1, e2]
/-- What Root returns, of a number that is not too great. -/
theorem root_nrt {n : Int} {w : World} {e : Ending} {w' : World} (h : RootPost n w e w') (hn : n ≤ 1000000000000) : ∃ K S x : Int, e = .returned (.tuple #[.agg #[.int .i64 K, .int .i64 S], .int .i64 x]) ∧ Below w.heap.size w w' ∧ (n ≤ 0 → K = 0) ∧ (0 < n → (K, S) = nrt n ∧ 0 < K ∧ x = 0) := by
  obtain ⟨K, S, x, he, hb, h1, h2, h3⟩ := h
  refine ⟨K, S, x, he, hb, fun hle => ?_, fun h0 => ?_⟩
  · rcases Int.lt_or_eq_of_le hle with h | h
    · exact (h1 (.inl h)).1
    · exact (h2 h).1
  · obtain ⟨hx, hK, hS, hr⟩ := h3 h0 hn
    refine ⟨?_, hK, hx⟩
    rw [nrt_is h0 hr]
    rw [Int.toNat_of_nonneg (by omega), Int.toNat_of_nonneg (by omega)]
theorem nrt_rng {n : Int} {K S : Nat} (h0 : 0 < n) (h1 : n ≤ 1000000000000) (h : IsRt n.toNat K S) : (0 < K ∧ K ≤ 1000000) ∧ 0 < S ∧ S ≤ 1000000000000 := by
  have e := h.1
  have hS := h.2.1
  have hK : 0 < K := by
    rcases Nat.eq_zero_or_pos K with h | h
    · subst h; simp at e; omega
    · exact h
  have h2 : K * K ≤ n.toNat := by rw [e]; exact Nat.le_mul_of_pos_right _ hS
  have h3 : S ≤ n.toNat := by rw [e]; exact Nat.le_mul_of_pos_left _ (Nat.mul_pos hK hK)
  refine ⟨⟨hK, ?_⟩, hS, by omega⟩
  rcases Nat.lt_or_ge 1000000 K with h4 | h4
  · have := Nat.mul_le_mul (show 1000001 ≤ K from h4) (show 1000001 ≤ K from h4)
    omega
  · exact h4
def stepL (o : List (Int × Int)) (n : Int) (r : Int × Int) : List (Int × Int) := if 0 < n then mg 1 o [r] else o
noncomputable def lenF : List Int → List (Int × Int) → List (Int × Int)
  | [], o => o
  | n :: l, o => lenF l (stepL o n (nrt n))
theorem lenF_snoc (n : Int) : ∀ (l : List Int) (o : List (Int × Int)), lenF (l ++ [n]) o = stepL (lenF l o) n (nrt n)
  | [], _ => rfl
  | x :: l, o => by rw [List.cons_append, lenF, lenF]; exact lenF_snoc n l _
/-- Factors from 1 up to a bound. -/
def Pos (X : Int) (xs : List (Int × Int)) : Prop := ∀ x ∈ xs, 0 < x.1 ∧ x.1 ≤ X
theorem mg_len (bz : Int) (xs ys : List (Int × Int)) : (mg bz xs ys).length ≤ xs.length + ys.length := by
  fun_induction mg bz xs ys with
  | case1 => simp
  | case2 => simp
  | case3 x xs y ys h ih => simp at ih ⊢; omega
  | case4 x xs y ys h h2 ih => simp at ih ⊢; omega
  | case5 x xs y ys h h2 h3 ih => simp at ih ⊢; omega
  | case6 x xs y ys h h2 h3 ih => simp at ih ⊢; omega
theorem mg_pos {X Y : Int} (hX0 : 0 ≤ X) (hY0 : 0 ≤ Y) (xs ys : List (Int × Int)) (hx : Pos X xs) (hy : Pos Y ys) : Pos (X + Y) (mg 1 xs ys) := by
  generalize hbz : (1 : Int) = bz
  fun_induction mg bz xs ys with
  | case1 ys =>
    intro z hz
    obtain ⟨y, hy2, rfl⟩ := List.mem_map.1 hz
    have := hy y hy2
    subst hbz
    simp only [Int.one_mul]; omega
  | case2 x xs => intro z hz; have := hx z hz; omega
  | case3 x xs y ys h ih =>
    intro z hz
    rcases List.mem_cons.1 hz with rfl | h1
    · have := hx z (List.mem_cons_self ..); omega
    · exact ih (fun q hq => hx q (List.mem_cons_of_mem _ hq)) hy z h1
  | case4 x xs y ys h h2 ih =>
    intro z hz
    rcases List.mem_cons.1 hz with rfl | h1
    · have := hy y (List.mem_cons_self ..); subst hbz; simp only [Int.one_mul]; omega
    · exact ih hx (fun q hq => hy q (List.mem_cons_of_mem _ hq)) z h1
  | case5 x xs y ys h h2 h3 ih =>
    exact ih (fun q hq => hx q (List.mem_cons_of_mem _ hq)) (fun q hq => hy q (List.mem_cons_of_mem _ hq))
  | case6 x xs y ys h h2 h3 ih =>
    intro z hz
    rcases List.mem_cons.1 hz with rfl | h1
    · have a := hx x (List.mem_cons_self ..)
      have b := hy y (List.mem_cons_self ..)
      subst hbz; simp only [Int.one_mul]; omega
    · exact ih (fun q hq => hx q (List.mem_cons_of_mem _ hq)) (fun q hq => hy q (List.mem_cons_of_mem _ hq)) z h1
theorem mg_norm (bz : Int) (xs ys : List (Int × Int)) : ∀ p, normB p xs = true → normB p ys = true → normB p (mg bz xs ys) = true := by
  fun_induction mg bz xs ys with
  | case1 ys =>
    intro p hx hy
    clear hx
    induction ys generalizing p with
    | nil => rfl
    | cons y ys ih =>
      rw [normB, Bool.and_eq_true] at hy
      rw [List.map_cons, normB, Bool.and_eq_true]
      exact ⟨hy.1, ih _ hy.2⟩
  | case2 x xs => intro p hx _; exact hx
  | case3 x xs y ys h ih =>
    intro p hx hy
    rw [normB, Bool.and_eq_true] at hx ⊢
    refine ⟨hx.1, ih _ hx.2 ?_⟩
    rw [normB, Bool.and_eq_true, Bool.and_eq_true, decide_eq_true_eq] at hy ⊢
    exact ⟨⟨hy.1.1, h⟩, hy.2⟩
  | case4 x xs y ys h h2 ih =>
    intro p hx hy
    rw [normB, Bool.and_eq_true] at hy ⊢
    refine ⟨hy.1, ih _ ?_ hy.2⟩
    rw [normB, Bool.and_eq_true, Bool.and_eq_true, decide_eq_true_eq] at hx ⊢
    exact ⟨⟨hx.1.1, h2⟩, hx.2⟩
  | case5 x xs y ys h h2 h3 ih =>
    intro p hx hy
    rw [normB, Bool.and_eq_true] at hx hy
    have e : x.2 = y.2 := by omega
    have hx1 := hx.1
    rw [Bool.and_eq_true, decide_eq_true_eq] at hx1
    have := ih x.2 hx.2 (e ▸ hy.2)
    have hm : ∀ (l : List (Int × Int)) (q : Int), p < q → normB q l = true → normB p l = true := by
      intro l q hq hl
      cases l with
      | nil => rfl
      | cons z l =>
        rw [normB, Bool.and_eq_true, Bool.and_eq_true, decide_eq_true_eq] at hl ⊢
        exact ⟨⟨hl.1.1, by omega⟩, hl.2⟩
    exact hm _ _ hx1.2 this
  | case6 x xs y ys h h2 h3 ih =>
    intro p hx hy
    rw [normB, Bool.and_eq_true] at hx hy ⊢
    have e : x.2 = y.2 := by omega
    exact ⟨hx.1, ih _ hx.2 (e ▸ hy.2)⟩
theorem Pos.mono {X Y : Int} {xs : List (Int × Int)} (h : Pos X xs) (hxy : X ≤ Y) : Pos Y xs := fun x hx => by have := h x hx; omega
theorem mg_two {X Y : Int} (xs ys : List (Int × Int)) (bz : Int) (hx : ∀ x ∈ xs, X ≤ x.2 ∧ x.2 ≤ Y) (hy : ∀ x ∈ ys, X ≤ x.2 ∧ x.2 ≤ Y) : ∀ z ∈ mg bz xs ys, X ≤ z.2 ∧ z.2 ≤ Y := by
  fun_induction mg bz xs ys with
  | case1 ys =>
    intro z hz
    obtain ⟨y, hy2, rfl⟩ := List.mem_map.1 hz
    exact hy y hy2
  | case2 x xs => exact hx
  | case3 x xs y ys h ih =>
    intro z hz
    rcases List.mem_cons.1 hz with rfl | h1
    · exact hx z (List.mem_cons_self ..)
    · exact ih (fun q hq => hx q (List.mem_cons_of_mem _ hq)) hy z h1
  | case4 x xs y ys h h2 ih =>
    intro z hz
    rcases List.mem_cons.1 hz with rfl | h1
    · exact hy y (List.mem_cons_self ..)
    · exact ih hx (fun q hq => hy q (List.mem_cons_of_mem _ hq)) z h1
  | case5 x xs y ys h h2 h3 ih =>
    exact ih (fun q hq => hx q (List.mem_cons_of_mem _ hq)) (fun q hq => hy q (List.mem_cons_of_mem _ hq))
  | case6 x xs y ys h h2 h3 ih =>
    intro z hz
    rcases List.mem_cons.1 hz with rfl | h1
    · exact hx x (List.mem_cons_self ..)
    · exact ih (fun q hq => hx q (List.mem_cons_of_mem _ hq)) (fun q hq => hy q (List.mem_cons_of_mem _ hq)) z h1
/-- A sum as Length makes it, of so many steps. -/
structure LenS (k : Nat) (o : List (Int × Int)) : Prop where
  ln : o.length ≤ k
  ps : Pos ((k : Int) * 1000000) o
  nm : normB 0 o = true
  rg : ∀ x ∈ o, 1 ≤ x.2 ∧ x.2 ≤ 1000000000000
theorem LenS.zero : LenS 0 [] := ⟨by simp, fun x hx => (by cases hx), rfl, fun x hx => (by cases hx)⟩
theorem LenS.more {k : Nat} {o : List (Int × Int)} (h : LenS k o) : LenS (k + 1) o := ⟨by have := h.ln; omega, h.ps.mono (by omega), h.nm, h.rg⟩
theorem LenS.step {k : Nat} {o : List (Int × Int)} (h : LenS k o) {n : Int} {K S : Int} (hn : n ≤ 1000000000000) (h0 : 0 < n) (hr : IsRt n.toNat K.toNat S.toNat) (hK : 0 < K) (hS : 0 < S) : LenS (k + 1) (mg 1 o [(K, S)]) := by
  obtain ⟨⟨r1, r2⟩, r3, r4⟩ := nrt_rng h0 hn hr
  have hp : Pos 1000000 [(K, S)] := fun x hx => by
    rw [List.mem_singleton.1 hx]
    simp only; omega
  refine ⟨?_, ?_, ?_, ?_⟩
  · have := mg_len 1 o [(K, S)]
    have := h.ln
    simp at *; omega
  · refine (mg_pos (X := (k : Int) * 1000000) (by omega) (by decide) o _ h.ps hp).mono (by omega)
  · refine mg_norm 1 _ _ 0 h.nm ?_
    rw [normB, normB, Bool.and_true, Bool.and_eq_true, decide_eq_true_eq]
    exact ⟨sqfB_iff.2 hr.2, hS⟩
  · refine mg_two _ _ _ h.rg fun x hx => ?_
    rw [List.mem_singleton.1 hx]
    simp only; omega
theorem LenS.chk {k : Nat} {o : List (Int × Int)} (h : LenS k o) (hk : k ≤ 1000) (hl : o.length ≤ 64) : chkE o = 0 := by
  unfold chkE
  rw [if_neg (by omega), if_neg ?_, if_pos h.nm]
  intro hany
  obtain ⟨x, hx, h1⟩ := List.any_eq_true.1 hany
  have a := h.ps x hx
  have b := h.rg x hx
  unfold rngB wrongB at h1
  simp at h1
  omega
theorem LenS.med {k : Nat} {o : List (Int × Int)} (h : LenS k o) (hk : k ≤ 1000) : Med o := fun x hx => by
  have a := h.ps x hx
  omega
/-- The squares of a path's steps. -/
def sqA (a b c : Int) (ps : List (Int × Int)) (i : Nat) : Int := sqN a b c (ps.getD (i - 1) (0, 0)) (ps.getD i (0, 0))
def sqsK (a b c : Int) (ps : List (Int × Int)) (k : Nat) : List Int := (List.range k).map (sqA a b c ps)
theorem sqsK_succ (a b c : Int) (ps : List (Int × Int)) (k : Nat) : sqsK a b c ps (k + 1) = sqsK a b c ps k ++ [sqA a b c ps k] := by
  unfold sqsK; rw [List.range_succ, List.map_append]; rfl
theorem sqsK_length (a b c : Int) (ps : List (Int × Int)) (k : Nat) : (sqsK a b c ps k).length = k := by unfold sqsK; simp
/-- What Length returns: the sum and the error. -/
noncomputable def lenR (a b c : Int) (ps : List (Int × Int)) : List (Int × Int) × Int :=
  if 500 < ps.length then ([], 3) else if latB a b c = true then ([], 2) else if ps.any offP = true then ([], 2)
  else if (sqsK a b c ps ps.length).any (fun n => decide (1000000000000 < n)) = true then ([], 7)
  else if 64 < (lenF (sqsK a b c ps ps.length) []).length then ([], 3) else (lenF (sqsK a b c ps ps.length) [], 0)
end Go.Proofs.Ytdimaapiloojeaa
/- The greatest number; rows of int64. -/
namespace Go.Proofs.Ytdimaapiloojeaa
open Go.RowKit

def MaxPost (xs : List Int) (w : World) (e : Ending) (w' : World) : Prop := ∃ m : Int, e = .returned (.int .i64 m) ∧ (∀ k : Int, k < m ↔ xs.any (fun n => decide (k < n)) = true) ∧ Below w.heap.size w w'
set_option maxRecDepth 100000 in
set_option maxHeartbeats 2000000 in
theorem maxI6_ (A : Option Addr) (c : Nat) (xs : List Int) (w : World) (hr : RdI w A xs) (h0 : 0 < xs.length) : Calls Try.prog 63 #[.slice A xs.length c] w (MaxPost xs w) := by
  have hln := hr.1
  have hb := Below.refl w.heap.size w
  obtain ⟨bl, ol, rfl, hbl, l1⟩ := hr.at_ h0
  rw [Nat.add_zero] at l1
  have hfst : ∀ k : Int, k < xs[0] ↔ (xs.take 1).any (fun n => decide (k < n)) = true := fun k => by
    rw [List.take_succ_eq_append_getElem h0]
    simp
  have x1 : ¬ (xs.length : Int) < 1 := by omega
  have x2 : (0 : Int) < (xs.length : Int) := by omega
  have x3 : decide ((xs.length : Int) < 1) = false := decide_eq_false x1
  have x4 : decide (xs.length < 1) = false := decide_eq_false (by omega)
  have x5 : 0 < xs.length := h0
  generalize xs[0] = m0 at *
  have HR := Lib.hid hr; have HB := Lib.hid hb; have HFST := Lib.hid hfst; have H0 := Lib.hid h0; clear hr hb hfst h0
  go_enter Try.func63, Try.ntmps63
  go_wp2
  go_loopw [3, 4] (fun mv iv wr => ∃ (k : Nat) (m : Int), iv = .int .i64 (k : Int) ∧ mv = .int .i64 m ∧ 1 ≤ k ∧ k ≤ xs.length ∧ (∀ z : Int, z < m ↔ (xs.take k).any (fun n => decide (z < n)) = true) ∧ Below w.heap.size w wr) (fun _ iv _ => xs.length - (intOf iv).toNat)
  case atStart => exact ⟨1, m0, rfl, rfl, Nat.le_refl _, H0.out, HFST.out, HB.out⟩
  case round =>
    clear x1 x2 x3 x4 x5 l1
    obtain ⟨k, m, rfl, rfl, hk1, hk, hm, hbw⟩ := hrel
    by_cases hlt : k < xs.length
    · obtain ⟨b2, o2, e2, hbl2, l2⟩ := (HR.out.later hbw (Nat.le_refl _)).at_ hlt
      injection e2 with e2; injection e2 with e3 e4; subst e3; subst e4
      have hsn := List.take_succ_eq_append_getElem hlt
      have hm2 : ∀ z : Int, z < max m xs[k] ↔ (xs.take (k + 1)).any (fun n => decide (z < n)) = true := fun z => by
        rw [hsn, List.any_append, Bool.or_eq_true, ← hm z]
        simp
        omega
      have x1 : (0 : Int) ≤ (k : Int) := by omega
      have x2 : (k : Int) < (xs.length : Int) := by omega
      generalize xs[k] = x at *
      by_cases hmx : m < x
      · have e : max m x = x := by omega
        rw [e] at hm2
        have y1 : ¬ x < m := by omega
        have HM := Lib.hid hm; have HM2 := Lib.hid hm2; have HK1 := Lib.hid hk1; have HK := Lib.hid hk; have HBW := Lib.hid hbw; have HSN := Lib.hid hsn; have E := Lib.hid e; clear hm hm2 hk1 hk hbw hsn e
        go_wp2
        go_roundw
        case rel => exact ⟨k + 1, x, by go_num, rfl, by omega, by omega, HM2.out, HBW.out⟩
        case measure => simp [intOf]; omega
      · have e : max m x = m := by omega
        rw [e] at hm2
        have HM := Lib.hid hm; have HM2 := Lib.hid hm2; have HK1 := Lib.hid hk1; have HK := Lib.hid hk; have HBW := Lib.hid hbw; have HSN := Lib.hid hsn; have E := Lib.hid e; clear hm hm2 hk1 hk hbw hsn e
        go_wp2
        go_roundw
        case rel => exact ⟨k + 1, m, by go_num, rfl, by omega, by omega, HM2.out, HBW.out⟩
        case measure => simp [intOf]; omega
    · obtain rfl : k = xs.length := by omega
      rw [List.take_length] at hm
      have x3 : ¬ (xs.length : Int) < (xs.length : Int) := by omega
      have HM := Lib.hid hm; have HBW := Lib.hid hbw; have HK1 := Lib.hid hk1; clear hm hbw hk1
      go_wp2
      go_ret
      exact ⟨m, rfl, HM.out, HBW.out⟩
theorem info_i64_Try : (Try.prog.info? 2).map (fun i => (i.zero, i.size, i.bytes)) = some (some (.int .i64 0), 1, 8) := by kernel_rfl
theorem wpList_appL_Try {ops : Array Oper} {rest : List Oper} {o : Oper} {a : Act} {Q : Exit → Act → World → Prop} {w : World} (hgd : o.guard = none) (s x : Operand)
    (ho : o.op = .call { callee := .builtin .append, args := #[s, x], argTypes := #[22, 22] })
    (base : Nat) (v : Value) (xs : List Int) (hs : a.eval s = v) (hown : w.ownsRow base 2 1 v xs.length (ints xs)) (b : Nat) (z : Int) (hx : a.eval x = .slice (some ⟨b, 0, none⟩) 1 1)
    (hb : w.heap[b]? = some (.cells #[.int .i64 z] 2 (0, 0))) (hn : xs.length ≤ 1000000000) (hbase : base ≤ w.heap.size)
    (h : ∀ g cap w', w'.ownsRow base 2 1 (.slice (some ⟨g, 0, none⟩) (xs.length + 1) cap) (xs ++ [z]).length (ints (xs ++ [z])) → w.grownBy w' v.ownBlock → (v.ownBlock = some g ∨ g = w.heap.size) → g < w'.heap.size →
      wpList Try.prog ops Q rest (a.put o.dst (.slice (some ⟨g, 0, none⟩) (xs.length + 1) cap)) w') : wpList Try.prog ops Q (o :: rest) a w := by
  obtain ⟨i0, hi, hz0, hz1, hz2⟩ := info_parts info_i64_Try
  refine wpList_append_lies w hgd s x 22 ho base 2 i0 (.int .i64 0) 1 8 Try.underlying22 hi hz0 hz1 hz2 rfl (by omega) v xs.length (ints xs) hs hown ⟨b, 0, none⟩ 1 1 [.int .i64 z] hx rfl
    (World.news_of_block hb) (ints_one [z]) (by omega) (by unfold maxLen; omega) (by omega) hbase w.heap.size rfl fun g cap w' h2 h3 h4 h5 => h g cap w' ?_ h3 h4 h5
  rw [List.length_append]
  simpa [ints] using h2
end Go.Proofs.Ytdimaapiloojeaa
/- The length of a path. -/
namespace Go.Proofs.Ytdimaapiloojeaa
open Go.RowKit

def LenPost (r : List (Int × Int) × Int) (w : World) (e : Ending) (w' : World) : Prop := ∃ A c, e = .returned (.tuple #[.slice A r.1.length c, .int .i64 r.2]) ∧ RdR w' A r.1 ∧ r.1.length ≤ c ∧ (r.2 = 0 → LenS 500 r.1 ∧ r.1.length ≤ 64) ∧ Below w.heap.size w w'
theorem LenPost.bad {r : List (Int × Int) × Int} {x : Int} {w w' : World} (h : r = ([], x)) (hx : x ≠ 0) (hb : Below w.heap.size w w') : LenPost r w (.returned (.tuple #[.slice none 0 0, .int .i64 x])) w' := by
  subst h
  exact ⟨none, 0, rfl, rdR_nil9 _ _, Nat.le_refl _, fun h => absurd h hx, hb⟩
theorem LenS.up {k m : Nat} {o : List (Int × Int)} (h : LenS k o) (hk : k ≤ m) : LenS m o := ⟨Nat.le_trans h.ln hk, h.ps.mono (by omega), h.nm, h.rg⟩
theorem any_take_offP {ps : List (Int × Int)} {k j : Nat} (h : (ps.take k).any offP = false) (hj : j < k) (hk : k ≤ ps.length) : offP (ps.getD j (0, 0)) = false := by
  have h1 := List.any_eq_false.1 h (ps.getD j (0, 0)) (by
    have : ps.getD j (0, 0) = ps[j]'(by omega) := by simp [List.getD_eq_getElem?_getD, show j < ps.length by omega]
    rw [this]
    refine List.mem_take_iff_getElem.2 ⟨j, by omega, rfl⟩)
  simpa using h1
theorem rdR_one {w : World} {R : Nat} {K S : Int} (h : w.heap[R]? = some (.cells #[.int .i64 K, .int .i64 S] 94 (0, 0))) : RdR w (some ⟨R, 0, none⟩) [(K, S)] := by
  refine ⟨by simp, fun _ => ⟨R, 0, rfl, lt_of_block h, fun j hj => ?_⟩⟩
  rw [cell_of_row _ _ _ _ _ _ h]
  simp at hj
  obtain rfl | rfl : j = 0 ∨ j = 1 := by omega
  all_goals rfl
theorem offP_getD {ps : List (Int × Int)} (h : ps.any offP = false) (i : Nat) : offP (ps.getD i (0, 0)) = false := by
  rcases Nat.lt_or_ge i ps.length with hi | hi
  · have : ps.getD i (0, 0) = ps[i] := by simp [List.getD_eq_getElem?_getD, hi]
    rw [this]
    simpa using List.any_eq_false.1 h ps[i] (List.getElem_mem _)
  · have : ps.getD i (0, 0) = (0, 0) := by simp [List.getD_eq_getElem?_getD, hi]
    rw [this]; rfl
theorem sqA_low {a b c : Int} {ps : List (Int × Int)} (hl : latB a b c = false) (h : ps.any offP = false) (i : Nat) : -9000000000000000000 ≤ sqA a b c ps i := by
  obtain ⟨⟨la1, la2⟩, ⟨lb1, lb2⟩, ⟨lc1, lc2⟩, _⟩ := lat_rng hl
  have hs := stp_stp (offP_getD h (i - 1)) (offP_getD h i)
  unfold sqA sqN prodG
  generalize stp (ps.getD (i - 1) (0, 0)) (ps.getD i (0, 0)) = s at *
  obtain ⟨x, y⟩ := s
  obtain ⟨⟨s1, s2⟩, s3, s4⟩ := hs
  simp only at s1 s2 s3 s4 ⊢
  have e1 := mul_rng (show -10000 ≤ a by omega) la2 s1 s2
  have e2 := mul_rng lb1 lb2 s3 s4
  have e3 := mul_rng lb1 lb2 s1 s2
  have e4 := mul_rng (show -10000 ≤ c by omega) lc2 s3 s4
  have e5 := mul_rng s1 s2 (show -40000000000 ≤ a * x + b * y by omega) (by omega)
  have e6 := mul_rng s3 s4 (show -40000000000 ≤ b * x + c * y by omega) (by omega)
  omega
/-- The sum's steps: k of them done. -/
theorem lenF_take {l : List Int} {k : Nat} (h : k < l.length) : lenF (l.take (k + 1)) [] = stepL (lenF (l.take k) []) l[k] (nrt l[k]) := by
  rw [List.take_succ_eq_append_getElem h, lenF_snoc]
set_option maxRecDepth 100000 in
set_option maxHeartbeats 8000000 in
theorem tnLength_ (PA : Option Addr) (pc : Nat) (a b c : Int) (ps : List (Int × Int)) (w : World) (hr : RdR w PA ps) :
    Calls Try.prog 41 #[.agg #[.int .i64 a, .int .i64 b, .int .i64 c], .slice PA ps.length pc] w (LenPost (lenR a b c ps) w) := by
  have hln := hr.1
  have hb : Below w.heap.size w (w.alloc (.cells #[.int .i64 a, .int .i64 b, .int .i64 c] 35)) := (Below.refl _ _).alloc (Nat.le_refl _) _
  have hx := heap_alloc_new w (.cells #[.int .i64 a, .int .i64 b, .int .i64 c] 35)
  by_cases h500 : 500 < ps.length
  · have hres : lenR a b c ps = ([], 3) := by unfold lenR; rw [if_pos h500]
    have f1 : decide ((500 : Int) < (ps.length : Int)) = true := decide_eq_true (by omega)
    have f2 : (500 : Int) < (ps.length : Int) := by omega
    have HR := Lib.hid hr; have HB := Lib.hid hb; have HX := Lib.hid hx; have HRES := Lib.hid hres; clear hr hb hx hres
    go_enter Try.func41, Try.ntmps41
    go_wp2
    go_ret2
    exact LenPost.bad HRES.out (by decide) HB.out
  have f1 : decide ((500 : Int) < (ps.length : Int)) = false := decide_eq_false (by omega)
  have f2 : ¬ (500 : Int) < (ps.length : Int) := by omega
  have HR := Lib.hid hr; have HB := Lib.hid hb; have HX := Lib.hid hx; clear hr hb hx
  go_enter Try.func41, Try.ntmps41
  go_wp2_with fail
  refine (gCheck_ a b c _).mono ?_
  rintro e w1 ⟨rfl, b1⟩
  have hx1 := (b1.block _ (lt_of_block HX.out)).trans HX.out
  have hb1 := HB.out.trans (b1.mono HB.out.size)
  clear b1 HB HX f1 f2
  have he : latE a b c = if latB a b c = true then 2 else 0 := rfl
  by_cases hlat : latB a b c = true
  · rw [if_pos hlat] at he
    have hres : lenR a b c ps = ([], 2) := by unfold lenR; rw [if_neg h500, if_pos hlat]
    rw [he]
    have HE := Lib.hid he; have HB1 := Lib.hid hb1; have HX1 := Lib.hid hx1; have HRES := Lib.hid hres; have HLAT := Lib.hid hlat; clear he hb1 hx1 hres hlat
    go_wp2
    go_ret2
    exact LenPost.bad HRES.out (by decide) HB1.out
  rw [if_neg hlat] at he
  rw [he]
  have hres : lenR a b c ps = if ps.any offP = true then ([], 2)
      else if (sqsK a b c ps ps.length).any (fun n => decide (1000000000000 < n)) = true then ([], 7)
      else if 64 < (lenF (sqsK a b c ps ps.length) []).length then ([], 3) else (lenF (sqsK a b c ps ps.length) [], 0) := by
    unfold lenR; rw [if_neg h500, if_neg hlat]
  have hlat : latB a b c = false := by simpa using hlat
  have h500 : ps.length ≤ 500 := by omega
  generalize lenR a b c ps = res at *
  have HE := Lib.hid he; have HB1 := Lib.hid hb1; have HX1 := Lib.hid hx1; have HRES := Lib.hid hres; have HLAT := Lib.hid hlat; clear he hb1 hx1 hres hlat
  go_wp2
  go_loopw [6, 7, 8, 9, 10, 24] (fun sv _ _ _ _ iv wr => ∃ k : Nat, iv = .int .i64 (k : Int) ∧ k ≤ ps.length ∧ (ps.take k).any offP = false ∧ wr.ownsRow (w.heap.size + 1) 2 1 sv (sqsK a b c ps k).length (ints (sqsK a b c ps k)) ∧ wr.heap[w.heap.size]? = some (.cells #[.int .i64 a, .int .i64 b, .int .i64 c] 35 (0, 0)) ∧ Below w.heap.size w wr) (fun _ _ _ _ _ iv _ => ps.length - (intOf iv).toNat)
  case atStart => exact ⟨0, rfl, Nat.zero_le _, rfl, own_nilR _ _ _ _, HX1.out, HB1.out⟩
  case round =>
    clear HX1 HB1
    obtain ⟨k, rfl, hk, hno, hown, hx, hbw⟩ := hrel
    by_cases hkl : k < ps.length
    · by_cases h0 : k = 0
      · obtain ⟨bl, ol, rfl, hbl, q0, q1⟩ := (HR.out.later hbw (Nat.le_refl _)).at_ hkl
        have hcur : ps[k] = ps.getD k (0, 0) := by simp [List.getD_eq_getElem?_getD, hkl]
        rw [hcur] at q0 q1
        have hsn := List.take_succ_eq_append_getElem hkl
        rw [hcur] at hsn
        have t1 : IntKind.i64.wrap ((k : Int) - 1) = -1 := by subst h0; rfl
        have p0 : wr.cell? ⟨bl, ol, none⟩ = some (.int .i64 (ps.getD (k - 1) (0, 0)).1) := by subst h0; simpa using q0
        have p1 : wr.cell? ⟨bl, ol + 1, none⟩ = some (.int .i64 (ps.getD (k - 1) (0, 0)).2) := by subst h0; simpa using q1
        have hpo : offP (ps.getD k (0, 0)) = false → offP (ps.getD (k - 1) (0, 0)) = false := by subst h0; exact id
        have y1 : (0 : Int) < (ps.length : Int) := by omega
        have y3 : 0 < ps.length := by omega
        have hsq := fun W => gSquare_ a b c (ps.getD (k - 1) (0, 0)) (ps.getD k (0, 0)) W
        have hsb : sqB a b c (ps.getD (k - 1) (0, 0)) (ps.getD k (0, 0)) = offP (ps.getD k (0, 0)) := by
          unfold sqB
          rw [HLAT.out, Bool.false_or]
          cases h : offP (ps.getD k (0, 0)) with
          | true => simp
          | false => rw [hpo h]; rfl
        have hsv : sqN a b c (ps.getD (k - 1) (0, 0)) (ps.getD k (0, 0)) = sqA a b c ps k := rfl
        have hss := sqsK_succ a b c ps k
        unfold SqPost at hsq
        rw [hsb, hsv] at hsq
        obtain ⟨prv, hprv⟩ : ∃ prv, prv = (ps.getD (k - 1) (0, 0)) := ⟨_, rfl⟩
        obtain ⟨cur, hcu⟩ : ∃ cur, cur = ps.getD k (0, 0) := ⟨_, rfl⟩
        rw [← hprv] at hsq p0 p1
        rw [← hcu] at hsq q0 q1 hsn
        obtain ⟨sq, hsqe⟩ : ∃ sq, sq = sqA a b c ps k := ⟨_, rfl⟩
        rw [← hsqe] at hsq hss
        obtain ⟨cx, hcx⟩ : ∃ cx, cx = cur.1 := ⟨_, rfl⟩
        obtain ⟨cy, hcy⟩ : ∃ cy, cy = cur.2 := ⟨_, rfl⟩
        obtain ⟨px, hpx⟩ : ∃ px, px = prv.1 := ⟨_, rfl⟩
        obtain ⟨py, hpy⟩ : ∃ py, py = prv.2 := ⟨_, rfl⟩
        rw [← hcx, ← hcy, ← hpx, ← hpy] at hsq
        rw [← hcx] at q0
        rw [← hcy] at q1
        rw [← hpx] at p0
        rw [← hpy] at p1
        have x1 : (0 : Int) ≤ (k : Int) := by omega
        have x2 : (k : Int) < (ps.length : Int) := by omega
        have hvl := hown.lt
        clear hcur hpo hsb hsv
        have HNO := Lib.hid hno; have HOWN := Lib.hid hown; have HX := Lib.hid hx; have HBW := Lib.hid hbw; have HSN := Lib.hid hsn; have HSS := Lib.hid hss; have HSQ := Lib.hid hsq; have HSQE := Lib.hid hsqe; have HPRV := Lib.hid hprv; have HCU := Lib.hid hcu; have HCX := Lib.hid hcx; have HCY := Lib.hid hcy; have HPX := Lib.hid hpx; have HPY := Lib.hid hpy; have HVL := Lib.hid hvl; have H0 := Lib.hid h0; clear hno hown hx hbw hsn hss hsq hsqe hprv hcu hcx hcy hpx hpy hvl h0
        go_upto_region 9 with fail
        have hT := heap_alloc_new wr (.cells #[.int .i64 cx, .int .i64 cy] 59)
        have hbT : Below wr.heap.size wr (wr.alloc (.cells #[.int .i64 cx, .int .i64 cy] 59)) := (Below.refl _ _).alloc (Nat.le_refl _) _
        have hown2 := own_keepR HOWN.out hbT
        have hx2 := (hbT.block _ (lt_of_block HX.out)).trans HX.out
        have hbw2 := HBW.out.trans (hbT.mono HBW.out.size)
        have p0 := below_at hbT (Nat.le_refl _) p0
        have p1 := below_at hbT (Nat.le_refl _) p1
        have hbl2 := Nat.lt_of_lt_of_le hbl hbT.size
        clear hbT HOWN HX HBW q0 q1 hbl HVL
        obtain ⟨w2, hw2⟩ : ∃ w2, w2 = wr.alloc (.cells #[.int .i64 cx, .int .i64 cy] 59) := ⟨_, rfl⟩
        rw [← hw2] at hT hown2 hx2 hbw2 p0 p1 hbl2 ⊢
        clear hw2
        generalize wr.heap.size = T4 at *
        have t0 := cell_of_row _ _ 0 _ _ _ hT
        have tt1 := cell_of_row _ _ 1 _ _ _ hT
        have c0 := cell_of_row _ _ 0 _ _ _ hx2
        have c1 := cell_of_row _ _ 1 _ _ _ hx2
        have c2 := cell_of_row _ _ 2 _ _ _ hx2
        simp only [List.getElem?_toArray, List.getElem?_cons_zero, List.getElem?_cons_succ] at t0 tt1 c0 c1 c2
        have l1 := lt_of_block hT
        have l2 := lt_of_block hx2
        have hvl := hown2.lt
        have HT := Lib.hid hT; have HOWN2 := Lib.hid hown2; have HX2 := Lib.hid hx2; have HBW2 := Lib.hid hbw2; have HVL := Lib.hid hvl; clear hT hown2 hx2 hbw2 hvl
        cases hof : offP cur with
        | true =>
          have hres2 : res = ([], 2) := by
            rw [HRES.out, if_pos]
            refine List.any_eq_true.2 ⟨cur, ?_, hof⟩
            rw [HCU.out]
            have : ps.getD k (0, 0) = ps[k] := by simp [List.getD_eq_getElem?_getD, hkl]
            rw [this]; exact List.getElem_mem _
          have hsq := HSQ.out
          simp only [hof, ↓reduceIte] at hsq
          clear HSQ
          have HSQ := Lib.hid hsq; have HRES2 := Lib.hid hres2; have HOF := Lib.hid hof; clear hsq hres2 hof
          have hbelc : ∀ (u : Bel w2.heap.size w2) b o, b < w2.heap.size → u.wd.cell? ⟨b, o, none⟩ = w2.cell? ⟨b, o, none⟩ := fun u b o h => u.h.cell (p := ⟨b, o, none⟩) h
          have hbeln : Nonempty (Bel w2.heap.size w2) := ⟨⟨w2, Below.refl _ _⟩⟩
          refine wp_region_bel w2.heap.size (by kernel_rfl) (by kernel_rfl) ?_
          repeat (go_big_quiet_step ((go_at_call 62; exact quiet_bel (Nat.le_refl _) (HSQ.out _))))
          refine wpQuiet_nil ?_
          intro wB hB0; obtain ⟨uB, hu⟩ := hB0; have hbB0 := uB.h; rw [← hu] at hbB0; clear hu uB hbelc hbeln
          obtain ⟨hbB, hcB, hsB⟩ := bcell2 hbB0; clear hbB0
          have hb3 := HBW2.out.trans (hbB.mono HBW2.out.size)
          clear hcB hsB hbB
          have HB3 := Lib.hid hb3; clear hb3
          go_wp2
          go_ret2
          exact LenPost.bad HRES2.out (by decide) HB3.out
        | false =>
          have hno2 : (ps.take (k + 1)).any offP = false := by rw [HSN.out, List.any_append, HNO.out]; simp [hof]
          have hsq := HSQ.out
          simp only [hof, Bool.false_eq_true, ↓reduceIte] at hsq
          clear HSQ
          have HSQ := Lib.hid hsq; have HNO2 := Lib.hid hno2; have HOF := Lib.hid hof; clear hsq hno2 hof
          have hbelc : ∀ (u : Bel w2.heap.size w2) b o, b < w2.heap.size → u.wd.cell? ⟨b, o, none⟩ = w2.cell? ⟨b, o, none⟩ := fun u b o h => u.h.cell (p := ⟨b, o, none⟩) h
          have hbeln : Nonempty (Bel w2.heap.size w2) := ⟨⟨w2, Below.refl _ _⟩⟩
          refine wp_region_bel w2.heap.size (by kernel_rfl) (by kernel_rfl) ?_
          repeat (go_big_quiet_step ((go_at_call 62; exact quiet_bel (Nat.le_refl _) (HSQ.out _))))
          refine wpQuiet_nil ?_
          intro wB hB0; obtain ⟨uB, hu⟩ := hB0; have hbB0 := uB.h; rw [← hu] at hbB0; clear hu uB hbelc hbeln
          obtain ⟨hbB, hcB, hsB⟩ := bcell2 hbB0; clear hbB0
          have hb3 := HBW2.out.trans (hbB.mono HBW2.out.size)
          have hown3 := own_keepR HOWN2.out hbB
          have hx3 := (hbB.block _ (lt_of_block HX2.out)).trans HX2.out
          clear hcB hsB hbB HX2 HOWN2 HBW2 HT HVL t0 tt1 c0 c1 c2 l1 l2 p0 p1
          have hvl := hown3.lt
          have hsz := hb3.size
          have hs1 := lt_of_block hx3
          have hrl := sqsK_length a b c ps k
          generalize hSL : sqsK a b c ps k = SL at *
          have HB3 := Lib.hid hb3; have HOWN3 := Lib.hid hown3; have HX3 := Lib.hid hx3; have HVL := Lib.hid hvl; have HSZ := Lib.hid hsz; have HS1 := Lib.hid hs1; have HRL := Lib.hid hrl; have HSL := Lib.hid hSL; clear hb3 hown3 hx3 hvl hsz hs1 hrl hSL
          go_wp2_with (refine wpList_appL_Try (by rfl) _ _ (by rfl) (w.heap.size + 1) u6 SL (by rfl) (by repeat (first | exact HOWN3.out | refine World.ownsRow.alloc ?_ _)) wB.heap.size sq (by rfl) (heap_alloc_new _ _) (by have := HRL.out; omega) (by simp; have := HS1.out; omega) ?_; intro g cap w3 hown4 hgrow hat4 hlt4)
          have hb4 : Below w.heap.size w w3 := (HB3.out.alloc HB3.out.size _).grown hgrow (by simp; have := HSZ.out; omega) (fun k' hk' => by have := (HVL.out k' hk').1; omega)
          have hx4 := (hgrow.block _ (by simp; have := HS1.out; omega) (fun h => by have := (HVL.out _ h.symm).1; omega)).trans ((Below.heap_alloc wB _ _ HS1.out).trans HX3.out)
          rw [← HSS.out] at hown4
          have hlen : SL.length + 1 = (sqsK a b c ps (k + 1)).length := by rw [sqsK_length, HRL.out]
          rw [hlen] at hown4 ⊢
          clear hgrow hat4 hlt4 hlen
          have HB4 := Lib.hid hb4; have HX4 := Lib.hid hx4; have HOWN4 := Lib.hid hown4; clear hb4 hx4 hown4
          go_wp2
          go_roundw
          case rel => exact ⟨k + 1, by go_num, by omega, HNO2.out, HOWN4.out, HX4.out, HB4.out⟩
          case measure => simp [intOf]; omega
      · obtain ⟨bl, ol, rfl, hbl, q0, q1⟩ := (HR.out.later hbw (Nat.le_refl _)).at_ hkl
        have hcur : ps[k] = ps.getD k (0, 0) := by simp [List.getD_eq_getElem?_getD, hkl]
        rw [hcur] at q0 q1
        have hsn := List.take_succ_eq_append_getElem hkl
        rw [hcur] at hsn
        have t1 : IntKind.i64.wrap ((k : Int) - 1) = ((k - 1 : Nat) : Int) := by rw [IntWalk.i64_in _ (by omega)]; omega
        obtain ⟨b2, o2, e2, _, p0, p1⟩ := (HR.out.later hbw (Nat.le_refl _)).at_ (show k - 1 < ps.length by omega)
        injection e2 with e2; injection e2 with e3 e4; subst e3; subst e4
        have hprev : ps[k - 1]'(by omega) = ps.getD (k - 1) (0, 0) := by simp [List.getD_eq_getElem?_getD, show k - 1 < ps.length by omega]
        rw [hprev] at p0 p1
        have hpo : offP (ps.getD k (0, 0)) = false → offP (ps.getD (k - 1) (0, 0)) = false := fun _ => any_take_offP hno (by omega) hk
        have y1 : ((k - 1 : Nat) : Int) < (ps.length : Int) := by omega
        have y2 : (0 : Int) ≤ ((k - 1 : Nat) : Int) := by omega
        obtain ⟨j, hj⟩ : ∃ j, j = k - 1 := ⟨_, rfl⟩
        rw [← hj] at t1 p0 p1 hpo y1 y2
        have hsq := fun W => gSquare_ a b c (ps.getD j (0, 0)) (ps.getD k (0, 0)) W
        have hsb : sqB a b c (ps.getD j (0, 0)) (ps.getD k (0, 0)) = offP (ps.getD k (0, 0)) := by
          unfold sqB
          rw [HLAT.out, Bool.false_or]
          cases h : offP (ps.getD k (0, 0)) with
          | true => simp
          | false => rw [hpo h]; rfl
        have hsv : sqN a b c (ps.getD j (0, 0)) (ps.getD k (0, 0)) = sqA a b c ps k := by unfold sqA; rw [hj]
        have hss := sqsK_succ a b c ps k
        unfold SqPost at hsq
        rw [hsb, hsv] at hsq
        obtain ⟨prv, hprv⟩ : ∃ prv, prv = (ps.getD j (0, 0)) := ⟨_, rfl⟩
        obtain ⟨cur, hcu⟩ : ∃ cur, cur = ps.getD k (0, 0) := ⟨_, rfl⟩
        rw [← hprv] at hsq p0 p1
        rw [← hcu] at hsq q0 q1 hsn
        obtain ⟨sq, hsqe⟩ : ∃ sq, sq = sqA a b c ps k := ⟨_, rfl⟩
        rw [← hsqe] at hsq hss
        obtain ⟨cx, hcx⟩ : ∃ cx, cx = cur.1 := ⟨_, rfl⟩
        obtain ⟨cy, hcy⟩ : ∃ cy, cy = cur.2 := ⟨_, rfl⟩
        obtain ⟨px, hpx⟩ : ∃ px, px = prv.1 := ⟨_, rfl⟩
        obtain ⟨py, hpy⟩ : ∃ py, py = prv.2 := ⟨_, rfl⟩
        rw [← hcx, ← hcy, ← hpx, ← hpy] at hsq
        rw [← hcx] at q0
        rw [← hcy] at q1
        rw [← hpx] at p0
        rw [← hpy] at p1
        have x1 : (0 : Int) ≤ (k : Int) := by omega
        have x2 : (k : Int) < (ps.length : Int) := by omega
        have hvl := hown.lt
        clear hcur hpo hsb hsv hprev
        have HNO := Lib.hid hno; have HOWN := Lib.hid hown; have HX := Lib.hid hx; have HBW := Lib.hid hbw; have HSN := Lib.hid hsn; have HSS := Lib.hid hss; have HSQ := Lib.hid hsq; have HSQE := Lib.hid hsqe; have HPRV := Lib.hid hprv; have HCU := Lib.hid hcu; have HCX := Lib.hid hcx; have HCY := Lib.hid hcy; have HPX := Lib.hid hpx; have HPY := Lib.hid hpy; have HVL := Lib.hid hvl; have H0 := Lib.hid h0; have HJ := Lib.hid hj; clear hno hown hx hbw hsn hss hsq hsqe hprv hcu hcx hcy hpx hpy hvl h0 hj
        go_upto_region 9 with fail
        have hT := heap_alloc_new wr (.cells #[.int .i64 cx, .int .i64 cy] 59)
        have hbT : Below wr.heap.size wr (wr.alloc (.cells #[.int .i64 cx, .int .i64 cy] 59)) := (Below.refl _ _).alloc (Nat.le_refl _) _
        have hown2 := own_keepR HOWN.out hbT
        have hx2 := (hbT.block _ (lt_of_block HX.out)).trans HX.out
        have hbw2 := HBW.out.trans (hbT.mono HBW.out.size)
        have p0 := below_at hbT (Nat.le_refl _) p0
        have p1 := below_at hbT (Nat.le_refl _) p1
        have hbl2 := Nat.lt_of_lt_of_le hbl hbT.size
        clear hbT HOWN HX HBW q0 q1 hbl HVL
        obtain ⟨w2, hw2⟩ : ∃ w2, w2 = wr.alloc (.cells #[.int .i64 cx, .int .i64 cy] 59) := ⟨_, rfl⟩
        rw [← hw2] at hT hown2 hx2 hbw2 p0 p1 hbl2 ⊢
        clear hw2
        generalize wr.heap.size = T4 at *
        have t0 := cell_of_row _ _ 0 _ _ _ hT
        have tt1 := cell_of_row _ _ 1 _ _ _ hT
        have c0 := cell_of_row _ _ 0 _ _ _ hx2
        have c1 := cell_of_row _ _ 1 _ _ _ hx2
        have c2 := cell_of_row _ _ 2 _ _ _ hx2
        simp only [List.getElem?_toArray, List.getElem?_cons_zero, List.getElem?_cons_succ] at t0 tt1 c0 c1 c2
        have l1 := lt_of_block hT
        have l2 := lt_of_block hx2
        have hvl := hown2.lt
        have HT := Lib.hid hT; have HOWN2 := Lib.hid hown2; have HX2 := Lib.hid hx2; have HBW2 := Lib.hid hbw2; have HVL := Lib.hid hvl; clear hT hown2 hx2 hbw2 hvl
        cases hof : offP cur with
        | true =>
          have hres2 : res = ([], 2) := by
            rw [HRES.out, if_pos]
            refine List.any_eq_true.2 ⟨cur, ?_, hof⟩
            rw [HCU.out]
            have : ps.getD k (0, 0) = ps[k] := by simp [List.getD_eq_getElem?_getD, hkl]
            rw [this]; exact List.getElem_mem _
          have hsq := HSQ.out
          simp only [hof, ↓reduceIte] at hsq
          clear HSQ
          have HSQ := Lib.hid hsq; have HRES2 := Lib.hid hres2; have HOF := Lib.hid hof; clear hsq hres2 hof
          have hbelc : ∀ (u : Bel w2.heap.size w2) b o, b < w2.heap.size → u.wd.cell? ⟨b, o, none⟩ = w2.cell? ⟨b, o, none⟩ := fun u b o h => u.h.cell (p := ⟨b, o, none⟩) h
          have hbeln : Nonempty (Bel w2.heap.size w2) := ⟨⟨w2, Below.refl _ _⟩⟩
          refine wp_region_bel w2.heap.size (by kernel_rfl) (by kernel_rfl) ?_
          repeat (go_big_quiet_step ((go_at_call 62; exact quiet_bel (Nat.le_refl _) (HSQ.out _))))
          refine wpQuiet_nil ?_
          intro wB hB0; obtain ⟨uB, hu⟩ := hB0; have hbB0 := uB.h; rw [← hu] at hbB0; clear hu uB hbelc hbeln
          obtain ⟨hbB, hcB, hsB⟩ := bcell2 hbB0; clear hbB0
          have hb3 := HBW2.out.trans (hbB.mono HBW2.out.size)
          clear hcB hsB hbB
          have HB3 := Lib.hid hb3; clear hb3
          go_wp2
          go_ret2
          exact LenPost.bad HRES2.out (by decide) HB3.out
        | false =>
          have hno2 : (ps.take (k + 1)).any offP = false := by rw [HSN.out, List.any_append, HNO.out]; simp [hof]
          have hsq := HSQ.out
          simp only [hof, Bool.false_eq_true, ↓reduceIte] at hsq
          clear HSQ
          have HSQ := Lib.hid hsq; have HNO2 := Lib.hid hno2; have HOF := Lib.hid hof; clear hsq hno2 hof
          have hbelc : ∀ (u : Bel w2.heap.size w2) b o, b < w2.heap.size → u.wd.cell? ⟨b, o, none⟩ = w2.cell? ⟨b, o, none⟩ := fun u b o h => u.h.cell (p := ⟨b, o, none⟩) h
          have hbeln : Nonempty (Bel w2.heap.size w2) := ⟨⟨w2, Below.refl _ _⟩⟩
          refine wp_region_bel w2.heap.size (by kernel_rfl) (by kernel_rfl) ?_
          repeat (go_big_quiet_step ((go_at_call 62; exact quiet_bel (Nat.le_refl _) (HSQ.out _))))
          refine wpQuiet_nil ?_
          intro wB hB0; obtain ⟨uB, hu⟩ := hB0; have hbB0 := uB.h; rw [← hu] at hbB0; clear hu uB hbelc hbeln
          obtain ⟨hbB, hcB, hsB⟩ := bcell2 hbB0; clear hbB0
          have hb3 := HBW2.out.trans (hbB.mono HBW2.out.size)
          have hown3 := own_keepR HOWN2.out hbB
          have hx3 := (hbB.block _ (lt_of_block HX2.out)).trans HX2.out
          clear hcB hsB hbB HX2 HOWN2 HBW2 HT HVL t0 tt1 c0 c1 c2 l1 l2 p0 p1
          have hvl := hown3.lt
          have hsz := hb3.size
          have hs1 := lt_of_block hx3
          have hrl := sqsK_length a b c ps k
          generalize hSL : sqsK a b c ps k = SL at *
          have HB3 := Lib.hid hb3; have HOWN3 := Lib.hid hown3; have HX3 := Lib.hid hx3; have HVL := Lib.hid hvl; have HSZ := Lib.hid hsz; have HS1 := Lib.hid hs1; have HRL := Lib.hid hrl; have HSL := Lib.hid hSL; clear hb3 hown3 hx3 hvl hsz hs1 hrl hSL
          go_wp2_with (refine wpList_appL_Try (by rfl) _ _ (by rfl) (w.heap.size + 1) u6 SL (by rfl) (by repeat (first | exact HOWN3.out | refine World.ownsRow.alloc ?_ _)) wB.heap.size sq (by rfl) (heap_alloc_new _ _) (by have := HRL.out; omega) (by simp; have := HS1.out; omega) ?_; intro g cap w3 hown4 hgrow hat4 hlt4)
          have hb4 : Below w.heap.size w w3 := (HB3.out.alloc HB3.out.size _).grown hgrow (by simp; have := HSZ.out; omega) (fun k' hk' => by have := (HVL.out k' hk').1; omega)
          have hx4 := (hgrow.block _ (by simp; have := HS1.out; omega) (fun h => by have := (HVL.out _ h.symm).1; omega)).trans ((Below.heap_alloc wB _ _ HS1.out).trans HX3.out)
          rw [← HSS.out] at hown4
          have hlen : SL.length + 1 = (sqsK a b c ps (k + 1)).length := by rw [sqsK_length, HRL.out]
          rw [hlen] at hown4 ⊢
          clear hgrow hat4 hlt4 hlen
          have HB4 := Lib.hid hb4; have HX4 := Lib.hid hx4; have HOWN4 := Lib.hid hown4; clear hb4 hx4 hown4
          go_wp2
          go_roundw
          case rel => exact ⟨k + 1, by go_num, by omega, HNO2.out, HOWN4.out, HX4.out, HB4.out⟩
          case measure => simp [intOf]; omega
    · obtain rfl : k = ps.length := by omega
      rw [List.take_length] at hno
      have x3 : ¬ (ps.length : Int) < (ps.length : Int) := by omega
      have hres := HRES.out
      rw [if_neg (by rw [hno]; decide)] at hres
      have hrl := sqsK_length a b c ps ps.length
      obtain ⟨SL, hSL⟩ : ∃ SL, SL = sqsK a b c ps ps.length := ⟨_, rfl⟩
      rw [← hSL] at hown hres hrl
      have hlow : ∀ z ∈ SL, -9000000000000000000 ≤ z := fun z hz => by
        rw [hSL] at hz
        obtain ⟨i, _, rfl⟩ := List.mem_map.1 hz
        exact sqA_low HLAT.out hno i
      obtain ⟨SA, sc, rfl, hrd⟩ := RdV.of_own hown (by omega)
      obtain ⟨n, hn⟩ : ∃ n, SL.length = n := ⟨_, rfl⟩
      rw [hn]
      have hn500 : n ≤ 500 := by omega
      clear HRES hown hrl
      by_cases hn0 : 0 < n
      · obtain ⟨g1, g2, g3, g4, g5, g6, g7, g8⟩ := len_facts hn0
        have hmx := maxI6_ SA sc SL wr hrd (by omega)
        rw [hn] at hmx
        have HRES := Lib.hid hres; have HNO := Lib.hid hno; have HSL := Lib.hid hSL; have HRD := Lib.hid hrd; have HN := Lib.hid hn; have HX := Lib.hid hx; have HBW := Lib.hid hbw; have HMX := Lib.hid hmx; have HLOW := Lib.hid hlow; clear hres hno hSL hrd hn hx hbw hmx hlow
        go_wp2_with fail
        refine HMX.out.mono ?_
        rintro e w5 ⟨m, rfl, hmm, b1⟩
        have hbw5 := HBW.out.trans (b1.mono HBW.out.size)
        have hrd := HRD.out.later b1 (Nat.le_refl _)
        have hm12 := hmm 1000000000000
        clear b1 HBW HRD HX hmm g1 g2 g3 g4 g5 g6 g7 g8
        by_cases hbig : 1000000000000 < m
        · have f1 : decide (1000000000000 < m) = true := decide_eq_true hbig
          have hres2 := HRES.out
          rw [if_pos (hm12.1 hbig)] at hres2
          have HRES2 := Lib.hid hres2; have HBW5 := Lib.hid hbw5; have HRD := Lib.hid hrd; have HM12 := Lib.hid hm12; clear hres2 hbw5 hrd hm12
          go_wp2
          go_ret2
          exact LenPost.bad HRES2.out (by decide) HBW5.out
        · have f1 : decide (1000000000000 < m) = false := decide_eq_false hbig
          have hany : SL.any (fun n => decide (1000000000000 < n)) = false := by
            cases h : SL.any (fun n => decide (1000000000000 < n)) with
            | false => rfl
            | true => exact absurd (hm12.2 h) hbig
          have hres2 := HRES.out
          rw [if_neg (by rw [hany]; decide)] at hres2
          have HRES2 := Lib.hid hres2; have HBW5 := Lib.hid hbw5; have HRD := Lib.hid hrd; have HM12 := Lib.hid hm12; have HANY := Lib.hid hany; clear hres2 hbw5 hrd hm12 hany
          go_wp2
          go_loopw [11, 13, 14, 15, 58] (fun ov _ _ _ iv wq => ∃ (k : Nat) (o : List (Int × Int)) (A : Option Addr) (cc : Nat), iv = .int .i64 (k : Int) ∧ k ≤ n ∧ o = lenF (SL.take k) [] ∧ ov = .slice A o.length cc ∧ RdR wq A o ∧ o.length ≤ cc ∧ LenS k o ∧ Below w5.heap.size w5 wq) (fun _ _ _ _ iv _ => n - (intOf iv).toNat)
          case atStart => exact ⟨0, [], none, 0, rfl, Nat.zero_le _, rfl, rfl, rdR_nil9 _ _, Nat.le_refl _, LenS.zero, Below.refl _ _⟩
          case round =>
            obtain ⟨k, o, A, cc, rfl, hk, ho, rfl, hro, hoc, hls, hbq⟩ := hrel
            by_cases hkn : k < n
            · have hkS : k < SL.length := by rw [HN.out]; exact hkn
              obtain ⟨bl, ol, rfl, hbl, q0⟩ := (HRD.out.later hbq (Nat.le_refl _)).at_ hkS
              have hz := List.any_eq_false.1 HANY.out SL[k] (List.getElem_mem _)
              have hlf := lenF_take hkS
              rw [← ho] at hlf
              have hlow := HLOW.out SL[k] (List.getElem_mem hkS)
              generalize SL[k] = z at *
              have hz : z ≤ 1000000000000 := by simpa using hz
              have x1 : (0 : Int) ≤ (k : Int) := by omega
              have x2 : (k : Int) < (n : Int) := by omega
              have hcall := fun W => tnRoot_ z W (by omega) (by omega)
              have HO := Lib.hid ho; have HRO := Lib.hid hro; have HOC := Lib.hid hoc; have HLS := Lib.hid hls; have HBQ := Lib.hid hbq; have HLF := Lib.hid hlf; have HZ := Lib.hid hz; have HCALL := Lib.hid hcall; have HKS := Lib.hid hkS; have HLOW := Lib.hid hlow; clear ho hro hoc hls hbq hlf hz hcall hkS hlow
              go_wp2_with fail
              refine (HCALL.out _).mono ?_
              rintro e wR hpost
              obtain ⟨K, S, x, rfl, b1, hr0, hr1⟩ := root_nrt hpost HZ.out
              have hrr : 0 < z → IsRt z.toNat K.toNat S.toNat ∧ 0 < S := fun h0 => by
                obtain ⟨K2, S2, x2, e2, _, _, _, h3⟩ := hpost
                injection e2 with e2; injection e2 with e2
                simp only [Array.mk.injEq, List.cons.injEq, Value.agg.injEq, Value.int.injEq, true_and, and_true] at e2
                obtain ⟨⟨e3, e4⟩, _⟩ := e2
                have := h3 h0 HZ.out
                rw [e3, e4]; exact ⟨this.2.2.2, this.2.2.1⟩
              have hro1 := HRO.out.later b1 (Nat.le_refl _)
              have hbq1 := HBQ.out.trans (b1.mono HBQ.out.size)
              clear b1 HRO HBQ hpost q0 hbl
              have hbT : Below wR.heap.size wR (wR.alloc (.cells #[.int .i64 K, .int .i64 S] 94)) := (Below.refl _ _).alloc (Nat.le_refl _) _
              have hT := heap_alloc_new wR (.cells #[.int .i64 K, .int .i64 S] 94)
              have hro2 := hro1.later hbT (Nat.le_refl _)
              have hbq2 := hbq1.trans (hbT.mono hbq1.size)
              clear hbT hro1 hbq1
              by_cases hK : 0 < K
              · have hz0 : 0 < z := by
                  rcases Int.lt_or_le 0 z with h | h
                  · exact h
                  · have := hr0 h; omega
                obtain ⟨hnr, _, hx0⟩ := hr1 hz0
                obtain ⟨hrt, hS⟩ := hrr hz0
                have hlf2 : lenF (SL.take (k + 1)) [] = mg 1 o [(K, S)] := by rw [HLF.out, ← hnr]; unfold stepL; rw [if_pos hz0]
                have hls2 := HLS.out.step HZ.out hz0 hrt hK hS
                have f1 : decide (0 < K) = true := decide_eq_true hK
                clear hr0 hr1 hrr
                have HT := Lib.hid hT; have HRO2 := Lib.hid hro2; have HBQ2 := Lib.hid hbq2; have HZ0 := Lib.hid hz0; have HNR := Lib.hid hnr; have HX0 := Lib.hid hx0; have HRT := Lib.hid hrt; have HS := Lib.hid hS; have HLF2 := Lib.hid hlf2; have HLS2 := Lib.hid hls2; clear hT hro2 hbq2 hz0 hnr hx0 hrt hS hlf2 hls2
                go_upto_region 22 with fail
                obtain ⟨w6, hw6⟩ : ∃ w6, w6 = wR.alloc (.cells #[.int .i64 K, .int .i64 S] 94) := ⟨_, rfl⟩
                have hT := HT.out
                have hro2 := HRO2.out
                have hbq2 := HBQ2.out
                rw [← hw6] at hT hro2 hbq2 ⊢
                clear HT HRO2 HBQ2 hw6
                generalize wR.heap.size = T4 at *
                have t0 := cell_of_row _ _ 0 _ _ _ hT
                have tt1 := cell_of_row _ _ 1 _ _ _ hT
                simp only [List.getElem?_toArray, List.getElem?_cons_zero, List.getElem?_cons_succ] at t0 tt1
                have l1 := lt_of_block hT
                have hbN : Below w6.heap.size w6 (w6.alloc (.cells #[.int .i64 K, .int .i64 S] 94)) := (Below.refl _ _).alloc (Nat.le_refl _) _
                have hN := rdR_one (heap_alloc_new w6 (.cells #[.int .i64 K, .int .i64 S] 94))
                have hro3 := hro2.later hbN (Nat.le_refl _)
                have hbq3 := hbq2.trans (hbN.mono hbq2.size)
                have hmed : Med [(K, S)] := fun y hy => by
                  have hr := (nrt_rng HZ0.out HZ.out HRT.out).1
                  rw [List.mem_singleton.1 hy]
                  simp only; omega
                have hmg := fun W h1 h2 => tnMerge_ A (some ⟨w6.heap.size, 0, none⟩) cc 1 1 (.inl rfl) o [(K, S)] W h1 h2 HOC.out (by simp) (HLS.out.med (by omega)) hmed (by have := HLS.out.ln; simp; omega)
                have HT := Lib.hid hT; have HRO2 := Lib.hid hro2; have HBQ2 := Lib.hid hbq2; have HBN := Lib.hid hbN; have HN := Lib.hid hN; have HRO3 := Lib.hid hro3; have HBQ3 := Lib.hid hbq3; have HMED := Lib.hid hmed; have HMG := Lib.hid hmg; clear hT hro2 hbq2 hbN hN hro3 hbq3 hmed hmg
                go_wp2_with fail
                refine (HMG.out _ HRO3.out HN.out).mono ?_
                rintro e w7 ⟨A7, c7, rfl, hro7, hc7, b1⟩
                have hbq7 := HBQ3.out.trans (b1.mono HBQ3.out.size)
                clear b1
                rw [← HLF2.out] at hro7 hc7 ⊢
                have hls7 := HLS2.out
                rw [← HLF2.out] at hls7
                have HRO7 := Lib.hid hro7; have HC7 := Lib.hid hc7; have HBQ7 := Lib.hid hbq7; have HLS7 := Lib.hid hls7; clear hro7 hc7 hbq7 hls7
                go_wp2
                go_roundw
                case rel => exact ⟨k + 1, _, _, _, by go_num, by omega, rfl, rfl, HRO7.out, HC7.out, HLS7.out, HBQ7.out⟩
                case measure => simp [intOf]; omega
              · have f1 : decide (0 < K) = false := decide_eq_false hK
                have hz0 : ¬ 0 < z := fun h => by have := (hr1 h).2.1; omega
                have hlf2 : o = lenF (SL.take (k + 1)) [] := by rw [HLF.out]; unfold stepL; rw [if_neg hz0]
                have hls2 := HLS.out.more
                clear hr0 hr1 hrr
                have HT := Lib.hid hT; have HRO2 := Lib.hid hro2; have HBQ2 := Lib.hid hbq2; have HZ0 := Lib.hid hz0; have HLF2 := Lib.hid hlf2; have HLS2 := Lib.hid hls2; clear hT hro2 hbq2 hz0 hlf2 hls2
                go_wp2
                go_roundw
                case rel => exact ⟨k + 1, o, _, _, by go_num, by omega, HLF2.out, rfl, HRO2.out, HOC.out, HLS2.out, HBQ2.out⟩
                case measure => simp [intOf]; omega
            · obtain rfl : k = n := by omega
              have x3 : ¬ (k : Int) < (k : Int) := by omega
              rw [show SL.take k = SL by rw [← HN.out, List.take_length]] at ho
              have hres2 := HRES2.out
              rw [← ho] at hres2
              have hb9 := HBW5.out.trans (hbq.mono HBW5.out.size)
              by_cases h64 : 64 < o.length
              · have f1 : decide ((64 : Int) < (o.length : Int)) = true := decide_eq_true (by omega)
                have f2 : (64 : Int) < (o.length : Int) := by omega
                rw [if_pos h64] at hres2
                have HO := Lib.hid ho; have HRO := Lib.hid hro; have HOC := Lib.hid hoc; have HLS := Lib.hid hls; have HBQ := Lib.hid hbq; have HRES2 := Lib.hid hres2; have HB9 := Lib.hid hb9; clear ho hro hoc hls hbq hres2 hb9
                go_wp2
                go_ret2
                exact LenPost.bad HRES2.out (by decide) HB9.out
              · have f1 : decide ((64 : Int) < (o.length : Int)) = false := decide_eq_false (by omega)
                have f2 : ¬ (64 : Int) < (o.length : Int) := by omega
                rw [if_neg h64] at hres2
                have HO := Lib.hid ho; have HRO := Lib.hid hro; have HOC := Lib.hid hoc; have HLS := Lib.hid hls; have HBQ := Lib.hid hbq; have HRES2 := Lib.hid hres2; have HB9 := Lib.hid hb9; clear ho hro hoc hls hbq hres2 hb9
                go_wp2
                go_ret2
                rw [HRES2.out]
                exact ⟨A, cc, rfl, HRO.out, HOC.out, fun _ => ⟨HLS.out.up (by omega), Nat.not_lt.1 h64⟩, HB9.out⟩
      · obtain rfl : n = 0 := by omega
        have hany : SL.any (fun n => decide (1000000000000 < n)) = false := by rw [List.eq_nil_of_length_eq_zero hn]; rfl
        have hres2 := hres
        rw [if_neg (by rw [hany]; decide)] at hres2
        obtain ⟨W5, hw5⟩ : ∃ W5, W5 = wr := ⟨_, rfl⟩
        rw [← hw5] at hrd hx hbw ⊢
        clear hw5
        have hbw5 := hbw
        clear hbw
        have HRES := Lib.hid hres; have HRES2 := Lib.hid hres2; have HNO := Lib.hid hno; have HSL := Lib.hid hSL; have HRD := Lib.hid hrd; have HX := Lib.hid hx; have HBW5 := Lib.hid hbw5; have HANY := Lib.hid hany; have HN := Lib.hid hn; have HLOW := Lib.hid hlow; clear hres hres2 hno hSL hrd hx hbw5 hany hn hlow
        go_wp2
        go_loopw [11, 13, 14, 15, 58] (fun ov _ _ _ iv wq => ∃ (k : Nat) (o : List (Int × Int)) (A : Option Addr) (cc : Nat), iv = .int .i64 (k : Int) ∧ k ≤ 0 ∧ o = lenF (SL.take k) [] ∧ ov = .slice A o.length cc ∧ RdR wq A o ∧ o.length ≤ cc ∧ LenS k o ∧ Below W5.heap.size W5 wq) (fun _ _ _ _ iv _ => 0 - (intOf iv).toNat)
        case atStart => exact ⟨0, [], none, 0, rfl, Nat.zero_le _, rfl, rfl, rdR_nil9 _ _, Nat.le_refl _, LenS.zero, Below.refl _ _⟩
        case round =>
          obtain ⟨k, o, A, cc, rfl, hk, ho, rfl, hro, hoc, hls, hbq⟩ := hrel
          by_cases hkn : k < 0
          · omega
          · obtain rfl : k = 0 := by omega
            have x3 : ¬ (0 : Int) < (0 : Int) := by omega
            rw [show SL.take 0 = SL by rw [← HN.out, List.take_length]] at ho
            have hres2 := HRES2.out
            rw [← ho] at hres2
            have hb9 := HBW5.out.trans (hbq.mono HBW5.out.size)
            by_cases h64 : 64 < o.length
            · have f1 : decide ((64 : Int) < (o.length : Int)) = true := decide_eq_true (by omega)
              have f2 : (64 : Int) < (o.length : Int) := by omega
              rw [if_pos h64] at hres2
              have HO := Lib.hid ho; have HRO := Lib.hid hro; have HOC := Lib.hid hoc; have HLS := Lib.hid hls; have HBQ := Lib.hid hbq; have HRES2 := Lib.hid hres2; have HB9 := Lib.hid hb9; clear ho hro hoc hls hbq hres2 hb9
              go_wp2
              go_ret2
              exact LenPost.bad HRES2.out (by decide) HB9.out
            · have f1 : decide ((64 : Int) < (o.length : Int)) = false := decide_eq_false (by omega)
              have f2 : ¬ (64 : Int) < (o.length : Int) := by omega
              rw [if_neg h64] at hres2
              have HO := Lib.hid ho; have HRO := Lib.hid hro; have HOC := Lib.hid hoc; have HLS := Lib.hid hls; have HBQ := Lib.hid hbq; have HRES2 := Lib.hid hres2; have HB9 := Lib.hid hb9; clear ho hro hoc hls hbq hres2 hb9
              go_wp2
              go_ret2
              rw [HRES2.out]
              exact ⟨A, cc, rfl, HRO.out, HOC.out, fun _ => ⟨HLS.out.up (by omega), Nat.not_lt.1 h64⟩, HB9.out⟩
end Go.Proofs.Ytdimaapiloojeaa
/- How great the bounds of a length are. -/
namespace Go.Proofs.Ytdimaapiloojeaa
open Go.RowKit

theorem sd_pos {x : Int × Int} (h : 0 < x.1) : sdR x = 0 := by unfold sdR; rw [if_neg (by omega)]
theorem lo1_pos {X : Int} (sc b : Nat) : ∀ {xs : List (Int × Int)}, Pos X xs → loS sc b 1 xs = 0 ∧ hiS sc b 1 xs = 0
  | [], _ => ⟨rfl, rfl⟩
  | x :: l, h => by
    have ih := lo1_pos sc b (xs := l) fun y hy => h y (List.mem_cons_of_mem _ hy)
    have hx := sd_pos (h x (List.mem_cons_self ..)).1
    rw [loS, hiS, hx, if_neg (by decide), if_neg (by decide), ih.1, ih.2]
    exact ⟨rfl, rfl⟩
/-- A sum over the roots, each with a weight of its radicand. -/
def smF (f : Nat → Nat) : List (Int × Int) → Nat
  | [] => 0
  | x :: l => x.1.natAbs * f x.2.toNat + smF f l
theorem smF_cons (f : Nat → Nat) (x : Int × Int) (l : List (Int × Int)) : smF f (x :: l) = x.1.natAbs * f x.2.toNat + smF f l := rfl
theorem smF_mg {X Y : Int} (f : Nat → Nat) (xs ys : List (Int × Int)) (hx : Pos X xs) (hy : Pos Y ys) : smF f (mg 1 xs ys) = smF f xs + smF f ys := by
  generalize hbz : (1 : Int) = bz
  fun_induction mg bz xs ys with
  | case1 ys =>
    subst hbz
    simp [smF]
  | case2 x xs => simp [smF]
  | case3 x xs y ys h ih =>
    have i := ih (fun q hq => hx q (List.mem_cons_of_mem _ hq)) hy
    simp only [smF_cons] at i ⊢
    omega
  | case4 x xs y ys h h2 ih =>
    have i := ih hx (fun q hq => hy q (List.mem_cons_of_mem _ hq))
    subst hbz
    simp only [smF_cons, Int.one_mul] at i ⊢
    omega
  | case5 x xs y ys h h2 h3 ih =>
    have a := hx x (List.mem_cons_self ..)
    have c := hy y (List.mem_cons_self ..)
    subst hbz; omega
  | case6 x xs y ys h h2 h3 ih =>
    have a := hx x (List.mem_cons_self ..)
    have c := hy y (List.mem_cons_self ..)
    have e : y.2 = x.2 := by omega
    have i := ih (fun q hq => hx q (List.mem_cons_of_mem _ hq)) (fun q hq => hy q (List.mem_cons_of_mem _ hq))
    subst hbz
    have h4 : (x.1 + 1 * y.1).natAbs = x.1.natAbs + y.1.natAbs := by omega
    simp only [smF_cons, e, h4, Nat.add_mul] at i ⊢
    omega
theorem lo0_sm {X : Int} (sc b : Nat) : ∀ {xs : List (Int × Int)}, Pos X xs → loS sc b 0 xs = sc * smF (fun s => rtN s b) xs ∧ hiS sc b 0 xs = sc * smF (fun s => moN s b) xs
  | [], _ => ⟨by simp [loS, smF], by simp [hiS, smF]⟩
  | x :: l, h => by
    have ih := lo0_sm sc b (xs := l) fun y hy => h y (List.mem_cons_of_mem _ hy)
    have hx := sd_pos (h x (List.mem_cons_self ..)).1
    rw [loS, hiS, hx, if_pos rfl, if_pos rfl, ih.1, ih.2, smF, smF, Nat.mul_add, Nat.mul_add, Nat.mul_comm _ sc, Nat.mul_assoc, Nat.mul_assoc]
    exact ⟨rfl, rfl⟩
/-- A step of so much adds at most a million times the scale. -/
theorem step_le {n : Int} {K S : Nat} (b : Nat) (h0 : 0 < n) (h1 : n ≤ 1000000000000) (hr : IsRt n.toNat K S) : K * rtN S b ≤ 1000000 * 2 ^ b := by
  have e := hr.1
  have hq : rtN S b * rtN S b ≤ S * 4 ^ b := Nat.sqrt_le (S * 4 ^ b)
  have h2 : (K * rtN S b) * (K * rtN S b) ≤ (1000000 * 2 ^ b) * (1000000 * 2 ^ b) := by
    have a1 : (K * rtN S b) * (K * rtN S b) = (K * K) * (rtN S b * rtN S b) := by
      rw [Nat.mul_mul_mul_comm]
    have a2 : (1000000 * 2 ^ b) * (1000000 * 2 ^ b) = 1000000000000 * 4 ^ b := by
      rw [Nat.mul_mul_mul_comm, ← Nat.pow_add, show b + b = 2 * b by omega, Nat.pow_mul]
    rw [a1, a2]
    refine Nat.le_trans (Nat.mul_le_mul_left _ hq) ?_
    rw [← Nat.mul_assoc, ← e]
    exact Nat.mul_le_mul_right _ (by omega)
  rcases Nat.lt_or_ge (1000000 * 2 ^ b) (K * rtN S b) with h | h
  · have := Nat.mul_lt_mul'' h h
    omega
  · exact h
/-- What holds of the sum of a path's steps. -/
theorem lenF_sum (b : Nat) : ∀ (l : List Int) (o : List (Int × Int)) (k : Nat), (∀ n ∈ l, n ≤ 1000000000000) → LenS k o → (∀ n ∈ l, 0 < n → ∃ K S : Nat, IsRt n.toNat K S) → LenS (k + l.length) (lenF l o) ∧ smF (fun s => rtN s b) (lenF l o) ≤ smF (fun s => rtN s b) o + l.length * (1000000 * 2 ^ b)
  | [], o, k, _, h, _ => ⟨h, by rw [lenF]; omega⟩
  | n :: l, o, k, hn, h, hex => by
    rw [lenF]
    have hn1 := hn n (List.mem_cons_self ..)
    by_cases h0 : 0 < n
    · obtain ⟨K, S, hr⟩ := hex n (List.mem_cons_self ..) h0
      obtain ⟨⟨r1, r2⟩, r3, r4⟩ := nrt_rng h0 hn1 hr
      have hst : stepL o n (nrt n) = mg 1 o [((K : Int), (S : Int))] := by unfold stepL; rw [if_pos h0, nrt_is h0 hr]
      have hs1 : LenS (k + 1) (mg 1 o [((K : Int), (S : Int))]) := h.step hn1 h0 (by simpa using hr) (by omega) (by omega)
      have hp : Pos 1000000 [((K : Int), (S : Int))] := fun x hx => by
        rw [List.mem_singleton.1 hx]
        simp only; omega
      have hm := smF_mg (fun s => rtN s b) o _ h.ps hp
      obtain ⟨i1, i2⟩ := lenF_sum b l (mg 1 o [((K : Int), (S : Int))]) (k + 1) (fun m hm => hn m (List.mem_cons_of_mem _ hm)) hs1 (fun m hm => hex m (List.mem_cons_of_mem _ hm))
      rw [hst]
      refine ⟨by rw [List.length_cons, show k + (l.length + 1) = k + 1 + l.length by omega]; exact i1, ?_⟩
      have hl := step_le b h0 hn1 hr
      rw [hm] at i2
      simp only [smF, Int.natAbs_natCast, Int.toNat_natCast, Nat.add_zero] at i2
      rw [List.length_cons, Nat.add_mul, Nat.one_mul]
      omega
    · have hst : stepL o n (nrt n) = o := by unfold stepL; rw [if_neg h0]
      obtain ⟨i1, i2⟩ := lenF_sum b l o (k + 1) (fun m hm => hn m (List.mem_cons_of_mem _ hm)) h.more (fun m hm => hex m (List.mem_cons_of_mem _ hm))
      rw [hst]
      refine ⟨by rw [List.length_cons, show k + (l.length + 1) = k + 1 + l.length by omega]; exact i1, ?_⟩
      rw [List.length_cons, Nat.add_mul, Nat.one_mul]
      omega
/-- Every number has a normal root. -/
theorem isRt_ex (n : Nat) (h0 : 0 < n) : ∃ K S : Nat, IsRt n K S := by
  induction n using Nat.strongRecOn with
  | _ n ih =>
    by_cases h : ∃ d, 1 < d ∧ d * d ∣ n
    · obtain ⟨d, hd, q, hq⟩ := h
      have hq0 : 0 < q := by
        rcases Nat.eq_zero_or_pos q with h | h
        · subst h; omega
        · exact h
      have hlt : q < n := by
        rw [hq]
        have h4 : 2 * 2 ≤ d * d := Nat.mul_le_mul (by omega) (by omega)
        calc q < 4 * q := by omega
          _ ≤ d * d * q := Nat.mul_le_mul_right _ h4
      obtain ⟨K, S, e, hs⟩ := ih q hlt hq0
      refine ⟨d * K, S, ?_, hs⟩
      rw [hq, e, ← Nat.mul_assoc, Nat.mul_mul_mul_comm]
    · refine ⟨1, n, by simp, h0, fun d hd hdv => h ⟨d, hd, hdv⟩⟩
/-- The upper bound of a value, as an int64. -/
def hiOf (sc : Nat) (xs : List (Int × Int)) (b : Nat) : Int := if badQ (intB xs) (lsV sc xs b) (lsB sc xs b) = true then 0 else hiQ (intB xs) (lsV sc xs b) (lsB sc xs b)
theorem lenR_ok {a b c : Int} {ps : List (Int × Int)} (h : (lenR a b c ps).2 = 0) : ps.length ≤ 500 ∧ latB a b c = false ∧ ps.any offP = false ∧ (∀ n ∈ sqsK a b c ps ps.length, n ≤ 1000000000000) ∧ (lenF (sqsK a b c ps ps.length) []).length ≤ 64 ∧ lenR a b c ps = (lenF (sqsK a b c ps ps.length) [], 0) := by
  unfold lenR at h ⊢
  split at h
  · cases h
  · rename_i h1
    split at h
    · cases h
    · rename_i h2
      split at h
      · cases h
      · rename_i h3
        split at h
        · cases h
        · rename_i h4
          split at h
          · cases h
          · rename_i h5
            rw [if_neg h1, if_neg h2, if_neg h3, if_neg h4, if_neg h5]
            refine ⟨by omega, by simpa using h2, by simpa using h3, fun n hn => ?_, by omega, rfl⟩
            have := List.any_eq_false.1 (Bool.eq_false_iff.2 h4) n hn
            simpa using this
theorem hiOf_len {a b c : Int} {ps : List (Int × Int)} (h : (lenR a b c ps).2 = 0) (sc q : Nat) (hs : sc ≤ 100000) : badQ (intB (lenR a b c ps).1) (lsV sc (lenR a b c ps).1 q) (lsB sc (lenR a b c ps).1 q) = false ∧ 0 ≤ hiOf sc (lenR a b c ps).1 q ∧ hiOf sc (lenR a b c ps).1 q ≤ 50000000000001 := by
  obtain ⟨h1, h2, h3, h4, h5, h6⟩ := lenR_ok h
  obtain ⟨i1, i2⟩ := lenF_sum q (sqsK a b c ps ps.length) [] 0 h4 LenS.zero (fun n _ h0 => isRt_ex n.toNat (by omega))
  rw [h6]
  simp only
  rw [sqsK_length] at i1 i2
  generalize lenF (sqsK a b c ps ps.length) [] = o at *
  have hp := i1.ps
  obtain ⟨l1, l2⟩ := lo1_pos sc q hp
  have l3 := (lo0_sm sc q hp).1
  have hlb : lsB sc o q = false := by
    unfold lsB flB gF vF
    simp [l2]
  have hlv : lsV sc o q ≤ 50000000000000 := by
    unfold lsV flV gF vF
    simp only [show ¬ (0 = 1) by decide, if_false, show ¬ (3 = 1) by decide, show (0 < 2) by decide, if_true, show ¬ (3 < 2) by decide, l2, Nat.zero_le, Nat.sub_zero]
    have hq := Nat.two_pow_pos q
    have h7 : smF (fun s => rtN s q) o ≤ 500 * (1000000 * 2 ^ q) := by
      have : ps.length * (1000000 * 2 ^ q) ≤ 500 * (1000000 * 2 ^ q) := Nat.mul_le_mul_right _ h1
      simp only [smF] at i2
      omega
    have h8 := Nat.mul_le_mul hs h7
    rw [l3]
    refine Nat.le_of_lt_succ ((Nat.div_lt_iff_lt_mul hq).2 ?_)
    rw [Nat.succ_mul]
    generalize smF (fun s => rtN s q) o = Y at *
    generalize 2 ^ q = X at *
    omega
  have hlo : loQ (lsV sc o q) false = (lsV sc o q : Int) := by unfold loQ; rw [if_neg (by omega)]; rfl
  have hhi : 0 ≤ hiQ (intB o) (lsV sc o q) false ∧ hiQ (intB o) (lsV sc o q) false ≤ 50000000000001 := by
    unfold hiQ
    rw [hlo]
    split <;> omega
  have hb : badQ (intB o) (lsV sc o q) (lsB sc o q) = false := by
    rw [hlb]
    unfold badQ
    rw [decide_eq_false (by omega), decide_eq_false (by omega)]
    rfl
  refine ⟨hb, ?_⟩
  unfold hiOf
  rw [hb, hlb, if_neg (by decide)]
  exact hhi
end Go.Proofs.Ytdimaapiloojeaa
/- How much thread a path needs. -/
namespace Go.Proofs.Ytdimaapiloojeaa
open Go.RowKit

def outR (n lo hi : Int) : Bool := decide (n < lo) || decide (hi < n)
theorem outR_no {n lo hi : Int} (h : outR n lo hi = false) : lo ≤ n ∧ n ≤ hi := by
  unfold outR at h
  simp at h
  omega
set_option maxRecDepth 100000 in
set_option maxHeartbeats 2000000 in
theorem bOutside_ (n lo hi : Int) (w : World) : Calls Try.prog 40 #[.int .i64 n, .int .i64 lo, .int .i64 hi] w (BoolPost (outR n lo hi) w) := by
  have hb := Below.refl w.heap.size w
  have hr : outR n lo hi = (decide (n < lo) || decide (hi < n)) := rfl
  by_cases h1 : n < lo
  · have f1 : decide (n < lo) = true := decide_eq_true h1
    rw [f1, Bool.true_or] at hr
    have HB := Lib.hid hb; have HR := Lib.hid hr; clear hb hr
    go_enter Try.func40, Try.ntmps40
    go_wp2
    go_ret
    exact ⟨by rw [HR.out]; rfl, HB.out⟩
  · have f1 : decide (n < lo) = false := decide_eq_false h1
    rw [f1, Bool.false_or] at hr
    have HB := Lib.hid hb; have HR := Lib.hid hr; clear hb hr
    go_enter Try.func40, Try.ntmps40
    go_wp2
    go_ret
    exact ⟨by rw [HR.out]; rfl, HB.out⟩
/-- What Need counts out of the upper bound. -/
def needV (hi plus hang : Int) : Int := (hi * (1000 + plus) + 999) / 1000 + hang
def NeedE (v x : Int) (w : World) (e : Ending) (w' : World) : Prop := e = .returned (.tuple #[.int .i64 v, .int .i64 x]) ∧ Below w.heap.size w w'
def argB (unit plus hang : Int) : Bool := outR unit 1 100000 || outR plus 0 1000 || outR hang 0 10000000
/-- The bounds' search comes to an end. -/
def Halts (sc : Nat) (xs : List (Int × Int)) : Prop := ∃ J, J ≤ 40 ∧ stopQ sc xs (32 * 2 ^ J) = true
set_option maxRecDepth 100000 in
set_option maxHeartbeats 4000000 in
theorem bNeed_arg (PA : Option Addr) (pc : Nat) (a b c unit plus hang : Int) (n : Nat) (w : World) (h : argB unit plus hang = true) :
    Calls Try.prog 15 #[.agg #[.int .i64 a, .int .i64 b, .int .i64 c], .slice PA n pc, .int .i64 unit, .int .i64 plus, .int .i64 hang] w (NeedE 0 2 w) := by
  have hb : Below w.heap.size w (w.alloc (.cells #[.int .i64 a, .int .i64 b, .int .i64 c] 35)) := (Below.refl _ _).alloc (Nat.le_refl _) _
  have hc1 := fun W => bOutside_ unit 1 100000 W
  have hc2 := fun W => bOutside_ plus 0 1000 W
  have hc3 := fun W => bOutside_ hang 0 10000000 W
  unfold argB at h
  have HB := Lib.hid hb; have HC1 := Lib.hid hc1; have HC2 := Lib.hid hc2; have HC3 := Lib.hid hc3; clear hb hc1 hc2 hc3
  go_enter Try.func15, Try.ntmps15
  go_wp2_with fail
  refine (HC1.out _).mono ?_
  rintro e w1 ⟨rfl, b1⟩
  have hb1 := HB.out.trans (b1.mono HB.out.size)
  clear b1
  cases h1 : outR unit 1 100000 with
  | true =>
    have HB1 := Lib.hid hb1; have H := Lib.hid h; have H1 := Lib.hid h1; clear hb1 h h1
    go_wp2
    go_ret2
    exact ⟨rfl, HB1.out⟩
  | false =>
    rw [h1, Bool.false_or] at h
    have HB1 := Lib.hid hb1; have H1 := Lib.hid h1; clear hb1 h1
    go_wp2_with fail
    refine (HC2.out _).mono ?_
    rintro e w2 ⟨rfl, b1⟩
    have hb2 := HB1.out.trans (b1.mono HB1.out.size)
    clear b1
    cases h2 : outR plus 0 1000 with
    | true =>
      have HB2 := Lib.hid hb2; have H := Lib.hid h; have H2 := Lib.hid h2; clear hb2 h h2
      go_wp2
      go_ret2
      exact ⟨rfl, HB2.out⟩
    | false =>
      rw [h2, Bool.false_or] at h
      have HB2 := Lib.hid hb2; have H2 := Lib.hid h2; clear hb2 h2
      go_wp2_with fail
      refine (HC3.out _).mono ?_
      rintro e w3 ⟨rfl, b1⟩
      have hb3 := HB2.out.trans (b1.mono HB2.out.size)
      clear b1
      rw [h]
      have HB3 := Lib.hid hb3; have H := Lib.hid h; clear hb3 h
      go_wp2
      go_ret2
      exact ⟨rfl, HB3.out⟩
/-- What Need returns of arguments in their ranges. -/
def NeedPost (a b c : Int) (ps : List (Int × Int)) (unit : Nat) (plus hang : Int) (w : World) (e : Ending) (w' : World) : Prop :=
  ((lenR a b c ps).2 ≠ 0 → NeedE 0 (lenR a b c ps).2 w e w') ∧
  ((lenR a b c ps).2 = 0 → ∃ q, 32 ≤ q ∧ stopQ unit (lenR a b c ps).1 q = true ∧ NeedE (needV (hiOf unit (lenR a b c ps).1 q) plus hang) 0 w e w')
set_option maxRecDepth 100000 in
set_option maxHeartbeats 4000000 in
theorem bNeed_ (PA : Option Addr) (pc : Nat) (a b c : Int) (unit : Nat) (plus hang : Int) (ps : List (Int × Int)) (w : World) (hr : RdR w PA ps) (h : argB (unit : Int) plus hang = false) (hh : (lenR a b c ps).2 = 0 → Halts unit (lenR a b c ps).1) :
    Calls Try.prog 15 #[.agg #[.int .i64 a, .int .i64 b, .int .i64 c], .slice PA ps.length pc, .int .i64 (unit : Int), .int .i64 plus, .int .i64 hang] w (NeedPost a b c ps unit plus hang w) := by
  have hln := hr.1
  have hb : Below w.heap.size w (w.alloc (.cells #[.int .i64 a, .int .i64 b, .int .i64 c] 35)) := (Below.refl _ _).alloc (Nat.le_refl _) _
  have hx := heap_alloc_new w (.cells #[.int .i64 a, .int .i64 b, .int .i64 c] 35)
  unfold argB at h
  simp only [Bool.or_eq_false_iff] at h
  obtain ⟨⟨h1, h2⟩, h3⟩ := h
  have hc1 := fun W => bOutside_ (unit : Int) 1 100000 W
  have hc2 := fun W => bOutside_ plus 0 1000 W
  have hc3 := fun W => bOutside_ hang 0 10000000 W
  rw [h1] at hc1
  rw [h2] at hc2
  rw [h3] at hc3
  obtain ⟨u1, u2⟩ := outR_no h1
  obtain ⟨p1, p2⟩ := outR_no h2
  obtain ⟨g1, g2⟩ := outR_no h3
  have hhi := fun h q => hiOf_len (a := a) (b := b) (c := c) (ps := ps) h unit q (by omega)
  have HR := Lib.hid hr; have HB := Lib.hid hb; have HX := Lib.hid hx; have HC1 := Lib.hid hc1; have HC2 := Lib.hid hc2; have HC3 := Lib.hid hc3; have H1 := Lib.hid h1; have H2 := Lib.hid h2; have H3 := Lib.hid h3; have U1 := Lib.hid u1; have U2 := Lib.hid u2; have P1 := Lib.hid p1; have P2 := Lib.hid p2; have G1 := Lib.hid g1; have G2 := Lib.hid g2; have HH := Lib.hid hh; have HHI := Lib.hid hhi; clear hr hb hx hc1 hc2 hc3 h1 h2 h3 u1 u2 p1 p2 g1 g2 hh hhi
  go_enter Try.func15, Try.ntmps15
  go_wp2_with fail
  refine (HC1.out _).mono ?_
  rintro e w1 ⟨rfl, b1⟩
  have hb1 := HB.out.trans (b1.mono HB.out.size)
  have hx1 := (b1.block _ (lt_of_block HX.out)).trans HX.out
  clear b1 HB HX
  have HB1 := Lib.hid hb1; have HX1 := Lib.hid hx1; clear hb1 hx1
  go_wp2_with fail
  refine (HC2.out _).mono ?_
  rintro e w2 ⟨rfl, b1⟩
  have hb2 := HB1.out.trans (b1.mono HB1.out.size)
  have hx2 := (b1.block _ (lt_of_block HX1.out)).trans HX1.out
  clear b1 HB1 HX1
  have HB2 := Lib.hid hb2; have HX2 := Lib.hid hx2; clear hb2 hx2
  go_wp2_with fail
  refine (HC3.out _).mono ?_
  rintro e w3 ⟨rfl, b1⟩
  have hb3 := HB2.out.trans (b1.mono HB2.out.size)
  have hx3 := (b1.block _ (lt_of_block HX2.out)).trans HX2.out
  clear b1 HB2 HX2
  have c0 := cell_of_row _ _ 0 _ _ _ hx3
  have c1 := cell_of_row _ _ 1 _ _ _ hx3
  have c2 := cell_of_row _ _ 2 _ _ _ hx3
  simp only [List.getElem?_toArray, List.getElem?_cons_zero, List.getElem?_cons_succ] at c0 c1 c2
  have l2 := lt_of_block hx3
  have hr3 := HR.out.later hb3 (Nat.le_refl _)
  have HB3 := Lib.hid hb3; have HX3 := Lib.hid hx3; have HR3 := Lib.hid hr3; clear hb3 hx3 hr3
  go_wp2_with fail
  refine (tnLength_ PA pc a b c ps w3 HR3.out).mono ?_
  rintro e w4 ⟨A4, c4, rfl, hr4, hc4, hok, b1⟩
  have hb4 := HB3.out.trans (b1.mono HB3.out.size)
  clear b1 HB3 HX3 HR3 c0 c1 c2 l2
  obtain ⟨L, hL⟩ : ∃ L, L = lenR a b c ps := ⟨_, rfl⟩
  rw [← hL] at hr4 hc4 hok HH HHI
  rw [← hL]
  obtain ⟨xs, x⟩ := L
  simp only at hr4 hc4 hok HH HHI ⊢
  by_cases h0 : x = 0
  rotate_left
  · have f1 : (x != 0) = true := by simp [h0]
    have HR4 := Lib.hid hr4; have HC4 := Lib.hid hc4; have HOK := Lib.hid hok; have HB4 := Lib.hid hb4; have HL := Lib.hid hL; have H0 := Lib.hid h0; clear hr4 hc4 hok hb4 hL h0
    go_wp2
    go_ret2
    unfold NeedPost
    rw [← HL.out]
    exact ⟨fun _ => ⟨rfl, HB4.out⟩, fun h => absurd h H0.out⟩
  · subst h0
    obtain ⟨hls, h64⟩ := hok rfl
    have hchk := hls.chk (by decide) h64
    obtain ⟨J, hJ, hstop⟩ := HH.out rfl
    have hhq := fun q => HHI.out rfl q
    have hbd := tnBounds_ok A4 c4 unit xs w4 hr4 hchk (by have := U1.out; omega) (by have := U2.out; omega) J hJ hstop
    have HR4 := Lib.hid hr4; have HC4 := Lib.hid hc4; have HOK := Lib.hid hok; have HB4 := Lib.hid hb4; have HL := Lib.hid hL; have HLS := Lib.hid hls; have H64 := Lib.hid h64; have HCHK := Lib.hid hchk; have HJ := Lib.hid hJ; have HSTOP := Lib.hid hstop; have HHQ := Lib.hid hhq; have HBD := Lib.hid hbd; clear hr4 hc4 hok hb4 hL hls h64 hchk hJ hstop hhq hbd
    go_wp2_with fail
    refine HBD.out.mono ?_
    rintro e w5 ⟨q, hq32, hqM, hsq, rfl, b1⟩
    have hb5 := HB4.out.trans (b1.mono HB4.out.size)
    clear b1
    obtain ⟨k1, k2, k3⟩ := HHQ.out q
    have hho : hiOf unit xs q = hiQ (intB xs) (lsV unit xs q) (lsB unit xs q) := by unfold hiOf; rw [k1]; rfl
    rw [hho] at k2 k3
    rw [k1, if_neg (by decide)]
    obtain ⟨lo, hlo⟩ : ∃ lo, lo = loQ (lsV unit xs q) (lsB unit xs q) := ⟨_, rfl⟩
    obtain ⟨hi, hhi2⟩ : ∃ hi, hi = hiQ (intB xs) (lsV unit xs q) (lsB unit xs q) := ⟨_, rfl⟩
    rw [← hhi2] at k2 k3 hho ⊢
    rw [← hlo]
    have p1 := P1.out
    have p2 := P2.out
    have g1 := G1.out
    have g2 := G2.out
    have m1 := Int.mul_le_mul k3 (show 1000 + plus ≤ 2000 by omega) (by omega) (by decide)
    have m2 := Int.mul_nonneg k2 (show 0 ≤ 1000 + plus by omega)
    have t1 : IntKind.i64.wrap (1000 + plus) = 1000 + plus := IntWalk.i64_in _ (by omega)
    have t2 : IntKind.i64.wrap (hi * (1000 + plus)) = hi * (1000 + plus) := IntWalk.i64_in _ (by omega)
    obtain ⟨M, hM⟩ : ∃ M, M = hi * (1000 + plus) := ⟨_, rfl⟩
    rw [← hM] at m1 m2
    have t3 : IntKind.i64.wrap (M + 999) = M + 999 := IntWalk.i64_in _ (by omega)
    have t4 : (M + 999).tdiv 1000 = (M + 999) / 1000 := Int.tdiv_eq_ediv_of_nonneg (by omega)
    have t5 : IntKind.i64.wrap ((M + 999) / 1000) = (M + 999) / 1000 := IntWalk.i64_in _ (by omega)
    have t6 : IntKind.i64.wrap ((M + 999) / 1000 + hang) = (M + 999) / 1000 + hang := IntWalk.i64_in _ (by omega)
    have hnv : needV hi plus hang = (M + 999) / 1000 + hang := by unfold needV; rw [hM]
    rw [hM] at t3 t4 t5 t6 hnv
    clear m1 m2 p1 p2 g1 g2 hM M
    have HB5 := Lib.hid hb5; have HSQ := Lib.hid hsq; have K1 := Lib.hid k1; have K2 := Lib.hid k2; have K3 := Lib.hid k3; have HHO := Lib.hid hho; have HLO := Lib.hid hlo; have HHI2 := Lib.hid hhi2; have HNV := Lib.hid hnv; have HQ32 := Lib.hid hq32; have HQM := Lib.hid hqM; clear hb5 hsq k1 k2 k3 hho hlo hhi2 hnv hq32 hqM
    go_wp2
    go_ret2
    unfold NeedPost
    rw [← HL.out]
    refine ⟨fun h => absurd rfl h, fun _ => ⟨q, HQ32.out, HSQ.out, ?_, HB5.out.alloc HB5.out.size _⟩⟩
    rw [HHO.out, HNV.out]
    rfl
end Go.Proofs.Ytdimaapiloojeaa
