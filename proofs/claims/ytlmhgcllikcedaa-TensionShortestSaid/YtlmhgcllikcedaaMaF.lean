/- Texts of this claim, laid together: TnBds, OwnR, TnHalt, TnHalt2, TnCmpP, TnMg, TnGr, TnGr2, TnLenP, TnCmp, TnMax, TnSide. -/
import Derived.Test.YtlmhgcllikcedaaMaA
import Derived.Test.YtlmhgcllikcedaaMaE
import Derived.Maps.AppendAt
/- Bounds of a sum. -/
namespace Go.Proofs.Ytlmhgcllikcedaa
open Go.RowKit

def intB (xs : List (Int × Int)) : Bool := !(xs.any fun x => decide (1 < x.2))
def gF (sc b : Nat) (xs : List (Int × Int)) (j : Nat) : Nat := if j = 1 then vF sc b xs 1 + (if intB xs = true then 0 else 1) else vF sc b xs j
def lsV (sc : Nat) (xs : List (Int × Int)) (b : Nat) : Nat := flV (gF sc b xs 0) (gF sc b xs 3) b
def lsB (sc : Nat) (xs : List (Int × Int)) (b : Nat) : Bool := flB (gF sc b xs 0) (gF sc b xs 3)
def mrV (sc : Nat) (xs : List (Int × Int)) (b : Nat) : Nat := flV (gF sc b xs 2) (gF sc b xs 1) b
def mrB (sc : Nat) (xs : List (Int × Int)) (b : Nat) : Bool := flB (gF sc b xs 2) (gF sc b xs 1)
def stopQ (sc : Nat) (xs : List (Int × Int)) (b : Nat) : Bool := intB xs || (lsB sc xs b == mrB sc xs b && decide (lsV sc xs b = mrV sc xs b))
def loQ (v : Nat) (t : Bool) : Int := if 4000000000000000000 < v then 0 else if t = true then -(v : Int) else (v : Int)
def hiQ (i : Bool) (v : Nat) (t : Bool) : Int := if i = true then loQ v t else loQ v t + 1
def badQ (i : Bool) (v : Nat) (t : Bool) : Bool := decide (4000000000000000000 < v) || decide (4000000000000000000 < hiQ i v t)
def BdsPost (sc : Nat) (xs : List (Int × Int)) (M : Nat) (w : World) (e : Ending) (w' : World) : Prop :=
  ∃ b, 32 ≤ b ∧ b ≤ M ∧ stopQ sc xs b = true ∧ (e = .returned (.tuple (if badQ (intB xs) (lsV sc xs b) (lsB sc xs b) = true then #[.agg #[.int .i64 0, .int .i64 0], .int .i64 7] else #[.agg #[.int .i64 (loQ (lsV sc xs b) (lsB sc xs b)), .int .i64 (hiQ (intB xs) (lsV sc xs b) (lsB sc xs b))], .int .i64 0]))) ∧ Below w.heap.size w w'
theorem flV_le (p n b : Nat) : flV p n b ≤ max p n := by
  have hq := Nat.two_pow_pos b
  unfold flV
  generalize 2 ^ b = q at *
  split
  · have := Nat.div_le_self (p - n) q
    omega
  · rename_i h
    have h2 : (n - p + q - 1) / q ≤ n - p := by
      refine Nat.le_of_lt_succ ((Nat.div_lt_iff_lt_mul hq).2 ?_)
      have : n - p ≤ (n - p) * q := Nat.le_mul_of_pos_right _ hq
      rw [Nat.succ_mul]
      omega
    omega
theorem gF_lt {sc b : Nat} (hs : sc < 2 ^ 62) {xs : List (Int × Int)} (hm : Mod xs) (j : Nat) : gF sc b xs j < 2 ^ (166 + b) := by
  have h1 := vF_lt (bits := b) hs hm xs.length j
  have h2 := vF_lt (bits := b) hs hm xs.length 1
  rw [List.take_length] at h1 h2
  have e : 2 ^ (166 + b) = 2 ^ (165 + b) + 2 ^ (165 + b) := by rw [show 166 + b = (165 + b) + 1 by omega, Nat.pow_succ]; omega
  have hp := Nat.two_pow_pos (165 + b)
  unfold gF
  rw [e]
  generalize 2 ^ (165 + b) = X at *
  split
  · split <;> omega
  · omega
theorem gF_nl {sc b : Nat} (hs : sc < 2 ^ 62) {xs : List (Int × Int)} (hm : Mod xs) (hb : b ≤ 35184372088832) (j : Nat) : nl (gF sc b xs j) ≤ 1099511627784 := by
  refine Nat.le_trans (nl_bits (gF_lt hs hm j)) ?_
  omega
theorem vF_nl {sc b : Nat} (hs : sc < 2 ^ 62) {xs : List (Int × Int)} (hm : Mod xs) (hb : b ≤ 35184372088832) (j : Nat) : nl (vF sc b xs j) ≤ 1099511627784 := by
  have h := vF_lt (bits := b) hs hm xs.length j
  rw [List.take_length] at h
  refine Nat.le_trans (nl_bits h) ?_
  omega
theorem ls_nl {sc b : Nat} (hs : sc < 2 ^ 62) {xs : List (Int × Int)} (hm : Mod xs) (hb : b ≤ 35184372088832) : nl (lsV sc xs b) ≤ 1099511627784 ∧ nl (mrV sc xs b) ≤ 1099511627784 := by
  constructor
  · refine Nat.le_trans (nl_bits (b := 166 + b) (Nat.lt_of_le_of_lt (flV_le _ _ _) (Nat.max_lt.2 ⟨gF_lt hs hm _, gF_lt hs hm _⟩))) ?_
    omega
  · refine Nat.le_trans (nl_bits (b := 166 + b) (Nat.lt_of_le_of_lt (flV_le _ _ _) (Nat.max_lt.2 ⟨gF_lt hs hm _, gF_lt hs hm _⟩))) ?_
    omega
def ErrIv (x : Int) (w : World) (e : Ending) (w' : World) : Prop := e = .returned (.tuple #[.agg #[.int .i64 0, .int .i64 0], .int .i64 x]) ∧ Below w.heap.size w w'
set_option maxRecDepth 100000 in
set_option maxHeartbeats 4000000 in
theorem tnBounds_err (A : Option Addr) (c : Nat) (sc : Int) (xs : List (Int × Int)) (w : World) (hr : RdR w A xs) (h0 : chkE xs ≠ 0) :
    Calls Try.prog 20 #[.slice A xs.length c, .int .i64 sc] w (ErrIv (chkE xs) w) := by
  have hb : Below w.heap.size w (w.alloc (.cells #[.int .i64 0, .int .i64 0] 33)) := (Below.refl _ _).alloc (Nat.le_refl _) _
  have hx := heap_alloc_new w (.cells #[.int .i64 0, .int .i64 0] 33)
  have hr1 := hr.later hb (Nat.le_refl _)
  have f1 : (chkE xs != 0) = true := by simp [h0]
  generalize hce : chkE xs = ce at *
  have HB := Lib.hid hb; have HX := Lib.hid hx; have HR1 := Lib.hid hr1; have HR := Lib.hid hr; have H0 := Lib.hid h0; have HCE := Lib.hid hce; clear hb hx hr1 hr h0 hce
  go_enter Try.func20, Try.ntmps20
  go_wp2_with fail
  go_step3
  go_wp2_with fail
  refine (tnCheck_ A c xs _ HR1.out).mono ?_
  rw [HCE.out]
  rintro e w1 ⟨rfl, b1⟩
  have hb1 := HB.out.trans (b1.mono HB.out.size)
  have hx1 := (b1.block _ (lt_of_block HX.out)).trans HX.out
  have hl := lt_of_block hx1
  have c0 := cell_of_row _ _ 0 _ _ _ hx1
  have c1 := cell_of_row _ _ 1 _ _ _ hx1
  simp only [List.getElem?_toArray, List.getElem?_cons_zero, List.getElem?_cons_succ] at c0 c1
  have z0 := frozen_of_row _ _ 0 _ _ hx1
  have z1 := frozen_of_row _ _ 1 _ _ hx1
  have hb2 := fun u v => (hb1.setCell (p := ⟨w.heap.size, 0, none⟩) (Nat.le_refl _) u).setCell (p := ⟨w.heap.size, 1, none⟩) (Nat.le_refl _) v
  clear b1 HB HX
  have HB1 := Lib.hid hb1; have HX1 := Lib.hid hx1; have HB2 := Lib.hid hb2; clear hb1 hx1 hb2
  go_wp2
  try rw [Exit.noGoto_ret]
  refine bodyPost_ret (v := .tuple #[.agg #[.int .i64 0, .int .i64 0], .int .i64 ce]) (by simp [results, Try.results20, go_sem, c0, c1]) rfl ⟨rfl, HB2.out _ _⟩
set_option maxRecDepth 100000 in
set_option maxHeartbeats 4000000 in
theorem tnBounds_arg (A : Option Addr) (c : Nat) (sc : Int) (xs : List (Int × Int)) (w : World) (hr : RdR w A xs) (h0 : chkE xs = 0) (hsc : sc < 1 ∨ 1000000000 < sc) :
    Calls Try.prog 20 #[.slice A xs.length c, .int .i64 sc] w (ErrIv 2 w) := by
  have hb : Below w.heap.size w (w.alloc (.cells #[.int .i64 0, .int .i64 0] 33)) := (Below.refl _ _).alloc (Nat.le_refl _) _
  have hx := heap_alloc_new w (.cells #[.int .i64 0, .int .i64 0] 33)
  have hr1 := hr.later hb (Nat.le_refl _)
  have HB := Lib.hid hb; have HX := Lib.hid hx; have HR1 := Lib.hid hr1; have HR := Lib.hid hr; have H0 := Lib.hid h0; have HSC := Lib.hid hsc; clear hb hx hr1 hr h0 hsc
  go_enter Try.func20, Try.ntmps20
  go_wp2_with fail
  go_step3
  go_wp2_with fail
  refine (tnCheck_ A c xs _ HR1.out).mono ?_
  rw [H0.out]
  rintro e w1 ⟨rfl, b1⟩
  have hb1 := HB.out.trans (b1.mono HB.out.size)
  have hx1 := (b1.block _ (lt_of_block HX.out)).trans HX.out
  have hl := lt_of_block hx1
  have c0 := cell_of_row _ _ 0 _ _ _ hx1
  have c1 := cell_of_row _ _ 1 _ _ _ hx1
  simp only [List.getElem?_toArray, List.getElem?_cons_zero, List.getElem?_cons_succ] at c0 c1
  have z0 := frozen_of_row _ _ 0 _ _ hx1
  have z1 := frozen_of_row _ _ 1 _ _ hx1
  have hb2 := fun u v => (hb1.setCell (p := ⟨w.heap.size, 0, none⟩) (Nat.le_refl _) u).setCell (p := ⟨w.heap.size, 1, none⟩) (Nat.le_refl _) v
  clear b1 HB HX
  by_cases h1 : sc < 1
  · have f1 : decide (sc < 1) = true := decide_eq_true h1
    have HB1 := Lib.hid hb1; have HX1 := Lib.hid hx1; have HB2 := Lib.hid hb2; clear hb1 hx1 hb2
    go_wp2
    try rw [Exit.noGoto_ret]
    refine bodyPost_ret (v := .tuple #[.agg #[.int .i64 0, .int .i64 0], .int .i64 2]) (by simp [results, Try.results20, go_sem, c0, c1]) rfl ⟨rfl, HB2.out _ _⟩
  · have f1 : decide (sc < 1) = false := decide_eq_false h1
    have h2 : 1000000000 < sc := HSC.out.resolve_left h1
    have f2 : decide (1000000000 < sc) = true := decide_eq_true h2
    have HB1 := Lib.hid hb1; have HX1 := Lib.hid hx1; have HB2 := Lib.hid hb2; clear hb1 hx1 hb2
    go_wp2
    try rw [Exit.noGoto_ret]
    refine bodyPost_ret (v := .tuple #[.agg #[.int .i64 0, .int .i64 0], .int .i64 2]) (by simp [results, Try.results20, go_sem, c0, c1]) rfl ⟨rfl, HB2.out _ _⟩
def Halt (sc : Nat) (xs : List (Int × Int)) (J : Nat) : Prop := J ≤ 40 ∧ stopQ sc xs (32 * 2 ^ J) = true
theorem mod_of_chk {xs : List (Int × Int)} (h : chkE xs = 0) : Mod xs := by
  unfold chkE at h
  split at h
  · cases h
  · rename_i h1
    split at h
    · cases h
    · rename_i h2
      refine ⟨by omega, fun x hx => ?_⟩
      have h3 : xs.any rngB = false := by simpa using h2
      have := List.any_eq_false.1 h3 x hx
      unfold rngB wrongB at this
      simp at this
      omega
set_option maxRecDepth 100000 in
set_option maxHeartbeats 8000000 in
theorem tnBounds_ok (A : Option Addr) (c sc : Nat) (xs : List (Int × Int)) (w : World) (hr : RdR w A xs) (h0 : chkE xs = 0) (hsc1 : 1 ≤ sc) (hsc2 : sc ≤ 1000000000) (J : Nat) (hJ : J ≤ 40) (hstop : stopQ sc xs (32 * 2 ^ J) = true) :
    Calls Try.prog 20 #[.slice A xs.length c, .int .i64 (sc : Int)] w (BdsPost sc xs (32 * 2 ^ J) w) := by
  have hb : Below w.heap.size w (w.alloc (.cells #[.int .i64 0, .int .i64 0] 33)) := (Below.refl _ _).alloc (Nat.le_refl _) _
  have hx := heap_alloc_new w (.cells #[.int .i64 0, .int .i64 0] 33)
  have hr1 := hr.later hb (Nat.le_refl _)
  have hmod := mod_of_chk h0
  have HB := Lib.hid hb; have HX := Lib.hid hx; have HR1 := Lib.hid hr1; have HR := Lib.hid hr; have H0 := Lib.hid h0; have HMOD := Lib.hid hmod; have HSC1 := Lib.hid hsc1; have HSC2 := Lib.hid hsc2; have HJ := Lib.hid hJ; have HSTOP := Lib.hid hstop; clear hb hx hr1 hr h0 hmod hsc1 hsc2 hJ hstop
  go_enter Try.func20, Try.ntmps20
  go_wp2_with fail
  go_step3
  go_wp2_with fail
  refine (tnCheck_ A c xs _ HR1.out).mono ?_
  rw [H0.out]
  rintro e w1 ⟨rfl, b1⟩
  have hb1 := HB.out.trans (b1.mono HB.out.size)
  have hx1 := (b1.block _ (lt_of_block HX.out)).trans HX.out
  have hr2 := HR.out.later hb1 (Nat.le_refl _)
  clear b1 HB HX HR1
  have f1 : decide ((sc : Int) < 1) = false := decide_eq_false (by have := HSC1.out; omega)
  have f2 : decide ((1000000000 : Int) < (sc : Int)) = false := decide_eq_false (by have := HSC2.out; omega)
  have HB1 := Lib.hid hb1; have HX1 := Lib.hid hx1; have HR2 := Lib.hid hr2; clear hb1 hx1 hr2
  go_wp2_with fail
  refine (contR_ 55 (.inr rfl) _ tnBounds1_ A c xs _ HR2.out).mono ?_
  rintro e w2 ⟨rfl, b1⟩
  have hb2 := HB1.out.trans (b1.mono HB1.out.size)
  have hx2 := (b1.block _ (lt_of_block HX1.out)).trans HX1.out
  clear b1 HB1 HX1 HR2 f1 f2
  have HB2 := Lib.hid hb2; have HX2 := Lib.hid hx2; clear hb2 hx2
  rcases Bool.eq_false_or_eq_true (xs.any fun x => decide (1 < x.2)) with han | han <;> rw [han]
  · have hint : intB xs = false := by unfold intB; rw [han]; rfl
    have HAN := Lib.hid han; have HINT := Lib.hid hint; clear han hint
    go_wp2
    go_step3
    go_wp2
    go_loopw [8, 9, 10, 11, 12, 13] (fun _ _ bv _ _ _ wr => ∃ j : Nat, bv = .int .u64 ((32 * 2 ^ j : Nat) : Int) ∧ j ≤ J ∧ wr.heap[w.heap.size]? = some (.cells #[.int .i64 0, .int .i64 0] 33 (0, 0)) ∧ Below w.heap.size w wr) (fun _ _ bv _ _ _ _ => 32 * 2 ^ J - (intOf bv).toNat)
    case atStart => exact ⟨0, rfl, Nat.zero_le _, HX2.out, HB2.out⟩
    case round =>
      clear HX2 HB2
      obtain ⟨j, rfl, hjJ, hx, hbw⟩ := hrel
      have hrr := HR.out.later hbw (Nat.le_refl _)
      have hbM : 32 * 2 ^ j ≤ 32 * 2 ^ J := Nat.mul_le_mul_left _ (Nat.pow_le_pow_right (by decide) hjJ)
      have hbM2 : 32 * 2 ^ J ≤ 35184372088832 := Nat.mul_le_mul_left 32 (Nat.pow_le_pow_right (show 2 > 0 by decide) HJ.out : 2 ^ J ≤ 2 ^ 40)
      have hb1 : 32 ≤ 32 * 2 ^ j := by have := Nat.two_pow_pos j; omega
      have hnx : 32 * 2 ^ (j + 1) = 2 * (32 * 2 ^ j) := by rw [Nat.pow_succ]; omega
      have hst : j = J → stopQ sc xs (32 * 2 ^ j) = true := fun h => by subst h; exact HSTOP.out
      have hlt : j < J → 32 * 2 ^ (j + 1) ≤ 32 * 2 ^ J := fun h => Nat.mul_le_mul_left _ (Nat.pow_le_pow_right (by decide) h)
      generalize hM : 32 * 2 ^ J = M at *
      generalize hbe : 32 * 2 ^ j = b at *
      generalize hb2e : 32 * 2 ^ (j + 1) = bb at *
      have hbt := fun W h => tnBetween_ A c sc b xs W h HMOD.out (by have := HSC2.out; omega) (by omega)
      have hgn := fun q => gF_nl (sc := sc) (b := b) (xs := xs) (by have := HSC2.out; omega) HMOD.out (by omega) q
      have hvn := fun q => vF_nl (sc := sc) (b := b) (xs := xs) (by have := HSC2.out; omega) HMOD.out (by omega) q
      have hln := ls_nl (sc := sc) (b := b) (xs := xs) (by have := HSC2.out; omega) HMOD.out (by omega)
      have hwr : IntKind.u64.wrap ((b : Int) * 2) = (bb : Int) := by rw [IntWalk.u64_in _ (by omega)]; omega
      have HJJ := Lib.hid hjJ; have HX := Lib.hid hx; have HBW := Lib.hid hbw; have HRR := Lib.hid hrr; have HBM := Lib.hid hbM; have HBM2 := Lib.hid hbM2; have HB1 := Lib.hid hb1; have HNX := Lib.hid hnx; have HST := Lib.hid hst; have HLT := Lib.hid hlt; have HBT := Lib.hid hbt; have HGN := Lib.hid hgn; have HVN := Lib.hid hvn; have HLN := Lib.hid hln; have HM := Lib.hid hM; have HBE := Lib.hid hbe; have HB2E := Lib.hid hb2e; clear hjJ hx hbw hrr hbM hbM2 hb1 hnx hst hlt hbt hgn hvn hln hM hbe hb2e
      go_wp2_with fail
      refine (HBT.out _ HRR.out).mono ?_
      rintro e w1 ⟨VA, VC, rfl, hvv, b1⟩
      have hx1 := (b1.block _ (lt_of_block HX.out)).trans HX.out
      have hbw1 := HBW.out.trans (b1.mono HBW.out.size)
      clear b1 HX HBW HRR
      have hV : VB (w1.alloc (.cells #[.slice (VA 0) (nl (vF sc b xs 0)) (VC 0), .slice (VA 1) (nl (vF sc b xs 1)) (VC 1), .slice (VA 2) (nl (vF sc b xs 2)) (VC 2), .slice (VA 3) (nl (vF sc b xs 3)) (VC 3)] 101)) w1.heap.size (vF sc b xs) VA VC := by
        have hbT : Below w1.heap.size w1 (w1.alloc (.cells #[.slice (VA 0) (nl (vF sc b xs 0)) (VC 0), .slice (VA 1) (nl (vF sc b xs 1)) (VC 1), .slice (VA 2) (nl (vF sc b xs 2)) (VC 2), .slice (VA 3) (nl (vF sc b xs 3)) (VC 3)] 101)) := (Below.refl _ _).alloc (Nat.le_refl _) _
        exact ⟨heap_alloc_new _ _, fun j hj => (hvv j hj).1.later hbT (Nat.le_refl _), fun j hj => (hvv j hj).2⟩
      have hx2 : (w1.alloc (.cells #[.slice (VA 0) (nl (vF sc b xs 0)) (VC 0), .slice (VA 1) (nl (vF sc b xs 1)) (VC 1), .slice (VA 2) (nl (vF sc b xs 2)) (VC 2), .slice (VA 3) (nl (vF sc b xs 3)) (VC 3)] 101)).heap[w.heap.size]? = some (.cells #[.int .i64 0, .int .i64 0] 33 (0, 0)) := by rw [heap_alloc_old _ _ (lt_of_block hx1)]; exact hx1
      have hbw2 : Below w.heap.size w (w1.alloc (.cells #[.slice (VA 0) (nl (vF sc b xs 0)) (VC 0), .slice (VA 1) (nl (vF sc b xs 1)) (VC 1), .slice (VA 2) (nl (vF sc b xs 2)) (VC 2), .slice (VA 3) (nl (vF sc b xs 3)) (VC 3)] 101)) := hbw1.alloc hbw1.size _
      have hVw : w.heap.size < w1.heap.size := lt_of_block hx1
      clear hvv hx1 hbw1
      have HV := Lib.hid hV; have HX2 := Lib.hid hx2; have HBW2 := Lib.hid hbw2; have HVW := Lib.hid hVw; clear hV hx2 hbw2 hVw
      go_upto_region 13 with fail
      obtain ⟨w2, hw2⟩ : ∃ w2, w2 = w1.alloc (.cells #[.slice (VA 0) (nl (vF sc b xs 0)) (VC 0), .slice (VA 1) (nl (vF sc b xs 1)) (VC 1), .slice (VA 2) (nl (vF sc b xs 2)) (VC 2), .slice (VA 3) (nl (vF sc b xs 3)) (VC 3)] 101) := ⟨_, rfl⟩
      have hV3 := HV.out
      have hx3 := HX2.out
      have hbw3 := HBW2.out
      rw [← hw2] at hV3 hx3 hbw3 ⊢
      clear HV HX2 HBW2 hw2
      generalize w1.heap.size = V at *
      have q1 := hV3.at_ (j := 1) (by decide)
      have hVl := hV3.lt
      have hbo : Below w2.heap.size w2 (w2.alloc (.cells #[.int .u32 1] 104)) := (Below.refl _ _).alloc (Nat.le_refl _) _
      have hone := one_at (w := w2)
      have hr1 := (hV3.rd 1 (by decide)).later hbo (Nat.le_refl _)
      have hV4 := hV3.later hbo
      have hx4 := (hbo.block _ (lt_of_block hx3)).trans hx3
      have hbw4 := hbw3.trans (hbo.mono hbw3.size)
      have n1 : nl 1 = 1 := by decide
      have hpl : ∀ R W, RdN W (VA 1) (vF sc b xs 1) → RdN W (some ⟨R, 0, none⟩) 1 → Calls Try.prog 57 #[.slice (VA 1) (nl (vF sc b xs 1)) (VC 1), .slice (some ⟨R, 0, none⟩) 1 1] W (NatPost (vF sc b xs 1 + 1) W) := fun R W h1 h2 => by
        have h := natPlus_ (VA 1) (some ⟨R, 0, none⟩) (VC 1) 1 (vF sc b xs 1) 1 W h1 h2 (by have := HVN.out 1; omega) (by omega)
        rw [n1] at h; exact h
      clear hbo n1
      generalize hf1 : vF sc b xs 1 = f1 at *
      have HV3 := Lib.hid hV3; have HX3 := Lib.hid hx3; have HBW3 := Lib.hid hbw3; have HONE := Lib.hid hone; have HR1 := Lib.hid hr1; have HV4 := Lib.hid hV4; have HX4 := Lib.hid hx4; have HBW4 := Lib.hid hbw4; have HPL := Lib.hid hpl; have HF1 := Lib.hid hf1; clear hV3 hx3 hbw3 hone hr1 hV4 hx4 hbw4 hpl hf1
      go_wp2_with fail
      refine (HPL.out _ _ HR1.out HONE.out).mono ?_
      rintro e w3 ⟨A1, c1, rfl, h1, hc1, b1⟩
      have hV5 := HV4.out.later b1
      have hx5 := (b1.block _ (lt_of_block HX4.out)).trans HX4.out
      have hbw5 := HBW4.out.trans (b1.mono HBW4.out.size)
      clear b1 HV3 HX3 HBW3 HONE HR1 HV4 HX4 HBW4 HPL q1 hVl
      have hz := hV5.free 1
      have q1 := hV5.at_ (j := 1) (by decide)
      rw [HF1.out] at q1
      have hVl := hV5.lt
      have hVp := hV5.put (j := 1) (by decide) h1 hc1
      have hxp := (heap_setCell_other w3 ⟨V, 1, none⟩ w.heap.size (.slice A1 (nl (f1 + 1)) c1) (by show w.heap.size ≠ V; have := HVW.out; omega)).trans hx5
      have hbwp := hbw5.setCell (p := ⟨V, 1, none⟩) (by show w.heap.size ≤ V; have := HVW.out; omega) (.slice A1 (nl (f1 + 1)) c1)
      have hVg : VB (w3.setCell ⟨V, 1, none⟩ (.slice A1 (nl (f1 + 1)) c1)) V (gF sc b xs) (upD VA 1 A1) (upD VC 1 c1) := hVp.eqv fun j hj => by
        unfold gF
        rw [HINT.out]
        by_cases e : j = 1
        · subst e; rw [upD_same, if_pos rfl, HF1.out]; rfl
        · rw [upD_other _ _ e, if_neg e]
      clear hVp h1 hc1 hV5 hx5 hbw5
      have HVG := Lib.hid hVg; have HXP := Lib.hid hxp; have HBWP := Lib.hid hbwp; clear hVg hxp hbwp
      go_upto_region 14 with fail
      have hVg := HVG.out
      have hx5 := HXP.out
      have hbw5 := HBWP.out
      clear HVG HXP HBWP q1 hz hVl
      obtain ⟨w2, hw2⟩ : ∃ w2, w2 = w3.setCell ⟨V, 1, none⟩ (.slice A1 (nl (f1 + 1)) c1) := ⟨_, rfl⟩
      rw [← hw2] at hVg hx5 hbw5 ⊢
      clear hw2
      generalize upD VA 1 A1 = VA at *
      generalize upD VC 1 c1 = VC at *
      have q0 := hVg.at_ (j := 0) (by decide)
      have q3 := hVg.at_ (j := 3) (by decide)
      have hVl := hVg.lt
      have r0 := hVg.rd 0 (by decide)
      have r3 := hVg.rd 3 (by decide)
      have hfl := fun W h h2 => tnFloor_ (VA 0) (VA 3) (VC 0) (VC 3) (gF sc b xs 0) (gF sc b xs 3) b W h h2 (by have := HGN.out 0; omega) (by have := HGN.out 3; omega) (by have := HBM.out; have := HBM2.out; omega)
      have hfl2 := fun W h h2 => tnFloor_ (VA 2) (VA 1) (VC 2) (VC 1) (gF sc b xs 2) (gF sc b xs 1) b W h h2 (by have := HGN.out 2; omega) (by have := HGN.out 1; omega) (by have := HBM.out; have := HBM2.out; omega)
      have HVG := Lib.hid hVg; have HX5 := Lib.hid hx5; have HBW5 := Lib.hid hbw5; have R0 := Lib.hid r0; have R3 := Lib.hid r3; have HFL := Lib.hid hfl; have HFL2 := Lib.hid hfl2; clear hVg hx5 hbw5 r0 r3 hfl hfl2
      go_wp2_with fail
      refine (HFL.out _ R0.out R3.out).mono ?_
      rintro e w6 ⟨A6, c6, rfl, h6, hc6, b1⟩
      have hVg6 := HVG.out.later b1
      have hx6 := (b1.block _ (lt_of_block HX5.out)).trans HX5.out
      have hbw6 := HBW5.out.trans (b1.mono HBW5.out.size)
      clear b1 HVG HX5 HBW5 R0 R3 q0 q3 hVl HFL
      have q1 := hVg6.at_ (j := 1) (by decide)
      have q2 := hVg6.at_ (j := 2) (by decide)
      have hVl := hVg6.lt
      have r1 := hVg6.rd 1 (by decide)
      have r2 := hVg6.rd 2 (by decide)
      change RdN w6 A6 (lsV sc xs b) at h6
      change nl (lsV sc xs b) ≤ c6 at hc6
      rw [show flV (gF sc b xs 0) (gF sc b xs 3) b = lsV sc xs b from rfl, show flB (gF sc b xs 0) (gF sc b xs 3) = lsB sc xs b from rfl]
      obtain ⟨lv, hlv⟩ : ∃ lv, lv = lsV sc xs b := ⟨_, rfl⟩
      obtain ⟨lb, hlb⟩ : ∃ lb, lb = lsB sc xs b := ⟨_, rfl⟩
      rw [← hlv, ← hlb]
      rw [← hlv] at h6 hc6
      have HVG6 := Lib.hid hVg6; have HX6 := Lib.hid hx6; have HBW6 := Lib.hid hbw6; have R1 := Lib.hid r1; have R2 := Lib.hid r2; have H6 := Lib.hid h6; have HC6 := Lib.hid hc6; have HLV := Lib.hid hlv; have HLB := Lib.hid hlb; clear hVg6 hx6 hbw6 r1 r2 h6 hc6 hlv hlb
      go_wp2_with fail
      refine (HFL2.out _ R2.out R1.out).mono ?_
      rintro e w7 ⟨A7, c7, rfl, h7, hc7, b1⟩
      have h67 := H6.out.later b1 (Nat.le_refl _)
      have hx7 := (b1.block _ (lt_of_block HX6.out)).trans HX6.out
      have hbw7 := HBW6.out.trans (b1.mono HBW6.out.size)
      clear b1 HVG6 HX6 HBW6 R1 R2 q1 q2 hVl HFL2 H6
      change RdN w7 A7 (mrV sc xs b) at h7
      rw [show flV (gF sc b xs 2) (gF sc b xs 1) b = mrV sc xs b from rfl, show flB (gF sc b xs 2) (gF sc b xs 1) = mrB sc xs b from rfl]
      obtain ⟨mv, hmv⟩ : ∃ mv, mv = mrV sc xs b := ⟨_, rfl⟩
      obtain ⟨mb, hmb⟩ : ∃ mb, mb = mrB sc xs b := ⟨_, rfl⟩
      rw [← hmv, ← hmb]
      rw [← hmv] at h7
      have hsq : stopQ sc xs b = (intB xs || (lb == mb && decide (lv = mv))) := by rw [HLB.out, HLV.out, hmv, hmb]; rfl
      have HMV := Lib.hid hmv; have HMB := Lib.hid hmb; clear hmv hmb
      rw [HINT.out, Bool.false_or] at hsq
      cases hbb : (lb == mb) with
      | false =>
        rw [hbb, Bool.false_and] at hsq
        have hne : j ≠ J := fun h => by have := HST.out h; rw [hsq] at this; cases this
        have H67 := Lib.hid h67; have HX7 := Lib.hid hx7; have HBW7 := Lib.hid hbw7; have H7 := Lib.hid h7; have HC7 := Lib.hid hc7; have HSQ := Lib.hid hsq; have HNE := Lib.hid hne; clear h67 hx7 hbw7 h7 hc7 hsq hne
        go_wp2
        go_roundw
        case rel => exact ⟨j + 1, by rw [HB2E.out], by have := HJJ.out; have := HNE.out; omega, HX7.out, HBW7.out⟩
        case measure => have h1 := HLT.out (by have := HJJ.out; have := HNE.out; omega); have h2 := HNX.out; have h3 := HB1.out; simp [intOf]; omega
      | true =>
        rw [hbb, Bool.true_and] at hsq
        have hcmp := natCompare_ A6 A7 c6 c7 lv mv w7 h67 h7 (by rw [HLV.out]; have := HLN.out.1; omega) (by rw [HMV.out]; have := HLN.out.2; omega)
        have H67 := Lib.hid h67; have HX7 := Lib.hid hx7; have HBW7 := Lib.hid hbw7; have H7 := Lib.hid h7; have HC7 := Lib.hid hc7; have HSQ := Lib.hid hsq; have HCMP := Lib.hid hcmp; clear h67 hx7 hbw7 h7 hc7 hsq hcmp
        go_wp2_with fail
        refine HCMP.out.mono ?_
        rintro e w8 ⟨z, rfl, hz, b1⟩
        have h68 := H67.out.later b1 (Nat.le_refl _)
        have hx8 := (b1.block _ (lt_of_block HX7.out)).trans HX7.out
        have hbw8 := HBW7.out.trans (b1.mono HBW7.out.size)
        clear b1 H67 HX7 HBW7 H7
        by_cases hzz : z = 0
        rotate_left
        · have y1 : (z == 0) = false := by rw [beq_eq_false_iff_ne]; exact hzz
          have hne2 : lv ≠ mv := fun h => hzz (hz.2.1.2 h)
          have hne : j ≠ J := fun h => by have := HST.out h; rw [HSQ.out, decide_eq_false hne2] at this; cases this
          have H68 := Lib.hid h68; have HX8 := Lib.hid hx8; have HBW8 := Lib.hid hbw8; have HZ := Lib.hid hz; have HZZ := Lib.hid hzz; have HNE := Lib.hid hne; have HNE2 := Lib.hid hne2; clear h68 hx8 hbw8 hz hzz hne hne2
          go_wp2
          go_roundw
          case rel => exact ⟨j + 1, by rw [HB2E.out], by have := HJJ.out; have := HNE.out; omega, HX8.out, HBW8.out⟩
          case measure => have h1 := HLT.out (by have := HJJ.out; have := HNE.out; omega); have h2 := HNX.out; have h3 := HB1.out; simp [intOf]; omega
        · subst hzz
          have heq : lv = mv := hz.2.1.1 rfl
          have hsq2 : stopQ sc xs b = true := by rw [HSQ.out, decide_eq_true heq]
          clear HSQ
          have H68 := Lib.hid h68; have HX8 := Lib.hid hx8; have HBW8 := Lib.hid hbw8; have HZ := Lib.hid hz; have HEQ := Lib.hid heq; have HSQ2 := Lib.hid hsq2; clear h68 hx8 hbw8 hz heq hsq2
          have hln2 : nl lv ≤ 281474976710656 := by rw [HLV.out]; have := HLN.out.1; omega
          have HLN2 := Lib.hid hln2; clear hln2
          go_wp2_with fail
          refine (tnSigned_ A6 c6 lv lb _ H68.out HLN2.out).mono ?_
          rintro e w9 ⟨rfl, b1⟩
          have hx9 := (b1.block _ (lt_of_block HX8.out)).trans HX8.out
          have hbw9 := HBW8.out.trans (b1.mono HBW8.out.size)
          clear b1 H68 HX8 HBW8
          have hl := lt_of_block hx9
          have c0 := cell_of_row _ _ 0 _ _ _ hx9
          have c1 := cell_of_row _ _ 1 _ _ _ hx9
          simp only [List.getElem?_toArray, List.getElem?_cons_zero, List.getElem?_cons_succ] at c0 c1
          have z0 := frozen_of_row _ _ 0 _ _ hx9
          have z1 := frozen_of_row _ _ 1 _ _ hx9
          have hb2 := fun u v => (hbw9.setCell (p := ⟨w.heap.size, 0, none⟩) (Nat.le_refl _) u).setCell (p := ⟨w.heap.size, 1, none⟩) (Nat.le_refl _) v
          have hlo : loQ lv lb = if 4000000000000000000 < lv then 0 else if lb = true then -(lv : Int) else (lv : Int) := rfl
          rw [← hlo]
          have hlr : -4000000000000000000 ≤ loQ lv lb ∧ loQ lv lb ≤ 4000000000000000000 := by
            rw [hlo]
            split
            · omega
            · split <;> omega
          have hhi : hiQ false lv lb = loQ lv lb + 1 := rfl
          have hbq : badQ false lv lb = (decide (4000000000000000000 < lv) || decide (4000000000000000000 < hiQ false lv lb)) := rfl
          have hpost : ∀ E W, (E = .returned (.tuple (if badQ false lv lb = true then #[.agg #[.int .i64 0, .int .i64 0], .int .i64 7] else #[.agg #[.int .i64 (loQ lv lb), .int .i64 (hiQ false lv lb)], .int .i64 0]))) → Below w.heap.size w W → BdsPost sc xs M w E W := fun E W h1 h2 => by
            refine ⟨b, HB1.out, HBM.out, HSQ2.out, ?_, h2⟩
            rw [HINT.out, ← HLV.out, ← HLB.out]
            exact h1
          clear hlo
          rw [hhi] at hbq hpost
          clear hhi
          obtain ⟨lo, hloe⟩ : ∃ lo, lo = loQ lv lb := ⟨_, rfl⟩
          rw [← hloe] at hlr hbq hpost ⊢
          obtain ⟨g1, g2⟩ := hlr
          have hw1 : IntKind.i64.wrap (lo + 1) = lo + 1 := IntWalk.i64_in _ (by omega)
          by_cases hbig : 4000000000000000000 < lv
          · have f1 : decide (lv ≤ 4000000000000000000) = false := decide_eq_false (by omega)
            rw [f1]
            rw [decide_eq_true hbig, Bool.true_or] at hbq
            have HBIG := Lib.hid hbig; have HBQ := Lib.hid hbq; have HPOST := Lib.hid hpost; have HLOE := Lib.hid hloe; have G1 := Lib.hid g1; have G2 := Lib.hid g2; have HBW9 := Lib.hid hbw9; have HX9 := Lib.hid hx9; have HB2 := Lib.hid hb2; clear hbig hbq hpost hloe g1 g2 hbw9 hx9 hb2
            go_wp2
            try rw [Exit.noGoto_ret]
            refine bodyPost_ret (v := .tuple #[.agg #[.int .i64 0, .int .i64 0], .int .i64 7]) (by simp [results, Try.results20, go_sem, c0, c1]) rfl (HPOST.out _ _ (by rw [HBQ.out]; rfl) (HB2.out _ _))
          · have f1 : decide (lv ≤ 4000000000000000000) = true := decide_eq_true (by omega)
            rw [f1]
            rw [decide_eq_false hbig, Bool.false_or] at hbq
            by_cases htop : 4000000000000000000 < lo + 1
            · have f2 : decide (4000000000000000000 < lo + 1) = true := decide_eq_true htop
              rw [f2] at hbq
              have HBIG := Lib.hid hbig; have HBQ := Lib.hid hbq; have HPOST := Lib.hid hpost; have HLOE := Lib.hid hloe; have G1 := Lib.hid g1; have G2 := Lib.hid g2; have HBW9 := Lib.hid hbw9; have HX9 := Lib.hid hx9; have HB2 := Lib.hid hb2; clear hbig hbq hpost hloe g1 g2 hbw9 hx9 hb2
              go_wp2
              try rw [Exit.noGoto_ret]
              refine bodyPost_ret (v := .tuple #[.agg #[.int .i64 0, .int .i64 0], .int .i64 7]) (by simp [results, Try.results20, go_sem, c0, c1]) rfl (HPOST.out _ _ (by rw [HBQ.out]; rfl) (HB2.out _ _))
            · have f2 : decide (4000000000000000000 < lo + 1) = false := decide_eq_false htop
              rw [f2] at hbq
              have HBIG := Lib.hid hbig; have HBQ := Lib.hid hbq; have HPOST := Lib.hid hpost; have HLOE := Lib.hid hloe; have G1 := Lib.hid g1; have G2 := Lib.hid g2; have HBW9 := Lib.hid hbw9; have HX9 := Lib.hid hx9; have HB2 := Lib.hid hb2; clear hbig hbq hpost hloe g1 g2 hbw9 hx9 hb2
              go_wp2
              try rw [Exit.noGoto_ret]
              refine bodyPost_ret (v := .tuple #[.agg #[.int .i64 lo, .int .i64 (lo + 1)], .int .i64 0]) (by simp [results, Try.results20, go_sem, c0, c1]) rfl (HPOST.out _ _ (by rw [HBQ.out]; rfl) (HB2.out _ _))
  · have hint : intB xs = true := by unfold intB; rw [han]; rfl
    have HAN := Lib.hid han; have HINT := Lib.hid hint; clear han hint
    go_wp2
    go_step3
    go_wp2
    go_loopw [8, 9, 10, 11, 12, 13] (fun _ _ bv _ _ _ wr => ∃ j : Nat, bv = .int .u64 ((32 * 2 ^ j : Nat) : Int) ∧ j ≤ J ∧ wr.heap[w.heap.size]? = some (.cells #[.int .i64 0, .int .i64 0] 33 (0, 0)) ∧ Below w.heap.size w wr) (fun _ _ bv _ _ _ _ => 32 * 2 ^ J - (intOf bv).toNat)
    case atStart => exact ⟨0, rfl, Nat.zero_le _, HX2.out, HB2.out⟩
    case round =>
      clear HX2 HB2
      obtain ⟨j, rfl, hjJ, hx, hbw⟩ := hrel
      have hrr := HR.out.later hbw (Nat.le_refl _)
      have hbM : 32 * 2 ^ j ≤ 32 * 2 ^ J := Nat.mul_le_mul_left _ (Nat.pow_le_pow_right (by decide) hjJ)
      have hbM2 : 32 * 2 ^ J ≤ 35184372088832 := Nat.mul_le_mul_left 32 (Nat.pow_le_pow_right (show 2 > 0 by decide) HJ.out : 2 ^ J ≤ 2 ^ 40)
      have hb1 : 32 ≤ 32 * 2 ^ j := by have := Nat.two_pow_pos j; omega
      have hnx : 32 * 2 ^ (j + 1) = 2 * (32 * 2 ^ j) := by rw [Nat.pow_succ]; omega
      have hst : j = J → stopQ sc xs (32 * 2 ^ j) = true := fun h => by subst h; exact HSTOP.out
      have hlt : j < J → 32 * 2 ^ (j + 1) ≤ 32 * 2 ^ J := fun h => Nat.mul_le_mul_left _ (Nat.pow_le_pow_right (by decide) h)
      generalize hM : 32 * 2 ^ J = M at *
      generalize hbe : 32 * 2 ^ j = b at *
      generalize hb2e : 32 * 2 ^ (j + 1) = bb at *
      have hbt := fun W h => tnBetween_ A c sc b xs W h HMOD.out (by have := HSC2.out; omega) (by omega)
      have hgn := fun q => gF_nl (sc := sc) (b := b) (xs := xs) (by have := HSC2.out; omega) HMOD.out (by omega) q
      have hvn := fun q => vF_nl (sc := sc) (b := b) (xs := xs) (by have := HSC2.out; omega) HMOD.out (by omega) q
      have hln := ls_nl (sc := sc) (b := b) (xs := xs) (by have := HSC2.out; omega) HMOD.out (by omega)
      have hwr : IntKind.u64.wrap ((b : Int) * 2) = (bb : Int) := by rw [IntWalk.u64_in _ (by omega)]; omega
      have HJJ := Lib.hid hjJ; have HX := Lib.hid hx; have HBW := Lib.hid hbw; have HRR := Lib.hid hrr; have HBM := Lib.hid hbM; have HBM2 := Lib.hid hbM2; have HB1 := Lib.hid hb1; have HNX := Lib.hid hnx; have HST := Lib.hid hst; have HLT := Lib.hid hlt; have HBT := Lib.hid hbt; have HGN := Lib.hid hgn; have HVN := Lib.hid hvn; have HLN := Lib.hid hln; have HM := Lib.hid hM; have HBE := Lib.hid hbe; have HB2E := Lib.hid hb2e; clear hjJ hx hbw hrr hbM hbM2 hb1 hnx hst hlt hbt hgn hvn hln hM hbe hb2e
      go_wp2_with fail
      refine (HBT.out _ HRR.out).mono ?_
      rintro e w1 ⟨VA, VC, rfl, hvv, b1⟩
      have hx1 := (b1.block _ (lt_of_block HX.out)).trans HX.out
      have hbw1 := HBW.out.trans (b1.mono HBW.out.size)
      clear b1 HX HBW HRR
      have hV : VB (w1.alloc (.cells #[.slice (VA 0) (nl (vF sc b xs 0)) (VC 0), .slice (VA 1) (nl (vF sc b xs 1)) (VC 1), .slice (VA 2) (nl (vF sc b xs 2)) (VC 2), .slice (VA 3) (nl (vF sc b xs 3)) (VC 3)] 101)) w1.heap.size (vF sc b xs) VA VC := by
        have hbT : Below w1.heap.size w1 (w1.alloc (.cells #[.slice (VA 0) (nl (vF sc b xs 0)) (VC 0), .slice (VA 1) (nl (vF sc b xs 1)) (VC 1), .slice (VA 2) (nl (vF sc b xs 2)) (VC 2), .slice (VA 3) (nl (vF sc b xs 3)) (VC 3)] 101)) := (Below.refl _ _).alloc (Nat.le_refl _) _
        exact ⟨heap_alloc_new _ _, fun j hj => (hvv j hj).1.later hbT (Nat.le_refl _), fun j hj => (hvv j hj).2⟩
      have hx2 : (w1.alloc (.cells #[.slice (VA 0) (nl (vF sc b xs 0)) (VC 0), .slice (VA 1) (nl (vF sc b xs 1)) (VC 1), .slice (VA 2) (nl (vF sc b xs 2)) (VC 2), .slice (VA 3) (nl (vF sc b xs 3)) (VC 3)] 101)).heap[w.heap.size]? = some (.cells #[.int .i64 0, .int .i64 0] 33 (0, 0)) := by rw [heap_alloc_old _ _ (lt_of_block hx1)]; exact hx1
      have hbw2 : Below w.heap.size w (w1.alloc (.cells #[.slice (VA 0) (nl (vF sc b xs 0)) (VC 0), .slice (VA 1) (nl (vF sc b xs 1)) (VC 1), .slice (VA 2) (nl (vF sc b xs 2)) (VC 2), .slice (VA 3) (nl (vF sc b xs 3)) (VC 3)] 101)) := hbw1.alloc hbw1.size _
      have hVw : w.heap.size < w1.heap.size := lt_of_block hx1
      clear hvv hx1 hbw1
      have HV := Lib.hid hV; have HX2 := Lib.hid hx2; have HBW2 := Lib.hid hbw2; have HVW := Lib.hid hVw; clear hV hx2 hbw2 hVw
      go_upto_region 14 with fail
      obtain ⟨w2, hw2⟩ : ∃ w2, w2 = w1.alloc (.cells #[.slice (VA 0) (nl (vF sc b xs 0)) (VC 0), .slice (VA 1) (nl (vF sc b xs 1)) (VC 1), .slice (VA 2) (nl (vF sc b xs 2)) (VC 2), .slice (VA 3) (nl (vF sc b xs 3)) (VC 3)] 101) := ⟨_, rfl⟩
      have hV5 := HV.out
      have hx5 := HX2.out
      have hbw5 := HBW2.out
      rw [← hw2] at hV5 hx5 hbw5 ⊢
      have hVg : VB w2 w1.heap.size (gF sc b xs) VA VC := hV5.eqv fun j hj => by
        unfold gF
        rw [HINT.out]
        split
        · rename_i h; subst h; rfl
        · rfl
      clear hV5 HV HX2 HBW2 hw2
      generalize w1.heap.size = V at *
      have q0 := hVg.at_ (j := 0) (by decide)
      have q3 := hVg.at_ (j := 3) (by decide)
      have hVl := hVg.lt
      have r0 := hVg.rd 0 (by decide)
      have r3 := hVg.rd 3 (by decide)
      have hfl := fun W h h2 => tnFloor_ (VA 0) (VA 3) (VC 0) (VC 3) (gF sc b xs 0) (gF sc b xs 3) b W h h2 (by have := HGN.out 0; omega) (by have := HGN.out 3; omega) (by have := HBM.out; have := HBM2.out; omega)
      have hfl2 := fun W h h2 => tnFloor_ (VA 2) (VA 1) (VC 2) (VC 1) (gF sc b xs 2) (gF sc b xs 1) b W h h2 (by have := HGN.out 2; omega) (by have := HGN.out 1; omega) (by have := HBM.out; have := HBM2.out; omega)
      have HVG := Lib.hid hVg; have HX5 := Lib.hid hx5; have HBW5 := Lib.hid hbw5; have R0 := Lib.hid r0; have R3 := Lib.hid r3; have HFL := Lib.hid hfl; have HFL2 := Lib.hid hfl2; clear hVg hx5 hbw5 r0 r3 hfl hfl2
      go_wp2_with fail
      refine (HFL.out _ R0.out R3.out).mono ?_
      rintro e w6 ⟨A6, c6, rfl, h6, hc6, b1⟩
      have hVg6 := HVG.out.later b1
      have hx6 := (b1.block _ (lt_of_block HX5.out)).trans HX5.out
      have hbw6 := HBW5.out.trans (b1.mono HBW5.out.size)
      clear b1 HVG HX5 HBW5 R0 R3 q0 q3 hVl HFL
      have q1 := hVg6.at_ (j := 1) (by decide)
      have q2 := hVg6.at_ (j := 2) (by decide)
      have hVl := hVg6.lt
      have r1 := hVg6.rd 1 (by decide)
      have r2 := hVg6.rd 2 (by decide)
      change RdN w6 A6 (lsV sc xs b) at h6
      change nl (lsV sc xs b) ≤ c6 at hc6
      rw [show flV (gF sc b xs 0) (gF sc b xs 3) b = lsV sc xs b from rfl, show flB (gF sc b xs 0) (gF sc b xs 3) = lsB sc xs b from rfl]
      obtain ⟨lv, hlv⟩ : ∃ lv, lv = lsV sc xs b := ⟨_, rfl⟩
      obtain ⟨lb, hlb⟩ : ∃ lb, lb = lsB sc xs b := ⟨_, rfl⟩
      rw [← hlv, ← hlb]
      rw [← hlv] at h6 hc6
      have HVG6 := Lib.hid hVg6; have HX6 := Lib.hid hx6; have HBW6 := Lib.hid hbw6; have R1 := Lib.hid r1; have R2 := Lib.hid r2; have H6 := Lib.hid h6; have HC6 := Lib.hid hc6; have HLV := Lib.hid hlv; have HLB := Lib.hid hlb; clear hVg6 hx6 hbw6 r1 r2 h6 hc6 hlv hlb
      go_wp2_with fail
      refine (HFL2.out _ R2.out R1.out).mono ?_
      rintro e w7 ⟨A7, c7, rfl, h7, hc7, b1⟩
      have h67 := H6.out.later b1 (Nat.le_refl _)
      have hx7 := (b1.block _ (lt_of_block HX6.out)).trans HX6.out
      have hbw7 := HBW6.out.trans (b1.mono HBW6.out.size)
      clear b1 HVG6 HX6 HBW6 R1 R2 q1 q2 hVl HFL2 H6
      change RdN w7 A7 (mrV sc xs b) at h7
      rw [show flV (gF sc b xs 2) (gF sc b xs 1) b = mrV sc xs b from rfl, show flB (gF sc b xs 2) (gF sc b xs 1) = mrB sc xs b from rfl]
      obtain ⟨mv, hmv⟩ : ∃ mv, mv = mrV sc xs b := ⟨_, rfl⟩
      obtain ⟨mb, hmb⟩ : ∃ mb, mb = mrB sc xs b := ⟨_, rfl⟩
      rw [← hmv, ← hmb]
      rw [← hmv] at h7
      have hsq : stopQ sc xs b = (intB xs || (lb == mb && decide (lv = mv))) := by rw [HLB.out, HLV.out, hmv, hmb]; rfl
      have HMV := Lib.hid hmv; have HMB := Lib.hid hmb; clear hmv hmb
      rw [HINT.out, Bool.true_or] at hsq
      have H67 := Lib.hid h67; have HX7 := Lib.hid hx7; have HBW7 := Lib.hid hbw7; have H7 := Lib.hid h7; have HC7 := Lib.hid hc7; have HSQ := Lib.hid hsq; clear h67 hx7 hbw7 h7 hc7 hsq
      have hln2 : nl lv ≤ 281474976710656 := by rw [HLV.out]; have := HLN.out.1; omega
      have HLN2 := Lib.hid hln2; clear hln2
      go_wp2_with fail
      refine (tnSigned_ A6 c6 lv lb _ H67.out HLN2.out).mono ?_
      rintro e w9 ⟨rfl, b1⟩
      have hx9 := (b1.block _ (lt_of_block HX7.out)).trans HX7.out
      have hbw9 := HBW7.out.trans (b1.mono HBW7.out.size)
      clear b1 H67 HX7 HBW7
      have hl := lt_of_block hx9
      have c0 := cell_of_row _ _ 0 _ _ _ hx9
      have c1 := cell_of_row _ _ 1 _ _ _ hx9
      simp only [List.getElem?_toArray, List.getElem?_cons_zero, List.getElem?_cons_succ] at c0 c1
      have z0 := frozen_of_row _ _ 0 _ _ hx9
      have z1 := frozen_of_row _ _ 1 _ _ hx9
      have hb2 := fun u v => (hbw9.setCell (p := ⟨w.heap.size, 0, none⟩) (Nat.le_refl _) u).setCell (p := ⟨w.heap.size, 1, none⟩) (Nat.le_refl _) v
      have hlo : loQ lv lb = if 4000000000000000000 < lv then 0 else if lb = true then -(lv : Int) else (lv : Int) := rfl
      rw [← hlo]
      have hlr : -4000000000000000000 ≤ loQ lv lb ∧ loQ lv lb ≤ 4000000000000000000 := by
        rw [hlo]
        split
        · omega
        · split <;> omega
      have hhi : hiQ true lv lb = loQ lv lb := rfl
      have hbq : badQ true lv lb = (decide (4000000000000000000 < lv) || decide (4000000000000000000 < hiQ true lv lb)) := rfl
      have hpost : ∀ E W, (E = .returned (.tuple (if badQ true lv lb = true then #[.agg #[.int .i64 0, .int .i64 0], .int .i64 7] else #[.agg #[.int .i64 (loQ lv lb), .int .i64 (hiQ true lv lb)], .int .i64 0]))) → Below w.heap.size w W → BdsPost sc xs M w E W := fun E W h1 h2 => by
        refine ⟨b, HB1.out, HBM.out, HSQ.out, ?_, h2⟩
        rw [HINT.out, ← HLV.out, ← HLB.out]
        exact h1
      clear hlo
      rw [hhi] at hbq hpost
      clear hhi
      obtain ⟨lo, hloe⟩ : ∃ lo, lo = loQ lv lb := ⟨_, rfl⟩
      rw [← hloe] at hlr hbq hpost ⊢
      obtain ⟨g1, g2⟩ := hlr
      by_cases hbig : 4000000000000000000 < lv
      · have f1 : decide (lv ≤ 4000000000000000000) = false := decide_eq_false (by omega)
        rw [f1]
        rw [decide_eq_true hbig, Bool.true_or] at hbq
        have HBIG := Lib.hid hbig; have HBQ := Lib.hid hbq; have HPOST := Lib.hid hpost; have HLOE := Lib.hid hloe; have G1 := Lib.hid g1; have G2 := Lib.hid g2; have HBW9 := Lib.hid hbw9; have HX9 := Lib.hid hx9; have HB2 := Lib.hid hb2; clear hbig hbq hpost hloe g1 g2 hbw9 hx9 hb2
        go_wp2
        try rw [Exit.noGoto_ret]
        refine bodyPost_ret (v := .tuple #[.agg #[.int .i64 0, .int .i64 0], .int .i64 7]) (by simp [results, Try.results20, go_sem, c0, c1]) rfl (HPOST.out _ _ (by rw [HBQ.out]; rfl) (HB2.out _ _))
      · have f1 : decide (lv ≤ 4000000000000000000) = true := decide_eq_true (by omega)
        rw [f1]
        rw [decide_eq_false hbig, Bool.false_or] at hbq
        have f2 : decide (4000000000000000000 < lo) = false := decide_eq_false (by omega)
        rw [f2] at hbq
        have HBIG := Lib.hid hbig; have HBQ := Lib.hid hbq; have HPOST := Lib.hid hpost; have HLOE := Lib.hid hloe; have G1 := Lib.hid g1; have G2 := Lib.hid g2; have HBW9 := Lib.hid hbw9; have HX9 := Lib.hid hx9; have HB2 := Lib.hid hb2; clear hbig hbq hpost hloe g1 g2 hbw9 hx9 hb2
        go_wp2
        try rw [Exit.noGoto_ret]
        refine bodyPost_ret (v := .tuple #[.agg #[.int .i64 lo, .int .i64 lo], .int .i64 0]) (by simp [results, Try.results20, go_sem, c0, c1]) rfl (HPOST.out _ _ (by rw [HBQ.out]; rfl) (HB2.out _ _))
end Go.Proofs.Ytlmhgcllikcedaa
/- Lists of roots of the call's own. -/
namespace Go.Proofs.Ytlmhgcllikcedaa
open Go.RowKit

def rootC (wl : List (Int × Int)) : List Value := wl.flatMap fun x => [.int .i64 x.1, .int .i64 x.2]
theorem rootC_length : ∀ wl, (rootC wl).length = wl.length * 2
  | [] => rfl
  | x :: wl => by
    have ih := rootC_length wl
    unfold rootC at ih ⊢
    simp only [List.flatMap_cons, List.length_append, List.length_cons, List.length_nil, ih]
    omega
theorem rootC_append (xs ys : List (Int × Int)) : rootC (xs ++ ys) = rootC xs ++ rootC ys := by unfold rootC; simp
theorem rootC_one (wl : List (Int × Int)) : ∀ u ∈ rootC wl, u.oneCell' = true := by
  intro u hu
  simp only [rootC, List.mem_flatMap] at hu
  obtain ⟨x, _, hx⟩ := hu
  simp only [List.mem_cons, List.not_mem_nil, or_false] at hx
  rcases hx with rfl | rfl <;> rfl
theorem rootC_get : ∀ (wl : List (Int × Int)) (j : Nat), j < wl.length * 2 → (rootC wl)[j]? = some (cellsR wl j)
  | [], j, h => by simp at h
  | x :: wl, j, h => by
    have e : rootC (x :: wl) = [.int .i64 x.1, .int .i64 x.2] ++ rootC wl := by unfold rootC; simp
    rw [e]
    rcases Nat.lt_or_ge j 2 with h2 | h2
    · rw [List.getElem?_append_left (by simpa using h2)]
      obtain rfl | rfl : j = 0 ∨ j = 1 := by omega
      all_goals simp [cellsR]
    · rw [List.getElem?_append_right (by simpa using h2)]
      have ih := rootC_get wl (j - 2) (by simp at h; omega)
      simp only [List.length_cons, List.length_nil, Nat.zero_add]
      rw [ih]
      unfold cellsR
      rw [show (j - 2) % 2 = j % 2 by omega, show j / 2 = (j - 2) / 2 + 1 by omega]
      simp [List.getD_eq_getElem?_getD]
theorem own_rdR {w : World} {base e n c : Nat} {A : Option Addr} {wl : List (Int × Int)} (h : w.ownsRow base e 2 (.slice A n c) n (rootC wl)) : Rd w A 2 wl.length (cellsR wl) := fun h0 => by
  have hl : n = wl.length := by have := h.1; rw [rootC_length] at this; omega
  obtain ⟨g, cap, hv, _, hlt⟩ := h.form (by omega)
  injection hv with hA
  subst hA
  refine ⟨g, 0, rfl, hlt, fun j hj => ?_⟩
  have := h.cells (g := g) rfl j (cellsR wl j) (rootC_get wl j hj)
  unfold Addr.add at this
  by_cases hj0 : j = 0
  · subst hj0; simpa using this
  · simpa [hj0] using this
theorem RdR.of_own {w : World} {base e n c : Nat} {A : Option Addr} {wl : List (Int × Int)} (h : w.ownsRow base e 2 (.slice A n c) n (rootC wl)) (hl : wl.length ≤ 281474976710656) : RdR w A wl := ⟨hl, own_rdR h⟩
theorem own_slice2 {w : World} {base e n : Nat} {v : Value} {xs : List Value} (h : w.ownsRow base e 2 v n xs) : ∃ A c, v = .slice A n c ∧ n ≤ c := by
  rcases h.2 with ⟨rfl, h0⟩ | ⟨g, cap, cur, rfl, _, _, hn, _⟩
  · exact ⟨none, 0, by rw [h0], by omega⟩
  · exact ⟨_, cap, rfl, hn⟩
theorem info_root_Try : (Try.prog.info? 26).map (fun i => (i.zero, i.size, i.bytes)) = some (some (.agg #[.int .i64 0, .int .i64 0]), 2, 16) := by kernel_rfl
theorem step_appR_Try {ops : Array Oper} {o : Oper} {a : Act} {K : Act → World → Prop} {Q : Exit → Act → World → Prop} {E : Prop} {w : World} (hgd : o.guard = none) (s x : Operand)
    (ho : o.op = .call { callee := .builtin .append, args := #[s, x], argTypes := #[22, 22] })
    (base : Nat) (v : Value) (xs : List (Int × Int)) (hs : a.eval s = v) (hown : w.ownsRow base 26 2 v xs.length (rootC xs)) (b : Nat) (z : Int × Int) (hx : a.eval x = .slice (some ⟨b, 0, none⟩) 1 1)
    (hb : w.heap[b]? = some (.cells #[.int .i64 z.1, .int .i64 z.2] 26 (0, 0))) (hn : xs.length ≤ 1000000) (hbase : base ≤ w.heap.size)
    (h : ∀ g cap w', w'.ownsRow base 26 2 (.slice (some ⟨g, 0, none⟩) (xs.length + 1) cap) (xs ++ [z]).length (rootC (xs ++ [z])) → w.grownBy w' v.ownBlock → (v.ownBlock = some g ∨ g = w.heap.size) → g < w'.heap.size →
      K (a.put o.dst (.slice (some ⟨g, 0, none⟩) (xs.length + 1) cap)) w') :
    if Region.wanted o (yielded ops a.tmps) = true then Oper.wp Try.prog o a w K Q else E := by
  obtain ⟨i0, hi, hz0, hz1, hz2⟩ := info_parts info_root_Try
  refine step_append_lies w hgd s x 22 ho base 26 i0 _ 2 16 Try.underlying22 hi hz0 hz1 hz2 rfl (by omega) v xs.length (rootC xs) hs hown ⟨b, 0, none⟩ 1 1 (rootC [z]) hx rfl
    (World.news_of_block hb) (rootC_one [z]) (by omega) (by unfold maxLen; omega) (by omega) hbase w.heap.size rfl fun g cap w' h2 h3 h4 h5 => h g cap w' ?_ h3 h4 h5
  rw [List.length_append, rootC_append]
  exact h2
theorem wpList_appR_Try {ops : Array Oper} {rest : List Oper} {o : Oper} {a : Act} {Q : Exit → Act → World → Prop} {w : World} (hgd : o.guard = none) (s x : Operand)
    (ho : o.op = .call { callee := .builtin .append, args := #[s, x], argTypes := #[22, 22] })
    (base : Nat) (v : Value) (xs : List (Int × Int)) (hs : a.eval s = v) (hown : w.ownsRow base 26 2 v xs.length (rootC xs)) (b : Nat) (z : Int × Int) (hx : a.eval x = .slice (some ⟨b, 0, none⟩) 1 1)
    (hb : w.heap[b]? = some (.cells #[.int .i64 z.1, .int .i64 z.2] 26 (0, 0))) (hn : xs.length ≤ 1000000) (hbase : base ≤ w.heap.size)
    (h : ∀ g cap w', w'.ownsRow base 26 2 (.slice (some ⟨g, 0, none⟩) (xs.length + 1) cap) (xs ++ [z]).length (rootC (xs ++ [z])) → w.grownBy w' v.ownBlock → (v.ownBlock = some g ∨ g = w.heap.size) → g < w'.heap.size →
      wpList Try.prog ops Q rest (a.put o.dst (.slice (some ⟨g, 0, none⟩) (xs.length + 1) cap)) w') : wpList Try.prog ops Q (o :: rest) a w := by
  obtain ⟨i0, hi, hz0, hz1, hz2⟩ := info_parts info_root_Try
  refine wpList_append_lies w hgd s x 22 ho base 26 i0 _ 2 16 Try.underlying22 hi hz0 hz1 hz2 rfl (by omega) v xs.length (rootC xs) hs hown ⟨b, 0, none⟩ 1 1 (rootC [z]) hx rfl
    (World.news_of_block hb) (rootC_one [z]) (by omega) (by unfold maxLen; omega) (by omega) hbase w.heap.size rfl fun g cap w' h2 h3 h4 h5 => h g cap w' ?_ h3 h4 h5
  rw [List.length_append, rootC_append]
  exact h2
theorem own_keepR {w w' : World} {base e n size : Nat} {v : Value} {xs : List Value} (h : w.ownsRow base e size v n xs) (hb : Below w.heap.size w w') : w'.ownsRow base e size v n xs :=
  h.kept (show w.grownBy w' none from ⟨hb.os, hb.tape, hb.output, hb.size, fun i hi _ => hb.block i hi⟩) (by cases v.ownBlock <;> simp)
theorem own_nilR (w : World) (base e size : Nat) : w.ownsRow base e size (.slice none 0 0) 0 [] := ⟨by simp, .inl ⟨rfl, rfl⟩⟩
theorem RdR.tail {w : World} {b off : Nat} {x : Int × Int} {l : List (Int × Int)} (h : RdR w (some ⟨b, off, none⟩) (x :: l)) : RdR w (some ⟨b, off + 2, none⟩) l := by
  refine ⟨by have := h.1; simp at this; omega, fun h0 => ?_⟩
  obtain ⟨b', off', e, hlt, hc⟩ := h.2 (by simp)
  injection e with e; injection e with e1 e2; subst e1; subst e2
  refine ⟨b, off + 2, rfl, hlt, fun j hj => ?_⟩
  have := hc (j + 2) (by simp; omega)
  rw [show off + 2 + j = off + (j + 2) by omega, this]
  unfold cellsR
  rw [show (j + 2) % 2 = j % 2 by omega, show (j + 2) / 2 = j / 2 + 1 by omega]
  simp [List.getD_eq_getElem?_getD]
end Go.Proofs.Ytlmhgcllikcedaa
/- The bounds' search comes to an end. -/
namespace Go.Proofs.Ytlmhgcllikcedaa
open Go.RowKit

theorem four_pow (q : Nat) : 4 ^ q = 2 ^ q * 2 ^ q := by rw [show (4 : Nat) = 2 * 2 by decide, Nat.mul_pow]
theorem rt_up {q Q D : Nat} (s : Nat) (h : 2 ^ Q = 2 ^ q * D) (hD : 0 < D) : rtN s q * D ≤ rtN s Q ∧ rtN s Q + 1 ≤ (rtN s q + 1) * D := by
  unfold rtN
  have a1 := Nat.sqrt_le (s * 4 ^ q)
  have a2 := Nat.lt_succ_sqrt (s * 4 ^ q)
  have b1 := Nat.sqrt_le (s * 4 ^ Q)
  have b2 := Nat.lt_succ_sqrt (s * 4 ^ Q)
  rw [Nat.succ_eq_add_one] at a2 b2
  have e : s * 4 ^ Q = s * 4 ^ q * (D * D) := by rw [four_pow, four_pow, h]; grind
  rw [e] at b1 b2 ⊢
  generalize s * 4 ^ q = T at *
  generalize Nat.sqrt (T * (D * D)) = R at *
  generalize Nat.sqrt T = r at *
  constructor
  · refine Nat.le_of_lt_succ (Nat.mul_self_lt_mul_self_iff.1 (Nat.lt_of_le_of_lt ?_ b2))
    rw [Nat.mul_mul_mul_comm]
    exact Nat.mul_le_mul_right _ a1
  · refine Nat.mul_self_lt_mul_self_iff.1 (Nat.lt_of_le_of_lt b1 ?_)
    rw [Nat.mul_mul_mul_comm]
    exact Nat.mul_lt_mul_of_pos_right a2 (Nat.mul_pos hD hD)
theorem rt_one (q : Nat) : rtN 1 q = 2 ^ q := by
  unfold rtN
  rw [four_pow, Nat.one_mul]
  have a1 := Nat.sqrt_le (2 ^ q * 2 ^ q)
  have a2 := Nat.lt_succ_sqrt (2 ^ q * 2 ^ q)
  have h1 := Nat.mul_self_le_mul_self_iff.1 a1
  have h2 := Nat.mul_self_lt_mul_self_iff.1 a2
  omega
theorem mo_up {q Q D s : Nat} (hs : 0 < s) (h : 2 ^ Q = 2 ^ q * D) (hD : 0 < D) : moN s Q ≤ moN s q * D := by
  unfold moN
  split
  · exact (rt_up s h hD).2
  · obtain rfl : s = 1 := by omega
    rw [rt_one, rt_one, h]
    exact Nat.le_refl _
theorem mo_lo (s q : Nat) : rtN s q ≤ moN s q ∧ moN s q ≤ rtN s q + 1 ∧ (1 < s → rtN s q + 1 ≤ moN s q) := by
  unfold moN
  split <;> omega
theorem mo_bd {s : Nat} (hs : 0 < s) (q : Nat) : moN s q ≤ (s + 1) * 2 ^ q := by
  have h1 : rtN s q ≤ s * 2 ^ q := by
    unfold rtN
    rw [four_pow]
    refine Nat.mul_self_le_mul_self_iff.1 (Nat.le_trans (Nat.sqrt_le _) ?_)
    rw [Nat.mul_mul_mul_comm]
    exact Nat.mul_le_mul_right _ (Nat.le_mul_of_pos_left _ hs)
  have h2 := (mo_lo s q).2.1
  have := Nat.two_pow_pos q
  rw [Nat.add_mul, Nat.one_mul]
  omega
/-- The radicands are numbers from 1 on. -/
def Ps (xs : List (Int × Int)) : Prop := ∀ x ∈ xs, 0 < x.2
theorem lo_up {q Q D : Nat} (sc j : Nat) (h : 2 ^ Q = 2 ^ q * D) (hD : 0 < D) : ∀ {xs : List (Int × Int)}, Ps xs → loS sc q j xs * D ≤ loS sc Q j xs ∧ hiS sc Q j xs ≤ hiS sc q j xs * D
  | [], _ => by simp [loS, hiS]
  | x :: l, hp => by
    obtain ⟨i1, i2⟩ := lo_up sc j h hD (xs := l) fun y hy => hp y (List.mem_cons_of_mem _ hy)
    have hx := hp x (List.mem_cons_self ..)
    have r1 := Nat.mul_le_mul_left (x.1.natAbs * sc) (rt_up x.2.toNat h hD).1
    have r2 := Nat.mul_le_mul_left (x.1.natAbs * sc) (mo_up (show 0 < x.2.toNat by omega) h hD)
    rw [← Nat.mul_assoc] at r1 r2
    rw [loS, loS, hiS, hiS, Nat.add_mul, Nat.add_mul]
    split
    · omega
    · omega
theorem hi_ge (sc q j : Nat) : ∀ xs : List (Int × Int), loS sc q j xs ≤ hiS sc q j xs
  | [] => Nat.le_refl _
  | x :: l => by
    have ih := hi_ge sc q j l
    have := Nat.mul_le_mul_left (x.1.natAbs * sc) (mo_lo x.2.toNat q).1
    rw [loS, hiS]
    split <;> omega
/-- The sum, with the scale. -/
def toL (sc : Nat) (xs : List (Int × Int)) : List (Int × Nat) := xs.map fun x => (x.1 * (sc : Int), x.2.toNat)
theorem sd_two (x : Int × Int) : (x.1 < 0 ∧ sdR x = 1) ∨ (0 ≤ x.1 ∧ sdR x = 0) := by
  unfold sdR
  split
  · left; exact ⟨by assumption, rfl⟩
  · right; exact ⟨by omega, rfl⟩
theorem hi_bd (sc q : Nat) : ∀ {xs : List (Int × Int)}, Ps xs → hiS sc q 0 xs + hiS sc q 1 xs ≤ bdL (toL sc xs) * 2 ^ q ∧ hiS sc q 0 xs + hiS sc q 1 xs ≤ loS sc q 0 xs + loS sc q 1 xs + bdL (toL sc xs)
  | [], _ => by simp [hiS, loS]
  | x :: l, hp => by
    obtain ⟨i1, i2⟩ := hi_bd sc q (xs := l) fun y hy => hp y (List.mem_cons_of_mem _ hy)
    have hx := hp x (List.mem_cons_self ..)
    have r1 := Nat.mul_le_mul_left (x.1.natAbs * sc) (mo_bd (show 0 < x.2.toNat by omega) q)
    have r2 := Nat.mul_le_mul_left (x.1.natAbs * sc) (mo_lo x.2.toNat q).2.1
    rw [← Nat.mul_assoc] at r1
    rw [Nat.mul_add, Nat.mul_one] at r2
    have e : bdL (toL sc (x :: l)) = x.1.natAbs * sc * (x.2.toNat + 1) + bdL (toL sc l) := by
      show (x.1 * (sc : Int)).natAbs * (x.2.toNat + 1) + bdL (toL sc l) = _
      rw [Int.natAbs_mul, Int.natAbs_natCast]
    have e3 : x.1.natAbs * sc ≤ x.1.natAbs * sc * (x.2.toNat + 1) := Nat.le_mul_of_pos_right _ (by omega)
    rw [e, Nat.add_mul]
    rw [hiS, hiS, loS, loS]
    generalize x.1.natAbs * sc * (x.2.toNat + 1) * 2 ^ q = X1 at *
    generalize x.1.natAbs * sc * moN x.2.toNat q = X2 at *
    generalize x.1.natAbs * sc * rtN x.2.toNat q = X3 at *
    generalize x.1.natAbs * sc * (x.2.toNat + 1) = X4 at *
    rcases sd_two x with ⟨_, h⟩ | ⟨_, h⟩ <;> rw [h] <;> simp <;> omega
theorem hi_gap {sc : Nat} (hsc : 0 < sc) (q : Nat) : ∀ {xs : List (Int × Int)}, (∃ x ∈ xs, 1 < x.2 ∧ x.1 ≠ 0) → loS sc q 0 xs + loS sc q 1 xs + 1 ≤ hiS sc q 0 xs + hiS sc q 1 xs
  | [], ⟨x, h, _⟩ => by simp at h
  | y :: l, ⟨x, hx, h1, h2⟩ => by
    have r1 := Nat.mul_le_mul_left (y.1.natAbs * sc) (mo_lo y.2.toNat q).1
    rcases List.mem_cons.1 hx with rfl | hx
    · have g0 := hi_ge sc q 0 l
      have g1 := hi_ge sc q 1 l
      have r2 := Nat.mul_le_mul_left (x.1.natAbs * sc) ((mo_lo x.2.toNat q).2.2 (by omega))
      rw [Nat.mul_add, Nat.mul_one] at r2
      have : 0 < x.1.natAbs * sc := Nat.mul_pos (by omega) hsc
      rw [hiS, hiS, loS, loS]
      rcases sd_two x with ⟨_, h⟩ | ⟨_, h⟩ <;> rw [h] <;> simp <;> omega
    · have ih := hi_gap hsc q (xs := l) ⟨x, hx, h1, h2⟩
      rw [hiS, hiS, loS, loS]
      rcases sd_two y with ⟨_, h⟩ | ⟨_, h⟩ <;> rw [h] <;> simp <;> omega
theorem two_q (q : Nat) : 2 ^ q - 1 + 1 = 2 ^ q := by have := Nat.two_pow_pos q; omega
theorem rtq_two (s Q : Nat) : rtq s (2 ^ Q - 1) * ((2 ^ Q : Nat) : Rat) = ((rtN s Q : Nat) : Rat) := by
  have h := rtq_t s (2 ^ Q - 1)
  have h1 : (((2 ^ Q - 1 : Nat)) : Rat) + 1 = ((2 ^ Q : Nat) : Rat) := by
    have : ((2 ^ Q - 1 + 1 : Nat) : Rat) = ((2 ^ Q - 1 : Nat) : Rat) + 1 := by exact_mod_cast rfl
    rw [← this, two_q]
  rw [h1, two_q] at h
  rw [h]
  unfold rtN
  rw [four_pow]
/-- The value, at these places, exactly. -/
theorem val_two (sc Q : Nat) : ∀ xs : List (Int × Int), valR (toL sc xs) (2 ^ Q - 1) * ((2 ^ Q : Nat) : Rat) = (((loS sc Q 0 xs : Nat) : Int) : Rat) - (((loS sc Q 1 xs : Nat) : Int) : Rat)
  | [] => by
    show (0 : Rat) * _ = 0 - 0
    rw [Rat.zero_mul]; grind
  | x :: l => by
    have ih := val_two sc Q l
    have hr := rtq_two x.2.toNat Q
    show (((x.1 * (sc : Int) : Int) : Rat) * rtq x.2.toNat (2 ^ Q - 1) + valR (toL sc l) (2 ^ Q - 1)) * _ = _
    have e : (((x.1 * (sc : Int) : Int) : Rat) * rtq x.2.toNat (2 ^ Q - 1) + valR (toL sc l) (2 ^ Q - 1)) * ((2 ^ Q : Nat) : Rat) = ((x.1 * (sc : Int) : Int) : Rat) * (rtq x.2.toNat (2 ^ Q - 1) * ((2 ^ Q : Nat) : Rat)) + valR (toL sc l) (2 ^ Q - 1) * ((2 ^ Q : Nat) : Rat) := by grind
    rw [e, ih, hr, loS, loS]
    have hc : ∀ a b : Nat, (((a + b : Nat) : Int) : Rat) = ((a : Int) : Rat) + ((b : Int) : Rat) := fun a b => by exact_mod_cast rfl
    rw [hc, hc]
    have hn : ((x.1 * (sc : Int) : Int) : Rat) * ((rtN x.2.toNat Q : Nat) : Rat) = ((x.1 * (sc : Int) * ((rtN x.2.toNat Q : Nat) : Int) : Int) : Rat) := by
      exact (Rat.intCast_mul (x.1 * (sc : Int)) _).symm
    rw [hn]
    rcases sd_two x with ⟨h1, h⟩ | ⟨h1, h⟩ <;> rw [h]
    · have e2 : x.1 * (sc : Int) * ((rtN x.2.toNat Q : Nat) : Int) = -((x.1.natAbs * sc * rtN x.2.toNat Q : Nat) : Int) := by
        rw [Int.natCast_mul, Int.natCast_mul, show ((x.1.natAbs : Nat) : Int) = -x.1 by omega]
        grind
      rw [e2, Rat.intCast_neg]
      simp
      grind
    · have e2 : x.1 * (sc : Int) * ((rtN x.2.toNat Q : Nat) : Int) = ((x.1.natAbs * sc * rtN x.2.toNat Q : Nat) : Int) := by
        rw [Int.natCast_mul, Int.natCast_mul, show ((x.1.natAbs : Nat) : Int) = x.1 by omega]
      rw [e2]
      simp
      grind
/-- A sum in its normal form. -/
def Nm (xs : List (Int × Int)) : Prop := normB 0 xs = true ∧ ∀ x ∈ xs, x.1 ≠ 0
theorem norm_all : ∀ (xs : List (Int × Int)) (p : Int), normB p xs = true → ∀ x ∈ xs, SqF x.2.toNat ∧ p < x.2
  | [], _, _, x, h => by simp at h
  | y :: l, p, hn, x, hx => by
    rw [normB, Bool.and_eq_true, Bool.and_eq_true, decide_eq_true_eq] at hn
    rcases List.mem_cons.1 hx with rfl | hx
    · exact ⟨sqfB_iff.1 hn.1.1, hn.1.2⟩
    · obtain ⟨h1, h2⟩ := norm_all l y.2 hn.2 x hx
      exact ⟨h1, by omega⟩
theorem Nm.ps {xs : List (Int × Int)} (h : Nm xs) : Ps xs := fun x hx => (norm_all xs 0 h.1 x hx).2
theorem norm_dif (sc : Nat) : ∀ (xs : List (Int × Int)) (p : Int), 0 ≤ p → normB p xs = true → Dif (toL sc xs)
  | [], _, _, _ => trivial
  | y :: l, p, h0, hn => by
    rw [normB, Bool.and_eq_true, Bool.and_eq_true, decide_eq_true_eq] at hn
    refine ⟨fun z hz => ?_, norm_dif sc l y.2 (by omega) hn.2⟩
    obtain ⟨x, hx, rfl⟩ := List.mem_map.1 hz
    have := (norm_all l y.2 hn.2 x hx).2
    show x.2.toNat ≠ y.2.toNat
    omega
/-- The lower and the upper bound, at so many places. -/
def loI (sc q : Nat) (xs : List (Int × Int)) : Int := (loS sc q 0 xs : Int) - (hiS sc q 1 xs : Int)
def upI (sc q : Nat) (xs : List (Int × Int)) : Int := (hiS sc q 0 xs : Int) - (loS sc q 1 xs : Int)
theorem bd_up {q Q D : Nat} {xs : List (Int × Int)} (sc : Nat) (hp : Ps xs) (h : 2 ^ Q = 2 ^ q * D) (hD : 0 < D) : loI sc q xs * (D : Int) ≤ loI sc Q xs ∧ upI sc Q xs ≤ upI sc q xs * (D : Int) ∧ loI sc Q xs ≤ (loS sc Q 0 xs : Int) - (loS sc Q 1 xs : Int) ∧ (loS sc Q 0 xs : Int) - (loS sc Q 1 xs : Int) ≤ upI sc Q xs := by
  obtain ⟨a1, a2⟩ := lo_up sc 0 h hD hp
  obtain ⟨b1, b2⟩ := lo_up sc 1 h hD hp
  have c1 := hi_ge sc Q 0 xs
  have c2 := hi_ge sc Q 1 xs
  unfold loI upI
  rw [Int.sub_mul, Int.sub_mul]
  have d1 : ((loS sc q 0 xs : Nat) : Int) * (D : Int) ≤ loS sc Q 0 xs := by exact_mod_cast a1
  have d2 : ((hiS sc Q 0 xs : Nat) : Int) ≤ (hiS sc q 0 xs : Int) * (D : Int) := by exact_mod_cast a2
  have d3 : ((loS sc q 1 xs : Nat) : Int) * (D : Int) ≤ loS sc Q 1 xs := by exact_mod_cast b1
  have d4 : ((hiS sc Q 1 xs : Nat) : Int) ≤ (hiS sc q 1 xs : Int) * (D : Int) := by exact_mod_cast b2
  omega
/-- Between the bounds, at many places, lies no whole number. -/
theorem no_mid {sc q : Nat} {xs : List (Int × Int)} (hsc : 0 < sc) (hn : Nm xs) (hx : ∃ x ∈ xs, 1 < x.2) (hq : (2 * bdL (toL sc xs)) ^ 2 ^ xs.length < 2 ^ q) (m : Int) : ¬ (loI sc q xs ≤ m * 2 ^ q ∧ m * 2 ^ q ≤ upI sc q xs) := by
  rintro ⟨h1, h2⟩
  have hp := hn.ps
  obtain ⟨g1, g2⟩ := hi_bd sc q hp
  generalize hS : bdL (toL sc xs) = S at *
  have hq0 := Nat.two_pow_pos q
  have hqi : ((2 : Int) ^ q) = ((2 ^ q : Nat) : Int) := by exact_mod_cast rfl
  rw [hqi] at h1 h2
  -- the number is not too great
  have hm : m.natAbs ≤ S := by
    have k1 : m * ((2 ^ q : Nat) : Int) ≤ ((S * 2 ^ q : Nat) : Int) := by unfold upI at h2; omega
    have k2 : -((S * 2 ^ q : Nat) : Int) ≤ m * ((2 ^ q : Nat) : Int) := by unfold loI at h1; omega
    have k3 : m.natAbs * 2 ^ q ≤ S * 2 ^ q := by
      have : (m * ((2 ^ q : Nat) : Int)).natAbs = m.natAbs * 2 ^ q := by rw [Int.natAbs_mul, Int.natAbs_natCast]
      omega
    exact Nat.le_of_mul_le_mul_right k3 hq0
  have hW : upI sc q xs - loI sc q xs ≤ (S : Int) := by unfold upI loI; omega
  have hW0 : 0 ≤ upI sc q xs - loI sc q xs := by omega
  obtain ⟨x, hx, hx1⟩ := hx
  have hxl : ∃ y ∈ toL sc xs, 1 < y.2 ∧ y.1 ≠ 0 := ⟨_, List.mem_map.2 ⟨x, hx, rfl⟩, by simp only; omega, by
    simp only
    intro h
    rcases Int.mul_eq_zero.1 h with h | h
    · exact hn.2 x hx h
    · omega⟩
  have hqr : ((2 ^ q : Nat) : Rat) ≠ 0 := natR_pos hq0
  have hqp : (0 : Rat) < ((2 ^ q : Nat) : Rat) := by
    have : ((0 : Nat) : Rat) < ((2 ^ q : Nat) : Rat) := by exact_mod_cast hq0
    exact this
  have hd : (S : Rat) / ((2 ^ q : Nat) : Rat) * ((2 ^ q : Nat) : Rat) = (S : Rat) := by rw [Rat.div_mul_cancel]; exact hqr
  have hS0 := nat_nn S
  generalize hdd : (S : Rat) / ((2 ^ q : Nat) : Rat) = d at *
  have hd0 : 0 ≤ d := by
    rcases (by grind : 0 ≤ d ∨ 0 < -d) with h | h
    · exact h
    · have := Rat.mul_pos h hqp
      grind
  have key := roots_far (m := -m) (l := toL sc xs) (fun y hy => by
    obtain ⟨z, hz, rfl⟩ := List.mem_map.1 hy
    exact (norm_all xs 0 hn.1 z hz).1) (norm_dif sc xs 0 (Int.le_refl _) hn.1) hxl hd0 fun N => by
    obtain ⟨Q, D, hQ, hD, hN⟩ : ∃ Q D : Nat, 2 ^ Q = 2 ^ q * D ∧ 0 < D ∧ N ≤ 2 ^ Q - 1 := by
      refine ⟨q + N, 2 ^ N, Nat.pow_add .., Nat.two_pow_pos _, ?_⟩
      have a1 : N < 2 ^ N := Nat.lt_two_pow_self
      have a2 : 2 ^ N ≤ 2 ^ (q + N) := Nat.pow_le_pow_right (by decide) (by omega)
      omega
    refine ⟨2 ^ Q - 1, hN, ?_⟩
    obtain ⟨u1, u2, u3, u4⟩ := bd_up sc hp hQ hD
    have hv := val_two sc Q xs
    have hX : (((loS sc Q 0 xs : Nat) : Int) : Rat) - (((loS sc Q 1 xs : Nat) : Int) : Rat) = (((loS sc Q 0 xs : Int) - (loS sc Q 1 xs : Int) : Int) : Rat) := by rw [Rat.intCast_sub]
    rw [hX] at hv
    generalize (loS sc Q 0 xs : Int) - (loS sc Q 1 xs : Int) = X at *
    have w1 := Int.mul_le_mul_of_nonneg_right h1 (show (0 : Int) ≤ (D : Int) by omega)
    have w2 := Int.mul_le_mul_of_nonneg_right h2 (show (0 : Int) ≤ (D : Int) by omega)
    have w3 := Int.mul_le_mul_of_nonneg_right hW (show (0 : Int) ≤ (D : Int) by omega)
    rw [Int.sub_mul] at w3
    have y1 : X - m * ((2 ^ q : Nat) : Int) * (D : Int) ≤ (S : Int) * (D : Int) := by omega
    have y2 : -((S : Int) * (D : Int)) ≤ X - m * ((2 ^ q : Nat) : Int) * (D : Int) := by omega
    have z1 : ((X - m * ((2 ^ q : Nat) : Int) * (D : Int) : Int) : Rat) ≤ (((S : Int) * (D : Int) : Int) : Rat) := Rat.intCast_le_intCast.2 y1
    have z2 : ((-((S : Int) * (D : Int)) : Int) : Rat) ≤ ((X - m * ((2 ^ q : Nat) : Int) * (D : Int) : Int) : Rat) := Rat.intCast_le_intCast.2 y2
    rw [Rat.intCast_sub, Rat.intCast_mul, Rat.intCast_mul, Rat.intCast_mul] at z1
    rw [Rat.intCast_sub, Rat.intCast_mul, Rat.intCast_mul, Rat.intCast_neg, Rat.intCast_mul] at z2
    have c1 : (((2 ^ q : Nat) : Int) : Rat) = ((2 ^ q : Nat) : Rat) := rfl
    have c2 : ((D : Int) : Rat) = (D : Rat) := rfl
    have c3 : ((S : Int) : Rat) = (S : Rat) := rfl
    rw [c1, c2, c3] at z1 z2
    have hQr : ((2 ^ Q : Nat) : Rat) = ((2 ^ q : Nat) : Rat) * (D : Rat) := by rw [hQ]; exact_mod_cast rfl
    rw [hQr] at hv
    have hDp : (0 : Rat) < (D : Rat) := by
      have : ((0 : Nat) : Rat) < (D : Rat) := by exact_mod_cast hD
      exact this
    have hPp := Rat.mul_pos hqp hDp
    rw [Rat.intCast_neg]
    rw [← hv, ← hd] at z1 z2
    clear u1 u2 u3 u4 w1 w2 w3 y1 y2 hX hdd hv hQr g1 g2
    generalize valR (toL sc xs) (2 ^ Q - 1) = v at *
    generalize ((2 ^ q : Nat) : Rat) = P at *
    generalize (D : Rat) = D' at *
    generalize (m : Rat) = m' at *
    have hle : ∀ z : Rat, z * (P * D') ≤ 0 → z ≤ 0 := fun z hz => by
      rcases (by grind : z ≤ 0 ∨ 0 < z) with h | h
      · exact h
      · have := Rat.mul_pos h hPp
        grind
    have j1 := hle (v - m' - d) (by grind)
    have j2 := hle (-(v - m') - d) (by grind)
    constructor <;> grind
  have hlen : (toL sc xs).length = xs.length := List.length_map ..
  rw [hlen, hS] at key
  have hle : ((-m).natAbs + S) ^ eX xs.length ≤ (2 * S) ^ eX xs.length := Nat.pow_le_pow_left (by rw [Int.natAbs_neg]; omega) _
  have hfin : 2 ^ q ≤ (2 * S) ^ 2 ^ xs.length := by
    have h3 : (((-m).natAbs + S) ^ eX xs.length : Nat) ≤ (2 * S) ^ eX xs.length := hle
    have h4 : ((((-m).natAbs + S) ^ eX xs.length : Nat) : Rat) ≤ (((2 * S) ^ eX xs.length : Nat) : Rat) := by exact_mod_cast h3
    have h5 : ((2 ^ q : Nat) : Rat) ≤ 2 * ((S : Rat) * (((2 * S) ^ eX xs.length : Nat) : Rat)) := by
      generalize ((((-m).natAbs + S) ^ eX xs.length : Nat) : Rat) = E at *
      generalize (((2 * S) ^ eX xs.length : Nat) : Rat) = E2 at *
      generalize ((2 ^ q : Nat) : Rat) = P at *
      have := Rat.mul_nonneg (show (0 : Rat) ≤ 2 * (d * E) - 1 by grind) (show (0 : Rat) ≤ P by grind)
      have := Rat.mul_nonneg (show (0 : Rat) ≤ E2 - E by grind) hS0
      rw [← hd]
      rw [← hd] at this
      grind
    have h6 : 2 * ((S : Rat) * (((2 * S) ^ eX xs.length : Nat) : Rat)) = ((2 * S * (2 * S) ^ eX xs.length : Nat) : Rat) := by
      have : ((2 * S * (2 * S) ^ eX xs.length : Nat) : Rat) = ((2 : Nat) : Rat) * (S : Rat) * (((2 * S) ^ eX xs.length : Nat) : Rat) := by exact_mod_cast rfl
      rw [this, show ((2 : Nat) : Rat) = 2 from rfl, Rat.mul_assoc]
    rw [h6] at h5
    have h7 : 2 ^ q ≤ 2 * S * (2 * S) ^ eX xs.length := by exact_mod_cast h5
    rw [← eX_pow xs.length, Nat.pow_succ, Nat.mul_comm]
    exact h7
  omega
end Go.Proofs.Ytlmhgcllikcedaa
/- The search of Bounds: where it stops, and that it does; what it finds does not depend on the places. -/
namespace Go.Proofs.Ytlmhgcllikcedaa
open Go.RowKit

/-- Rounded down, with its sign. -/
def flI (x : Int) (q : Nat) : Int := x / ((2 ^ q : Nat) : Int)
theorem flI_iff (x F : Int) (q : Nat) : flI x q = F ↔ F * ((2 ^ q : Nat) : Int) ≤ x ∧ x < (F + 1) * ((2 ^ q : Nat) : Int) := by
  have hq := Nat.two_pow_pos q
  unfold flI
  constructor
  · rintro rfl
    have h1 := Int.ediv_mul_le x (show ((2 ^ q : Nat) : Int) ≠ 0 by omega)
    have h2 := Int.lt_ediv_add_one_mul_self x (show (0 : Int) < ((2 ^ q : Nat) : Int) by omega)
    exact ⟨h1, h2⟩
  · rintro ⟨h1, h2⟩
    have k1 := (Int.le_ediv_iff_mul_le (show (0 : Int) < ((2 ^ q : Nat) : Int) by omega)).2 h1
    have k2 := (Int.ediv_lt_iff_lt_mul (show (0 : Int) < ((2 ^ q : Nat) : Int) by omega)).2 h2
    omega
theorem fl_is (p n b : Nat) : (if flB p n = true then -(flV p n b : Int) else (flV p n b : Int)) = flI ((p : Int) - n) b ∧ (flB p n = true ↔ flI ((p : Int) - n) b < 0) := by
  have hq := Nat.two_pow_pos b
  unfold flB flV
  by_cases h : p < n
  · rw [if_pos (decide_eq_true h), if_neg (by omega), decide_eq_true h]
    have e : flI ((p : Int) - n) b = -(((n - p + 2 ^ b - 1) / 2 ^ b : Nat) : Int) := by
      rw [flI_iff]
      generalize hv : (n - p + 2 ^ b - 1) / 2 ^ b = v
      have h1 := Nat.div_add_mod (n - p + 2 ^ b - 1) (2 ^ b)
      have h2 := Nat.mod_lt (n - p + 2 ^ b - 1) hq
      rw [hv] at h1
      generalize (n - p + 2 ^ b - 1) % 2 ^ b = r at *
      have e2 : (-(v : Int)) * ((2 ^ b : Nat) : Int) = -((2 ^ b * v : Nat) : Int) := by rw [Int.natCast_mul]; grind
      have e3 : (-(v : Int) + 1) * ((2 ^ b : Nat) : Int) = -((2 ^ b * v : Nat) : Int) + ((2 ^ b : Nat) : Int) := by rw [Int.natCast_mul]; grind
      rw [e2, e3]
      generalize 2 ^ b * v = X at *
      generalize 2 ^ b = Y at *
      omega
    rw [e]
    refine ⟨rfl, (fun _ => ?_), (fun _ => rfl)⟩
    have : 1 ≤ (n - p + 2 ^ b - 1) / 2 ^ b := by
      rw [Nat.le_div_iff_mul_le hq]; omega
    omega
  · rw [if_neg (by simpa using h), if_pos (by omega), decide_eq_false h]
    have e : flI ((p : Int) - n) b = (((p - n) / 2 ^ b : Nat) : Int) := by
      unfold flI
      rw [Int.natCast_ediv, Int.natCast_sub (by omega)]
    rw [e]
    clear e
    generalize (p - n) / 2 ^ b = v
    refine ⟨rfl, (fun h => by cases h), (fun h => by omega)⟩
theorem fl_same (p n p' n' b : Nat) : (flB p n == flB p' n' && decide (flV p n b = flV p' n' b)) = decide (flI ((p : Int) - n) b = flI ((p' : Int) - n') b) := by
  obtain ⟨h1, h2⟩ := fl_is p n b
  obtain ⟨h3, h4⟩ := fl_is p' n' b
  rw [Bool.eq_iff_iff, decide_eq_true_eq, Bool.and_eq_true, beq_iff_eq, decide_eq_true_eq]
  constructor
  · rintro ⟨e1, e2⟩
    rw [← h1, ← h3, e1, e2]
  · intro e
    have e1 : flB p n = flB p' n' := by rw [Bool.eq_iff_iff, h2, h4, e]
    refine ⟨e1, ?_⟩
    rw [← h1, ← h3, e1] at e
    split at e <;> omega
theorem gF_o {sc q : Nat} {xs : List (Int × Int)} (hi : intB xs = false) : gF sc q xs 0 = loS sc q 0 xs ∧ gF sc q xs 1 = loS sc q 1 xs + 1 ∧ gF sc q xs 2 = hiS sc q 0 xs ∧ gF sc q xs 3 = hiS sc q 1 xs := by
  unfold gF vF
  rw [hi]
  refine ⟨rfl, rfl, rfl, rfl⟩
theorem gF_i {sc q : Nat} {xs : List (Int × Int)} : gF sc q xs 0 = loS sc q 0 xs ∧ gF sc q xs 3 = hiS sc q 1 xs := ⟨rfl, rfl⟩
/-- The lower bound. -/
theorem ls_is (sc q : Nat) (xs : List (Int × Int)) : (if lsB sc xs q = true then -(lsV sc xs q : Int) else (lsV sc xs q : Int)) = flI (loI sc q xs) q ∧ (lsB sc xs q = true ↔ flI (loI sc q xs) q < 0) := by
  have := fl_is (gF sc q xs 0) (gF sc q xs 3) q
  rw [gF_i.1, gF_i.2] at this
  exact this
theorem stop_iff {sc q : Nat} {xs : List (Int × Int)} (hi : intB xs = false) : stopQ sc xs q = true ↔ flI (loI sc q xs) q = flI (upI sc q xs - 1) q := by
  unfold stopQ
  rw [hi, Bool.false_or]
  unfold lsB mrB lsV mrV
  rw [fl_same, decide_eq_true_eq]
  obtain ⟨g0, g1, g2, g3⟩ := gF_o (sc := sc) (q := q) hi
  rw [g0, g1, g2, g3]
  unfold loI upI
  rw [show ((hiS sc q 0 xs : Nat) : Int) - ((loS sc q 1 xs + 1 : Nat) : Int) = (hiS sc q 0 xs : Int) - (loS sc q 1 xs : Int) - 1 by omega]
theorem int_all {xs : List (Int × Int)} : intB xs = true ↔ ∀ x ∈ xs, x.2 ≤ 1 := by
  unfold intB
  rw [Bool.not_eq_true', List.any_eq_false]
  constructor
  · intro h x hx
    have := h x hx
    simp at this
    exact this
  · intro h x hx
    have := h x hx
    simp
    exact this
theorem int_no {xs : List (Int × Int)} (h : intB xs = false) : ∃ x ∈ xs, 1 < x.2 := by
  unfold intB at h
  rw [Bool.not_eq_false'] at h
  obtain ⟨x, hx, h1⟩ := List.any_eq_true.1 h
  exact ⟨x, hx, by simpa using h1⟩
/-- Of whole numbers alone. -/
def wlV (sc : Nat) : List (Int × Int) → Int
  | [] => 0
  | x :: l => x.1 * (sc : Int) + wlV sc l
theorem int_val (sc : Nat) : ∀ {xs : List (Int × Int)}, Ps xs → (∀ x ∈ xs, x.2 ≤ 1) → ∀ q, loI sc q xs = wlV sc xs * ((2 ^ q : Nat) : Int) ∧ upI sc q xs = wlV sc xs * ((2 ^ q : Nat) : Int)
  | [], _, _, q => by simp [loI, upI, loS, hiS, wlV]
  | x :: l, hp, h, q => by
    obtain ⟨i1, i2⟩ := int_val sc (xs := l) (fun y hy => hp y (List.mem_cons_of_mem _ hy)) (fun y hy => h y (List.mem_cons_of_mem _ hy)) q
    have h1 := hp x (List.mem_cons_self ..)
    have h2 := h x (List.mem_cons_self ..)
    have e : x.2.toNat = 1 := by omega
    have em : moN 1 q = 2 ^ q := by unfold moN; rw [if_neg (by decide), rt_one]
    unfold loI upI at *
    rw [loS, loS, hiS, hiS, wlV, e, em, rt_one, Int.add_mul, ← i1]
    rw [← i1] at i2
    rcases sd_two x with ⟨hx, hs⟩ | ⟨hx, hs⟩ <;> rw [hs]
    · have e2 : x.1 * (sc : Int) * ((2 ^ q : Nat) : Int) = -((x.1.natAbs * sc * 2 ^ q : Nat) : Int) := by
        rw [Int.natCast_mul, Int.natCast_mul, show ((x.1.natAbs : Nat) : Int) = -x.1 by omega]
        grind
      rw [e2]
      generalize x.1.natAbs * sc * 2 ^ q = Z at *
      simp
      omega
    · have e2 : x.1 * (sc : Int) * ((2 ^ q : Nat) : Int) = ((x.1.natAbs * sc * 2 ^ q : Nat) : Int) := by
        rw [Int.natCast_mul, Int.natCast_mul, show ((x.1.natAbs : Nat) : Int) = x.1 by omega]
      rw [e2]
      generalize x.1.natAbs * sc * 2 ^ q = Z at *
      simp
      omega
theorem flI_mul (V : Int) (q : Nat) : flI (V * ((2 ^ q : Nat) : Int)) q = V := by
  have hq := Nat.two_pow_pos q
  rw [flI_iff]
  refine ⟨Int.le_refl _, ?_⟩
  rw [Int.add_mul]
  omega
theorem up_gap {sc : Nat} (hsc : 0 < sc) {xs : List (Int × Int)} (hn : Nm xs) (hi : intB xs = false) (q : Nat) : loI sc q xs + 1 ≤ upI sc q xs := by
  obtain ⟨x, hx, h1⟩ := int_no hi
  have := hi_gap hsc q ⟨x, hx, h1, hn.2 x hx⟩
  unfold loI upI
  omega
/-- What the search has found stays so. -/
theorem stop_mono {sc q Q : Nat} (hsc : 0 < sc) {xs : List (Int × Int)} (hn : Nm xs) (h : stopQ sc xs q = true) (hq : q ≤ Q) : stopQ sc xs Q = true ∧ flI (loI sc Q xs) Q = flI (loI sc q xs) q := by
  by_cases hi : intB xs = true
  · refine ⟨by unfold stopQ; rw [hi]; rfl, ?_⟩
    have hv := fun q => (int_val sc hn.ps (int_all.1 hi) q).1
    rw [hv, hv, flI_mul, flI_mul]
  · have hi : intB xs = false := by simpa using hi
    rw [stop_iff hi] at h ⊢
    have h1 := (flI_iff (loI sc q xs) _ q).1 rfl
    have h2 := (flI_iff (upI sc q xs - 1) _ q).1 h.symm
    have hQ : 2 ^ Q = 2 ^ q * 2 ^ (Q - q) := by rw [← Nat.pow_add]; congr 1; omega
    have hD := Nat.two_pow_pos (Q - q)
    obtain ⟨u1, u2, u3, u4⟩ := bd_up sc hn.ps hQ hD
    have hg := up_gap hsc hn hi Q
    generalize flI (loI sc q xs) q = F at *
    generalize 2 ^ (Q - q) = D at *
    have hQi : ((2 ^ Q : Nat) : Int) = ((2 ^ q : Nat) : Int) * (D : Int) := by rw [hQ, Int.natCast_mul]
    have w1 := Int.mul_le_mul_of_nonneg_right h1.1 (show (0 : Int) ≤ (D : Int) by omega)
    have w2 := Int.mul_le_mul_of_nonneg_right (show upI sc q xs ≤ (F + 1) * ((2 ^ q : Nat) : Int) by omega) (show (0 : Int) ≤ (D : Int) by omega)
    rw [Int.mul_assoc, ← hQi] at w1 w2
    have e1 : flI (loI sc Q xs) Q = F := (flI_iff _ _ _).2 ⟨by omega, by omega⟩
    have e2 : flI (upI sc Q xs - 1) Q = F := (flI_iff _ _ _).2 ⟨by omega, by omega⟩
    exact ⟨by rw [e1, e2], e1⟩
/-- With many places it stops. -/
theorem stop_big {sc q : Nat} (hsc : 0 < sc) {xs : List (Int × Int)} (hn : Nm xs) (hq : (2 * bdL (toL sc xs)) ^ 2 ^ xs.length < 2 ^ q) : stopQ sc xs q = true := by
  by_cases hi : intB xs = true
  · unfold stopQ; rw [hi]; rfl
  · have hi : intB xs = false := by simpa using hi
    rw [stop_iff hi]
    have hg := up_gap hsc hn hi q
    have hno := no_mid hsc hn (int_no hi) hq
    have hq0 := Nat.two_pow_pos q
    obtain ⟨a1, a2⟩ := (flI_iff (loI sc q xs) _ q).1 rfl
    obtain ⟨b1, b2⟩ := (flI_iff (upI sc q xs - 1) _ q).1 rfl
    generalize flI (loI sc q xs) q = F at *
    generalize flI (upI sc q xs - 1) q = G at *
    rcases Int.lt_trichotomy F G with h | h | h
    · exfalso
      refine hno G ⟨?_, ?_⟩
      · have := Int.mul_le_mul_of_nonneg_right (show F + 1 ≤ G by omega) (show (0 : Int) ≤ ((2 ^ q : Nat) : Int) by omega)
        have e : ((2 : Int) ^ q) = ((2 ^ q : Nat) : Int) := by exact_mod_cast rfl
        rw [e]
        omega
      · have e : ((2 : Int) ^ q) = ((2 ^ q : Nat) : Int) := by exact_mod_cast rfl
        rw [e]
        omega
    · exact h
    · exfalso
      have := Int.mul_le_mul_of_nonneg_right (show G + 1 ≤ F by omega) (show (0 : Int) ≤ ((2 ^ q : Nat) : Int) by omega)
      omega
/-- The sums of this program are not too great. -/
theorem bd_small {sc : Nat} (hs : sc ≤ 1000000000) {X : Nat} (hX : X ≤ 1000000000000) : ∀ {xs : List (Int × Int)}, (∀ x ∈ xs, x.1.natAbs ≤ X ∧ x.2.toNat ≤ 1000000000000) → bdL (toL sc xs) ≤ xs.length * (X * 1000000000 * 1000000000001)
  | [], _ => by simp [toL, bdL]
  | x :: l, h => by
    have ih := bd_small hs hX (xs := l) fun y hy => h y (List.mem_cons_of_mem _ hy)
    obtain ⟨h1, h2⟩ := h x (List.mem_cons_self ..)
    show (x.1 * (sc : Int)).natAbs * (x.2.toNat + 1) + bdL (toL sc l) ≤ _
    rw [Int.natAbs_mul, Int.natAbs_natCast, List.length_cons, Nat.add_mul, Nat.one_mul]
    have := Nat.mul_le_mul (Nat.mul_le_mul h1 hs) (show x.2.toNat + 1 ≤ 1000000000001 by omega)
    omega
theorem halts_of {sc : Nat} (hsc : 0 < sc) (hs : sc ≤ 1000000000) {xs : List (Int × Int)} (hn : Nm xs) (hl : xs.length ≤ 38) (hb : ∀ x ∈ xs, x.1.natAbs ≤ 1000000000000 ∧ x.2.toNat ≤ 1000000000000) : ∀ Q, 32 * 2 ^ (xs.length + 2) ≤ Q → stopQ sc xs Q = true := by
  intro Q hQ
  refine (stop_mono hsc hn (stop_big (q := 128 * 2 ^ xs.length) hsc hn ?_) (Q := Q) ?_).1
  · have h1 := bd_small (sc := sc) hs (Nat.le_refl _) hb
    have h2 : 2 * bdL (toL sc xs) < 2 ^ 128 := by
      have h3 : xs.length * (1000000000000 * 1000000000 * 1000000000001) ≤ 38 * (1000000000000 * 1000000000 * 1000000000001) := Nat.mul_le_mul_right _ hl
      omega
    rw [Nat.pow_mul]
    exact Nat.pow_lt_pow_left h2 (by have := Nat.two_pow_pos xs.length; omega)
  · rw [Nat.pow_add] at hQ
    omega
end Go.Proofs.Ytlmhgcllikcedaa
/- The sign of a sum of roots: plain. -/
namespace Go.Proofs.Ytlmhgcllikcedaa
open Go.RowKit

open Classical in
/-- The sign of a sum's value. -/
noncomputable def sgV (xs : List (Int × Int)) : Int := if xs = [] then 0 else if ∃ q, 0 ≤ loI 1 q xs then 1 else -1
theorem sgV_nil : sgV [] = 0 := by unfold sgV; rw [if_pos rfl]
theorem sgV_pos {xs : List (Int × Int)} (h0 : xs ≠ []) {q : Nat} (h : 0 ≤ loI 1 q xs) : sgV xs = 1 := by
  unfold sgV
  rw [if_neg h0, if_pos ⟨q, h⟩]
theorem wl_one : ∀ {xs : List (Int × Int)} {p : Int}, 0 ≤ p → normB p xs = true → (∀ x ∈ xs, x.2 ≤ 1) → xs = [] ∨ ∃ k, xs = [(k, 1)]
  | [], _, _, _, _ => .inl rfl
  | [x], p, h0, hn, h => by
    rw [normB, Bool.and_eq_true, Bool.and_eq_true, decide_eq_true_eq] at hn
    have := h x (List.mem_cons_self ..)
    exact .inr ⟨x.1, by rw [show x = (x.1, x.2) from rfl, show x.2 = 1 by omega]⟩
  | x :: y :: l, p, h0, hn, h => by
    rw [normB, Bool.and_eq_true, Bool.and_eq_true, decide_eq_true_eq, normB, Bool.and_eq_true, Bool.and_eq_true, decide_eq_true_eq] at hn
    have h2 := h y (List.mem_cons_of_mem _ (List.mem_cons_self ..))
    omega
theorem two_mul_ex (q Q : Nat) (h : q ≤ Q) : ∃ D, 2 ^ Q = 2 ^ q * D ∧ 0 < D := ⟨2 ^ (Q - q), by rw [← Nat.pow_add]; congr 1; omega, Nat.two_pow_pos _⟩
/-- No value is on both sides. -/
theorem no_both {sc : Nat} (hsc : 0 < sc) {xs : List (Int × Int)} (hn : Nm xs) (h0 : xs ≠ []) {q q' : Nat} (h : 0 ≤ loI sc q xs) (h' : upI sc q' xs ≤ 0) : False := by
  obtain ⟨D, e1, hD⟩ := two_mul_ex q (q + q') (by omega)
  obtain ⟨D', e2, hD'⟩ := two_mul_ex q' (q + q') (by omega)
  obtain ⟨u1, u2, u3, u4⟩ := bd_up sc hn.ps e1 hD
  obtain ⟨v1, v2, v3, v4⟩ := bd_up sc hn.ps e2 hD'
  have w1 := Int.mul_nonneg h (show (0 : Int) ≤ (D : Int) by omega)
  have w2 := Int.mul_le_mul_of_nonneg_right h' (show (0 : Int) ≤ (D' : Int) by omega)
  rw [Int.zero_mul] at w2
  by_cases hi : intB xs = true
  · obtain ⟨k1, k2⟩ := int_val sc hn.ps (int_all.1 hi) (q + q')
    rcases wl_one (Int.le_refl 0) hn.1 (int_all.1 hi) with h | ⟨k, h⟩
    · exact h0 h
    · have hk := hn.2 (k, 1) (by rw [h]; simp)
      have hv : wlV sc xs = k * (sc : Int) := by rw [h]; simp [wlV]
      rw [hv] at k1
      have hz : k * (sc : Int) * ((2 ^ (q + q') : Nat) : Int) = 0 := by omega
      have := Nat.two_pow_pos (q + q')
      rcases Int.mul_eq_zero.1 hz with h | h
      · rcases Int.mul_eq_zero.1 h with h | h
        · exact hk h
        · omega
      · omega
  · have hi : intB xs = false := by simpa using hi
    have := up_gap hsc hn hi (q + q')
    omega
theorem sgV_neg {xs : List (Int × Int)} (hn : Nm xs) (h0 : xs ≠ []) {q : Nat} (h : upI 1 q xs ≤ 0) : sgV xs = -1 := by
  unfold sgV
  rw [if_neg h0, if_neg]
  rintro ⟨q', h'⟩
  exact no_both (by decide) hn h0 h' h
/-- The comparison is decided. -/
def cmpQ (xs : List (Int × Int)) (q : Nat) : Prop := 0 ≤ loI 1 q xs ∨ upI 1 q xs ≤ 0
theorem cmp_mono {xs : List (Int × Int)} (hn : Nm xs) {q Q : Nat} (h : cmpQ xs q) (hq : q ≤ Q) : cmpQ xs Q := by
  obtain ⟨D, e1, hD⟩ := two_mul_ex q Q hq
  obtain ⟨u1, u2, _, _⟩ := bd_up 1 hn.ps e1 hD
  rcases h with h | h
  · have := Int.mul_nonneg h (show (0 : Int) ≤ (D : Int) by omega)
    exact .inl (by omega)
  · have := Int.mul_le_mul_of_nonneg_right h (show (0 : Int) ≤ (D : Int) by omega)
    exact .inr (by omega)
theorem cmp_big {q : Nat} {xs : List (Int × Int)} (hn : Nm xs) (hq : (2 * bdL (toL 1 xs)) ^ 2 ^ xs.length < 2 ^ q) : cmpQ xs q := by
  unfold cmpQ
  by_cases hi : intB xs = true
  · obtain ⟨k1, k2⟩ := int_val 1 hn.ps (int_all.1 hi) q
    omega
  · have hi : intB xs = false := by simpa using hi
    have := no_mid (by decide) hn (int_no hi) hq 0
    rw [Int.zero_mul] at this
    omega
theorem cmp_halts {xs : List (Int × Int)} (hn : Nm xs) (hl : xs.length ≤ 38) (hb : ∀ x ∈ xs, x.1.natAbs ≤ 1000000000000 ∧ x.2.toNat ≤ 1000000000000) : ∀ Q, 32 * 2 ^ (xs.length + 2) ≤ Q → cmpQ xs Q := by
  intro Q hQ
  refine cmp_mono hn (cmp_big (q := 128 * 2 ^ xs.length) hn ?_) (Q := Q) ?_
  · have h1 := bd_small (sc := 1) (by decide) (Nat.le_refl _) hb
    have h2 : 2 * bdL (toL 1 xs) < 2 ^ 128 := by
      have h3 : xs.length * (1000000000000 * 1000000000 * 1000000000001) ≤ 38 * (1000000000000 * 1000000000 * 1000000000001) := Nat.mul_le_mul_right _ hl
      omega
    rw [Nat.pow_mul]
    exact Nat.pow_lt_pow_left h2 (by have := Nat.two_pow_pos xs.length; omega)
  · rw [Nat.pow_add] at hQ
    omega
theorem vF_lo (q : Nat) (xs : List (Int × Int)) : (vF 1 q xs 3 ≤ vF 1 q xs 0 ↔ 0 ≤ loI 1 q xs) ∧ (vF 1 q xs 2 ≤ vF 1 q xs 1 ↔ upI 1 q xs ≤ 0) := by
  have e0 : vF 1 q xs 0 = loS 1 q 0 xs := rfl
  have e1 : vF 1 q xs 1 = loS 1 q 1 xs := rfl
  have e2 : vF 1 q xs 2 = hiS 1 q 0 xs := rfl
  have e3 : vF 1 q xs 3 = hiS 1 q 1 xs := rfl
  unfold loI upI
  omega
end Go.Proofs.Ytlmhgcllikcedaa
/- Sums of roots added: merge. -/
namespace Go.Proofs.Ytlmhgcllikcedaa
open Go.RowKit

/-- A sum, and by times another one. -/
def mg (bz : Int) : List (Int × Int) → List (Int × Int) → List (Int × Int)
  | [], ys => ys.map fun y => (bz * y.1, y.2)
  | x :: xs, [] => x :: xs
  | x :: xs, y :: ys => if x.2 < y.2 then x :: mg bz xs (y :: ys) else if y.2 < x.2 then (bz * y.1, y.2) :: mg bz (x :: xs) ys else if x.1 + bz * y.1 = 0 then mg bz xs ys else (x.1 + bz * y.1, x.2) :: mg bz xs ys
termination_by xs ys => xs.length + ys.length
theorem mg_nil (bz : Int) (ys : List (Int × Int)) : mg bz [] ys = ys.map fun y => (bz * y.1, y.2) := by rw [mg]
theorem mg_nil2 (bz : Int) : ∀ xs : List (Int × Int), mg bz xs [] = xs
  | [] => by rw [mg]; rfl
  | x :: xs => by rw [mg]
theorem mg_cons (bz : Int) (x y : Int × Int) (xs ys : List (Int × Int)) : mg bz (x :: xs) (y :: ys) = if x.2 < y.2 then x :: mg bz xs (y :: ys) else if y.2 < x.2 then (bz * y.1, y.2) :: mg bz (x :: xs) ys else if x.1 + bz * y.1 = 0 then mg bz xs ys else (x.1 + bz * y.1, x.2) :: mg bz xs ys := by rw [mg]
/-- Factors that can be added. -/
def Med (xs : List (Int × Int)) : Prop := ∀ x ∈ xs, -1000000000000000000 ≤ x.1 ∧ x.1 ≤ 1000000000000000000
theorem Med.tail {x : Int × Int} {xs : List (Int × Int)} (h : Med (x :: xs)) : Med xs := fun y hy => h y (List.mem_cons_of_mem _ hy)
def MgPost (l : List (Int × Int)) (w : World) (e : Ending) (w' : World) : Prop := ∃ A c, e = .returned (.slice A l.length c) ∧ RdR w' A l ∧ l.length ≤ c ∧ Below w.heap.size w w'
theorem RdR.head {w : World} {A : Option Addr} {x : Int × Int} {l : List (Int × Int)} (h : RdR w A (x :: l)) : ∃ b off, A = some ⟨b, off, none⟩ ∧ b < w.heap.size ∧ w.cell? ⟨b, off, none⟩ = some (.int .i64 x.1) ∧ w.cell? ⟨b, off + 1, none⟩ = some (.int .i64 x.2) := by
  obtain ⟨b, off, e, hl, h1, h2⟩ := h.at_ (k := 0) (by simp)
  simp only [Nat.zero_mul, Nat.add_zero, List.getElem_cons_zero] at h1 h2
  exact ⟨b, off, e, hl, h1, h2⟩
/-- How far merge has come. -/
structure MgI (w : World) (bz : Int) (goal : List (Int × Int)) (A B : Option Addr) (c d : Nat) (xs ys o : List (Int × Int)) (v : Value) (wr : World) : Prop where
  ra : RdR w A xs
  rb : RdR w B ys
  ca : xs.length ≤ c
  cb : ys.length ≤ d
  ma : Med xs
  mb : Med ys
  ow : wr.ownsRow w.heap.size 26 2 v o.length (rootC o)
  eq : o ++ mg bz xs ys = goal
  le : o.length + xs.length + ys.length ≤ 1000000
  bl : Below w.heap.size w wr
theorem len_facts {n : Nat} (h : 0 < n) : decide ((0 : Int) < (n : Int)) = true ∧ decide (0 < n) = true ∧ ((n : Int) == 0) = false ∧ (n == 0) = false ∧ (1 : Int) ≤ (n : Int) ∧ (0 : Int) < (n : Int) ∧ 0 < n ∧ 1 ≤ n := by
  refine ⟨decide_eq_true (by omega), decide_eq_true h, ?_, ?_, by omega, by omega, h, h⟩
  · rw [beq_eq_false_iff_ne]; omega
  · rw [beq_eq_false_iff_ne]; omega
theorem MgI.later {w wr w2 : World} {bz : Int} {goal xs ys o : List (Int × Int)} {A B : Option Addr} {c d : Nat} {v : Value} (h : MgI w bz goal A B c d xs ys o v wr) (hb : Below wr.heap.size wr w2) : MgI w bz goal A B c d xs ys o v w2 :=
  ⟨h.ra, h.rb, h.ca, h.cb, h.ma, h.mb, own_keepR h.ow hb, h.eq, h.le, h.bl.trans (hb.mono h.bl.size)⟩
theorem rdR_nil9 (w : World) (A : Option Addr) : RdR w A [] := ⟨by simp, fun h => by simp at h⟩
theorem tailA {w : World} {b off c : Nat} {x : Int × Int} {l : List (Int × Int)} (h : RdR w (some ⟨b, off, none⟩) (x :: l)) (hc : (x :: l).length ≤ c) : RdR w (if c = 1 then some ⟨b, off, none⟩ else some ⟨b, off + 2, none⟩) l := by
  split
  · rename_i h1
    have : l = [] := by cases l with
      | nil => rfl
      | cons y l => simp at hc; omega
    subst this; exact rdR_nil9 _ _
  · exact h.tail
theorem MgI.stepA {w wr w3 : World} {bz : Int} {goal xs ys o : List (Int × Int)} {b off : Nat} {B : Option Addr} {c d : Nat} {v v' : Value} {x z : Int × Int} (h : MgI w bz goal (some ⟨b, off, none⟩) B c d (x :: xs) ys o v wr)
    (ho : w3.ownsRow w.heap.size 26 2 v' (o ++ [z]).length (rootC (o ++ [z]))) (hb : Below w.heap.size w w3) (he : mg bz (x :: xs) ys = z :: mg bz xs ys) :
    MgI w bz goal (if c = 1 then some ⟨b, off, none⟩ else some ⟨b, off + 2, none⟩) B (c - 1) d xs ys (o ++ [z]) v' w3 :=
  ⟨tailA h.ra h.ca, h.rb, by have := h.ca; simp at this; omega, h.cb, h.ma.tail, h.mb, ho, by rw [← h.eq, he]; simp, by have := h.le; simp at this ⊢; omega, hb⟩
theorem MgI.stepB {w wr w3 : World} {bz : Int} {goal xs ys o : List (Int × Int)} {b off : Nat} {A : Option Addr} {c d : Nat} {v v' : Value} {y z : Int × Int} (h : MgI w bz goal A (some ⟨b, off, none⟩) c d xs (y :: ys) o v wr)
    (ho : w3.ownsRow w.heap.size 26 2 v' (o ++ [z]).length (rootC (o ++ [z]))) (hb : Below w.heap.size w w3) (he : mg bz xs (y :: ys) = z :: mg bz xs ys) :
    MgI w bz goal A (if d = 1 then some ⟨b, off, none⟩ else some ⟨b, off + 2, none⟩) c (d - 1) xs ys (o ++ [z]) v' w3 :=
  ⟨h.ra, tailA h.rb h.cb, h.ca, by have := h.cb; simp at this; omega, h.ma, h.mb.tail, ho, by rw [← h.eq, he]; simp, by have := h.le; simp at this ⊢; omega, hb⟩
theorem MgI.stepAB {w wr w3 : World} {bz : Int} {goal xs ys o o2 : List (Int × Int)} {b off b2 off2 : Nat} {c d : Nat} {v v' : Value} {x y : Int × Int} (h : MgI w bz goal (some ⟨b, off, none⟩) (some ⟨b2, off2, none⟩) c d (x :: xs) (y :: ys) o v wr)
    (ho : w3.ownsRow w.heap.size 26 2 v' (o ++ o2).length (rootC (o ++ o2))) (h2 : o2.length ≤ 1) (hb : Below w.heap.size w w3) (he : mg bz (x :: xs) (y :: ys) = o2 ++ mg bz xs ys) :
    MgI w bz goal (if c = 1 then some ⟨b, off, none⟩ else some ⟨b, off + 2, none⟩) (if d = 1 then some ⟨b2, off2, none⟩ else some ⟨b2, off2 + 2, none⟩) (c - 1) (d - 1) xs ys (o ++ o2) v' w3 :=
  ⟨tailA h.ra h.ca, tailA h.rb h.cb, by have := h.ca; simp at this; omega, by have := h.cb; simp at this; omega, h.ma.tail, h.mb.tail, ho, by rw [← h.eq, he]; simp, by have := h.le; simp at this ⊢; omega, hb⟩
def lenOf : Value → Nat
  | .slice _ n _ => n
  | _ => 0
set_option maxRecDepth 100000 in
set_option maxHeartbeats 8000000 in
theorem tnMerge_ (A B : Option Addr) (ca cb : Nat) (bz : Int) (hbz : bz = 1 ∨ bz = -1) (xs ys : List (Int × Int)) (w : World) (hra : RdR w A xs) (hrb : RdR w B ys) (hca : xs.length ≤ ca) (hcb : ys.length ≤ cb) (hma : Med xs) (hmb : Med ys) (hle : xs.length + ys.length ≤ 1000000) :
    Calls Try.prog 65 #[.slice A xs.length ca, .slice B ys.length cb, .int .i64 bz] w (MgPost (mg bz xs ys) w) := by
  have hI : MgI w bz (mg bz xs ys) A B ca cb xs ys [] (.slice none 0 0) w := ⟨hra, hrb, hca, hcb, hma, hmb, own_nilR _ _ _ _, rfl, by simpa using hle, Below.refl _ _⟩
  have hl9 : (mg bz xs ys).length ≤ 281474976710656 ∨ True := .inr trivial
  generalize mg bz xs ys = goal at *
  clear hra hrb hma hmb hle hl9
  generalize hn1 : xs.length = n1 at *
  generalize hn2 : ys.length = n2 at *
  have HI := Lib.hid hI; have HCA := Lib.hid hca; have HCB := Lib.hid hcb; have HBZ := Lib.hid hbz; have HN1 := Lib.hid hn1; have HN2 := Lib.hid hn2; clear hI hca hcb hbz hn1 hn2
  go_enter Try.func65, Try.ntmps65
  go_wp2
  go_loopw [0, 1, 7, 8] (fun av bv ov _ wr => ∃ (A' B' : Option Addr) (c d m n : Nat) (xs' ys' o : List (Int × Int)), av = .slice A' m c ∧ bv = .slice B' n d ∧ xs'.length = m ∧ ys'.length = n ∧ MgI w bz goal A' B' c d xs' ys' o ov wr) (fun av bv _ _ _ => lenOf av + lenOf bv)
  case atStart => exact ⟨_, _, _, _, _, _, _, _, _, rfl, rfl, HN1.out, HN2.out, HI.out⟩
  case round =>
    clear HI
    obtain ⟨A', B', c, d, m, n, xs', ys', o, rfl, rfl, hm, hn, hI⟩ := hrel

    cases xs' with
    | nil =>
      obtain rfl : m = 0 := hm.symm
      cases ys' with
      | nil =>
        obtain rfl : n = 0 := hn.symm
        have heq : o = goal := by have := hI.eq; rwa [mg_nil2, List.append_nil] at this
        have hle := hI.le
        have hown := hI.ow
        have hbl := hI.bl
        obtain ⟨A9, c9, rfl, hc9⟩ := own_slice2 hown
        have HI := Lib.hid hI; have HEQ := Lib.hid heq; have HOWN := Lib.hid hown; have HLE := Lib.hid hle; have HBL := Lib.hid hbl; have HC9 := Lib.hid hc9; clear hI heq hown hle hbl hc9
        go_wp2
        go_ret
        rw [HEQ.out] at HOWN HLE HC9 ⊢
        exact ⟨A9, c9, rfl, RdR.of_own HOWN.out (by have := HLE.out; omega), HC9.out, HBL.out⟩
      | cons y ys2 =>
        obtain ⟨g1, g2, g3, g4, g5, g6, g7, g8⟩ := len_facts (show 0 < n by simp at hn; omega)
        obtain ⟨b2, o2, rfl, hl2, q2, q3⟩ := (hI.rb.later hI.bl (Nat.le_refl _)).head
        have hnd : n ≤ d := by rw [← hn]; exact hI.cb
        have hown := hI.ow
        have hle := hI.le
        have hvl := hown.lt
        have hsz := hI.bl.size
        have hyr := hI.mb _ (List.mem_cons_self ..)
        obtain ⟨P, hP⟩ : ∃ P, P = bz * y.1 := ⟨_, rfl⟩
        have hPr : -1000000000000000000 ≤ P ∧ P ≤ 1000000000000000000 := by
          rcases HBZ.out with h | h <;> (subst h; omega)
        have w1 : IntKind.i64.wrap (bz * y.1) = P := by rw [← hP]; exact IntWalk.i64_in _ (by omega)
        have HI := Lib.hid hI; have HOWN := Lib.hid hown; have HLE := Lib.hid hle; have HN := Lib.hid hn; have HVL := Lib.hid hvl; have HSZ := Lib.hid hsz; have HYR := Lib.hid hyr; have HP := Lib.hid hP; have HPR := Lib.hid hPr; clear hI hown hle hn hvl hsz hyr hP hPr
        go_upto_region 7 with fail
        have hbelc : ∀ (u : Bel wr.heap.size wr) b o, b < wr.heap.size → u.wd.cell? ⟨b, o, none⟩ = wr.cell? ⟨b, o, none⟩ := fun u b o h => u.h.cell (p := ⟨b, o, none⟩) h
        have hbeln : Nonempty (Bel wr.heap.size wr) := ⟨⟨wr, Below.refl _ _⟩⟩
        refine wp_region_bel wr.heap.size (by kernel_rfl) (by kernel_rfl) ?_
        repeat (go_big_quiet_step ((fail)))
        refine wpQuiet_nil ?_
        intro wB hB0; obtain ⟨uB, hu⟩ := hB0; have hbB0 := uB.h; rw [← hu] at hbB0; clear hu uB hbelc hbeln
        obtain ⟨hbB, hcB, hsB⟩ := bcell2 hbB0; clear hbB0
        have hI := HI.out.later hbB
        have hown := hI.ow
        have hvl := hown.lt
        have hsz := hI.bl.size
        have q2z := (hcB b2 o2 hl2).trans q2
        clear q2
        have q2 := q2z
        clear q2z
        have q3z := (hcB b2 (o2 + 1) hl2).trans q3
        clear q3
        have q3 := q3z
        clear q3z
        have hl2z : b2 < wB.heap.size := Nat.lt_of_lt_of_le hl2 hsB
        clear hl2
        have hl2 := hl2z
        clear hl2z
        clear hcB hsB hbB HI HOWN HVL HSZ
        generalize wB = wv1 at *
        have HI := Lib.hid hI; have HOWN := Lib.hid hown; have HVL := Lib.hid hvl; have HSZ := Lib.hid hsz; clear hI hown hvl hsz
        go_upto_region 9 with fail
        have hbelc : ∀ (u : Bel wv1.heap.size wv1) b o, b < wv1.heap.size → u.wd.cell? ⟨b, o, none⟩ = wv1.cell? ⟨b, o, none⟩ := fun u b o h => u.h.cell (p := ⟨b, o, none⟩) h
        have hbeln : Nonempty (Bel wv1.heap.size wv1) := ⟨⟨wv1, Below.refl _ _⟩⟩
        refine wp_region_bel wv1.heap.size (by kernel_rfl) (by kernel_rfl) ?_
        repeat (go_big_quiet_step ((fail)))
        refine wpQuiet_nil ?_
        intro wB hB0; obtain ⟨uB, hu⟩ := hB0; have hbB0 := uB.h; rw [← hu] at hbB0; clear hu uB hbelc hbeln
        obtain ⟨hbB, hcB, hsB⟩ := bcell2 hbB0; clear hbB0
        have hI := HI.out.later hbB
        have hown := hI.ow
        have hvl := hown.lt
        have hsz := hI.bl.size
        have q2z := (hcB b2 o2 hl2).trans q2
        clear q2
        have q2 := q2z
        clear q2z
        have q3z := (hcB b2 (o2 + 1) hl2).trans q3
        clear q3
        have q3 := q3z
        clear q3z
        have hl2z : b2 < wB.heap.size := Nat.lt_of_lt_of_le hl2 hsB
        clear hl2
        have hl2 := hl2z
        clear hl2z
        clear hcB hsB hbB HI HOWN HVL HSZ
        generalize wB = wv2 at *
        have HI := Lib.hid hI; have HOWN := Lib.hid hown; have HVL := Lib.hid hvl; have HSZ := Lib.hid hsz; clear hI hown hvl hsz
        go_upto_region 10 with fail
        go_region_law
          (first | (refine step_appR_Try (by rfl) _ _ (by rfl) w.heap.size u7 o (by rfl) (by repeat (first | exact HOWN.out | refine World.ownsRow.alloc ?_ _ | exact (World.ownsRow.alloc HOWN.out _).drew)) wv2.heap.size (P, y.2) (by rfl) (heap_alloc_new _ _) (by have := HLE.out; omega) (by simp; have := HSZ.out; omega) ?_; intro g cap w3 hown3 hgrow hat3 hlt3))
        all_goals
          have hb3 : Below w.heap.size w w3 := (HI.out.bl.alloc HI.out.bl.size _).drew.grown hgrow (by simp; have := HSZ.out; omega) (fun k' hk' => by have := (HVL.out k' hk').1; omega)
          have hI3 := HI.out.stepB (z := (P, y.2)) hown3 hb3 (by rw [mg_nil, mg_nil, List.map_cons, HP.out])
          clear hown3 hgrow hat3 hlt3 hb3
          obtain ⟨A9, hA9⟩ : ∃ A9, A9 = (if d = 1 then some (⟨b2, o2, none⟩ : Addr) else some ⟨b2, o2 + 2, none⟩) := ⟨_, rfl⟩
          rw [← hA9] at hI3 ⊢
          have HI3 := Lib.hid hI3; have HA9 := Lib.hid hA9; clear hI3 hA9
          go_simp
          go_wp2
          go_roundw
          case rel => exact ⟨_, _, _, _, _, _, _, _, _, rfl, rfl, rfl, by have := HN.out; simp at this; omega, HI3.out⟩
          case measure => simp [lenOf]; omega
    | cons x xs2 =>
      cases ys' with
      | nil =>
        obtain rfl : n = 0 := hn.symm
        obtain ⟨f1, f2, f3, f4, f5, f6, f7, f8⟩ := len_facts (show 0 < m by simp at hm; omega)
        obtain ⟨b1, o1, rfl, hl1, q0, q1⟩ := (hI.ra.later hI.bl (Nat.le_refl _)).head
        have hmc : m ≤ c := by rw [← hm]; exact hI.ca
        have hown := hI.ow
        have hle := hI.le
        have hvl := hown.lt
        have hsz := hI.bl.size
        have HI := Lib.hid hI; have HOWN := Lib.hid hown; have HLE := Lib.hid hle; have HM := Lib.hid hm; have HVL := Lib.hid hvl; have HSZ := Lib.hid hsz; clear hI hown hle hm hvl hsz
        go_upto_region 7 with fail
        have hbelc : ∀ (u : Bel wr.heap.size wr) b o, b < wr.heap.size → u.wd.cell? ⟨b, o, none⟩ = wr.cell? ⟨b, o, none⟩ := fun u b o h => u.h.cell (p := ⟨b, o, none⟩) h
        have hbeln : Nonempty (Bel wr.heap.size wr) := ⟨⟨wr, Below.refl _ _⟩⟩
        refine wp_region_bel wr.heap.size (by kernel_rfl) (by kernel_rfl) ?_
        repeat (go_big_quiet_step ((fail)))
        refine wpQuiet_nil ?_
        intro wB hB0; obtain ⟨uB, hu⟩ := hB0; have hbB0 := uB.h; rw [← hu] at hbB0; clear hu uB hbelc hbeln
        obtain ⟨hbB, hcB, hsB⟩ := bcell2 hbB0; clear hbB0
        have hI := HI.out.later hbB
        have hown := hI.ow
        have hvl := hown.lt
        have hsz := hI.bl.size
        have q0z := (hcB b1 o1 hl1).trans q0
        clear q0
        have q0 := q0z
        clear q0z
        have q1z := (hcB b1 (o1 + 1) hl1).trans q1
        clear q1
        have q1 := q1z
        clear q1z
        have hl1z : b1 < wB.heap.size := Nat.lt_of_lt_of_le hl1 hsB
        clear hl1
        have hl1 := hl1z
        clear hl1z
        clear hcB hsB hbB HI HOWN HVL HSZ
        generalize wB = wv1 at *
        have HI := Lib.hid hI; have HOWN := Lib.hid hown; have HVL := Lib.hid hvl; have HSZ := Lib.hid hsz; clear hI hown hvl hsz
        go_upto_region 8 with fail
        go_region_law
          (first | (refine step_appR_Try (by rfl) _ _ (by rfl) w.heap.size u7 o (by rfl) (by repeat (first | exact HOWN.out | refine World.ownsRow.alloc ?_ _ | exact (World.ownsRow.alloc HOWN.out _).drew)) wv1.heap.size x (by rfl) (heap_alloc_new _ _) (by have := HLE.out; omega) (by simp; have := HSZ.out; omega) ?_; intro g cap w3 hown3 hgrow hat3 hlt3))
        all_goals
          have hb3 : Below w.heap.size w w3 := (HI.out.bl.alloc HI.out.bl.size _).drew.grown hgrow (by simp; have := HSZ.out; omega) (fun k' hk' => by have := (HVL.out k' hk').1; omega)
          have hI3 := HI.out.stepA (z := x) hown3 hb3 (by rw [mg_nil2, mg_nil2])
          clear hown3 hgrow hat3 hlt3 hb3
          obtain ⟨A9, hA9⟩ : ∃ A9, A9 = (if c = 1 then some (⟨b1, o1, none⟩ : Addr) else some ⟨b1, o1 + 2, none⟩) := ⟨_, rfl⟩
          rw [← hA9] at hI3 ⊢
          have HI3 := Lib.hid hI3; have HA9 := Lib.hid hA9; clear hI3 hA9
          go_simp
          go_wp2
          go_roundw
          case rel => exact ⟨_, _, _, _, _, _, _, _, _, rfl, rfl, by have := HM.out; simp at this; omega, rfl, HI3.out⟩
          case measure => simp [lenOf]; omega
      | cons y ys2 =>
        obtain ⟨f1, f2, f3, f4, f5, f6, f7, f8⟩ := len_facts (show 0 < m by simp at hm; omega)
        obtain ⟨b1, o1, rfl, hl1, q0, q1⟩ := (hI.ra.later hI.bl (Nat.le_refl _)).head
        have hmc : m ≤ c := by rw [← hm]; exact hI.ca
        obtain ⟨g1, g2, g3, g4, g5, g6, g7, g8⟩ := len_facts (show 0 < n by simp at hn; omega)
        obtain ⟨b2, o2, rfl, hl2, q2, q3⟩ := (hI.rb.later hI.bl (Nat.le_refl _)).head
        have hnd : n ≤ d := by rw [← hn]; exact hI.cb
        have hown := hI.ow
        have hle := hI.le
        have hvl := hown.lt
        have hsz := hI.bl.size
        have hyr := hI.mb _ (List.mem_cons_self ..)
        obtain ⟨P, hP⟩ : ∃ P, P = bz * y.1 := ⟨_, rfl⟩
        have hPr : -1000000000000000000 ≤ P ∧ P ≤ 1000000000000000000 := by
          rcases HBZ.out with h | h <;> (subst h; omega)
        have w1 : IntKind.i64.wrap (bz * y.1) = P := by rw [← hP]; exact IntWalk.i64_in _ (by omega)
        have hmg := mg_cons bz x y xs2 ys2
        by_cases h1 : x.2 < y.2
        · have k1 : decide (x.2 < y.2) = true := decide_eq_true h1
          rw [if_pos h1] at hmg
          have HI := Lib.hid hI; have HOWN := Lib.hid hown; have HLE := Lib.hid hle; have HM := Lib.hid hm; have HN := Lib.hid hn; have HVL := Lib.hid hvl; have HSZ := Lib.hid hsz; have HYR := Lib.hid hyr; have HP := Lib.hid hP; have HPR := Lib.hid hPr; have HMG := Lib.hid hmg; clear hI hown hle hm hn hvl hsz hyr hP hPr hmg
          go_upto_region 7 with fail
          have hbelc : ∀ (u : Bel wr.heap.size wr) b o, b < wr.heap.size → u.wd.cell? ⟨b, o, none⟩ = wr.cell? ⟨b, o, none⟩ := fun u b o h => u.h.cell (p := ⟨b, o, none⟩) h
          have hbeln : Nonempty (Bel wr.heap.size wr) := ⟨⟨wr, Below.refl _ _⟩⟩
          refine wp_region_bel wr.heap.size (by kernel_rfl) (by kernel_rfl) ?_
          repeat (go_big_quiet_step ((fail)))
          refine wpQuiet_nil ?_
          intro wB hB0; obtain ⟨uB, hu⟩ := hB0; have hbB0 := uB.h; rw [← hu] at hbB0; clear hu uB hbelc hbeln
          obtain ⟨hbB, hcB, hsB⟩ := bcell2 hbB0; clear hbB0
          have hI := HI.out.later hbB
          have hown := hI.ow
          have hvl := hown.lt
          have hsz := hI.bl.size
          have q0z := (hcB b1 o1 hl1).trans q0
          clear q0
          have q0 := q0z
          clear q0z
          have q1z := (hcB b1 (o1 + 1) hl1).trans q1
          clear q1
          have q1 := q1z
          clear q1z
          have hl1z : b1 < wB.heap.size := Nat.lt_of_lt_of_le hl1 hsB
          clear hl1
          have hl1 := hl1z
          clear hl1z
          have q2z := (hcB b2 o2 hl2).trans q2
          clear q2
          have q2 := q2z
          clear q2z
          have q3z := (hcB b2 (o2 + 1) hl2).trans q3
          clear q3
          have q3 := q3z
          clear q3z
          have hl2z : b2 < wB.heap.size := Nat.lt_of_lt_of_le hl2 hsB
          clear hl2
          have hl2 := hl2z
          clear hl2z
          clear hcB hsB hbB HI HOWN HVL HSZ
          generalize wB = wv1 at *
          have HI := Lib.hid hI; have HOWN := Lib.hid hown; have HVL := Lib.hid hvl; have HSZ := Lib.hid hsz; clear hI hown hvl hsz
          go_upto_region 8 with fail
          go_region_law
            (first | (refine step_appR_Try (by rfl) _ _ (by rfl) w.heap.size u7 o (by rfl) (by repeat (first | exact HOWN.out | refine World.ownsRow.alloc ?_ _ | exact (World.ownsRow.alloc HOWN.out _).drew)) wv1.heap.size x (by rfl) (heap_alloc_new _ _) (by have := HLE.out; omega) (by simp; have := HSZ.out; omega) ?_; intro g cap w3 hown3 hgrow hat3 hlt3))
          all_goals
            have hb3 : Below w.heap.size w w3 := (HI.out.bl.alloc HI.out.bl.size _).drew.grown hgrow (by simp; have := HSZ.out; omega) (fun k' hk' => by have := (HVL.out k' hk').1; omega)
            have hI3 := HI.out.stepA (z := x) hown3 hb3 (HMG.out)
            clear hown3 hgrow hat3 hlt3 hb3
            obtain ⟨A9, hA9⟩ : ∃ A9, A9 = (if c = 1 then some (⟨b1, o1, none⟩ : Addr) else some ⟨b1, o1 + 2, none⟩) := ⟨_, rfl⟩
            rw [← hA9] at hI3 ⊢
            have HI3 := Lib.hid hI3; have HA9 := Lib.hid hA9; clear hI3 hA9
            go_simp
            go_wp2
            go_roundw
            case rel => exact ⟨_, _, _, _, _, _, _, _, _, rfl, rfl, by have := HM.out; simp at this; omega, HN.out, HI3.out⟩
            case measure => simp [lenOf]; omega
        · have k1 : decide (x.2 < y.2) = false := decide_eq_false h1
          rw [if_neg h1] at hmg
          by_cases h2 : y.2 < x.2
          · have k2 : decide (y.2 < x.2) = true := decide_eq_true h2
            rw [if_pos h2, ← hP] at hmg
            have HI := Lib.hid hI; have HOWN := Lib.hid hown; have HLE := Lib.hid hle; have HM := Lib.hid hm; have HN := Lib.hid hn; have HVL := Lib.hid hvl; have HSZ := Lib.hid hsz; have HYR := Lib.hid hyr; have HP := Lib.hid hP; have HPR := Lib.hid hPr; have HMG := Lib.hid hmg; clear hI hown hle hm hn hvl hsz hyr hP hPr hmg
            go_upto_region 7 with fail
            have hbelc : ∀ (u : Bel wr.heap.size wr) b o, b < wr.heap.size → u.wd.cell? ⟨b, o, none⟩ = wr.cell? ⟨b, o, none⟩ := fun u b o h => u.h.cell (p := ⟨b, o, none⟩) h
            have hbeln : Nonempty (Bel wr.heap.size wr) := ⟨⟨wr, Below.refl _ _⟩⟩
            refine wp_region_bel wr.heap.size (by kernel_rfl) (by kernel_rfl) ?_
            repeat (go_big_quiet_step ((fail)))
            refine wpQuiet_nil ?_
            intro wB hB0; obtain ⟨uB, hu⟩ := hB0; have hbB0 := uB.h; rw [← hu] at hbB0; clear hu uB hbelc hbeln
            obtain ⟨hbB, hcB, hsB⟩ := bcell2 hbB0; clear hbB0
            have hI := HI.out.later hbB
            have hown := hI.ow
            have hvl := hown.lt
            have hsz := hI.bl.size
            have q0z := (hcB b1 o1 hl1).trans q0
            clear q0
            have q0 := q0z
            clear q0z
            have q1z := (hcB b1 (o1 + 1) hl1).trans q1
            clear q1
            have q1 := q1z
            clear q1z
            have hl1z : b1 < wB.heap.size := Nat.lt_of_lt_of_le hl1 hsB
            clear hl1
            have hl1 := hl1z
            clear hl1z
            have q2z := (hcB b2 o2 hl2).trans q2
            clear q2
            have q2 := q2z
            clear q2z
            have q3z := (hcB b2 (o2 + 1) hl2).trans q3
            clear q3
            have q3 := q3z
            clear q3z
            have hl2z : b2 < wB.heap.size := Nat.lt_of_lt_of_le hl2 hsB
            clear hl2
            have hl2 := hl2z
            clear hl2z
            clear hcB hsB hbB HI HOWN HVL HSZ
            generalize wB = wv1 at *
            have HI := Lib.hid hI; have HOWN := Lib.hid hown; have HVL := Lib.hid hvl; have HSZ := Lib.hid hsz; clear hI hown hvl hsz
            go_upto_region 9 with fail
            have hbelc : ∀ (u : Bel wv1.heap.size wv1) b o, b < wv1.heap.size → u.wd.cell? ⟨b, o, none⟩ = wv1.cell? ⟨b, o, none⟩ := fun u b o h => u.h.cell (p := ⟨b, o, none⟩) h
            have hbeln : Nonempty (Bel wv1.heap.size wv1) := ⟨⟨wv1, Below.refl _ _⟩⟩
            refine wp_region_bel wv1.heap.size (by kernel_rfl) (by kernel_rfl) ?_
            repeat (go_big_quiet_step ((fail)))
            refine wpQuiet_nil ?_
            intro wB hB0; obtain ⟨uB, hu⟩ := hB0; have hbB0 := uB.h; rw [← hu] at hbB0; clear hu uB hbelc hbeln
            obtain ⟨hbB, hcB, hsB⟩ := bcell2 hbB0; clear hbB0
            have hI := HI.out.later hbB
            have hown := hI.ow
            have hvl := hown.lt
            have hsz := hI.bl.size
            have q0z := (hcB b1 o1 hl1).trans q0
            clear q0
            have q0 := q0z
            clear q0z
            have q1z := (hcB b1 (o1 + 1) hl1).trans q1
            clear q1
            have q1 := q1z
            clear q1z
            have hl1z : b1 < wB.heap.size := Nat.lt_of_lt_of_le hl1 hsB
            clear hl1
            have hl1 := hl1z
            clear hl1z
            have q2z := (hcB b2 o2 hl2).trans q2
            clear q2
            have q2 := q2z
            clear q2z
            have q3z := (hcB b2 (o2 + 1) hl2).trans q3
            clear q3
            have q3 := q3z
            clear q3z
            have hl2z : b2 < wB.heap.size := Nat.lt_of_lt_of_le hl2 hsB
            clear hl2
            have hl2 := hl2z
            clear hl2z
            clear hcB hsB hbB HI HOWN HVL HSZ
            generalize wB = wv2 at *
            have HI := Lib.hid hI; have HOWN := Lib.hid hown; have HVL := Lib.hid hvl; have HSZ := Lib.hid hsz; clear hI hown hvl hsz
            go_upto_region 10 with fail
            go_region_law
              (first | (refine step_appR_Try (by rfl) _ _ (by rfl) w.heap.size u7 o (by rfl) (by repeat (first | exact HOWN.out | refine World.ownsRow.alloc ?_ _ | exact (World.ownsRow.alloc HOWN.out _).drew)) wv2.heap.size (P, y.2) (by rfl) (heap_alloc_new _ _) (by have := HLE.out; omega) (by simp; have := HSZ.out; omega) ?_; intro g cap w3 hown3 hgrow hat3 hlt3))
            all_goals
              have hb3 : Below w.heap.size w w3 := (HI.out.bl.alloc HI.out.bl.size _).drew.grown hgrow (by simp; have := HSZ.out; omega) (fun k' hk' => by have := (HVL.out k' hk').1; omega)
              have hI3 := HI.out.stepB (z := (P, y.2)) hown3 hb3 (HMG.out)
              clear hown3 hgrow hat3 hlt3 hb3
              obtain ⟨A9, hA9⟩ : ∃ A9, A9 = (if d = 1 then some (⟨b2, o2, none⟩ : Addr) else some ⟨b2, o2 + 2, none⟩) := ⟨_, rfl⟩
              rw [← hA9] at hI3 ⊢
              have HI3 := Lib.hid hI3; have HA9 := Lib.hid hA9; clear hI3 hA9
              go_simp
              go_wp2
              go_roundw
              case rel => exact ⟨_, _, _, _, _, _, _, _, _, rfl, rfl, HM.out, by have := HN.out; simp at this; omega, HI3.out⟩
              case measure => simp [lenOf]; omega
          · have k2 : decide (y.2 < x.2) = false := decide_eq_false h2
            rw [if_neg h2, ← hP] at hmg
            have hxr := hI.ma _ (List.mem_cons_self ..)
            obtain ⟨Q, hQ⟩ : ∃ Q, Q = x.1 + P := ⟨_, rfl⟩
            have w2 : IntKind.i64.wrap (x.1 + P) = Q := by rw [← hQ]; exact IntWalk.i64_in _ (by omega)
            rw [← hQ] at hmg
            by_cases h3 : Q = 0
            · have k3 : (Q != 0) = false := by simp [h3]
              rw [if_pos h3] at hmg
              have HI := Lib.hid hI; have HOWN := Lib.hid hown; have HLE := Lib.hid hle; have HM := Lib.hid hm; have HN := Lib.hid hn; have HVL := Lib.hid hvl; have HSZ := Lib.hid hsz; have HYR := Lib.hid hyr; have HP := Lib.hid hP; have HPR := Lib.hid hPr; have HMG := Lib.hid hmg; have HXR := Lib.hid hxr; have HQ := Lib.hid hQ; have H3 := Lib.hid h3; clear hI hown hle hm hn hvl hsz hyr hP hPr hmg hxr hQ h3
              go_upto_region 7 with fail
              have hbelc : ∀ (u : Bel wr.heap.size wr) b o, b < wr.heap.size → u.wd.cell? ⟨b, o, none⟩ = wr.cell? ⟨b, o, none⟩ := fun u b o h => u.h.cell (p := ⟨b, o, none⟩) h
              have hbeln : Nonempty (Bel wr.heap.size wr) := ⟨⟨wr, Below.refl _ _⟩⟩
              refine wp_region_bel wr.heap.size (by kernel_rfl) (by kernel_rfl) ?_
              repeat (go_big_quiet_step ((fail)))
              refine wpQuiet_nil ?_
              intro wB hB0; obtain ⟨uB, hu⟩ := hB0; have hbB0 := uB.h; rw [← hu] at hbB0; clear hu uB hbelc hbeln
              obtain ⟨hbB, hcB, hsB⟩ := bcell2 hbB0; clear hbB0
              have hI := HI.out.later hbB
              have hown := hI.ow
              have hvl := hown.lt
              have hsz := hI.bl.size
              have q0z := (hcB b1 o1 hl1).trans q0
              clear q0
              have q0 := q0z
              clear q0z
              have q1z := (hcB b1 (o1 + 1) hl1).trans q1
              clear q1
              have q1 := q1z
              clear q1z
              have hl1z : b1 < wB.heap.size := Nat.lt_of_lt_of_le hl1 hsB
              clear hl1
              have hl1 := hl1z
              clear hl1z
              have q2z := (hcB b2 o2 hl2).trans q2
              clear q2
              have q2 := q2z
              clear q2z
              have q3z := (hcB b2 (o2 + 1) hl2).trans q3
              clear q3
              have q3 := q3z
              clear q3z
              have hl2z : b2 < wB.heap.size := Nat.lt_of_lt_of_le hl2 hsB
              clear hl2
              have hl2 := hl2z
              clear hl2z
              clear hcB hsB hbB HI HOWN HVL HSZ
              generalize wB = wv1 at *
              have HI := Lib.hid hI; have HOWN := Lib.hid hown; have HVL := Lib.hid hvl; have HSZ := Lib.hid hsz; clear hI hown hvl hsz
              go_upto_region 9 with fail
              have hbelc : ∀ (u : Bel wv1.heap.size wv1) b o, b < wv1.heap.size → u.wd.cell? ⟨b, o, none⟩ = wv1.cell? ⟨b, o, none⟩ := fun u b o h => u.h.cell (p := ⟨b, o, none⟩) h
              have hbeln : Nonempty (Bel wv1.heap.size wv1) := ⟨⟨wv1, Below.refl _ _⟩⟩
              refine wp_region_bel wv1.heap.size (by kernel_rfl) (by kernel_rfl) ?_
              repeat (go_big_quiet_step ((fail)))
              refine wpQuiet_nil ?_
              intro wB hB0; obtain ⟨uB, hu⟩ := hB0; have hbB0 := uB.h; rw [← hu] at hbB0; clear hu uB hbelc hbeln
              obtain ⟨hbB, hcB, hsB⟩ := bcell2 hbB0; clear hbB0
              have hI := HI.out.later hbB
              have hown := hI.ow
              have hvl := hown.lt
              have hsz := hI.bl.size
              have q0z := (hcB b1 o1 hl1).trans q0
              clear q0
              have q0 := q0z
              clear q0z
              have q1z := (hcB b1 (o1 + 1) hl1).trans q1
              clear q1
              have q1 := q1z
              clear q1z
              have hl1z : b1 < wB.heap.size := Nat.lt_of_lt_of_le hl1 hsB
              clear hl1
              have hl1 := hl1z
              clear hl1z
              have q2z := (hcB b2 o2 hl2).trans q2
              clear q2
              have q2 := q2z
              clear q2z
              have q3z := (hcB b2 (o2 + 1) hl2).trans q3
              clear q3
              have q3 := q3z
              clear q3z
              have hl2z : b2 < wB.heap.size := Nat.lt_of_lt_of_le hl2 hsB
              clear hl2
              have hl2 := hl2z
              clear hl2z
              clear hcB hsB hbB HI HOWN HVL HSZ
              generalize wB = wv2 at *
              have HI := Lib.hid hI; have HOWN := Lib.hid hown; have HVL := Lib.hid hvl; have HSZ := Lib.hid hsz; clear hI hown hvl hsz
              go_upto_region 3 with fail
              have hbelc : ∀ (u : Bel wv2.heap.size wv2) b o, b < wv2.heap.size → u.wd.cell? ⟨b, o, none⟩ = wv2.cell? ⟨b, o, none⟩ := fun u b o h => u.h.cell (p := ⟨b, o, none⟩) h
              have hbeln : Nonempty (Bel wv2.heap.size wv2) := ⟨⟨wv2, Below.refl _ _⟩⟩
              refine wp_region_bel wv2.heap.size (by kernel_rfl) (by kernel_rfl) ?_
              repeat (go_big_quiet_step ((fail)))
              refine wpQuiet_nil ?_
              intro wB hB0; obtain ⟨uB, hu⟩ := hB0; have hbB0 := uB.h; rw [← hu] at hbB0; clear hu uB hbelc hbeln
              obtain ⟨hbB, hcB, hsB⟩ := bcell2 hbB0; clear hbB0
              have hI := HI.out.later hbB
              have hown := hI.ow
              have hvl := hown.lt
              have hsz := hI.bl.size
              have q0z := (hcB b1 o1 hl1).trans q0
              clear q0
              have q0 := q0z
              clear q0z
              have q1z := (hcB b1 (o1 + 1) hl1).trans q1
              clear q1
              have q1 := q1z
              clear q1z
              have hl1z : b1 < wB.heap.size := Nat.lt_of_lt_of_le hl1 hsB
              clear hl1
              have hl1 := hl1z
              clear hl1z
              have q2z := (hcB b2 o2 hl2).trans q2
              clear q2
              have q2 := q2z
              clear q2z
              have q3z := (hcB b2 (o2 + 1) hl2).trans q3
              clear q3
              have q3 := q3z
              clear q3z
              have hl2z : b2 < wB.heap.size := Nat.lt_of_lt_of_le hl2 hsB
              clear hl2
              have hl2 := hl2z
              clear hl2z
              clear hcB hsB hbB HI HOWN HVL HSZ
              generalize wB = wv3 at *
              have HI := Lib.hid hI; have HOWN := Lib.hid hown; have HVL := Lib.hid hvl; have HSZ := Lib.hid hsz; clear hI hown hvl hsz
              go_upto_region 6 with fail
              have hbelc : ∀ (u : Bel wv3.heap.size wv3) b o, b < wv3.heap.size → u.wd.cell? ⟨b, o, none⟩ = wv3.cell? ⟨b, o, none⟩ := fun u b o h => u.h.cell (p := ⟨b, o, none⟩) h
              have hbeln : Nonempty (Bel wv3.heap.size wv3) := ⟨⟨wv3, Below.refl _ _⟩⟩
              refine wp_region_bel wv3.heap.size (by kernel_rfl) (by kernel_rfl) ?_
              repeat (go_big_quiet_step ((fail)))
              refine wpQuiet_nil ?_
              intro wB hB0; obtain ⟨uB, hu⟩ := hB0; have hbB0 := uB.h; rw [← hu] at hbB0; clear hu uB hbelc hbeln
              obtain ⟨hbB, hcB, hsB⟩ := bcell2 hbB0; clear hbB0
              have hI := HI.out.later hbB
              have hown := hI.ow
              have hvl := hown.lt
              have hsz := hI.bl.size
              have q0z := (hcB b1 o1 hl1).trans q0
              clear q0
              have q0 := q0z
              clear q0z
              have q1z := (hcB b1 (o1 + 1) hl1).trans q1
              clear q1
              have q1 := q1z
              clear q1z
              have hl1z : b1 < wB.heap.size := Nat.lt_of_lt_of_le hl1 hsB
              clear hl1
              have hl1 := hl1z
              clear hl1z
              have q2z := (hcB b2 o2 hl2).trans q2
              clear q2
              have q2 := q2z
              clear q2z
              have q3z := (hcB b2 (o2 + 1) hl2).trans q3
              clear q3
              have q3 := q3z
              clear q3z
              have hl2z : b2 < wB.heap.size := Nat.lt_of_lt_of_le hl2 hsB
              clear hl2
              have hl2 := hl2z
              clear hl2z
              clear hcB hsB hbB HI HOWN HVL HSZ
              generalize wB = wv4 at *
              have HI := Lib.hid hI; have HOWN := Lib.hid hown; have HVL := Lib.hid hvl; have HSZ := Lib.hid hsz; clear hI hown hvl hsz
              have hI3 := HI.out.stepAB (o2 := []) (by rw [List.append_nil]; exact HOWN.out) (by simp) HI.out.bl HMG.out
              rw [List.append_nil] at hI3
              have HI3 := Lib.hid hI3; clear hI3
              go_wp2
              go_roundw
              case rel => exact ⟨_, _, _, _, _, _, _, _, _, rfl, rfl, by have := HM.out; simp at this; omega, by have := HN.out; simp at this; omega, HI3.out⟩
              case measure => simp [lenOf]; omega
            · have k3 : (Q != 0) = true := by simp [h3]
              rw [if_neg h3] at hmg
              have HI := Lib.hid hI; have HOWN := Lib.hid hown; have HLE := Lib.hid hle; have HM := Lib.hid hm; have HN := Lib.hid hn; have HVL := Lib.hid hvl; have HSZ := Lib.hid hsz; have HYR := Lib.hid hyr; have HP := Lib.hid hP; have HPR := Lib.hid hPr; have HMG := Lib.hid hmg; have HXR := Lib.hid hxr; have HQ := Lib.hid hQ; have H3 := Lib.hid h3; clear hI hown hle hm hn hvl hsz hyr hP hPr hmg hxr hQ h3
              go_upto_region 7 with fail
              have hbelc : ∀ (u : Bel wr.heap.size wr) b o, b < wr.heap.size → u.wd.cell? ⟨b, o, none⟩ = wr.cell? ⟨b, o, none⟩ := fun u b o h => u.h.cell (p := ⟨b, o, none⟩) h
              have hbeln : Nonempty (Bel wr.heap.size wr) := ⟨⟨wr, Below.refl _ _⟩⟩
              refine wp_region_bel wr.heap.size (by kernel_rfl) (by kernel_rfl) ?_
              repeat (go_big_quiet_step ((fail)))
              refine wpQuiet_nil ?_
              intro wB hB0; obtain ⟨uB, hu⟩ := hB0; have hbB0 := uB.h; rw [← hu] at hbB0; clear hu uB hbelc hbeln
              obtain ⟨hbB, hcB, hsB⟩ := bcell2 hbB0; clear hbB0
              have hI := HI.out.later hbB
              have hown := hI.ow
              have hvl := hown.lt
              have hsz := hI.bl.size
              have q0z := (hcB b1 o1 hl1).trans q0
              clear q0
              have q0 := q0z
              clear q0z
              have q1z := (hcB b1 (o1 + 1) hl1).trans q1
              clear q1
              have q1 := q1z
              clear q1z
              have hl1z : b1 < wB.heap.size := Nat.lt_of_lt_of_le hl1 hsB
              clear hl1
              have hl1 := hl1z
              clear hl1z
              have q2z := (hcB b2 o2 hl2).trans q2
              clear q2
              have q2 := q2z
              clear q2z
              have q3z := (hcB b2 (o2 + 1) hl2).trans q3
              clear q3
              have q3 := q3z
              clear q3z
              have hl2z : b2 < wB.heap.size := Nat.lt_of_lt_of_le hl2 hsB
              clear hl2
              have hl2 := hl2z
              clear hl2z
              clear hcB hsB hbB HI HOWN HVL HSZ
              generalize wB = wv1 at *
              have HI := Lib.hid hI; have HOWN := Lib.hid hown; have HVL := Lib.hid hvl; have HSZ := Lib.hid hsz; clear hI hown hvl hsz
              go_upto_region 9 with fail
              have hbelc : ∀ (u : Bel wv1.heap.size wv1) b o, b < wv1.heap.size → u.wd.cell? ⟨b, o, none⟩ = wv1.cell? ⟨b, o, none⟩ := fun u b o h => u.h.cell (p := ⟨b, o, none⟩) h
              have hbeln : Nonempty (Bel wv1.heap.size wv1) := ⟨⟨wv1, Below.refl _ _⟩⟩
              refine wp_region_bel wv1.heap.size (by kernel_rfl) (by kernel_rfl) ?_
              repeat (go_big_quiet_step ((fail)))
              refine wpQuiet_nil ?_
              intro wB hB0; obtain ⟨uB, hu⟩ := hB0; have hbB0 := uB.h; rw [← hu] at hbB0; clear hu uB hbelc hbeln
              obtain ⟨hbB, hcB, hsB⟩ := bcell2 hbB0; clear hbB0
              have hI := HI.out.later hbB
              have hown := hI.ow
              have hvl := hown.lt
              have hsz := hI.bl.size
              have q0z := (hcB b1 o1 hl1).trans q0
              clear q0
              have q0 := q0z
              clear q0z
              have q1z := (hcB b1 (o1 + 1) hl1).trans q1
              clear q1
              have q1 := q1z
              clear q1z
              have hl1z : b1 < wB.heap.size := Nat.lt_of_lt_of_le hl1 hsB
              clear hl1
              have hl1 := hl1z
              clear hl1z
              have q2z := (hcB b2 o2 hl2).trans q2
              clear q2
              have q2 := q2z
              clear q2z
              have q3z := (hcB b2 (o2 + 1) hl2).trans q3
              clear q3
              have q3 := q3z
              clear q3z
              have hl2z : b2 < wB.heap.size := Nat.lt_of_lt_of_le hl2 hsB
              clear hl2
              have hl2 := hl2z
              clear hl2z
              clear hcB hsB hbB HI HOWN HVL HSZ
              generalize wB = wv2 at *
              have HI := Lib.hid hI; have HOWN := Lib.hid hown; have HVL := Lib.hid hvl; have HSZ := Lib.hid hsz; clear hI hown hvl hsz
              go_upto_region 3 with fail
              have hbelc : ∀ (u : Bel wv2.heap.size wv2) b o, b < wv2.heap.size → u.wd.cell? ⟨b, o, none⟩ = wv2.cell? ⟨b, o, none⟩ := fun u b o h => u.h.cell (p := ⟨b, o, none⟩) h
              have hbeln : Nonempty (Bel wv2.heap.size wv2) := ⟨⟨wv2, Below.refl _ _⟩⟩
              refine wp_region_bel wv2.heap.size (by kernel_rfl) (by kernel_rfl) ?_
              repeat (go_big_quiet_step ((fail)))
              refine wpQuiet_nil ?_
              intro wB hB0; obtain ⟨uB, hu⟩ := hB0; have hbB0 := uB.h; rw [← hu] at hbB0; clear hu uB hbelc hbeln
              obtain ⟨hbB, hcB, hsB⟩ := bcell2 hbB0; clear hbB0
              have hI := HI.out.later hbB
              have hown := hI.ow
              have hvl := hown.lt
              have hsz := hI.bl.size
              have q0z := (hcB b1 o1 hl1).trans q0
              clear q0
              have q0 := q0z
              clear q0z
              have q1z := (hcB b1 (o1 + 1) hl1).trans q1
              clear q1
              have q1 := q1z
              clear q1z
              have hl1z : b1 < wB.heap.size := Nat.lt_of_lt_of_le hl1 hsB
              clear hl1
              have hl1 := hl1z
              clear hl1z
              have q2z := (hcB b2 o2 hl2).trans q2
              clear q2
              have q2 := q2z
              clear q2z
              have q3z := (hcB b2 (o2 + 1) hl2).trans q3
              clear q3
              have q3 := q3z
              clear q3z
              have hl2z : b2 < wB.heap.size := Nat.lt_of_lt_of_le hl2 hsB
              clear hl2
              have hl2 := hl2z
              clear hl2z
              clear hcB hsB hbB HI HOWN HVL HSZ
              generalize wB = wv3 at *
              have HI := Lib.hid hI; have HOWN := Lib.hid hown; have HVL := Lib.hid hvl; have HSZ := Lib.hid hsz; clear hI hown hvl hsz
              go_upto_region 6 with (refine wpList_appR_Try (by rfl) _ _ (by rfl) w.heap.size u7 o (by rfl) (by repeat (first | exact HOWN.out | refine World.ownsRow.alloc ?_ _ | exact (World.ownsRow.alloc HOWN.out _).drew)) wv3.heap.size (Q, x.2) (by rfl) (heap_alloc_new _ _) (by have := HLE.out; omega) (by simp; have := HSZ.out; omega) ?_; intro g cap w3 hown3 hgrow hat3 hlt3)
              have hb3 : Below w.heap.size w w3 := (HI.out.bl.alloc HI.out.bl.size _).grown hgrow (by simp; have := HSZ.out; omega) (fun k' hk' => by have := (HVL.out k' hk').1; omega)
              have hI3 := HI.out.stepAB (o2 := [(Q, x.2)]) hown3 (by simp) hb3 HMG.out
              clear hown3 hgrow hat3 hlt3 hb3
              have HI3 := Lib.hid hI3; clear hI3
              have hbelc : ∀ (u : Bel w3.heap.size w3) b o, b < w3.heap.size → u.wd.cell? ⟨b, o, none⟩ = w3.cell? ⟨b, o, none⟩ := fun u b o h => u.h.cell (p := ⟨b, o, none⟩) h
              have hbeln : Nonempty (Bel w3.heap.size w3) := ⟨⟨w3, Below.refl _ _⟩⟩
              refine wp_region_bel w3.heap.size (by kernel_rfl) (by kernel_rfl) ?_
              repeat (go_big_quiet_step ((fail)))
              refine wpQuiet_nil ?_
              intro wB hB0; obtain ⟨uB, hu⟩ := hB0; have hbB0 := uB.h; rw [← hu] at hbB0; clear hu uB hbelc hbeln
              obtain ⟨hbB, hcB, hsB⟩ := bcell2 hbB0; clear hbB0
              have hI4 := HI3.out.later hbB
              have HI4 := Lib.hid hI4; clear hI4
              go_wp2
              go_roundw
              case rel => exact ⟨_, _, _, _, _, _, _, _, _, rfl, rfl, by have := HM.out; simp at this; omega, by have := HN.out; simp at this; omega, HI4.out⟩
              case measure => simp [lenOf]; omega
end Go.Proofs.Ytlmhgcllikcedaa
/- The grid: points, steps, products. -/
namespace Go.Proofs.Ytlmhgcllikcedaa
open Go.RowKit

def outB (n m : Int) : Bool := decide (n < -m) || decide (m < n)
def offP (x : Int × Int) : Bool := outB x.1 1000000 || outB x.2 1000000
set_option maxRecDepth 100000 in
set_option maxHeartbeats 2000000 in
theorem gOutside_ (n m : Int) (hm : 0 ≤ m) (hm2 : m ≤ 1000000000) (w : World) : Calls Try.prog 100 #[.int .i64 n, .int .i64 m] w (BoolPost (outB n m) w) := by
  have hb := Below.refl w.heap.size w
  have w1 : IntKind.i64.wrap (-m) = -m := IntWalk.i64_in _ (by omega)
  have hr : outB n m = (decide (n < -m) || decide (m < n)) := rfl
  by_cases h1 : n < -m
  · have f1 : decide (n < -m) = true := decide_eq_true h1
    rw [f1, Bool.true_or] at hr
    have HB := Lib.hid hb; have HR := Lib.hid hr; have HM := Lib.hid hm; have HM2 := Lib.hid hm2; clear hb hr hm hm2
    go_enter Try.func100, Try.ntmps100
    go_wp2
    go_ret
    exact ⟨by rw [HR.out]; rfl, HB.out⟩
  · have f1 : decide (n < -m) = false := decide_eq_false h1
    rw [f1, Bool.false_or] at hr
    have HB := Lib.hid hb; have HR := Lib.hid hr; have HM := Lib.hid hm; have HM2 := Lib.hid hm2; clear hb hr hm hm2
    go_enter Try.func100, Try.ntmps100
    go_wp2
    go_ret
    exact ⟨by rw [HR.out]; rfl, HB.out⟩
set_option maxRecDepth 100000 in
set_option maxHeartbeats 2000000 in
theorem gPoint1_ (x : Int × Int) (w : World) : Calls Try.prog 131 #[.agg #[.int .i64 x.1, .int .i64 x.2]] w (BoolPost (offP x) w) := by
  obtain ⟨X, Y⟩ := x
  have hb : Below w.heap.size w (w.alloc (.cells #[.int .i64 X, .int .i64 Y] 45)) := (Below.refl _ _).alloc (Nat.le_refl _) _
  have hx := heap_alloc_new w (.cells #[.int .i64 X, .int .i64 Y] 45)
  have hr : offP (X, Y) = (outB X 1000000 || outB Y 1000000) := rfl
  have hc1 := fun W => gOutside_ X 1000000 (by decide) (by decide) W
  have hc2 := fun W => gOutside_ Y 1000000 (by decide) (by decide) W
  have HB := Lib.hid hb; have HX := Lib.hid hx; have HC1 := Lib.hid hc1; have HC2 := Lib.hid hc2; clear hb hx hc1 hc2
  go_enter Try.func131, Try.ntmps131
  go_wp2_with fail
  refine (HC1.out _).mono ?_
  rintro e w1 ⟨rfl, b1⟩
  have hb1 := HB.out.trans (b1.mono HB.out.size)
  have hx1 := (b1.block _ (lt_of_block HX.out)).trans HX.out
  have c1 := cell_of_row _ _ 1 _ _ _ hx1
  simp only [List.getElem?_toArray, List.getElem?_cons_zero, List.getElem?_cons_succ] at c1
  have hl := lt_of_block hx1
  clear b1 HX HB
  cases hw : outB X 1000000 with
  | true =>
    rw [hw] at hr
    have hr2 : offP (X, Y) = true := hr
    clear hr
    have HB1 := Lib.hid hb1; have HX1 := Lib.hid hx1; have HR2 := Lib.hid hr2; have HW := Lib.hid hw; clear hb1 hx1 hr2 hw
    go_wp2
    go_ret
    exact ⟨by rw [HR2.out]; rfl, HB1.out⟩
  | false =>
    rw [hw, Bool.false_or] at hr
    have HB1 := Lib.hid hb1; have HX1 := Lib.hid hx1; have HR := Lib.hid hr; have HW := Lib.hid hw; clear hb1 hx1 hr hw
    go_wp2_with fail
    refine (HC2.out _).mono ?_
    rintro e w2 ⟨rfl, b1⟩
    have hb2 := HB1.out.trans (b1.mono HB1.out.size)
    clear b1
    have HB2 := Lib.hid hb2; clear hb2
    go_wp2
    go_ret
    exact ⟨by rw [HR.out]; rfl, HB2.out⟩
set_option maxRecDepth 100000 in
set_option maxHeartbeats 2000000 in
theorem indP_ (A : Option Addr) (c : Nat) (xs : List (Int × Int)) (w : World) (hr : RdR w A xs) :
    Calls Try.prog 136 #[.slice A xs.length c, .func (.func 131) #[] #[]] w (IdxRP (xs.any offP) w) := by
  have hln := hr.1
  have hb := Below.refl w.heap.size w
  have HR := Lib.hid hr; have HB := Lib.hid hb; clear hr hb
  go_enter Try.func136, Try.ntmps136
  go_wp2
  go_loopw [5, 8] (fun _ iv wr => ∃ k : Nat, iv = .int .i64 k ∧ k ≤ xs.length ∧ (xs.take k).any offP = false ∧ Below w.heap.size w wr) (fun _ iv _ => xs.length - (intOf iv).toNat)
  case atStart => exact ⟨0, rfl, Nat.zero_le _, rfl, HB.out⟩
  case round =>
    obtain ⟨k, rfl, hk, hno, hbw⟩ := hrel
    by_cases hlt : k < xs.length
    · obtain ⟨bl, ol, rfl, hbl, l1, l2⟩ := (HR.out.later hbw (Nat.le_refl _)).at_ hlt
      have hts := any_succR xs offP k hlt
      have hhit : offP xs[k] = true → xs.any offP = true := fun h => List.any_eq_true.2 ⟨_, List.getElem_mem hlt, h⟩
      have hcall := fun W => gPoint1_ xs[k] W
      generalize xs[k] = x at *
      have x1 : (0 : Int) ≤ (k : Int) := by omega
      have x2 : (k : Int) < (xs.length : Int) := by omega
      cases hg : offP x with
      | true =>
        have hres := hhit hg
        rw [hg] at hcall
        clear hhit
        have HNO := Lib.hid hno; have HTS := Lib.hid hts; have HRES := Lib.hid hres; have HBW := Lib.hid hbw; have HCALL := Lib.hid hcall; have HG := Lib.hid hg; clear hno hts hres hbw hcall hg
        go_wp2_with fail
        refine (HCALL.out _).mono ?_
        rintro e w1 ⟨rfl, b1⟩
        have hb1 := HBW.out.trans (b1.mono HBW.out.size)
        clear b1
        have HB1 := Lib.hid hb1; clear hb1
        go_wp2
        go_ret
        exact ⟨k, rfl, by rw [HRES.out]; simp, HB1.out⟩
      | false =>
        have hno2 : (xs.take (k + 1)).any offP = false := by rw [hts, hno, hg]; rfl
        rw [hg] at hcall
        clear hhit
        have HNO := Lib.hid hno; have HTS := Lib.hid hts; have HNO2 := Lib.hid hno2; have HBW := Lib.hid hbw; have HCALL := Lib.hid hcall; have HG := Lib.hid hg; clear hno hts hno2 hbw hcall hg
        go_wp2_with fail
        refine (HCALL.out _).mono ?_
        rintro e w1 ⟨rfl, b1⟩
        have hb1 := HBW.out.trans (b1.mono HBW.out.size)
        clear b1
        have HB1 := Lib.hid hb1; clear hb1
        go_wp2
        go_roundw
        case rel => exact ⟨k + 1, by go_num, by omega, HNO2.out, HB1.out⟩
        case measure => simp [intOf]; omega
    · have hres : xs.any offP = false := by
        obtain rfl : k = xs.length := by omega
        rwa [List.take_length] at hno
      have HNO := Lib.hid hno; have HRES := Lib.hid hres; have HBW := Lib.hid hbw; clear hno hres hbw
      go_wp2
      go_ret
      exact ⟨-1, rfl, by rw [HRES.out]; simp, HBW.out⟩
set_option maxRecDepth 100000 in
set_option maxHeartbeats 2000000 in
theorem contP_ (A : Option Addr) (c : Nat) (xs : List (Int × Int)) (w : World) (hr : RdR w A xs) :
    Calls Try.prog 130 #[.slice A xs.length c, .func (.func 131) #[] #[]] w (BoolPost (xs.any offP) w) := by
  have HR := Lib.hid hr; clear hr
  go_enter Try.func130, Try.ntmps130
  go_wp2_with fail
  refine (indP_ A c xs _ HR.out).mono ?_
  rintro e w1 ⟨r, rfl, hr2, hb⟩
  have HR2 := Lib.hid hr2; have HB := Lib.hid hb; clear hr2 hb
  go_wp2
  go_ret
  exact ⟨ret_bool HR2.out, HB.out⟩
set_option maxRecDepth 100000 in
set_option maxHeartbeats 2000000 in
theorem gPoint_ (A : Option Addr) (c : Nat) (xs : List (Int × Int)) (w : World) (hr : RdR w A xs) : Calls Try.prog 113 #[.slice A xs.length c] w (BoolPost (!xs.any offP) w) := by
  have HR := Lib.hid hr; clear hr
  go_enter Try.func113, Try.ntmps113
  go_wp2_with fail
  refine (contP_ A c xs _ HR.out).mono ?_
  rintro e w1 ⟨rfl, hb⟩
  have HB := Lib.hid hb; clear hb
  cases h : xs.any offP with
  | true => go_wp2; go_ret; exact ⟨by rw [h]; rfl, HB.out⟩
  | false => go_wp2; go_ret; exact ⟨by rw [h]; rfl, HB.out⟩
/-- A lattice that is not one. -/
def latB (a b c : Int) : Bool := decide (a < 1) || decide (c < 1) || decide (10000 < a) || decide (10000 < c) || outB b 10000 || decide (a * c ≤ b * b)
def latE (a b c : Int) : Int := if latB a b c = true then 2 else 0
set_option maxRecDepth 100000 in
set_option maxHeartbeats 4000000 in
theorem gCheck_ (a b c : Int) (w : World) : Calls Try.prog 62 #[.agg #[.int .i64 a, .int .i64 b, .int .i64 c]] w fun e w' => e = .returned (.int .i64 (latE a b c)) ∧ Below w.heap.size w w' := by
  have hb : Below w.heap.size w (w.alloc (.cells #[.int .i64 a, .int .i64 b, .int .i64 c] 38)) := (Below.refl _ _).alloc (Nat.le_refl _) _
  have hx := heap_alloc_new w (.cells #[.int .i64 a, .int .i64 b, .int .i64 c] 38)
  have hr : latB a b c = (decide (a < 1) || decide (c < 1) || decide (10000 < a) || decide (10000 < c) || outB b 10000 || decide (a * c ≤ b * b)) := rfl
  have he : latE a b c = if latB a b c = true then 2 else 0 := rfl
  by_cases g1 : a < 1
  · have f0 : decide (a < 1) = true := decide_eq_true g1
    rw [f0] at hr
    have hr2 : latE a b c = 2 := by rw [he, hr]; simp
    have HB := Lib.hid hb; have HX := Lib.hid hx; have HR := Lib.hid hr; have HE := Lib.hid he; have HR2 := Lib.hid hr2; clear hb hx hr he hr2
    go_enter Try.func62, Try.ntmps62
    go_wp2
    go_ret
    exact ⟨by rw [HR2.out]; rfl, HB.out⟩
  have f0 : decide (a < 1) = false := decide_eq_false g1
  rw [f0] at hr
  by_cases g2 : c < 1
  · have f1 : decide (c < 1) = true := decide_eq_true g2
    rw [f1] at hr
    have hr2 : latE a b c = 2 := by rw [he, hr]; simp
    have HB := Lib.hid hb; have HX := Lib.hid hx; have HR := Lib.hid hr; have HE := Lib.hid he; have HR2 := Lib.hid hr2; clear hb hx hr he hr2
    go_enter Try.func62, Try.ntmps62
    go_wp2
    go_ret
    exact ⟨by rw [HR2.out]; rfl, HB.out⟩
  have f1 : decide (c < 1) = false := decide_eq_false g2
  rw [f1] at hr
  by_cases g3 : 10000 < a
  · have f2 : decide (10000 < a) = true := decide_eq_true g3
    rw [f2] at hr
    have hr2 : latE a b c = 2 := by rw [he, hr]; simp
    have HB := Lib.hid hb; have HX := Lib.hid hx; have HR := Lib.hid hr; have HE := Lib.hid he; have HR2 := Lib.hid hr2; clear hb hx hr he hr2
    go_enter Try.func62, Try.ntmps62
    go_wp2
    go_ret
    exact ⟨by rw [HR2.out]; rfl, HB.out⟩
  have f2 : decide (10000 < a) = false := decide_eq_false g3
  rw [f2] at hr
  by_cases g4 : 10000 < c
  · have f3 : decide (10000 < c) = true := decide_eq_true g4
    rw [f3] at hr
    have hr2 : latE a b c = 2 := by rw [he, hr]; simp
    have HB := Lib.hid hb; have HX := Lib.hid hx; have HR := Lib.hid hr; have HE := Lib.hid he; have HR2 := Lib.hid hr2; clear hb hx hr he hr2
    go_enter Try.func62, Try.ntmps62
    go_wp2
    go_ret
    exact ⟨by rw [HR2.out]; rfl, HB.out⟩
  have f3 : decide (10000 < c) = false := decide_eq_false g4
  rw [f3] at hr
  simp only [Bool.false_or] at hr
  have t1 : IntKind.i64.wrap (a * c) = a * c := by
    have h1 := Int.mul_le_mul (show a ≤ 10000 by omega) (show c ≤ 10000 by omega) (by omega) (by decide)
    have h2 := Int.mul_nonneg (show 0 ≤ a by omega) (show 0 ≤ c by omega)
    exact IntWalk.i64_in _ (by omega)
  have HB := Lib.hid hb; have HX := Lib.hid hx; have HE := Lib.hid he; clear hb hx he
  go_enter Try.func62, Try.ntmps62
  go_wp2_with fail
  refine (gOutside_ b 10000 (by decide) (by decide) _).mono ?_
  rintro e w1 ⟨rfl, b1⟩
  have hb1 := HB.out.trans (b1.mono HB.out.size)
  have hx1 := (b1.block _ (lt_of_block HX.out)).trans HX.out
  have c0 := cell_of_row _ _ 0 _ _ _ hx1
  have c1 := cell_of_row _ _ 1 _ _ _ hx1
  have c2 := cell_of_row _ _ 2 _ _ _ hx1
  simp only [List.getElem?_toArray, List.getElem?_cons_zero, List.getElem?_cons_succ] at c0 c1 c2
  have hl := lt_of_block hx1
  clear b1 HX HB
  cases hw : outB b 10000 with
  | true =>
    rw [hw, Bool.true_or] at hr
    have hr2 : latE a b c = 2 := by rw [HE.out, hr]; rfl
    have HB1 := Lib.hid hb1; have HX1 := Lib.hid hx1; have HR := Lib.hid hr; have HR2 := Lib.hid hr2; have HW := Lib.hid hw; clear hb1 hx1 hr hr2 hw
    go_wp2
    go_ret
    exact ⟨by rw [HR2.out]; rfl, HB1.out⟩
  | false =>
    rw [hw, Bool.false_or] at hr
    have hbb : -10000 ≤ b ∧ b ≤ 10000 := by unfold outB at hw; simp at hw; omega
    have t2 : IntKind.i64.wrap (b * b) = b * b := by
      have h3 : b * b ≤ 100000000 := by
        rcases Int.le_total 0 b with h | h
        · have := Int.mul_le_mul (show b ≤ 10000 by omega) (show b ≤ 10000 by omega) h (by decide); omega
        · have := Int.mul_le_mul (show -b ≤ 10000 by omega) (show -b ≤ 10000 by omega) (by omega) (by decide)
          rw [Int.neg_mul_neg] at this; omega
      have h4 : 0 ≤ b * b := by
        rcases Int.le_total 0 b with h | h
        · exact Int.mul_nonneg h h
        · have := Int.mul_nonneg (show 0 ≤ -b by omega) (show 0 ≤ -b by omega)
          rw [Int.neg_mul_neg] at this; exact this
      exact IntWalk.i64_in _ (by omega)
    obtain ⟨AC, hAC⟩ : ∃ AC, AC = a * c := ⟨_, rfl⟩
    obtain ⟨BB, hBB⟩ : ∃ BB, BB = b * b := ⟨_, rfl⟩
    rw [← hAC] at t1 hr
    rw [← hBB] at t2 hr
    rw [hAC] at t1
    rw [hBB] at t2
    by_cases h9 : AC ≤ BB
    · have f9 : decide (AC ≤ BB) = true := decide_eq_true h9
      rw [f9] at hr
      have hr2 : latE a b c = 2 := by rw [HE.out, hr]; rfl
      have HB1 := Lib.hid hb1; have HX1 := Lib.hid hx1; have HR := Lib.hid hr; have HR2 := Lib.hid hr2; have HW := Lib.hid hw; have HBB := Lib.hid hbb; clear hb1 hx1 hr hr2 hw hbb
      subst hAC; subst hBB
      go_wp2
      go_ret
      exact ⟨by rw [HR2.out]; rfl, HB1.out⟩
    · have f9 : decide (AC ≤ BB) = false := decide_eq_false h9
      rw [f9] at hr
      have hr2 : latE a b c = 0 := by rw [HE.out, hr]; rfl
      have HB1 := Lib.hid hb1; have HX1 := Lib.hid hx1; have HR := Lib.hid hr; have HR2 := Lib.hid hr2; have HW := Lib.hid hw; have HBB := Lib.hid hbb; clear hb1 hx1 hr hr2 hw hbb
      subst hAC; subst hBB
      go_wp2
      go_ret
      exact ⟨by rw [HR2.out]; rfl, HB1.out⟩
theorem mul_rng {x y X Y : Int} (h1 : -X ≤ x) (h2 : x ≤ X) (h3 : -Y ≤ y) (h4 : y ≤ Y) : -(X * Y) ≤ x * y ∧ x * y ≤ X * Y := by
  have a1 := Int.mul_nonneg (show 0 ≤ X - x by omega) (show 0 ≤ Y - y by omega)
  have a2 := Int.mul_nonneg (show 0 ≤ X + x by omega) (show 0 ≤ Y + y by omega)
  have a3 := Int.mul_nonneg (show 0 ≤ X - x by omega) (show 0 ≤ Y + y by omega)
  have a4 := Int.mul_nonneg (show 0 ≤ X + x by omega) (show 0 ≤ Y - y by omega)
  rw [Int.sub_mul, Int.mul_sub, Int.mul_sub] at a1
  rw [Int.add_mul, Int.mul_add, Int.mul_add] at a2
  rw [Int.sub_mul, Int.mul_add, Int.mul_add] at a3
  rw [Int.add_mul, Int.mul_sub, Int.mul_sub] at a4
  omega
theorem offP_no {x : Int × Int} (h : offP x = false) : (-1000000 ≤ x.1 ∧ x.1 ≤ 1000000) ∧ -1000000 ≤ x.2 ∧ x.2 ≤ 1000000 := by
  unfold offP outB at h
  simp at h
  omega
set_option maxRecDepth 100000 in
set_option maxHeartbeats 2000000 in
theorem gTo_ (p q : Int × Int) (w : World) (h1 : offP p = false) (h2 : offP q = false) : Calls Try.prog 115 #[.agg #[.int .i64 p.1, .int .i64 p.2], .agg #[.int .i64 q.1, .int .i64 q.2]] w fun e w' => e = .returned (.agg #[.int .i64 (q.1 - p.1), .int .i64 (q.2 - p.2)]) ∧ Below w.heap.size w w' := by
  obtain ⟨a1, a2⟩ := offP_no h1
  obtain ⟨b1, b2⟩ := offP_no h2
  obtain ⟨px, py⟩ := p
  obtain ⟨qx, qy⟩ := q
  have t1 : IntKind.i64.wrap (qx - px) = qx - px := IntWalk.i64_in _ (by simp only at *; omega)
  have t2 : IntKind.i64.wrap (qy - py) = qy - py := IntWalk.i64_in _ (by simp only at *; omega)
  obtain ⟨X, hX⟩ : ∃ X, X = qx - px := ⟨_, rfl⟩
  obtain ⟨Y, hY⟩ : ∃ Y, Y = qy - py := ⟨_, rfl⟩
  rw [← hX, hX] at t1
  rw [← hY, hY] at t2
  have hb : Below w.heap.size w (((w.alloc (.cells #[.int .i64 px, .int .i64 py] 45)).alloc (.cells #[.int .i64 qx, .int .i64 qy] 45)).alloc (.cells #[.int .i64 (qx - px), .int .i64 (qy - py)] 162)) := (((Below.refl _ _).alloc (Nat.le_refl _) _).alloc (by simp) _).alloc (by simp; omega) _
  clear a1 a2 b1 b2
  have H1 := Lib.hid h1; have H2 := Lib.hid h2; have HX := Lib.hid hX; have HY := Lib.hid hY; have HB := Lib.hid hb; clear h1 h2 hX hY hb
  go_enter Try.func115, Try.ntmps115
  go_wp2
  refine bodyPost_ret (v := .agg #[.int .i64 (qx - px), .int .i64 (qy - py)]) (by simp [results, Try.results115, go_sem]) rfl ⟨rfl, HB.out⟩
/-- The product of two steps. -/
def prodG (a b c : Int) (s t : Int × Int) : Int := s.1 * (a * t.1 + b * t.2) + s.2 * (b * t.1 + c * t.2)
def Stp (s : Int × Int) : Prop := (-2000000 ≤ s.1 ∧ s.1 ≤ 2000000) ∧ -2000000 ≤ s.2 ∧ s.2 ≤ 2000000
theorem lat_rng {a b c : Int} (h : latB a b c = false) : (1 ≤ a ∧ a ≤ 10000) ∧ (-10000 ≤ b ∧ b ≤ 10000) ∧ (1 ≤ c ∧ c ≤ 10000) ∧ b * b < a * c := by
  unfold latB outB at h
  simp at h
  omega
set_option maxRecDepth 100000 in
set_option maxHeartbeats 2000000 in
theorem gProduct_ (a b c : Int) (s t : Int × Int) (w : World) (hl : latB a b c = false) (hs : Stp s) (ht : Stp t) : Calls Try.prog 128 #[.agg #[.int .i64 s.1, .int .i64 s.2], .agg #[.int .i64 a, .int .i64 b, .int .i64 c], .agg #[.int .i64 t.1, .int .i64 t.2]] w fun e w' => e = .returned (.int .i64 (prodG a b c s t)) ∧ Below w.heap.size w w' := by
  obtain ⟨⟨la1, la2⟩, ⟨lb1, lb2⟩, ⟨lc1, lc2⟩, _⟩ := lat_rng hl
  obtain ⟨x, y⟩ := s
  obtain ⟨u, v⟩ := t
  obtain ⟨⟨s1, s2⟩, s3, s4⟩ := hs
  obtain ⟨⟨r1, r2⟩, r3, r4⟩ := ht
  simp only at s1 s2 s3 s4 r1 r2 r3 r4
  have e1 := mul_rng (show -10000 ≤ a by omega) la2 r1 r2
  have e2 := mul_rng lb1 lb2 r3 r4
  have e3 := mul_rng lb1 lb2 r1 r2
  have e4 := mul_rng (show -10000 ≤ c by omega) lc2 r3 r4
  have e5 := mul_rng s1 s2 (show -40000000000 ≤ a * u + b * v by omega) (by omega)
  have e6 := mul_rng s3 s4 (show -40000000000 ≤ b * u + c * v by omega) (by omega)
  have t1 : IntKind.i64.wrap (a * u) = a * u := IntWalk.i64_in _ (by omega)
  have t2 : IntKind.i64.wrap (b * v) = b * v := IntWalk.i64_in _ (by omega)
  have t3 : IntKind.i64.wrap (b * u) = b * u := IntWalk.i64_in _ (by omega)
  have t4 : IntKind.i64.wrap (c * v) = c * v := IntWalk.i64_in _ (by omega)
  have t5 : IntKind.i64.wrap (a * u + b * v) = a * u + b * v := IntWalk.i64_in _ (by omega)
  have t6 : IntKind.i64.wrap (b * u + c * v) = b * u + c * v := IntWalk.i64_in _ (by omega)
  have t7 : IntKind.i64.wrap (x * (a * u + b * v)) = x * (a * u + b * v) := IntWalk.i64_in _ (by omega)
  have t8 : IntKind.i64.wrap (y * (b * u + c * v)) = y * (b * u + c * v) := IntWalk.i64_in _ (by omega)
  have t9 : IntKind.i64.wrap (x * (a * u + b * v) + y * (b * u + c * v)) = x * (a * u + b * v) + y * (b * u + c * v) := IntWalk.i64_in _ (by omega)
  have hb : Below w.heap.size w (((w.alloc (.cells #[.int .i64 x, .int .i64 y] 162)).alloc (.cells #[.int .i64 a, .int .i64 b, .int .i64 c] 38)).alloc (.cells #[.int .i64 u, .int .i64 v] 162)) := (((Below.refl _ _).alloc (Nat.le_refl _) _).alloc (by simp) _).alloc (by simp; omega) _
  clear e1 e2 e3 e4 e5 e6 la1 la2 lb1 lb2 lc1 lc2 s1 s2 s3 s4 r1 r2 r3 r4
  have HL := Lib.hid hl; have HB := Lib.hid hb; clear hl hb
  go_enter Try.func128, Try.ntmps128
  go_wp2
  go_ret
  exact ⟨rfl, HB.out⟩
end Go.Proofs.Ytlmhgcllikcedaa
/- The grid: products from a point. -/
namespace Go.Proofs.Ytlmhgcllikcedaa
open Go.RowKit

def stp (p q : Int × Int) : Int × Int := (q.1 - p.1, q.2 - p.2)
theorem stp_stp {p q : Int × Int} (h1 : offP p = false) (h2 : offP q = false) : Stp (stp p q) := by
  have a1 := offP_no h1
  have a2 := offP_no h2
  unfold Stp stp
  simp only
  omega
def dotB (a b c : Int) (o p q : Int × Int) : Bool := latB a b c || [o, p, q].any offP
def DotPost (a b c : Int) (o p q : Int × Int) (w : World) (e : Ending) (w' : World) : Prop := (e = .returned (.tuple (if dotB a b c o p q = true then #[.int .i64 0, .int .i64 2] else #[.int .i64 (prodG a b c (stp o p) (stp o q)), .int .i64 0]))) ∧ Below w.heap.size w w'
theorem rdR_three {w : World} {R : Nat} {o p q : Int × Int} (h : w.heap[R]? = some (.cells #[.int .i64 o.1, .int .i64 o.2, .int .i64 p.1, .int .i64 p.2, .int .i64 q.1, .int .i64 q.2] 45 (0, 0))) : RdR w (some ⟨R, 0, none⟩) [o, p, q] := by
  refine ⟨by simp, fun _ => ⟨R, 0, rfl, lt_of_block h, fun j hj => ?_⟩⟩
  rw [cell_of_row _ _ _ _ _ _ h]
  simp at hj
  obtain rfl | rfl | rfl | rfl | rfl | rfl : j = 0 ∨ j = 1 ∨ j = 2 ∨ j = 3 ∨ j = 4 ∨ j = 5 := by omega
  all_goals rfl
set_option maxRecDepth 100000 in
set_option maxHeartbeats 4000000 in
theorem gDot_ (a b c : Int) (o p q : Int × Int) (w : World) : Calls Try.prog 101 #[.agg #[.int .i64 a, .int .i64 b, .int .i64 c], .agg #[.int .i64 o.1, .int .i64 o.2], .agg #[.int .i64 p.1, .int .i64 p.2], .agg #[.int .i64 q.1, .int .i64 q.2]] w (DotPost a b c o p q w) := by
  have hb : Below w.heap.size w ((((w.alloc (.cells #[.int .i64 a, .int .i64 b, .int .i64 c] 38)).alloc (.cells #[.int .i64 o.1, .int .i64 o.2] 45)).alloc (.cells #[.int .i64 p.1, .int .i64 p.2] 45)).alloc (.cells #[.int .i64 q.1, .int .i64 q.2] 45)) := ((((Below.refl _ _).alloc (Nat.le_refl _) _).alloc (by simp) _).alloc (by simp; omega) _).alloc (by simp; omega) _
  have hd : dotB a b c o p q = (latB a b c || [o, p, q].any offP) := rfl
  obtain ⟨w0, hw0⟩ : ∃ w0, w0 = (((w.alloc (.cells #[.int .i64 a, .int .i64 b, .int .i64 c] 38)).alloc (.cells #[.int .i64 o.1, .int .i64 o.2] 45)).alloc (.cells #[.int .i64 p.1, .int .i64 p.2] 45)).alloc (.cells #[.int .i64 q.1, .int .i64 q.2] 45) := ⟨_, rfl⟩
  have k0 : w0.cell? ⟨w.heap.size, 0, none⟩ = some (.int .i64 a) := by rw [hw0]; go_simp
  have k1 : w0.cell? ⟨w.heap.size, 1, none⟩ = some (.int .i64 b) := by rw [hw0]; go_simp
  have k2 : w0.cell? ⟨w.heap.size, 2, none⟩ = some (.int .i64 c) := by rw [hw0]; go_simp
  have k3 : w0.cell? ⟨w.heap.size + 1, 0, none⟩ = some (.int .i64 o.1) := by rw [hw0]; go_simp
  have k4 : w0.cell? ⟨w.heap.size + 1, 1, none⟩ = some (.int .i64 o.2) := by rw [hw0]; go_simp
  have k5 : w0.cell? ⟨w.heap.size + 2, 0, none⟩ = some (.int .i64 p.1) := by rw [hw0]; go_simp
  have k6 : w0.cell? ⟨w.heap.size + 2, 1, none⟩ = some (.int .i64 p.2) := by rw [hw0]; go_simp
  have k7 : w0.cell? ⟨w.heap.size + 3, 0, none⟩ = some (.int .i64 q.1) := by rw [hw0]; go_simp
  have k8 : w0.cell? ⟨w.heap.size + 3, 1, none⟩ = some (.int .i64 q.2) := by rw [hw0]; go_simp
  have hs0 : w.heap.size + 4 ≤ w0.heap.size := by rw [hw0]; simp
  have hb0 : Below w.heap.size w w0 := by rw [hw0]; exact hb
  clear hb
  have HD := Lib.hid hd; clear hd
  go_enter Try.func101, Try.ntmps101
  go_upto_region 1 with fail
  rw [← hw0]
  clear hw0
  have x0 : w.heap.size < w0.heap.size := by omega
  have x1 : w.heap.size + 1 < w0.heap.size := by omega
  have x2 : w.heap.size + 2 < w0.heap.size := by omega
  have x3 : w.heap.size + 3 < w0.heap.size := by omega
  have HB0 := Lib.hid hb0; have HS0 := Lib.hid hs0; clear hb0 hs0
  go_wp2_with fail
  refine (gCheck_ a b c _).mono ?_
  rintro e w1 ⟨rfl, b1⟩
  have k0 := below_at b1 (Nat.le_refl _) k0
  have k1 := below_at b1 (Nat.le_refl _) k1
  have k2 := below_at b1 (Nat.le_refl _) k2
  have k3 := below_at b1 (Nat.le_refl _) k3
  have k4 := below_at b1 (Nat.le_refl _) k4
  have k5 := below_at b1 (Nat.le_refl _) k5
  have k6 := below_at b1 (Nat.le_refl _) k6
  have k7 := below_at b1 (Nat.le_refl _) k7
  have k8 := below_at b1 (Nat.le_refl _) k8
  have hs1 : w.heap.size + 4 ≤ w1.heap.size := Nat.le_trans HS0.out b1.size
  have hb1 := HB0.out.trans (b1.mono HB0.out.size)
  clear b1 x0 x1 x2 x3 HB0 HS0
  have x0 : w.heap.size < w1.heap.size := by omega
  have x1 : w.heap.size + 1 < w1.heap.size := by omega
  have x2 : w.heap.size + 2 < w1.heap.size := by omega
  have x3 : w.heap.size + 3 < w1.heap.size := by omega
  have he : latE a b c = if latB a b c = true then 2 else 0 := rfl
  cases hl : latB a b c with
  | true =>
    rw [hl] at he
    have hd2 : dotB a b c o p q = true := by rw [HD.out, hl]; rfl
    have he2 : latE a b c = 2 := he
    rw [he2]
    clear he he2
    have HB1 := Lib.hid hb1; have HS1 := Lib.hid hs1; have HL := Lib.hid hl; have HD2 := Lib.hid hd2; clear hb1 hs1 hl hd2
    go_wp2
    go_ret2
    exact ⟨by rw [HD2.out]; rfl, HB1.out⟩
  | false =>
    rw [hl] at he
    have hd2 : dotB a b c o p q = [o, p, q].any offP := by rw [HD.out, hl]; rfl
    have he2 : latE a b c = 0 := he
    rw [he2]
    clear he he2
    have hT := heap_alloc_new w1 (.cells #[.int .i64 o.1, .int .i64 o.2, .int .i64 p.1, .int .i64 p.2, .int .i64 q.1, .int .i64 q.2] 45)
    have hbT : Below w1.heap.size w1 (w1.alloc (.cells #[.int .i64 o.1, .int .i64 o.2, .int .i64 p.1, .int .i64 p.2, .int .i64 q.1, .int .i64 q.2] 45)) := (Below.refl _ _).alloc (Nat.le_refl _) _
    have HB1 := Lib.hid hb1; have HS1 := Lib.hid hs1; have HL := Lib.hid hl; have HD2 := Lib.hid hd2; have HT := Lib.hid hT; have HBT := Lib.hid hbT; clear hb1 hs1 hl hd2 hT hbT
    go_wp2_with fail
    refine (gPoint_ (some ⟨w1.heap.size, 0, none⟩) 3 [o, p, q] _ (rdR_three HT.out)).mono ?_
    rintro e w2 ⟨rfl, b1⟩
    have b2 := HBT.out.trans (b1.mono HBT.out.size)
    have k0 := below_at b2 (Nat.le_refl _) k0
    have k1 := below_at b2 (Nat.le_refl _) k1
    have k2 := below_at b2 (Nat.le_refl _) k2
    have k3 := below_at b2 (Nat.le_refl _) k3
    have k4 := below_at b2 (Nat.le_refl _) k4
    have k5 := below_at b2 (Nat.le_refl _) k5
    have k6 := below_at b2 (Nat.le_refl _) k6
    have k7 := below_at b2 (Nat.le_refl _) k7
    have k8 := below_at b2 (Nat.le_refl _) k8
    have hs2 : w.heap.size + 4 ≤ w2.heap.size := Nat.le_trans HS1.out b2.size
    have hb2 := HB1.out.trans (b2.mono HB1.out.size)
    clear b1 b2 x0 x1 x2 x3 HB1 HS1 HBT HT
    have x0 : w.heap.size < w2.heap.size := by omega
    have x1 : w.heap.size + 1 < w2.heap.size := by omega
    have x2 : w.heap.size + 2 < w2.heap.size := by omega
    have x3 : w.heap.size + 3 < w2.heap.size := by omega
    cases hany : [o, p, q].any offP with
    | true =>
      have hd3 : dotB a b c o p q = true := by rw [HD2.out, hany]
      have HB2 := Lib.hid hb2; have HS2 := Lib.hid hs2; have HANY := Lib.hid hany; have HD3 := Lib.hid hd3; clear hb2 hs2 hany hd3
      go_wp2
      go_ret2
      exact ⟨by rw [HD3.out]; rfl, HB2.out⟩
    | false =>
      have hd3 : dotB a b c o p q = false := by rw [HD2.out, hany]
      have ho : offP o = false ∧ offP p = false ∧ offP q = false := by simpa using hany
      obtain ⟨ho1, ho2, ho3⟩ := ho
      have hto := fun (q : Int × Int) (hq : offP q = false) (W : World) => gTo_ o q W ho1 hq
      have hpr : ∀ W, Calls Try.prog 128 #[.agg #[.int .i64 (p.1 - o.1), .int .i64 (p.2 - o.2)], .agg #[.int .i64 a, .int .i64 b, .int .i64 c], .agg #[.int .i64 (q.1 - o.1), .int .i64 (q.2 - o.2)]] W fun e w' => e = .returned (.int .i64 (prodG a b c (stp o p) (stp o q))) ∧ Below W.heap.size W w' := fun W => gProduct_ a b c (stp o p) (stp o q) W HL.out (stp_stp ho1 ho2) (stp_stp ho1 ho3)
      obtain ⟨D, hD⟩ : ∃ D, D = prodG a b c (stp o p) (stp o q) := ⟨_, rfl⟩
      rw [← hD] at hpr
      have HB2 := Lib.hid hb2; have HS2 := Lib.hid hs2; have HANY := Lib.hid hany; have HD3 := Lib.hid hd3; have HO1 := Lib.hid ho1; have HO2 := Lib.hid ho2; have HO3 := Lib.hid ho3; have HTO := Lib.hid hto; have HPR := Lib.hid hpr; have HD := Lib.hid hD; clear hb2 hs2 hany hd3 ho1 ho2 ho3 hto hpr hD
      go_upto_region 3 with fail
      have hbelc : ∀ (u : Bel w2.heap.size w2) b o, b < w2.heap.size → u.wd.cell? ⟨b, o, none⟩ = w2.cell? ⟨b, o, none⟩ := fun u b o h => u.h.cell (p := ⟨b, o, none⟩) h
      have hbeln : Nonempty (Bel w2.heap.size w2) := ⟨⟨w2, Below.refl _ _⟩⟩
      refine wp_region_bel w2.heap.size (by kernel_rfl) (by kernel_rfl) ?_
      repeat (go_big_quiet_step ((first | (go_at_call 115; refine quiet_bel (Nat.le_refl _) (HTO.out _ ?_ _); first | exact HO2.out | exact HO3.out) | (go_at_call 128; exact quiet_bel (Nat.le_refl _) (HPR.out _)))))
      refine wpQuiet_nil ?_
      intro wB hB0; obtain ⟨uB, hu⟩ := hB0; have hbB0 := uB.h; rw [← hu] at hbB0; clear hu uB hbelc hbeln
      obtain ⟨hbB, hcB, hsB⟩ := bcell2 hbB0; clear hbB0
      have hb3 := HB2.out.trans (hbB.mono HB2.out.size)
      have HB3 := Lib.hid hb3; clear hb3
      clear hcB hsB hbB
      go_wp2
      go_ret2
      exact ⟨by rw [HD3.out, HD.out]; rfl, HB3.out⟩
def sqN (a b c : Int) (p q : Int × Int) : Int := prodG a b c (stp p q) (stp p q)
def sqB (a b c : Int) (p q : Int × Int) : Bool := latB a b c || offP p || offP q
def SqPost (a b c : Int) (p q : Int × Int) (w : World) (e : Ending) (w' : World) : Prop := (e = .returned (.tuple (if sqB a b c p q = true then #[.int .i64 0, .int .i64 2] else #[.int .i64 (sqN a b c p q), .int .i64 0]))) ∧ Below w.heap.size w w'
set_option maxRecDepth 100000 in
set_option maxHeartbeats 4000000 in
theorem gSquare_ (a b c : Int) (p q : Int × Int) (w : World) : Calls Try.prog 63 #[.agg #[.int .i64 a, .int .i64 b, .int .i64 c], .agg #[.int .i64 p.1, .int .i64 p.2], .agg #[.int .i64 q.1, .int .i64 q.2]] w (SqPost a b c p q w) := by
  have hb : Below w.heap.size w (((w.alloc (.cells #[.int .i64 a, .int .i64 b, .int .i64 c] 38)).alloc (.cells #[.int .i64 p.1, .int .i64 p.2] 45)).alloc (.cells #[.int .i64 q.1, .int .i64 q.2] 45)) := (((Below.refl _ _).alloc (Nat.le_refl _) _).alloc (by simp) _).alloc (by simp; omega) _
  have hdot := fun W => gDot_ a b c p q q W
  have he : dotB a b c p q q = sqB a b c p q := by
    unfold dotB sqB
    simp only [List.any_cons, List.any_nil, Bool.or_false]
    cases latB a b c <;> cases offP p <;> cases offP q <;> rfl
  have hn : prodG a b c (stp p q) (stp p q) = sqN a b c p q := rfl
  unfold DotPost at hdot
  rw [he, hn] at hdot
  unfold SqPost
  generalize sqN a b c p q = D at *
  cases hs : sqB a b c p q with
  | true =>
    simp only [hs, ↓reduceIte] at hdot
    have HB := Lib.hid hb; have HDOT := Lib.hid hdot; have HE := Lib.hid he; have HN := Lib.hid hn; have HS := Lib.hid hs; clear hb hdot he hn hs
    go_enter Try.func63, Try.ntmps63
    go_wp2_with fail
    refine (HDOT.out _).mono ?_
    rintro e w1 ⟨rfl, b1⟩
    have hb1 := HB.out.trans (b1.mono HB.out.size)
    clear b1
    have HB1 := Lib.hid hb1; clear hb1
    go_wp2
    go_ret2
    exact ⟨rfl, HB1.out⟩
  | false =>
    simp only [hs, Bool.false_eq_true, ↓reduceIte] at hdot
    have HB := Lib.hid hb; have HDOT := Lib.hid hdot; have HE := Lib.hid he; have HN := Lib.hid hn; have HS := Lib.hid hs; clear hb hdot he hn hs
    go_enter Try.func63, Try.ntmps63
    go_wp2_with fail
    refine (HDOT.out _).mono ?_
    rintro e w1 ⟨rfl, b1⟩
    have hb1 := HB.out.trans (b1.mono HB.out.size)
    clear b1
    have HB1 := Lib.hid hb1; clear hb1
    go_wp2
    go_ret2
    exact ⟨rfl, HB1.out⟩
end Go.Proofs.Ytlmhgcllikcedaa
/- The length of a path: what it comes to. -/
namespace Go.Proofs.Ytlmhgcllikcedaa
open Go.RowKit

open Classical in
/-- The normal root of a number. -/
noncomputable def nrt (n : Int) : Int × Int := if h : ∃ ks : Nat × Nat, 0 < n ∧ IsRt n.toNat ks.1 ks.2 then ((h.choose.1 : Int), (h.choose.2 : Int)) else (0, 1)
theorem nrt_is {n : Int} {K S : Nat} (h0 : 0 < n) (h : IsRt n.toNat K S) : nrt n = ((K : Int), (S : Int)) := by
  have hx : ∃ ks : Nat × Nat, 0 < n ∧ IsRt n.toNat ks.1 ks.2 := ⟨(K, S), h0, h⟩
  unfold nrt
  rw [dif_pos hx]
  obtain ⟨e1, e2⟩ := isRt_unique (by omega) hx.choose_spec.2 h
  rw [e1, e2]
/-- What Root returns, of a number that is not too great. -/
theorem root_nrt {n : Int} {w : World} {e : Ending} {w' : World} (h : RootPost n w e w') (hn : n ≤ 1000000000000) : ∃ K S x : Int, e = .returned (.tuple #[.agg #[.int .i64 K, .int .i64 S], .int .i64 x]) ∧ Below w.heap.size w w' ∧ (n ≤ 0 → K = 0) ∧ (0 < n → (K, S) = nrt n ∧ 0 < K ∧ x = 0) := by
  obtain ⟨K, S, x, he, hb, h1, h2, h3⟩ := h
  refine ⟨K, S, x, he, hb, fun hle => ?_, fun h0 => ?_⟩
  · rcases Int.lt_or_eq_of_le hle with h | h
    · exact (h1 (.inl h)).1
    · exact (h2 h).1
  · obtain ⟨hx, hK, hS, hr⟩ := h3 h0 hn
    refine ⟨?_, hK, hx⟩
    rw [nrt_is h0 hr]
    rw [Int.toNat_of_nonneg (by omega), Int.toNat_of_nonneg (by omega)]
theorem nrt_rng {n : Int} {K S : Nat} (h0 : 0 < n) (h1 : n ≤ 1000000000000) (h : IsRt n.toNat K S) : (0 < K ∧ K ≤ 1000000) ∧ 0 < S ∧ S ≤ 1000000000000 := by
  have e := h.1
  have hS := h.2.1
  have hK : 0 < K := by
    rcases Nat.eq_zero_or_pos K with h | h
    · subst h; simp at e; omega
    · exact h
  have h2 : K * K ≤ n.toNat := by rw [e]; exact Nat.le_mul_of_pos_right _ hS
  have h3 : S ≤ n.toNat := by rw [e]; exact Nat.le_mul_of_pos_left _ (Nat.mul_pos hK hK)
  refine ⟨⟨hK, ?_⟩, hS, by omega⟩
  rcases Nat.lt_or_ge 1000000 K with h4 | h4
  · have := Nat.mul_le_mul (show 1000001 ≤ K from h4) (show 1000001 ≤ K from h4)
    omega
  · exact h4
def stepL (o : List (Int × Int)) (n : Int) (r : Int × Int) : List (Int × Int) := if 0 < n then mg 1 o [r] else o
noncomputable def lenF : List Int → List (Int × Int) → List (Int × Int)
  | [], o => o
  | n :: l, o => lenF l (stepL o n (nrt n))
theorem lenF_snoc (n : Int) : ∀ (l : List Int) (o : List (Int × Int)), lenF (l ++ [n]) o = stepL (lenF l o) n (nrt n)
  | [], _ => rfl
  | x :: l, o => by rw [List.cons_append, lenF, lenF]; exact lenF_snoc n l _
/-- Factors from 1 up to a bound. -/
def Pos (X : Int) (xs : List (Int × Int)) : Prop := ∀ x ∈ xs, 0 < x.1 ∧ x.1 ≤ X
theorem mg_len (bz : Int) (xs ys : List (Int × Int)) : (mg bz xs ys).length ≤ xs.length + ys.length := by
  fun_induction mg bz xs ys with
  | case1 => simp
  | case2 => simp
  | case3 x xs y ys h ih => simp at ih ⊢; omega
  | case4 x xs y ys h h2 ih => simp at ih ⊢; omega
  | case5 x xs y ys h h2 h3 ih => simp at ih ⊢; omega
  | case6 x xs y ys h h2 h3 ih => simp at ih ⊢; omega
theorem mg_pos {X Y : Int} (hX0 : 0 ≤ X) (hY0 : 0 ≤ Y) (xs ys : List (Int × Int)) (hx : Pos X xs) (hy : Pos Y ys) : Pos (X + Y) (mg 1 xs ys) := by
  generalize hbz : (1 : Int) = bz
  fun_induction mg bz xs ys with
  | case1 ys =>
    intro z hz
    obtain ⟨y, hy2, rfl⟩ := List.mem_map.1 hz
    have := hy y hy2
    subst hbz
    simp only [Int.one_mul]; omega
  | case2 x xs => intro z hz; have := hx z hz; omega
  | case3 x xs y ys h ih =>
    intro z hz
    rcases List.mem_cons.1 hz with rfl | h1
    · have := hx z (List.mem_cons_self ..); omega
    · exact ih (fun q hq => hx q (List.mem_cons_of_mem _ hq)) hy z h1
  | case4 x xs y ys h h2 ih =>
    intro z hz
    rcases List.mem_cons.1 hz with rfl | h1
    · have := hy y (List.mem_cons_self ..); subst hbz; simp only [Int.one_mul]; omega
    · exact ih hx (fun q hq => hy q (List.mem_cons_of_mem _ hq)) z h1
  | case5 x xs y ys h h2 h3 ih =>
    exact ih (fun q hq => hx q (List.mem_cons_of_mem _ hq)) (fun q hq => hy q (List.mem_cons_of_mem _ hq))
  | case6 x xs y ys h h2 h3 ih =>
    intro z hz
    rcases List.mem_cons.1 hz with rfl | h1
    · have a := hx x (List.mem_cons_self ..)
      have b := hy y (List.mem_cons_self ..)
      subst hbz; simp only [Int.one_mul]; omega
    · exact ih (fun q hq => hx q (List.mem_cons_of_mem _ hq)) (fun q hq => hy q (List.mem_cons_of_mem _ hq)) z h1
theorem mg_norm (bz : Int) (xs ys : List (Int × Int)) : ∀ p, normB p xs = true → normB p ys = true → normB p (mg bz xs ys) = true := by
  fun_induction mg bz xs ys with
  | case1 ys =>
    intro p hx hy
    clear hx
    induction ys generalizing p with
    | nil => rfl
    | cons y ys ih =>
      rw [normB, Bool.and_eq_true] at hy
      rw [List.map_cons, normB, Bool.and_eq_true]
      exact ⟨hy.1, ih _ hy.2⟩
  | case2 x xs => intro p hx _; exact hx
  | case3 x xs y ys h ih =>
    intro p hx hy
    rw [normB, Bool.and_eq_true] at hx ⊢
    refine ⟨hx.1, ih _ hx.2 ?_⟩
    rw [normB, Bool.and_eq_true, Bool.and_eq_true, decide_eq_true_eq] at hy ⊢
    exact ⟨⟨hy.1.1, h⟩, hy.2⟩
  | case4 x xs y ys h h2 ih =>
    intro p hx hy
    rw [normB, Bool.and_eq_true] at hy ⊢
    refine ⟨hy.1, ih _ ?_ hy.2⟩
    rw [normB, Bool.and_eq_true, Bool.and_eq_true, decide_eq_true_eq] at hx ⊢
    exact ⟨⟨hx.1.1, h2⟩, hx.2⟩
  | case5 x xs y ys h h2 h3 ih =>
    intro p hx hy
    rw [normB, Bool.and_eq_true] at hx hy
    have e : x.2 = y.2 := by omega
    have hx1 := hx.1
    rw [Bool.and_eq_true, decide_eq_true_eq] at hx1
    have := ih x.2 hx.2 (e ▸ hy.2)
    have hm : ∀ (l : List (Int × Int)) (q : Int), p < q → normB q l = true → normB p l = true := by
      intro l q hq hl
      cases l with
      | nil => rfl
      | cons z l =>
        rw [normB, Bool.and_eq_true, Bool.and_eq_true, decide_eq_true_eq] at hl ⊢
        exact ⟨⟨hl.1.1, by omega⟩, hl.2⟩
    exact hm _ _ hx1.2 this
  | case6 x xs y ys h h2 h3 ih =>
    intro p hx hy
    rw [normB, Bool.and_eq_true] at hx hy ⊢
    have e : x.2 = y.2 := by omega
    exact ⟨hx.1, ih _ hx.2 (e ▸ hy.2)⟩
theorem Pos.mono {X Y : Int} {xs : List (Int × Int)} (h : Pos X xs) (hxy : X ≤ Y) : Pos Y xs := fun x hx => by have := h x hx; omega
theorem mg_two {X Y : Int} (xs ys : List (Int × Int)) (bz : Int) (hx : ∀ x ∈ xs, X ≤ x.2 ∧ x.2 ≤ Y) (hy : ∀ x ∈ ys, X ≤ x.2 ∧ x.2 ≤ Y) : ∀ z ∈ mg bz xs ys, X ≤ z.2 ∧ z.2 ≤ Y := by
  fun_induction mg bz xs ys with
  | case1 ys =>
    intro z hz
    obtain ⟨y, hy2, rfl⟩ := List.mem_map.1 hz
    exact hy y hy2
  | case2 x xs => exact hx
  | case3 x xs y ys h ih =>
    intro z hz
    rcases List.mem_cons.1 hz with rfl | h1
    · exact hx z (List.mem_cons_self ..)
    · exact ih (fun q hq => hx q (List.mem_cons_of_mem _ hq)) hy z h1
  | case4 x xs y ys h h2 ih =>
    intro z hz
    rcases List.mem_cons.1 hz with rfl | h1
    · exact hy y (List.mem_cons_self ..)
    · exact ih hx (fun q hq => hy q (List.mem_cons_of_mem _ hq)) z h1
  | case5 x xs y ys h h2 h3 ih =>
    exact ih (fun q hq => hx q (List.mem_cons_of_mem _ hq)) (fun q hq => hy q (List.mem_cons_of_mem _ hq))
  | case6 x xs y ys h h2 h3 ih =>
    intro z hz
    rcases List.mem_cons.1 hz with rfl | h1
    · exact hx x (List.mem_cons_self ..)
    · exact ih (fun q hq => hx q (List.mem_cons_of_mem _ hq)) (fun q hq => hy q (List.mem_cons_of_mem _ hq)) z h1
/-- A sum as Length makes it, of so many steps. -/
structure LenS (k : Nat) (o : List (Int × Int)) : Prop where
  ln : o.length ≤ k
  ps : Pos ((k : Int) * 1000000) o
  nm : normB 0 o = true
  rg : ∀ x ∈ o, 1 ≤ x.2 ∧ x.2 ≤ 1000000000000
theorem LenS.zero : LenS 0 [] := ⟨by simp, fun x hx => (by cases hx), rfl, fun x hx => (by cases hx)⟩
theorem LenS.more {k : Nat} {o : List (Int × Int)} (h : LenS k o) : LenS (k + 1) o := ⟨by have := h.ln; omega, h.ps.mono (by omega), h.nm, h.rg⟩
theorem LenS.step {k : Nat} {o : List (Int × Int)} (h : LenS k o) {n : Int} {K S : Int} (hn : n ≤ 1000000000000) (h0 : 0 < n) (hr : IsRt n.toNat K.toNat S.toNat) (hK : 0 < K) (hS : 0 < S) : LenS (k + 1) (mg 1 o [(K, S)]) := by
  obtain ⟨⟨r1, r2⟩, r3, r4⟩ := nrt_rng h0 hn hr
  have hp : Pos 1000000 [(K, S)] := fun x hx => by
    rw [List.mem_singleton.1 hx]
    simp only; omega
  refine ⟨?_, ?_, ?_, ?_⟩
  · have := mg_len 1 o [(K, S)]
    have := h.ln
    simp at *; omega
  · refine (mg_pos (X := (k : Int) * 1000000) (by omega) (by decide) o _ h.ps hp).mono (by omega)
  · refine mg_norm 1 _ _ 0 h.nm ?_
    rw [normB, normB, Bool.and_true, Bool.and_eq_true, decide_eq_true_eq]
    exact ⟨sqfB_iff.2 hr.2, hS⟩
  · refine mg_two _ _ _ h.rg fun x hx => ?_
    rw [List.mem_singleton.1 hx]
    simp only; omega
theorem LenS.chk {k : Nat} {o : List (Int × Int)} (h : LenS k o) (hk : k ≤ 1000) (hl : o.length ≤ 64) : chkE o = 0 := by
  unfold chkE
  rw [if_neg (by omega), if_neg ?_, if_pos h.nm]
  intro hany
  obtain ⟨x, hx, h1⟩ := List.any_eq_true.1 hany
  have a := h.ps x hx
  have b := h.rg x hx
  unfold rngB wrongB at h1
  simp at h1
  omega
theorem LenS.med {k : Nat} {o : List (Int × Int)} (h : LenS k o) (hk : k ≤ 1000) : Med o := fun x hx => by
  have a := h.ps x hx
  omega
/-- The squares of a path's steps. -/
def sqA (a b c : Int) (ps : List (Int × Int)) (i : Nat) : Int := sqN a b c (ps.getD (i - 1) (0, 0)) (ps.getD i (0, 0))
def sqsK (a b c : Int) (ps : List (Int × Int)) (k : Nat) : List Int := (List.range k).map (sqA a b c ps)
theorem sqsK_succ (a b c : Int) (ps : List (Int × Int)) (k : Nat) : sqsK a b c ps (k + 1) = sqsK a b c ps k ++ [sqA a b c ps k] := by
  unfold sqsK; rw [List.range_succ, List.map_append]; rfl
theorem sqsK_length (a b c : Int) (ps : List (Int × Int)) (k : Nat) : (sqsK a b c ps k).length = k := by unfold sqsK; simp
/-- What Length returns: the sum and the error. -/
noncomputable def lenR (a b c : Int) (ps : List (Int × Int)) : List (Int × Int) × Int :=
  if 500 < ps.length then ([], 3) else if latB a b c = true then ([], 2) else if ps.any offP = true then ([], 2)
  else if (sqsK a b c ps ps.length).any (fun n => decide (1000000000000 < n)) = true then ([], 7)
  else if 64 < (lenF (sqsK a b c ps ps.length) []).length then ([], 3) else (lenF (sqsK a b c ps ps.length) [], 0)
end Go.Proofs.Ytlmhgcllikcedaa
/- Cmp: the sign of a difference. -/
namespace Go.Proofs.Ytlmhgcllikcedaa
open Go.RowKit

/-- The sign of one sum less another one. -/
noncomputable def cmpO (a b : List (Int × Int)) : Int := if bothE a b = 0 then sgV (mg (-1) a b) else 0
theorem chk_med {xs : List (Int × Int)} (h : chkE xs = 0) : xs.length ≤ 64 ∧ Nm xs ∧ ∀ x ∈ xs, (-1000000000 ≤ x.1 ∧ x.1 ≤ 1000000000) ∧ 1 ≤ x.2 ∧ x.2 ≤ 1000000000000 := by
  unfold chkE at h
  split at h
  · cases h
  · rename_i h1
    split at h
    · cases h
    · rename_i h2
      split at h
      · rename_i h3
        have hx : ∀ x ∈ xs, x.1 ≠ 0 ∧ (-1000000000 ≤ x.1 ∧ x.1 ≤ 1000000000) ∧ 1 ≤ x.2 ∧ x.2 ≤ 1000000000000 := fun x hx => by
          have h4 : xs.any rngB = false := by simpa using h2
          have := List.any_eq_false.1 h4 x hx
          unfold rngB wrongB at this
          simp at this
          omega
        exact ⟨by omega, ⟨h3, fun x hx' => (hx x hx').1⟩, fun x hx' => (hx x hx').2⟩
      · cases h
theorem mg_rng {X : Int} (bz : Int) (hb : bz = 1 ∨ bz = -1) (xs ys : List (Int × Int)) (hx : ∀ x ∈ xs, x.1 ≠ 0 ∧ -X ≤ x.1 ∧ x.1 ≤ X) (hy : ∀ x ∈ ys, x.1 ≠ 0 ∧ -X ≤ x.1 ∧ x.1 ≤ X) : ∀ z ∈ mg bz xs ys, z.1 ≠ 0 ∧ -(2 * X) ≤ z.1 ∧ z.1 ≤ 2 * X := by
  fun_induction mg bz xs ys with
  | case1 ys =>
    intro z hz
    obtain ⟨y, hy2, rfl⟩ := List.mem_map.1 hz
    have := hy y hy2
    rcases hb with rfl | rfl <;> simp only <;> omega
  | case2 x xs => intro z hz; have := hx z hz; omega
  | case3 x xs y ys h ih =>
    intro z hz
    rcases List.mem_cons.1 hz with rfl | h1
    · have := hx z (List.mem_cons_self ..); omega
    · exact ih (fun q hq => hx q (List.mem_cons_of_mem _ hq)) hy z h1
  | case4 x xs y ys h h2 ih =>
    intro z hz
    rcases List.mem_cons.1 hz with rfl | h1
    · have := hy y (List.mem_cons_self ..); rcases hb with rfl | rfl <;> simp only <;> omega
    · exact ih hx (fun q hq => hy q (List.mem_cons_of_mem _ hq)) z h1
  | case5 x xs y ys h h2 h3 ih =>
    exact ih (fun q hq => hx q (List.mem_cons_of_mem _ hq)) (fun q hq => hy q (List.mem_cons_of_mem _ hq))
  | case6 x xs y ys h h2 h3 ih =>
    intro z hz
    rcases List.mem_cons.1 hz with rfl | h1
    · have a := hx x (List.mem_cons_self ..)
      have b := hy y (List.mem_cons_self ..)
      rcases hb with rfl | rfl <;> simp only at h3 ⊢ <;> omega
    · exact ih (fun q hq => hx q (List.mem_cons_of_mem _ hq)) (fun q hq => hy q (List.mem_cons_of_mem _ hq)) z h1
/-- The difference of two sums that are right. -/
theorem diff_nm {a b : List (Int × Int)} (h : bothE a b = 0) : chkE a = 0 ∧ chkE b = 0 ∧ Nm (mg (-1) a b) ∧ Mod (mg (-1) a b) ∧ (mg (-1) a b).length ≤ a.length + b.length ∧ ∀ x ∈ mg (-1) a b, x.1.natAbs ≤ 1000000000000 ∧ x.2.toNat ≤ 1000000000000 := by
  unfold bothE at h
  have h1 : chkE a = 0 := by
    by_cases h0 : chkE a = 0
    · exact h0
    · rw [if_pos h0] at h; exact absurd h h0
  rw [if_neg (by simpa using h1)] at h
  obtain ⟨l1, n1, r1⟩ := chk_med h1
  obtain ⟨l2, n2, r2⟩ := chk_med h
  have hr := mg_rng (X := 1000000000) (-1) (.inr rfl) a b (fun x hx => ⟨n1.2 x hx, (r1 x hx).1⟩) (fun x hx => ⟨n2.2 x hx, (r2 x hx).1⟩)
  have ht := mg_two (X := 1) (Y := 1000000000000) a b (-1) (fun x hx => (r1 x hx).2) (fun x hx => (r2 x hx).2)
  have hl := mg_len (-1) a b
  refine ⟨h1, h, ⟨mg_norm (-1) a b 0 n1.1 n2.1, fun x hx => (hr x hx).1⟩, ⟨by omega, fun x hx => ?_⟩, hl, fun x hx => ?_⟩
  · have := hr x hx
    have := ht x hx
    omega
  · have := hr x hx
    have := ht x hx
    omega
theorem vF_nl2 {sc b : Nat} (hs : sc < 2 ^ 62) {xs : List (Int × Int)} (hm : Mod xs) (hb : b ≤ 140737488355328) (j : Nat) : nl (vF sc b xs j) ≤ 281474976710656 := by
  have h := vF_lt (bits := b) hs hm xs.length j
  rw [List.take_length] at h
  refine Nat.le_trans (nl_bits h) ?_
  omega
set_option maxRecDepth 100000 in
set_option maxHeartbeats 8000000 in
theorem tnCmp_ (A B : Option Addr) (ca cb J : Nat) (a b : List (Int × Int)) (w : World) (ha : RdR w A a) (hb : RdR w B b) (hca : a.length ≤ ca) (hcb : b.length ≤ cb) (hJ : J ≤ 42) (hstop : bothE a b = 0 → cmpQ (mg (-1) a b) (32 * 2 ^ J)) :
    Calls Try.prog 32 #[.slice A a.length ca, .slice B b.length cb] w fun e w' => e = .returned (.tuple #[.int .i64 (cmpO a b), .int .i64 (bothE a b)]) ∧ Below w.heap.size w w' := by
  have hT := heap_alloc_new w (.cells #[.slice A a.length ca, .slice B b.length cb] 22)
  have hbT : Below w.heap.size w (w.alloc (.cells #[.slice A a.length ca, .slice B b.length cb] 22)) := (Below.refl _ _).alloc (Nat.le_refl _) _
  have hbo := tnBoth_ A B ca cb w.heap.size a b _ (ha.later hbT (Nat.le_refl _)) (hb.later hbT (Nat.le_refl _)) hT
  have hco : cmpO a b = if bothE a b = 0 then sgV (mg (-1) a b) else 0 := rfl
  have hdn := @diff_nm a b
  obtain ⟨eb, heb⟩ : ∃ eb, eb = bothE a b := ⟨_, rfl⟩
  obtain ⟨V, hV⟩ : ∃ V, V = cmpO a b := ⟨_, rfl⟩
  rw [← heb] at hbo hco hdn hstop
  rw [← hV] at hco
  rw [← heb, ← hV]
  by_cases h0 : eb = 0
  rotate_left
  · have f1 : (eb != 0) = true := by simp [h0]
    rw [if_neg h0] at hco
    have HA := Lib.hid ha; have HB := Lib.hid hb; have HCA := Lib.hid hca; have HCB := Lib.hid hcb; have HSTOP := Lib.hid hstop; have HT := Lib.hid hT; have HBT := Lib.hid hbT; have HBO := Lib.hid hbo; have HCO := Lib.hid hco; have HDN := Lib.hid hdn; have HEB := Lib.hid heb; have HV := Lib.hid hV; have H0 := Lib.hid h0; clear ha hb hca hcb hstop hT hbT hbo hco hdn heb hV h0
    go_enter Try.func32, Try.ntmps32
    go_wp2_with fail
    refine HBO.out.mono ?_
    rintro e w1 ⟨rfl, b1⟩
    have hb1 := HBT.out.trans (b1.mono HBT.out.size)
    clear b1
    have HB1 := Lib.hid hb1; clear hb1
    go_wp2
    go_ret2
    exact ⟨by rw [HCO.out]; rfl, HB1.out⟩
  · rw [if_pos h0] at hco
    obtain ⟨k1, k2, hnm, hmod, hlen, hbd⟩ := hdn h0
    obtain ⟨l1, _, r1⟩ := chk_med k1
    obtain ⟨l2, _, r2⟩ := chk_med k2
    have hst := hstop h0
    have hmg := fun W (hW : Below w.heap.size w W) => tnMerge_ A B ca cb (-1) (.inr rfl) a b W (ha.later hW (Nat.le_refl _)) (hb.later hW (Nat.le_refl _)) hca hcb (fun x hx => by have := r1 x hx; omega) (fun x hx => by have := r2 x hx; omega) (by omega)
    clear hstop hdn
    generalize mg (-1) a b = d at *
    subst h0
    have hpos := fun (h : d ≠ []) q (hq : 0 ≤ loI 1 q d) => sgV_pos h hq
    have hneg := fun (h : d ≠ []) q (hq : upI 1 q d ≤ 0) => sgV_neg hnm h hq
    have hnil : d = [] → sgV d = 0 := fun h => by rw [h]; exact sgV_nil
    rw [← hco] at hpos hneg hnil
    clear k1 k2 r1 r2 hco
    have hdl : d.length ≤ 128 := by omega
    clear hlen l1 l2
    have HA := Lib.hid ha; have HB := Lib.hid hb; have HCA := Lib.hid hca; have HCB := Lib.hid hcb; have HST := Lib.hid hst; have HT := Lib.hid hT; have HBT := Lib.hid hbT; have HBO := Lib.hid hbo; have HEB := Lib.hid heb; have HV := Lib.hid hV; have HNM := Lib.hid hnm; have HMOD := Lib.hid hmod; have HBD := Lib.hid hbd; have HMG := Lib.hid hmg; have HPOS := Lib.hid hpos; have HNEG := Lib.hid hneg; have HNIL := Lib.hid hnil; have HJ := Lib.hid hJ; have HDL := Lib.hid hdl; clear ha hb hca hcb hst hT hbT hbo heb hV hnm hmod hbd hmg hpos hneg hnil hJ hdl
    go_enter Try.func32, Try.ntmps32
    go_wp2_with fail
    refine HBO.out.mono ?_
    rintro e w1 ⟨rfl, b1⟩
    have hb1 := HBT.out.trans (b1.mono HBT.out.size)
    clear b1
    have HB1 := Lib.hid hb1; clear hb1
    go_wp2_with fail
    refine (HMG.out _ HB1.out).mono ?_
    rintro e w2 ⟨A2, c2, rfl, hr2, hc2, b2⟩
    have hb2 := HB1.out.trans (b2.mono HB1.out.size)
    clear b2
    by_cases hd0 : d = []
    · have hv := HNIL.out hd0
      have hlz : d.length = 0 := by rw [hd0]; rfl
      rw [hlz]
      clear hlz
      subst hv
      have HB2 := Lib.hid hb2; have HD0 := Lib.hid hd0; have HR2 := Lib.hid hr2; have HC2 := Lib.hid hc2; clear hb2 hd0 hr2 hc2
      go_wp2
      go_loopw [8] (fun bv wr => wr = w2) (fun _ _ => 0)
      case atStart => rfl
      case round =>
        subst hrel
        go_wp2
        go_ret2
        exact ⟨rfl, HB2.out⟩
    · have hlp : 0 < d.length := List.length_pos_iff.2 hd0
      have g1 : decide ((0 : Int) < (d.length : Int)) = true := decide_eq_true (by omega)
      have hps := HPOS.out hd0
      have hng := HNEG.out hd0
      have HB2 := Lib.hid hb2; have HD0 := Lib.hid hd0; have HR2 := Lib.hid hr2; have HC2 := Lib.hid hc2; have HLP := Lib.hid hlp; have HPS := Lib.hid hps; have HNG := Lib.hid hng; clear hb2 hd0 hr2 hc2 hlp hps hng
      go_wp2
      go_loopw [4, 5, 8, 9] (fun _ _ bv _ wr => ∃ j : Nat, bv = .int .u64 ((32 * 2 ^ j : Nat) : Int) ∧ j ≤ J ∧ Below w2.heap.size w2 wr) (fun _ _ bv _ _ => 32 * 2 ^ J - (intOf bv).toNat)
      case atStart => exact ⟨0, rfl, Nat.zero_le _, Below.refl _ _⟩
      case round =>
        obtain ⟨j, rfl, hjJ, hbw⟩ := hrel
        have hrr := HR2.out.later hbw (Nat.le_refl _)
        have hbM : 32 * 2 ^ j ≤ 32 * 2 ^ J := Nat.mul_le_mul_left _ (Nat.pow_le_pow_right (by decide) hjJ)
        have hbM2 : 32 * 2 ^ J ≤ 140737488355328 := Nat.mul_le_mul_left 32 (Nat.pow_le_pow_right (show 2 > 0 by decide) HJ.out : 2 ^ J ≤ 2 ^ 42)
        have hb1 : 32 ≤ 32 * 2 ^ j := by have := Nat.two_pow_pos j; omega
        have hnx : 32 * 2 ^ (j + 1) = 2 * (32 * 2 ^ j) := by rw [Nat.pow_succ]; omega
        have hst : j = J → cmpQ d (32 * 2 ^ j) := fun h => by subst h; exact HST.out
        have hlt : j < J → 32 * 2 ^ (j + 1) ≤ 32 * 2 ^ J := fun h => Nat.mul_le_mul_left _ (Nat.pow_le_pow_right (by decide) h)
        generalize hM : 32 * 2 ^ J = M at *
        generalize hbe : 32 * 2 ^ j = q at *
        generalize hb2e : 32 * 2 ^ (j + 1) = qq at *
        have hbt2 : ∀ W, RdR W A2 d → Calls Try.prog 56 #[.slice A2 d.length c2, .int .i64 1, .int .u64 (q : Int)] W (BtPost (vF 1 q d) W) := fun W h => tnBetween_ A2 c2 1 q d W h HMOD.out (by decide) (by omega)
        have hvn := fun k => vF_nl2 (sc := 1) (b := q) (xs := d) (by decide) HMOD.out (by omega) k
        have hvl := vF_lo q d
        have hwr : IntKind.u64.wrap ((q : Int) * 2) = (qq : Int) := by rw [IntWalk.u64_in _ (by omega)]; omega
        have HJJ := Lib.hid hjJ; have HBW := Lib.hid hbw; have HRR := Lib.hid hrr; have HBM := Lib.hid hbM; have HBM2 := Lib.hid hbM2; have HB1 := Lib.hid hb1; have HNX := Lib.hid hnx; have HST := Lib.hid hst; have HLT := Lib.hid hlt; have HBT2 := Lib.hid hbt2; have HVN := Lib.hid hvn; have HVL := Lib.hid hvl; have HM := Lib.hid hM; have HBE := Lib.hid hbe; have HB2E := Lib.hid hb2e; clear hjJ hbw hrr hbM hbM2 hb1 hnx hst hlt hbt2 hvn hvl hM hbe hb2e
        go_wp2_with fail
        refine (HBT2.out _ HRR.out).mono ?_
        rintro e w3 ⟨VA, VC, rfl, hvv, b1⟩
        have hbw1 := HBW.out.trans (b1.mono HBW.out.size)
        clear b1 HBW HRR
        have hV2 : VB (w3.alloc (.cells #[.slice (VA 0) (nl (vF 1 q d 0)) (VC 0), .slice (VA 1) (nl (vF 1 q d 1)) (VC 1), .slice (VA 2) (nl (vF 1 q d 2)) (VC 2), .slice (VA 3) (nl (vF 1 q d 3)) (VC 3)] 101)) w3.heap.size (vF 1 q d) VA VC := by
          have hbT : Below w3.heap.size w3 (w3.alloc (.cells #[.slice (VA 0) (nl (vF 1 q d 0)) (VC 0), .slice (VA 1) (nl (vF 1 q d 1)) (VC 1), .slice (VA 2) (nl (vF 1 q d 2)) (VC 2), .slice (VA 3) (nl (vF 1 q d 3)) (VC 3)] 101)) := (Below.refl _ _).alloc (Nat.le_refl _) _
          exact ⟨heap_alloc_new _ _, fun j hj => (hvv j hj).1.later hbT (Nat.le_refl _), fun j hj => (hvv j hj).2⟩
        have hbw2 : Below w2.heap.size w2 (w3.alloc (.cells #[.slice (VA 0) (nl (vF 1 q d 0)) (VC 0), .slice (VA 1) (nl (vF 1 q d 1)) (VC 1), .slice (VA 2) (nl (vF 1 q d 2)) (VC 2), .slice (VA 3) (nl (vF 1 q d 3)) (VC 3)] 101)) := hbw1.alloc hbw1.size _
        clear hvv hbw1
        have HV2 := Lib.hid hV2; have HBW2 := Lib.hid hbw2; clear hV2 hbw2
        go_upto_region 9 with fail
        obtain ⟨w4, hw4⟩ : ∃ w4, w4 = w3.alloc (.cells #[.slice (VA 0) (nl (vF 1 q d 0)) (VC 0), .slice (VA 1) (nl (vF 1 q d 1)) (VC 1), .slice (VA 2) (nl (vF 1 q d 2)) (VC 2), .slice (VA 3) (nl (vF 1 q d 3)) (VC 3)] 101) := ⟨_, rfl⟩
        have hV4 := HV2.out
        have hbw4 := HBW2.out
        rw [← hw4] at hV4 hbw4 ⊢
        clear HV2 HBW2 hw4
        generalize w3.heap.size = VV at *
        have c0 := hV4.at_ (j := 0) (by decide)
        have c3 := hV4.at_ (j := 3) (by decide)
        have hVl := hV4.lt
        have r0 := hV4.rd 0 (by decide)
        have r3 := hV4.rd 3 (by decide)
        have HV4 := Lib.hid hV4; have HBW4 := Lib.hid hbw4; have R0 := Lib.hid r0; have R3 := Lib.hid r3; clear hV4 hbw4 r0 r3
        go_wp2_with fail
        refine (natCompare_ (VA 0) (VA 3) (VC 0) (VC 3) _ _ _ R0.out R3.out (HVN.out 0) (HVN.out 3)).mono ?_
        rintro e w5 ⟨z, rfl, hz, b1⟩
        have hV5 := HV4.out.later b1
        have hbw5 := HBW4.out.trans (b1.mono HBW4.out.size)
        have hz0 : 0 ≤ z ↔ 0 ≤ loI 1 q d := by
          rw [← HVL.out.1]
          have := hz.1
          omega
        clear b1 HV4 HBW4 R0 R3 c0 c3 hVl hz
        by_cases h1 : 0 ≤ z
        · have hv := HPS.out q (hz0.1 h1)
          subst hv
          have f1 : decide (0 ≤ z) = true := decide_eq_true h1
          have hb5 := HB2.out.trans (hbw5.mono HB2.out.size)
          clear hz0 hbw5 hV5
          have H1 := Lib.hid h1; have HB5 := Lib.hid hb5; clear h1 hb5
          go_wp2
          go_ret2
          exact ⟨rfl, HB5.out⟩
        · have f1 : decide (0 ≤ z) = false := decide_eq_false h1
          have hnl : ¬ 0 ≤ loI 1 q d := fun h => h1 (hz0.2 h)
          have c1 := hV5.at_ (j := 1) (by decide)
          have c2 := hV5.at_ (j := 2) (by decide)
          have hVl := hV5.lt
          have r1 := hV5.rd 1 (by decide)
          have r2 := hV5.rd 2 (by decide)
          clear hz0
          have H1 := Lib.hid h1; have HV5 := Lib.hid hV5; have HBW5 := Lib.hid hbw5; have R1 := Lib.hid r1; have R2 := Lib.hid r2; have HNL := Lib.hid hnl; clear h1 hV5 hbw5 r1 r2 hnl
          go_wp2_with fail
          refine (natCompare_ (VA 2) (VA 1) (VC 2) (VC 1) _ _ _ R2.out R1.out (HVN.out 2) (HVN.out 1)).mono ?_
          rintro e w6 ⟨y, rfl, hy, b1⟩
          have hbw6 := HBW5.out.trans (b1.mono HBW5.out.size)
          have hy0 : y ≤ 0 ↔ upI 1 q d ≤ 0 := by
            rw [← HVL.out.2]
            have := hy.1
            have := hy.2.1
            omega
          clear b1 HV5 HBW5 R1 R2 c1 c2 hVl hy
          by_cases h2 : y ≤ 0
          · have hv := HNG.out q (hy0.1 h2)
            subst hv
            have f2 : decide (y ≤ 0) = true := decide_eq_true h2
            have hb5 := HB2.out.trans (hbw6.mono HB2.out.size)
            clear hy0 hbw6
            have H2 := Lib.hid h2; have HB5 := Lib.hid hb5; clear h2 hb5
            go_wp2
            go_ret2
            exact ⟨rfl, HB5.out⟩
          · have f2 : decide (y ≤ 0) = false := decide_eq_false h2
            have hjlt : j < J := by
              rcases Nat.lt_or_ge j J with h | h
              · exact h
              · have hc := HST.out (by have := HJJ.out; omega)
                rcases hc with h | h
                · have := HNL.out; omega
                · exact absurd (hy0.2 h) h2
            have hqm := HLT.out hjlt
            have hqlt : q < qq := by have := HNX.out; have := HB1.out; omega
            clear hy0
            have H2 := Lib.hid h2; have HBW6 := Lib.hid hbw6; have HJLT := Lib.hid hjlt; have HQM := Lib.hid hqm; have HQLT := Lib.hid hqlt; clear h2 hbw6 hjlt hqm hqlt
            go_wp2
            go_roundw
            case rel => exact ⟨j + 1, by rw [HB2E.out], HJLT.out, HBW6.out⟩
            case measure =>
              have := HQM.out
              have := HQLT.out
              simp [intOf]
              omega
end Go.Proofs.Ytlmhgcllikcedaa
/- The greatest number; rows of int64. -/
namespace Go.Proofs.Ytlmhgcllikcedaa
open Go.RowKit

def MaxPost (xs : List Int) (w : World) (e : Ending) (w' : World) : Prop := ∃ m : Int, e = .returned (.int .i64 m) ∧ (∀ k : Int, k < m ↔ xs.any (fun n => decide (k < n)) = true) ∧ Below w.heap.size w w'
set_option maxRecDepth 100000 in
set_option maxHeartbeats 2000000 in
theorem maxI6_ (A : Option Addr) (c : Nat) (xs : List Int) (w : World) (hr : RdI w A xs) (h0 : 0 < xs.length) : Calls Try.prog 64 #[.slice A xs.length c] w (MaxPost xs w) := by
  have hln := hr.1
  have hb := Below.refl w.heap.size w
  obtain ⟨bl, ol, rfl, hbl, l1⟩ := hr.at_ h0
  rw [Nat.add_zero] at l1
  have hfst : ∀ k : Int, k < xs[0] ↔ (xs.take 1).any (fun n => decide (k < n)) = true := fun k => by
    rw [List.take_succ_eq_append_getElem h0]
    simp
  have x1 : ¬ (xs.length : Int) < 1 := by omega
  have x2 : (0 : Int) < (xs.length : Int) := by omega
  have x3 : decide ((xs.length : Int) < 1) = false := decide_eq_false x1
  have x4 : decide (xs.length < 1) = false := decide_eq_false (by omega)
  have x5 : 0 < xs.length := h0
  generalize xs[0] = m0 at *
  have HR := Lib.hid hr; have HB := Lib.hid hb; have HFST := Lib.hid hfst; have H0 := Lib.hid h0; clear hr hb hfst h0
  go_enter Try.func64, Try.ntmps64
  go_wp2
  go_loopw [3, 4] (fun mv iv wr => ∃ (k : Nat) (m : Int), iv = .int .i64 (k : Int) ∧ mv = .int .i64 m ∧ 1 ≤ k ∧ k ≤ xs.length ∧ (∀ z : Int, z < m ↔ (xs.take k).any (fun n => decide (z < n)) = true) ∧ Below w.heap.size w wr) (fun _ iv _ => xs.length - (intOf iv).toNat)
  case atStart => exact ⟨1, m0, rfl, rfl, Nat.le_refl _, H0.out, HFST.out, HB.out⟩
  case round =>
    clear x1 x2 x3 x4 x5 l1
    obtain ⟨k, m, rfl, rfl, hk1, hk, hm, hbw⟩ := hrel
    by_cases hlt : k < xs.length
    · obtain ⟨b2, o2, e2, hbl2, l2⟩ := (HR.out.later hbw (Nat.le_refl _)).at_ hlt
      injection e2 with e2; injection e2 with e3 e4; subst e3; subst e4
      have hsn := List.take_succ_eq_append_getElem hlt
      have hm2 : ∀ z : Int, z < max m xs[k] ↔ (xs.take (k + 1)).any (fun n => decide (z < n)) = true := fun z => by
        rw [hsn, List.any_append, Bool.or_eq_true, ← hm z]
        simp
        omega
      have x1 : (0 : Int) ≤ (k : Int) := by omega
      have x2 : (k : Int) < (xs.length : Int) := by omega
      generalize xs[k] = x at *
      by_cases hmx : m < x
      · have e : max m x = x := by omega
        rw [e] at hm2
        have y1 : ¬ x < m := by omega
        have HM := Lib.hid hm; have HM2 := Lib.hid hm2; have HK1 := Lib.hid hk1; have HK := Lib.hid hk; have HBW := Lib.hid hbw; have HSN := Lib.hid hsn; have E := Lib.hid e; clear hm hm2 hk1 hk hbw hsn e
        go_wp2
        go_roundw
        case rel => exact ⟨k + 1, x, by go_num, rfl, by omega, by omega, HM2.out, HBW.out⟩
        case measure => simp [intOf]; omega
      · have e : max m x = m := by omega
        rw [e] at hm2
        have HM := Lib.hid hm; have HM2 := Lib.hid hm2; have HK1 := Lib.hid hk1; have HK := Lib.hid hk; have HBW := Lib.hid hbw; have HSN := Lib.hid hsn; have E := Lib.hid e; clear hm hm2 hk1 hk hbw hsn e
        go_wp2
        go_roundw
        case rel => exact ⟨k + 1, m, by go_num, rfl, by omega, by omega, HM2.out, HBW.out⟩
        case measure => simp [intOf]; omega
    · obtain rfl : k = xs.length := by omega
      rw [List.take_length] at hm
      have x3 : ¬ (xs.length : Int) < (xs.length : Int) := by omega
      have HM := Lib.hid hm; have HBW := Lib.hid hbw; have HK1 := Lib.hid hk1; clear hm hbw hk1
      go_wp2
      go_ret
      exact ⟨m, rfl, HM.out, HBW.out⟩
theorem info_i64_Try : (Try.prog.info? 2).map (fun i => (i.zero, i.size, i.bytes)) = some (some (.int .i64 0), 1, 8) := by kernel_rfl
theorem wpList_appL_Try {ops : Array Oper} {rest : List Oper} {o : Oper} {a : Act} {Q : Exit → Act → World → Prop} {w : World} (hgd : o.guard = none) (s x : Operand)
    (ho : o.op = .call { callee := .builtin .append, args := #[s, x], argTypes := #[112, 112] })
    (base : Nat) (v : Value) (xs : List Int) (hs : a.eval s = v) (hown : w.ownsRow base 2 1 v xs.length (ints xs)) (b : Nat) (z : Int) (hx : a.eval x = .slice (some ⟨b, 0, none⟩) 1 1)
    (hb : w.heap[b]? = some (.cells #[.int .i64 z] 2 (0, 0))) (hn : xs.length ≤ 1000000000) (hbase : base ≤ w.heap.size)
    (h : ∀ g cap w', w'.ownsRow base 2 1 (.slice (some ⟨g, 0, none⟩) (xs.length + 1) cap) (xs ++ [z]).length (ints (xs ++ [z])) → w.grownBy w' v.ownBlock → (v.ownBlock = some g ∨ g = w.heap.size) → g < w'.heap.size →
      wpList Try.prog ops Q rest (a.put o.dst (.slice (some ⟨g, 0, none⟩) (xs.length + 1) cap)) w') : wpList Try.prog ops Q (o :: rest) a w := by
  obtain ⟨i0, hi, hz0, hz1, hz2⟩ := info_parts info_i64_Try
  refine wpList_append_lies w hgd s x 112 ho base 2 i0 (.int .i64 0) 1 8 Try.underlying112 hi hz0 hz1 hz2 rfl (by omega) v xs.length (ints xs) hs hown ⟨b, 0, none⟩ 1 1 [.int .i64 z] hx rfl
    (World.news_of_block hb) (ints_one [z]) (by omega) (by unfold maxLen; omega) (by omega) hbase w.heap.size rfl fun g cap w' h2 h3 h4 h5 => h g cap w' ?_ h3 h4 h5
  rw [List.length_append]
  simpa [ints] using h2
end Go.Proofs.Ytlmhgcllikcedaa
/- Side: where a point lies. -/
namespace Go.Proofs.Ytlmhgcllikcedaa
open Go.RowKit

/-- cmp.Compare. -/
def cmpV (x y : Int) : Int := if x < y then -1 else if y < x then 1 else 0
set_option maxRecDepth 100000 in
set_option maxHeartbeats 2000000 in
theorem nanL_ (x : Int) (w : World) : Calls Try.prog 132 #[.int .i64 x] w fun e w' => e = .returned (.bool false) ∧ w' = w := by
  have h1 : (x != x) = false := by simp
  go_enter Try.func132, Try.ntmps132
  go_wp2
  go_ret
  exact ⟨rfl, rfl⟩
set_option maxRecDepth 100000 in
set_option maxHeartbeats 2000000 in
theorem cmpL_ (x y : Int) (w : World) : Calls Try.prog 114 #[.int .i64 x, .int .i64 y] w fun e w' => e = .returned (.int .i64 (cmpV x y)) ∧ w' = w := by
  have hc1 := fun W => nanL_ x W
  have hc2 := fun W => nanL_ y W
  by_cases h1 : x < y
  · have hv : cmpV x y = -1 := by unfold cmpV; rw [if_pos h1]
    have d1 : decide (x < y) = true := decide_eq_true h1
    have HC1 := Lib.hid hc1; have HC2 := Lib.hid hc2; have HV := Lib.hid hv; clear hc1 hc2 hv
    go_enter Try.func114, Try.ntmps114
    go_wp2_with fail
    refine (HC1.out _).mono ?_
    rintro e w1 ⟨rfl, rfl⟩
    go_wp2_with fail
    refine (HC2.out _).mono ?_
    rintro e w1 ⟨rfl, rfl⟩
    go_wp2
    go_ret
    exact ⟨by rw [HV.out]; rfl, rfl⟩
  have d1 : decide (x < y) = false := decide_eq_false h1
  by_cases h2 : y < x
  · have hv : cmpV x y = 1 := by unfold cmpV; rw [if_neg h1, if_pos h2]
    have d2 : decide (y < x) = true := decide_eq_true h2
    have HC1 := Lib.hid hc1; have HC2 := Lib.hid hc2; have HV := Lib.hid hv; clear hc1 hc2 hv
    go_enter Try.func114, Try.ntmps114
    go_wp2_with fail
    refine (HC1.out _).mono ?_
    rintro e w1 ⟨rfl, rfl⟩
    go_wp2_with fail
    refine (HC2.out _).mono ?_
    rintro e w1 ⟨rfl, rfl⟩
    go_wp2
    go_ret
    exact ⟨by rw [HV.out]; rfl, rfl⟩
  have d2 : decide (y < x) = false := decide_eq_false h2
  have hv : cmpV x y = 0 := by unfold cmpV; rw [if_neg h1, if_neg h2]
  have HC1 := Lib.hid hc1; have HC2 := Lib.hid hc2; have HV := Lib.hid hv; clear hc1 hc2 hv
  go_enter Try.func114, Try.ntmps114
  go_wp2_with fail
  refine (HC1.out _).mono ?_
  rintro e w1 ⟨rfl, rfl⟩
  go_wp2_with fail
  refine (HC2.out _).mono ?_
  rintro e w1 ⟨rfl, rfl⟩
  go_wp2
  go_ret
  exact ⟨by rw [HV.out]; rfl, rfl⟩
/-- The determinant of two steps. -/
def crsG (s t : Int × Int) : Int := s.1 * t.2 - s.2 * t.1
set_option maxRecDepth 100000 in
set_option maxHeartbeats 2000000 in
theorem gCross_ (s t : Int × Int) (w : World) (hs : Stp s) (ht : Stp t) : Calls Try.prog 116 #[.agg #[.int .i64 s.1, .int .i64 s.2], .agg #[.int .i64 t.1, .int .i64 t.2]] w fun e w' => e = .returned (.int .i64 (crsG s t)) ∧ Below w.heap.size w w' := by
  obtain ⟨⟨a1, a2⟩, a3, a4⟩ := hs
  obtain ⟨⟨b1, b2⟩, b3, b4⟩ := ht
  obtain ⟨m1, m2⟩ := mul_rng a1 a2 b3 b4
  obtain ⟨m3, m4⟩ := mul_rng a3 a4 b1 b2
  have hr : crsG s t = s.1 * t.2 - s.2 * t.1 := rfl
  have t1 : IntKind.i64.wrap (s.1 * t.2) = s.1 * t.2 := IntWalk.i64_in _ (by omega)
  have t2 : IntKind.i64.wrap (s.2 * t.1) = s.2 * t.1 := IntWalk.i64_in _ (by omega)
  have t3 : IntKind.i64.wrap (s.1 * t.2 - s.2 * t.1) = s.1 * t.2 - s.2 * t.1 := IntWalk.i64_in _ (by omega)
  have hb : Below w.heap.size w ((w.alloc (.cells #[.int .i64 s.1, .int .i64 s.2] 162)).alloc (.cells #[.int .i64 t.1, .int .i64 t.2] 162)) := ((Below.refl _ _).alloc (Nat.le_refl _) _).alloc (by simp) _
  clear m1 m2 m3 m4 a1 a2 a3 a4 b1 b2 b3 b4
  have HR := Lib.hid hr; have HB := Lib.hid hb; clear hr hb
  go_enter Try.func116, Try.ntmps116
  go_wp2
  go_ret
  exact ⟨by rw [HR.out]; rfl, HB.out⟩
/-- Side's answer, of valid points. -/
def sideV (o p q : Int × Int) : Int := cmpV (crsG (stp o p) (stp o q)) 0
def offB (o p q : Int × Int) : Bool := [o, p, q].any offP
def SidePost (o p q : Int × Int) (w : World) (e : Ending) (w' : World) : Prop := (e = .returned (.tuple (if offB o p q = true then #[.int .i64 0, .int .i64 2] else #[.int .i64 (sideV o p q), .int .i64 0]))) ∧ Below w.heap.size w w'
set_option maxRecDepth 100000 in
set_option maxHeartbeats 4000000 in
theorem gSide_ (o p q : Int × Int) (w : World) : Calls Try.prog 79 #[.agg #[.int .i64 o.1, .int .i64 o.2], .agg #[.int .i64 p.1, .int .i64 p.2], .agg #[.int .i64 q.1, .int .i64 q.2]] w (SidePost o p q w) := by
  have hb : Below w.heap.size w (((w.alloc (.cells #[.int .i64 o.1, .int .i64 o.2] 45)).alloc (.cells #[.int .i64 p.1, .int .i64 p.2] 45)).alloc (.cells #[.int .i64 q.1, .int .i64 q.2] 45)) := (((Below.refl _ _).alloc (Nat.le_refl _) _).alloc (by simp) _).alloc (by simp; omega) _
  have hd : offB o p q = [o, p, q].any offP := rfl
  obtain ⟨w0, hw0⟩ : ∃ w0, w0 = ((w.alloc (.cells #[.int .i64 o.1, .int .i64 o.2] 45)).alloc (.cells #[.int .i64 p.1, .int .i64 p.2] 45)).alloc (.cells #[.int .i64 q.1, .int .i64 q.2] 45) := ⟨_, rfl⟩
  have k3 : w0.cell? ⟨w.heap.size, 0, none⟩ = some (.int .i64 o.1) := by rw [hw0]; go_simp
  have k4 : w0.cell? ⟨w.heap.size, 1, none⟩ = some (.int .i64 o.2) := by rw [hw0]; go_simp
  have k5 : w0.cell? ⟨w.heap.size + 1, 0, none⟩ = some (.int .i64 p.1) := by rw [hw0]; go_simp
  have k6 : w0.cell? ⟨w.heap.size + 1, 1, none⟩ = some (.int .i64 p.2) := by rw [hw0]; go_simp
  have k7 : w0.cell? ⟨w.heap.size + 2, 0, none⟩ = some (.int .i64 q.1) := by rw [hw0]; go_simp
  have k8 : w0.cell? ⟨w.heap.size + 2, 1, none⟩ = some (.int .i64 q.2) := by rw [hw0]; go_simp
  have hs0 : w.heap.size + 3 ≤ w0.heap.size := by rw [hw0]; simp
  have hb0 : Below w.heap.size w w0 := by rw [hw0]; exact hb
  clear hb
  have HD := Lib.hid hd; clear hd
  go_enter Try.func79, Try.ntmps79
  go_upto_region 1 with fail
  rw [← hw0]
  clear hw0
  have x0 : w.heap.size < w0.heap.size := by omega
  have x1 : w.heap.size + 1 < w0.heap.size := by omega
  have x2 : w.heap.size + 2 < w0.heap.size := by omega
  have hT := heap_alloc_new w0 (.cells #[.int .i64 o.1, .int .i64 o.2, .int .i64 p.1, .int .i64 p.2, .int .i64 q.1, .int .i64 q.2] 45)
  have hbT : Below w0.heap.size w0 (w0.alloc (.cells #[.int .i64 o.1, .int .i64 o.2, .int .i64 p.1, .int .i64 p.2, .int .i64 q.1, .int .i64 q.2] 45)) := (Below.refl _ _).alloc (Nat.le_refl _) _
  have HB0 := Lib.hid hb0; have HS0 := Lib.hid hs0; have HT := Lib.hid hT; have HBT := Lib.hid hbT; clear hb0 hs0 hT hbT
  go_wp2_with fail
  refine (gPoint_ (some ⟨w0.heap.size, 0, none⟩) 3 [o, p, q] _ (rdR_three HT.out)).mono ?_
  rintro e w2 ⟨rfl, b1⟩
  have b2 := HBT.out.trans (b1.mono HBT.out.size)
  have k3 := below_at b2 (Nat.le_refl _) k3
  have k4 := below_at b2 (Nat.le_refl _) k4
  have k5 := below_at b2 (Nat.le_refl _) k5
  have k6 := below_at b2 (Nat.le_refl _) k6
  have k7 := below_at b2 (Nat.le_refl _) k7
  have k8 := below_at b2 (Nat.le_refl _) k8
  have hs2 : w.heap.size + 3 ≤ w2.heap.size := Nat.le_trans HS0.out b2.size
  have hb2 := HB0.out.trans (b2.mono HB0.out.size)
  clear b1 b2 x0 x1 x2 HB0 HS0 HBT HT
  have x0 : w.heap.size < w2.heap.size := by omega
  have x1 : w.heap.size + 1 < w2.heap.size := by omega
  have x2 : w.heap.size + 2 < w2.heap.size := by omega
  cases hany : [o, p, q].any offP with
  | true =>
    have hd3 : offB o p q = true := by rw [HD.out, hany]
    have HB2 := Lib.hid hb2; have HS2 := Lib.hid hs2; have HANY := Lib.hid hany; have HD3 := Lib.hid hd3; clear hb2 hs2 hany hd3
    go_wp2
    go_ret2
    exact ⟨by rw [HD3.out]; rfl, HB2.out⟩
  | false =>
    have hd3 : offB o p q = false := by rw [HD.out, hany]
    have ho : offP o = false ∧ offP p = false ∧ offP q = false := by simpa using hany
    obtain ⟨ho1, ho2, ho3⟩ := ho
    have hto := fun (q : Int × Int) (hq : offP q = false) (W : World) => gTo_ o q W ho1 hq
    have hpr : ∀ W, Calls Try.prog 116 #[.agg #[.int .i64 (p.1 - o.1), .int .i64 (p.2 - o.2)], .agg #[.int .i64 (q.1 - o.1), .int .i64 (q.2 - o.2)]] W fun e w' => e = .returned (.int .i64 (crsG (stp o p) (stp o q))) ∧ Below W.heap.size W w' := fun W => gCross_ (stp o p) (stp o q) W (stp_stp ho1 ho2) (stp_stp ho1 ho3)
    obtain ⟨D, hD⟩ : ∃ D, D = crsG (stp o p) (stp o q) := ⟨_, rfl⟩
    rw [← hD] at hpr
    have hcm : ∀ W, Calls Try.prog 114 #[.int .i64 D, .int .i64 0] W fun e w' => e = .returned (.int .i64 (cmpV D 0)) ∧ Below W.heap.size W w' := fun W => (cmpL_ D 0 W).mono fun e w' h => ⟨h.1, by rw [h.2]; exact Below.refl _ _⟩
    have hsv : sideV o p q = cmpV D 0 := by unfold sideV; rw [hD]
    obtain ⟨V, hV⟩ : ∃ V, V = cmpV D 0 := ⟨_, rfl⟩
    rw [← hV] at hcm hsv
    have HB2 := Lib.hid hb2; have HS2 := Lib.hid hs2; have HANY := Lib.hid hany; have HD3 := Lib.hid hd3; have HO1 := Lib.hid ho1; have HO2 := Lib.hid ho2; have HO3 := Lib.hid ho3; have HTO := Lib.hid hto; have HPR := Lib.hid hpr; have HD := Lib.hid hD; have HCM := Lib.hid hcm; have HSV := Lib.hid hsv; have HV := Lib.hid hV; clear hb2 hs2 hany hd3 ho1 ho2 ho3 hto hpr hD hcm hsv hV
    go_upto_region 3 with fail
    have hbelc : ∀ (u : Bel w2.heap.size w2) b o, b < w2.heap.size → u.wd.cell? ⟨b, o, none⟩ = w2.cell? ⟨b, o, none⟩ := fun u b o h => u.h.cell (p := ⟨b, o, none⟩) h
    have hbeln : Nonempty (Bel w2.heap.size w2) := ⟨⟨w2, Below.refl _ _⟩⟩
    refine wp_region_bel w2.heap.size (by kernel_rfl) (by kernel_rfl) ?_
    repeat (go_big_quiet_step ((first | (go_at_call 115; refine quiet_bel (Nat.le_refl _) (HTO.out _ ?_ _); first | exact HO2.out | exact HO3.out) | (go_at_call 116; exact quiet_bel (Nat.le_refl _) (HPR.out _)) | (go_at_call 114; exact quiet_bel (Nat.le_refl _) (HCM.out _)))))
    refine wpQuiet_nil ?_
    intro wB hB0; obtain ⟨uB, hu⟩ := hB0; have hbB0 := uB.h; rw [← hu] at hbB0; clear hu uB hbelc hbeln
    obtain ⟨hbB, hcB, hsB⟩ := bcell2 hbB0; clear hbB0
    have hb3 := HB2.out.trans (hbB.mono HB2.out.size)
    have HB3 := Lib.hid hb3; clear hb3
    clear hcB hsB hbB
    go_wp2
    go_ret2
    exact ⟨by rw [HD3.out, HSV.out]; rfl, HB3.out⟩
/-- lefter: of valid points. -/
def lfV (o p q : Int × Int) : Int := if offB o p q = true then 0 else sideV o p q
set_option maxRecDepth 100000 in
set_option maxHeartbeats 2000000 in
theorem tnLefter_ (o p q : Int × Int) (w : World) : Calls Try.prog 111 #[.agg #[.int .i64 o.1, .int .i64 o.2], .agg #[.int .i64 p.1, .int .i64 p.2], .agg #[.int .i64 q.1, .int .i64 q.2]] w fun e w' => e = .returned (.int .i64 (lfV o p q)) ∧ Below w.heap.size w w' := by
  have hb : Below w.heap.size w (((w.alloc (.cells #[.int .i64 o.1, .int .i64 o.2] 45)).alloc (.cells #[.int .i64 p.1, .int .i64 p.2] 45)).alloc (.cells #[.int .i64 q.1, .int .i64 q.2] 45)) := (((Below.refl _ _).alloc (Nat.le_refl _) _).alloc (by simp) _).alloc (by simp; omega) _
  have hS := fun W => gSide_ o p q W
  unfold SidePost at hS
  unfold lfV
  generalize sideV o p q = V at *
  cases hob : offB o p q with
  | true =>
    simp only [hob, ↓reduceIte] at hS
    have HB := Lib.hid hb; have HS := Lib.hid hS; have HOB := Lib.hid hob; clear hb hS hob
    go_enter Try.func111, Try.ntmps111
    go_wp2_with fail
    refine (HS.out _).mono ?_
    rintro e w1 ⟨rfl, b1⟩
    have hb1 := HB.out.trans (b1.mono HB.out.size)
    clear b1
    have HB1 := Lib.hid hb1; clear hb1
    go_wp2
    go_ret
    exact ⟨rfl, HB1.out⟩
  | false =>
    simp only [hob, Bool.false_eq_true, ↓reduceIte] at hS
    have HB := Lib.hid hb; have HS := Lib.hid hS; have HOB := Lib.hid hob; clear hb hS hob
    go_enter Try.func111, Try.ntmps111
    go_wp2_with fail
    refine (HS.out _).mono ?_
    rintro e w1 ⟨rfl, b1⟩
    have hb1 := HB.out.trans (b1.mono HB.out.size)
    clear b1
    have HB1 := Lib.hid hb1; clear hb1
    go_wp2
    go_ret
    exact ⟨rfl, HB1.out⟩
end Go.Proofs.Ytlmhgcllikcedaa
