/- The example of chapter 4, and the law's own check of it: it is true. -/
import Derived.Test.YtepdgffccfcfpaaSChain
import Derived.Test.YtepdgffccfcfpaaSReady
import Derived.Test.YtepdgffccfcfpaaSEdges
import Derived.Test.YtepdgffccfcfpaaROrd
import Derived.Test.YtepdgffccfcfpaaLSame4
import Derived.Test.YtepdgffccfcfpaaLeaf
namespace Go.Proofs.Ytepdgffccfcfpaa
open Go.RowKit

def exWs : List GW := [⟨1, 0, ⟨#[67, 84, 67]⟩⟩, ⟨1, 1, ⟨#[67, 84]⟩⟩, ⟨1, 0, ⟨#[67, 84, 67]⟩⟩]
def exE : List Int := [-1, 0, 0, 0, -1, 1, 0, 1, -1, 2, 1, 1, 0, 0, 2, 0, 0, 1, 1, 0, 1, 0, 2, 1, 1, 1, -1, 2, 2, 0, -1, 0, 2, 1, -1, 1]
theorem ex_fits : ∀ x ∈ exWs, x.fits := by intro x hx; simp [exWs] at hx; rcases hx with rfl | rfl | rfl <;> (unfold GW.fits; decide)
theorem ex_err : errSheet 3 exWs = 0 := by kernel_rfl
theorem ex_edges : fCells 9 (outF (eAll 3 (plsOf exWs) 3)) = (exE.map (Value.int .i64)).toArray := by kernel_rfl
theorem ex_cl : clErr 3 exWs [0] = 0 := by kernel_rfl
theorem ex_line : lineL 3 exWs [0] = [3, 4, 2] := by kernel_rfl
theorem ex_ready : readyL 3 exWs [0] = [1] := by kernel_rfl
theorem ex_ask : askErr 3 exWs [0, 2] = 0 := by kernel_rfl
theorem ex_bef : befB 3 exWs 0 2 = true := by kernel_rfl
theorem ex_reo : ¬ reOk 3 exWs [1, 0, 2] := by
  intro h
  have h1 : (reRun 3 (setsOf 3 exWs) 0 [1, 0, 2]).isSome = false := by kernel_rfl
  rw [show reOk 3 exWs [1, 0, 2] = ((reRun exWs.length (setsOf 3 exWs) 0 [1, 0, 2]).isSome = true ∧ [(1 : Int), 0, 2].length = exWs.length) from rfl] at h
  have h2 := h.1
  rw [show exWs.length = 3 from rfl, h1] at h2
  cases h2
theorem ex_chain : ChnIs 3 exWs 0 2 0 [0, 2] := by
  have hd : Dst (tch exWs) 2 1 0 := ⟨⟨2, by omega, by omega, by kernel_rfl, rfl⟩, fun m hm h => by
    obtain rfl : m = 0 := by omega
    exact absurd (show (0 : Nat) = 2 from h) (by omega)⟩
  refine .inr ⟨ex_ask, .inr ⟨rfl, by omega, 0, [2], hd, ⟨2, [], ⟨by omega, by omega, by kernel_rfl, dst_zero.2 rfl, fun j h1 h2 _ h3 => ?_⟩, rfl, rfl⟩, rfl⟩⟩
  have := dst_zero.1 h3
  omega

def ExIn (w : World) (e : Ending) (w' : World) : Prop := ∃ g, e = .returned (.agg #[.int .i64 3, .slice (some ⟨g, 0, none⟩) 3 3]) ∧ RdW w' (some ⟨g, 0, none⟩) exWs ∧ Below w.heap.size w w'
theorem rd_block4 {w : World} {g t : Nat} {cs : Array Value} {n : Nat} {l : List GW} (hg : w.heap[g]? = some (.cells cs t (0, 0))) (hl : l.length = n) (hc : ∀ j, j < n * 3 → cs[j]? = some (cellsW l j)) (hn : n ≤ 1000) (hf : ∀ x ∈ l, x.fits) :
    RdW w (some ⟨g, 0, none⟩) l :=
  ⟨by omega, hf, fun _ => ⟨g, 0, rfl, lt_of_block hg, fun j hj => by rw [cell_of_row w g (0 + j) cs t _ hg, Nat.zero_add]; exact hc j (by omega)⟩⟩
theorem rdI_block4 {w : World} {g t : Nat} {xs : List Int} {cs : Array Value} (hg : w.heap[g]? = some (.cells cs t (0, 0))) (hc : ∀ j, j < xs.length → cs[j]? = some (.int .i64 (xs.getD j 0))) (hn : xs.length ≤ 1000) : RdI w (some ⟨g, 0, none⟩) xs :=
  ⟨by omega, fun _ => ⟨g, 0, rfl, lt_of_block hg, fun j hj => by rw [cell_of_row w g (0 + j) cs t _ hg, Nat.zero_add]; exact hc j (by omega)⟩⟩
theorem rd4_block {w : World} {g t n : Nat} {xs : List Int} {cs : Array Value} (hg : w.heap[g]? = some (.cells cs t (0, 0))) (hc : cs = (xs.map (Value.int .i64)).toArray) (hn : xs.length = n * 4) : Rd w (some ⟨g, 0, none⟩) 4 n fun j => .int .i64 (xs.getD j 0) :=
  fun _ => ⟨g, 0, rfl, lt_of_block hg, fun j hj => by
    rw [cell_of_row w g (0 + j) cs t _ hg, Nat.zero_add, hc]
    have hj' : j < xs.length := by omega
    simp [List.getD_eq_getElem?_getD, hj']⟩

set_option maxHeartbeats 1000000 in
theorem example_ (w : World) : Calls Try.prog 33 #[] w (ExIn w) := by
  go_enter Try.func33, Try.ntmps33
  go_wp2
  refine bodyPost_ret (v := .agg #[.int .i64 3, .slice (some ⟨w.heap.size + 1, 0, none⟩) 3 3]) (by simp [results, Try.results33, go_sem]) rfl ⟨_, rfl, rd_block4 (n := 3) (heap_alloc2_new _ _ _) rfl (fun j hj => ?_) (by decide) ex_fits, ((Below.refl _ _).alloc (Nat.le_refl _) _).alloc (by simp) _⟩
  obtain rfl | rfl | rfl | rfl | rfl | rfl | rfl | rfl | rfl : j = 0 ∨ j = 1 ∨ j = 2 ∨ j = 3 ∨ j = 4 ∨ j = 5 ∨ j = 6 ∨ j = 7 ∨ j = 8 := by omega
  all_goals rfl

set_option maxRecDepth 100000 in
set_option maxHeartbeats 4000000 in
theorem shown_ (w : World) : Calls Try.prog 11 #[] w fun e w' => e = .returned (.bool true) ∧ Below w.heap.size w w' := by
  go_enter Try.func11, Try.ntmps11
  go_wp2_with fail
  refine (example_ _).mono ?_; rintro e w1 ⟨g1, rfl, r1, b1⟩
  go_wp2_with fail
  refine (sEdges_ok 3 _ _ exWs _ ex_err r1).mono ?_; rintro e w2 ⟨R, rfl, hE, b2⟩
  have hR : Rd w2 (some ⟨R, 0, none⟩) 4 9 fun j => .int .i64 (exE.getD j 0) := rd4_block hE ex_edges rfl
  have B2 := Lib.hid (b1.trans (b2.mono b1.size))
  rw [show (3 + 2 * exWs.length : Nat) = 9 from rfl]
  clear r1 b1 b2 hE
  have HR := Lib.hid hR; clear hR
  go_wp2_with fail
  refine (example_ _).mono ?_; rintro e w3 ⟨g1, rfl, r1, b1⟩
  go_wp2_with fail
  refine (sLine_ 3 _ (some ⟨w3.heap.size, 0, none⟩) _ 1 exWs [0] _ ⟨by omega, by omega, r1.later ((Below.refl _ _).alloc (Nat.le_refl _) _) (Nat.le_refl _)⟩ (rdI_block4 (heap_alloc_new _ _) (fun j hj => ?hj) (by decide))).mono ?_
  case hj =>
    obtain rfl : j = 0 := by simp at hj; omega
    rfl
  rintro e w4 ⟨va, rfl, ha, b2⟩
  rw [ex_line] at ha
  rw [ex_cl]
  obtain ⟨LA, lac, rfl, ha⟩ := ha
  have b3 := ((Below.refl w3.heap.size w3).alloc (Nat.le_refl _) (.cells #[.int .i64 0] 3)).trans (b2.mono (by simp))
  have B4 := Lib.hid (B2.out.trans ((b1.trans (b3.mono b1.size)).mono B2.out.size))
  have hR4 := HR.out.later (b1.trans (b3.mono b1.size)) (Nat.le_refl _)
  clear r1 b1 b2 b3 HR B2
  have HR4 := Lib.hid hR4; have HA := Lib.hid ha; clear hR4 ha
  go_wp2_with fail
  refine (example_ _).mono ?_; rintro e w5 ⟨g1, rfl, r1, b1⟩
  go_wp2_with fail
  refine (sReady_ 3 _ (some ⟨w5.heap.size, 0, none⟩) _ 1 exWs [0] _ ⟨by omega, by omega, r1.later ((Below.refl _ _).alloc (Nat.le_refl _) _) (Nat.le_refl _)⟩ (rdI_block4 (heap_alloc_new _ _) (fun j hj => ?hj) (by decide))).mono ?_
  case hj =>
    obtain rfl : j = 0 := by simp at hj; omega
    rfl
  rintro e w6 ⟨va, rfl, ha, b2⟩
  rw [ex_ready] at ha
  rw [ex_cl]
  obtain ⟨LB, lbc, rfl, ha⟩ := ha
  have b3 := ((Below.refl w5.heap.size w5).alloc (Nat.le_refl _) (.cells #[.int .i64 0] 3)).trans (b2.mono (by simp))
  have b5 := b1.trans (b3.mono b1.size)
  have B6 := Lib.hid (B4.out.trans (b5.mono B4.out.size))
  have R6 := Lib.hid (HR4.out.later b5 (Nat.le_refl _))
  have L6 := Lib.hid (HA.out.later b5 (Nat.le_refl _))
  have hb := ha
  clear r1 b1 b2 b3 HR4 B4 HA ha b5
  have HB := Lib.hid hb; clear hb
  go_wp2_with fail
  refine (example_ _).mono ?_; rintro e w7 ⟨g1, rfl, r1, b1⟩
  go_wp2_with fail
  refine (sBefore_ 3 0 2 _ _ exWs _ ⟨by omega, by omega, r1⟩).mono ?_
  rintro e w8 ⟨rfl, b2⟩
  rw [ex_bef, ex_ask]
  have b5 := b1.trans (b2.mono b1.size)
  have B8 := Lib.hid (B6.out.trans (b5.mono B6.out.size))
  have R8 := Lib.hid (R6.out.later b5 (Nat.le_refl _))
  have L8 := Lib.hid (L6.out.later b5 (Nat.le_refl _))
  have M8 := Lib.hid (HB.out.later b5 (Nat.le_refl _))
  clear r1 b1 b2 b5 B6 R6 L6 HB
  go_wp2_with fail
  refine (example_ _).mono ?_; rintro e w9 ⟨g1, rfl, r1, b1⟩
  go_wp2_with fail
  refine (sChain_ 3 0 2 _ _ exWs _ ⟨by omega, by omega, r1⟩).mono ?_
  rintro e wa ⟨vc, x, lc, rfl, hc, b2, hch⟩
  obtain ⟨rfl, rfl⟩ := chnIs_uniq hch ex_chain
  obtain ⟨LC, lcc, rfl, hc⟩ := hc
  have b5 := b1.trans (b2.mono b1.size)
  have Ba := Lib.hid (B8.out.trans (b5.mono B8.out.size))
  have Ra := Lib.hid (R8.out.later b5 (Nat.le_refl _))
  have La := Lib.hid (L8.out.later b5 (Nat.le_refl _))
  have Ma := Lib.hid (M8.out.later b5 (Nat.le_refl _))
  clear r1 b1 b2 b5 B8 R8 L8 M8 hch
  have HC := Lib.hid hc; clear hc
  go_wp2_with fail
  refine (example_ _).mono ?_; rintro e wb ⟨g1, rfl, r1, b1⟩
  go_wp2_with fail
  refine (sReorder_ok 3 _ (some ⟨wb.heap.size, 0, none⟩) _ 3 exWs [1, 0, 2] _ ex_err (r1.later ((Below.refl _ _).alloc (Nat.le_refl _) _) (Nat.le_refl _)) (rdI_block4 (heap_alloc_new _ _) (fun j hj => ?hj) (by decide))).mono ?_
  case hj =>
    obtain rfl | rfl | rfl : j = 0 ∨ j = 1 ∨ j = 2 := by simp at hj; omega
    all_goals rfl
  rintro e wc ⟨_, hno⟩
  obtain ⟨B, d, rfl, _, b2, _⟩ := hno ex_reo
  have b3 := ((Below.refl wb.heap.size wb).alloc (Nat.le_refl _) (.cells #[.int .i64 1, .int .i64 0, .int .i64 2] 3)).trans (b2.mono (by simp))
  have b5 := b1.trans (b3.mono b1.size)
  have Bc := Lib.hid (Ba.out.trans (b5.mono Ba.out.size))
  have Rc := Lib.hid (Ra.out.later b5 (Nat.le_refl _))
  have Lc := Lib.hid (La.out.later b5 (Nat.le_refl _))
  have Mc := Lib.hid (Ma.out.later b5 (Nat.le_refl _))
  have Nc := Lib.hid (HC.out.later b5 (Nat.le_refl _))
  clear r1 b1 b2 b3 b5 Ba Ra La Ma HC hno
  rw [show ([] : List GW).length = 0 from rfl]
  go_wp2_with fail
  refine (same4_ _ _ _ _ 9 (fun j => exE.getD j 0) _ (by omega) (Rc.out.later (B := wc.heap.size) ?hB (Nat.le_refl _)) (rd4_block (heap_alloc2_new _ _ _) rfl rfl)).mono ?_
  case hB => exact ((Below.refl _ _).alloc (Nat.le_refl _) _).alloc (by simp) _
  rintro e wd ⟨rfl, b2⟩
  have b5 := (((Below.refl wc.heap.size wc).alloc (Nat.le_refl _) (.cells #[.int .i64 0, .slice B 0 d] 24)).alloc (by simp) _).trans (b2.mono (by simp; omega))
  have Bd := Lib.hid (Bc.out.trans (b5.mono Bc.out.size))
  have Ld := Lib.hid (Lc.out.later b5 (Nat.le_refl _))
  have Md := Lib.hid (Mc.out.later b5 (Nat.le_refl _))
  have Nd := Lib.hid (Nc.out.later b5 (Nat.le_refl _))
  clear b2 b5 Bc Rc Lc Mc Nc
  go_wp2_with fail
  refine (sameInts_ LA (some ⟨wd.heap.size, 0, none⟩) lac 3 [3, 4, 2] [3, 4, 2] _ (Ld.out.later ((Below.refl _ _).alloc (Nat.le_refl _) _) (Nat.le_refl _)) (rdI_block4 (heap_alloc_new _ _) (fun j hj => ?hj) (by decide))).mono ?_
  case hj =>
    obtain rfl | rfl | rfl : j = 0 ∨ j = 1 ∨ j = 2 := by simp at hj; omega
    all_goals rfl
  rintro e we ⟨rfl, b2⟩
  have b5 := ((Below.refl wd.heap.size wd).alloc (Nat.le_refl _) (.cells #[.int .i64 3, .int .i64 4, .int .i64 2] 3)).trans (b2.mono (by simp))
  have Be := Lib.hid (Bd.out.trans (b5.mono Bd.out.size))
  have Me := Lib.hid (Md.out.later b5 (Nat.le_refl _))
  have Ne := Lib.hid (Nd.out.later b5 (Nat.le_refl _))
  clear b2 b5 Bd Ld Md Nd
  rw [show (decide (([3, 4, 2] : List Int) = [3, 4, 2])) = true from rfl]
  go_wp2_with fail
  refine (sameInts_ LB (some ⟨we.heap.size, 0, none⟩) lbc 1 [1] [1] _ (Me.out.later ((Below.refl _ _).alloc (Nat.le_refl _) _) (Nat.le_refl _)) (rdI_block4 (heap_alloc_new _ _) (fun j hj => ?hj) (by decide))).mono ?_
  case hj =>
    obtain rfl : j = 0 := by simp at hj; omega
    rfl
  rintro e wf ⟨rfl, b2⟩
  have b5 := ((Below.refl we.heap.size we).alloc (Nat.le_refl _) (.cells #[.int .i64 1] 3)).trans (b2.mono (by simp))
  have Bf := Lib.hid (Be.out.trans (b5.mono Be.out.size))
  have Nf := Lib.hid (Ne.out.later b5 (Nat.le_refl _))
  clear b2 b5 Be Me Ne
  rw [show (decide (([1] : List Int) = [1])) = true from rfl]
  go_wp2_with fail
  refine (sameInts_ LC (some ⟨wf.heap.size, 0, none⟩) lcc 2 [0, 2] [0, 2] _ (Nf.out.later ((Below.refl _ _).alloc (Nat.le_refl _) _) (Nat.le_refl _)) (rdI_block4 (heap_alloc_new _ _) (fun j hj => ?hj) (by decide))).mono ?_
  case hj =>
    obtain rfl | rfl : j = 0 ∨ j = 1 := by simp at hj; omega
    all_goals rfl
  rintro e wg ⟨rfl, b2⟩
  have b5 := ((Below.refl wf.heap.size wf).alloc (Nat.le_refl _) (.cells #[.int .i64 0, .int .i64 2] 3)).trans (b2.mono (by simp))
  have Bg := Lib.hid (Bf.out.trans (b5.mono Bf.out.size))
  clear b2 b5 Bf Nf
  rw [show (decide (([0, 2] : List Int) = [0, 2])) = true from rfl]
  go_wp2_with fail
  go_ret
  exact ⟨rfl, Bg.out⟩
end Go.Proofs.Ytepdgffccfcfpaa
