/- The statements' own check of a few calls: it is true. -/
import Derived.Test.YtifpkdajfdlgeaaTrEx
namespace Go.Proofs.Ytifpkdajfdlgeaa
open Go.RowKit

theorem ex_both : bothErr 4 firstL 4 secondL = 0 := by kernel_rfl
theorem ex_same : sameE 4 firstL 4 secondL = true := by kernel_rfl
theorem ex_merr : matchErr 4 firstL 4 secondL = 0 := by kernel_rfl
theorem ex_match : matchL 4 firstL 4 secondL = [1, 0, 2] := by kernel_rfl
theorem ex_cerr : cntdErr 4 firstL = 0 := by kernel_rfl
theorem ex_cnum : cntdNum 4 firstL = 2 := by kernel_rfl

theorem rdI_block {w : World} {g t : Nat} {xs : List Int} {cs : Array Value} (hg : w.heap[g]? = some (.cells cs t (0, 0))) (hc : ∀ j, j < xs.length → cs[j]? = some (.int .i64 (xs.getD j 0))) (hn : xs.length ≤ 1000) : RdI w (some ⟨g, 0, none⟩) xs :=
  ⟨by omega, fun _ => ⟨g, 0, rfl, lt_of_block hg, fun j hj => by rw [cell_of_row w g (0 + j) cs t _ hg, Nat.zero_add]; exact hc j (by omega)⟩⟩

set_option maxHeartbeats 1000000 in
theorem awake_ (w : World) : Calls Try.prog 14 #[] w fun e w' => e = .returned (.bool true) ∧ Below w.heap.size w w' := by
  go_enter Try.func14, Try.ntmps14
  go_wp2_with fail
  refine (first_ _).mono ?_; rintro e w1 ⟨g1, c1, rfl, r1, b1, l1, _⟩
  go_wp2_with fail
  refine (second_ _).mono ?_; rintro e w2 ⟨g2, c2, rfl, r2, b2, l2, _⟩
  go_wp2_with fail
  refine (tSame_ 4 4 _ _ _ _ firstL secondL _ ⟨by omega, by omega, r1.later b2 (Nat.le_refl _)⟩ ⟨by omega, by omega, r2⟩).mono ?_; rintro e w3 ⟨rfl, b3⟩
  rw [ex_same, ex_both]
  have B3 := Lib.hid ((b1.trans (b2.mono b1.size)).trans (b3.mono (Nat.le_trans b1.size b2.size)))
  clear r1 r2 b1 b2 b3 l1 l2
  go_wp2_with fail
  refine (first_ _).mono ?_; rintro e w4 ⟨g3, c3, rfl, r1, b1, l1, _⟩
  go_wp2_with fail
  refine (second_ _).mono ?_; rintro e w5 ⟨g4, c4, rfl, r2, b2, l2, _⟩
  go_wp2_with fail
  refine (tMatch_ 4 4 _ _ _ _ firstL secondL _ ⟨by omega, by omega, r1.later b2 (Nat.le_refl _)⟩ ⟨by omega, by omega, r2⟩).mono ?_; rintro e w6 ⟨v, rfl, hv, b3⟩
  rw [ex_merr]
  rw [ex_match] at hv
  have B6 := Lib.hid (B3.out.trans (((b1.trans (b2.mono b1.size)).trans (b3.mono (Nat.le_trans b1.size b2.size))).mono B3.out.size))
  clear r1 r2 b1 b2 b3 l1 l2
  go_wp2_with fail
  refine (first_ _).mono ?_; rintro e w7 ⟨g5, c5, rfl, r1, b1, l1, _⟩
  go_wp2_with fail
  refine (tOrders_ 4 _ _ firstL _ ⟨by omega, by omega, r1⟩ l1).mono ?_; rintro e w8 ⟨rfl, b2⟩
  rw [ex_cerr, ex_cnum]
  have hv8 := hv.later (b1.trans (b2.mono b1.size)) (Nat.le_refl _)
  have B8 := Lib.hid (B6.out.trans ((b1.trans (b2.mono b1.size)).mono B6.out.size))
  clear r1 b1 b2 l1 hv
  obtain ⟨A, cc, rfl, hA⟩ := hv8
  have HA := Lib.hid hA; clear hA
  go_wp2_with fail
  refine (sameInts_ A (some ⟨w8.heap.size, 0, none⟩) cc 3 [1, 0, 2] [1, 0, 2] _ (HA.out.later ((Below.refl _ _).alloc (Nat.le_refl _) _) (Nat.le_refl _)) (rdI_block (heap_alloc_new _ _) (fun j hj => ?hj) (by decide))).mono ?_
  case hj =>
    obtain rfl | rfl | rfl : j = 0 ∨ j = 1 ∨ j = 2 := by simp at hj; omega
    all_goals rfl
  rintro e w9 ⟨rfl, b9⟩
  have B9 := Lib.hid (B8.out.trans (((Below.refl _ _).alloc (Nat.le_refl _) _).trans (b9.mono (by simp)) |>.mono B8.out.size))
  clear b9
  go_wp2_with fail
  go_ret
  exact ⟨rfl, B9.out⟩
end Go.Proofs.Ytifpkdajfdlgeaa
