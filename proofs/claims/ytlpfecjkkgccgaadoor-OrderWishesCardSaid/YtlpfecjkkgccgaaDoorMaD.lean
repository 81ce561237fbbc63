/- Texts of this claim, laid together: PrTz. -/
import Derived.Test.YtlpfecjkkgccgaaDoorMaA
import Derived.Shelf.Spec.TrailingZeros
import Derived.Test.YtlpfecjkkgccgaaDoorRows
/- The library's TrailingZeros over this program; the table that it reads is as its text lays it. -/
namespace Go.Proofs.YtlpfecjkkgccgaaDoor
open Go.RowKit Go.Proofs

/-- The library's table is there. -/
def Tz (w : World) : Prop := ∀ j, j < 64 → w.cell? ⟨1, j, none⟩ = some (.int .u8 (Lib.deBruijn64tab.getD j 0))
theorem Tz.later {B : Nat} {w w' : World} (h : Tz w) (hb : Below B w w') (hB : w.heap.size ≤ B) : Tz w' := fun j hj => below_at hb hB (h j hj)
set_option maxHeartbeats 1000000 in
theorem tz64_core_ (x k idx : Nat) (w : World) (hx0 : ((x : Int) == 0) = false)
    (key : IntKind.u64.wrap (bits BinOp.and IntKind.u64 (x : Int) (IntKind.u64.wrap (-(x : Int))) * 285870213051353865) / 288230376151711744 = (idx : Int))
    (hi : idx < 64) (hk : k < 64) (hcell : w.cell? ⟨1, idx, none⟩ = some (.int .u8 k)) :
    Calls Tryd.prog 66 #[.int .u64 x] w fun e w' => e = .returned (.int .i64 k) ∧ w = w' := by
  go_enter Tryd.func66, Tryd.ntmps66
  go_wp2_with (simp only [key])
  go_ret
  exact ⟨rfl, rfl⟩
theorem tz64_zero_ (w : World) : Calls Tryd.prog 66 #[.int .u64 0] w fun e w' => e = .returned (.int .i64 64) ∧ w = w' := by
  go_enter Tryd.func66, Tryd.ntmps66
  go_wp2
  go_ret
  exact ⟨rfl, rfl⟩
theorem tz64_ (x : Nat) (hx : x < 18446744073709551616) (w : World) (hT : Tz w) :
    Calls Tryd.prog 66 #[.int .u64 x] w fun e w' => e = .returned (.int .i64 (Lib.ctz 64 x)) ∧ w = w' := by
  by_cases hx0 : x = 0
  · subst hx0
    exact tz64_zero_ w
  · obtain ⟨hlow, hk⟩ := Lib.lowest_bit 64 x hx0 hx
    obtain ⟨hi, htab⟩ := Lib.deBruijn64_at _ hk
    have hcell := hT _ hi
    rw [htab] at hcell
    exact tz64_core_ x _ _ w (by simp; omega) (tz64_key x _ hx hx0 hlow) hi hk hcell
theorem tz_ (x : Nat) (hx : x < 18446744073709551616) (w : World) (hT : Tz w) :
    Calls Tryd.prog 54 #[.int .u64 x] w fun e w' => e = .returned (.int .i64 (Lib.ctz 64 x)) ∧ w = w' := by
  have c64 := tz64_ x hx w hT
  have hw : IntKind.u64.wrap (x : Int) = (x : Int) := by rw [IntKind.wrap_u64]; omega
  have HX := Lib.hid hx
  clear hx
  go_enter Tryd.func54, Tryd.ntmps54
  go_wp2_with (go_at_call 66; refine c64.mono ?_; rintro e w' ⟨rfl, rfl⟩)
  go_ret
  exact ⟨rfl, rfl⟩
/-- The trailing zeros are the least bit that is there. -/
theorem ctz_iff {x i : Nat} (hx : x < 2 ^ 64) (h : x.testBit i = true) (hl : ∀ j, j < i → x.testBit j = false) : Lib.ctz 64 x = i := by
  have hx0 : x ≠ 0 := fun h0 => by rw [h0] at h; simp at h
  unfold Lib.ctz
  rw [if_neg hx0]
  obtain ⟨m, hm, hk⟩ := Lib.ctzFrom_spec 64 x (by omega) hx
  generalize Lib.ctzFrom 64 x = k at *
  have hb : ∀ j, x.testBit j = (decide (k ≤ j) && (2 * m + 1).testBit (j - k)) := fun j => by
    rw [hm, Nat.mul_comm, Nat.testBit_mul_two_pow]
  rcases Nat.lt_trichotomy k i with h1 | h1 | h1
  · have h2 := hl k h1
    rw [hb k, decide_eq_true (Nat.le_refl _), Nat.sub_self, Bool.true_and] at h2
    simp [Nat.testBit_zero] at h2
  · exact h1
  · rw [hb i, decide_eq_false (by omega)] at h
    simp at h
end Go.Proofs.YtlpfecjkkgccgaaDoor
