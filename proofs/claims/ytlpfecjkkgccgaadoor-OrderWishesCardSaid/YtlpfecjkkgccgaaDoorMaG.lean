/- Texts of this claim, laid together: PrLaid. -/
import Derived.Test.YtlpfecjkkgccgaaDoorMaD
import Derived.LaidMore
import Derived.OpenShut
import Derived.ProofKit
import Derived.Stop.Joined
import Derived.Test.YtlpfecjkkgccgaaDoorRows
/- What the listed tables give: the library's table of TrailingZeros is there. -/
namespace Go.Proofs.YtlpfecjkkgccgaaDoor
open Go.ChangeShapes Go.WideShapes Go.ChangeAt Go.WideMaps Go.WideElems Go.RowKit

theorem own_Tryd : ownKnob Tryd.prog.godebug = none := by kernel_rfl
theorem laidOut_Tryd : laidOutB Tryd.prog = true := by kernel_rfl
def laid2 : List (String × DataW Unit) := [("math/bits.deBruijn32tab", Rows.laid_math_bits_deBruijn32tab), ("math/bits.deBruijn64tab", Rows.laid_math_bits_deBruijn64tab)]
theorem gTab32 : Tryd.prog.globalNamed "math/bits.deBruijn32tab" = some 0 := by kernel_rfl
theorem gTab64 : Tryd.prog.globalNamed "math/bits.deBruijn64tab" = some 1 := by kernel_rfl
theorem tTab64 : (Tryd.prog.globals[1]?).map (·.type) = some 122 := by kernel_rfl
theorem tab64 : (Rows.laid_math_bits_deBruijn64tab : DataW Unit) = .agg (Lib.deBruijn64tab.map fun (z : Nat) => .lit (.int .u8 (z : Int))) := by kernel_rfl
theorem lit_inj {a b : Int} (h : (DataW.lit (.int .u8 a) : DataW Unit) = .lit (.int .u8 b)) : a = b := by
  injection h with h
  injection h
/-- The door's own heap meets the condition. -/
theorem door_met (os : Os) (args : Array Value) : laidMetH Tryd.prog laid2 ((World.doorLaid Tryd.prog 400 os).forCall (fun _ _ => 0) ⟨#[], args, []⟩).memory :=
  laidMetH_of_parts3 (fuel := 8) (laidMet_of_run' 8 (by kernel_rfl) (by kernel_rfl)) (by kernel_rfl) (by kernel_rfl)
theorem tz_of_laid {W : World} (h : laidMetH Tryd.prog laid2 W) : Tz W := by
  rw [MakeChecks.laidMetH_plain _ _ _ (by kernel_rfl)] at h
  obtain ⟨ps, ⟨g0, t0, cs0, f0, p0, q0, hg0, ht0, hv0, hd0, ⟨g1, t1, cs1, f1, p1, q1, hg1, ht1, hv1, hd1, _, _⟩, _⟩, _, _⟩ := h
  obtain rfl := Option.some.inj (gTab64.symm.trans hg1)
  obtain rfl := Option.some.inj (tTab64.symm.trans ht1)
  obtain ⟨xs, m1, rfl, hx1, hlen, hn, hel⟩ := DataW.trod_array Tryd.underlying122 hd1
  have c1 : Tryd.prog.cellsOf 5 = 1 := by kernel_rfl
  simp only [Prod.mk.injEq] at hx1
  have hx2 := hx1.1
  intro j hj
  have hj2 : j < xs.length := by omega
  have h0 := hel j (by omega)
  rw [c1, List.getElem?_eq_getElem hj2] at h0
  obtain ⟨k, e1, e2, _⟩ := DataW.trod_int Tryd.underlying5 h0
  have hk : k = ((Lib.deBruijn64tab.getD j 0 : Nat) : Int) := by
    have h3 : (Rows.laid_math_bits_deBruijn64tab : DataW Unit) = .agg (xs.map (·.1)) := hx2
    rw [tab64] at h3
    simp only [DataW.agg.injEq] at h3
    have h4 := congrArg (fun l => l[j]?) h3
    simp only [List.getElem?_map] at h4
    have hl64 : j < Lib.deBruijn64tab.length := by rw [show Lib.deBruijn64tab.length = 64 from rfl]; exact hj
    rw [List.getElem?_eq_getElem hj2, List.getElem?_eq_getElem hl64] at h4
    simp only [Option.map_some, Option.some.injEq, e2] at h4
    rw [List.getD_eq_getElem?_getD, List.getElem?_eq_getElem hl64]
    simp only [Option.getD_some]
    exact (lit_inj h4).symm
  have hv := World.var?_cell hg1 hv1 j
  rw [hv, ← hk]
  have h5 : (cs1.toList.drop j).head? = some (Value.int .u8 k) := by
    have h6 := congrArg List.head? e1
    simp only [Nat.mul_one] at h6
    rw [List.head?_take, if_neg (by decide)] at h6
    simpa using h6
  rw [List.head?_drop] at h5
  simpa using h5
end Go.Proofs.YtlpfecjkkgccgaaDoor
