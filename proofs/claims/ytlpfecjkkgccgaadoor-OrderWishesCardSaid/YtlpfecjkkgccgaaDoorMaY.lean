/- Texts of this claim, laid together: OpenB, OpenC2. -/
import Derived.Test.YtlpfecjkkgccgaaDoorMaS
/- A number of 8 bits that came in: its bounds. -/
namespace Go.Proofs.YtlpfecjkkgccgaaDoor
open Go.RowKit Go.Joins Go.ChangeShapes Go.WideShapes Go.Deep
theorem lit_u8 {n : Int} (h : (Lit.int .u8 n).wf = true) : 0 ≤ n ∧ n ≤ 255 := by
  have h1 : IntKind.u8.min = 0 := rfl
  have h2 : IntKind.u8.max = 255 := rfl
  simp only [Lit.wf, Bool.and_eq_true, decide_eq_true_eq] at h
  omega
end Go.Proofs.YtlpfecjkkgccgaaDoor
/- A case and a small number that came in: both openings together; two small numbers. -/
namespace Go.Proofs.YtlpfecjkkgccgaaDoor
open Go.RowKit Go.Joins Go.ChangeShapes Go.WideShapes Go.Deep
theorem openC2_ : True := trivial
end Go.Proofs.YtlpfecjkkgccgaaDoor
