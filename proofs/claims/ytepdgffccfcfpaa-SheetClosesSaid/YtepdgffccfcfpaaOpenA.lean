/- Three numbers of 16 bits that came in, opened. -/
import Derived.Test.YtepdgffccfcfpaaOpenI4
import Derived.Laws.IdiomArrays
namespace Go.Proofs.Ytepdgffccfcfpaa
open Go.RowKit Go.Joins Go.ChangeShapes Go.WideShapes Go.Deep

theorem cells_u16_Try : Try.prog.cellsOf 49 = 1 := by kernel_rfl
theorem cells_arr3_Try : Try.prog.cellsOf 50 = 3 := by kernel_rfl
theorem lit_u16 {n : Int} (h : (Lit.int .u16 n).wf = true) : 0 ≤ n ∧ n ≤ 65535 := by
  have h1 : IntKind.u16.min = 0 := rfl
  have h2 : IntKind.u16.max = 65535 := rfl
  simp only [Lit.wf, Bool.and_eq_true, decide_eq_true_eq] at h
  omega
section
variable {H : Type} {enc : TypeId × Value → H} {W : World} {base : Nat}
theorem open_arr3 {v : Value} {d : DataW H} {p : List MemPlace} (hv : Value.okWide Try.prog W .any base 50 v) (h : DataW.Trod enc Try.prog W 0 (fun _ => true) true 50 v d p) :
    ∃ x y z : Int, v = .agg #[.int .u16 x, .int .u16 y, .int .u16 z] ∧ (0 ≤ x ∧ x ≤ 65535) ∧ (0 ≤ y ∧ y ≤ 65535) ∧ 0 ≤ z ∧ z ≤ 65535 := by
  simp only [Value.okWide, Try.underlying50] at hv
  obtain ⟨cs, rfl, hsz, _⟩ := hv
  rw [cells_arr3_Try] at hsz
  obtain ⟨c0, c1, c2, rfl⟩ := array3 hsz
  obtain ⟨fuel, hf⟩ := h
  obtain ⟨y0, y1, y2, n, _, h0, h1, h2⟩ := trod_array3 Try.underlying50 cells_u16_Try hf
  obtain ⟨n0, e0, _, w0⟩ := DataW.trod_int Try.underlying49 h0
  obtain ⟨n1, e1, _, w1⟩ := DataW.trod_int Try.underlying49 h1
  obtain ⟨n2, e2, _, w2⟩ := DataW.trod_int Try.underlying49 h2
  have e0' : c0 = .int .u16 n0 := by simpa using e0
  have e1' : c1 = .int .u16 n1 := by simpa using e1
  have e2' : c2 = .int .u16 n2 := by simpa using e2
  subst e0'; subst e1'; subst e2'
  exact ⟨n0, n1, n2, rfl, lit_u16 w0, lit_u16 w1, lit_u16 w2⟩
end
end Go.Proofs.Ytepdgffccfcfpaa
