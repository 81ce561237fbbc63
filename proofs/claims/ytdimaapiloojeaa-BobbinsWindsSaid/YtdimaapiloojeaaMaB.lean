/- Texts of this claim, laid together: OpenBo. -/
import Derived.Test.YtdimaapiloojeaaMaA
import Derived.Deep.Slices
import Derived.Lib.SmallJoins
import Derived.ProofKit
import Derived.SizedLaws
import Derived.Test.YtdimaapiloojeaaRows
/- Slices of numbers that came in, opened. -/
namespace Go.Proofs.Ytdimaapiloojeaa
open Go.RowKit Go.Joins Go.ChangeShapes Go.WideShapes Go.Deep

theorem lit_i64 {n : Int} (h : (Lit.int .i64 n).wf = true) : -9223372036854775808 ≤ n ∧ n ≤ 9223372036854775807 := by
  have h1 : IntKind.i64.min = -9223372036854775808 := rfl
  have h2 : IntKind.i64.max = 9223372036854775807 := rfl
  simp only [Lit.wf, Bool.and_eq_true, decide_eq_true_eq] at h
  omega
theorem cells_ints_Try : Try.prog.cellsOf 3 = 1 := by kernel_rfl
theorem bytes_ints_Try : Try.prog.bytesOf 3 = 8 := by kernel_rfl
section
variable {H : Type} {enc : TypeId × Value → H} {W : World} {base : Nat}
set_option maxRecDepth 100000 in
theorem open_intsA {v : Value} {d : DataW H} {p : List MemPlace} (hv : Value.okWide Try.prog W .any base 23 v) (h : DataW.Trod enc Try.prog W 0 (fun _ => true) true 23 v d p)
    (hz : ∀ n ∈ d.weights Try.prog 23, n ≤ reachBytes) : ∃ (A : Option Addr) (c : Nat) (l : List Int), v = .slice A l.length c ∧ RdI W A l ∧ l.length ≤ c ∧ ∀ x ∈ l, -9223372036854775808 ≤ x ∧ x ≤ 9223372036854775807 := by
  obtain ⟨a0, len0, cap0, rfl⟩ := okWide_slice Try.underlying23 hv
  obtain ⟨fuel, hf⟩ := h
  rcases open_ints Try.underlying23 Try.underlying3 cells_ints_Try hf with ⟨hcs, hx⟩ | ⟨a, len, cap, zs, hcs, _, hl, hm, hzl, hx, hcell, hwz⟩
  · simp [Value.cells] at hcs
    obtain ⟨rfl, rfl, rfl⟩ := hcs
    exact ⟨none, 0, [], rfl, ⟨by simp, fun h => absurd h (by simp)⟩, by simp, by simp⟩
  · simp [Value.cells] at hcs
    obtain ⟨rfl, rfl, rfl⟩ := hcs
    simp only [if_true] at hzl
    simp only [Prod.mk.injEq] at hx
    obtain ⟨rfl, _⟩ := hx
    have hlen : len0 ≤ 281474976710656 := by
      have := hz ((lits .i64 (zs.take len0)).length * Try.prog.bytesOf 3 + (lits .i64 (zs.drop len0)).length * Try.prog.bytesOf 3) (by
        simp [DataW.weights, Try.underlying23, Nat.add_mul]
        exact .inl rfl)
      rw [bytes_ints_Try] at this
      have hr : reachBytes = 140737488351232 := by decide
      rw [hr] at this
      simp [lits, hzl] at this
      omega
    have htl : (zs.take len0).length = len0 := by simp; omega
    refine ⟨some a, cap0, zs.take len0, by rw [htl], ⟨by rw [htl]; exact hlen, Rd.ofAddr fun _ => ⟨a, rfl, fun j hj => ?_⟩⟩, by rw [htl]; exact hl, fun x hx => lit_i64 (hwz x (List.mem_of_mem_take hx))⟩
    rw [htl] at hj
    rw [hcell j (by omega)]
    simp [List.getD_eq_getElem?_getD, show j < len0 by omega]
end
theorem cells_i64s_Try : Try.prog.cellsOf 2 = 1 := by kernel_rfl
theorem bytes_i64s_Try : Try.prog.bytesOf 2 = 8 := by kernel_rfl
section
variable {H : Type} {enc : TypeId × Value → H} {W : World} {base : Nat}
set_option maxRecDepth 100000 in
theorem open_i64sA {v : Value} {d : DataW H} {p : List MemPlace} (hv : Value.okWide Try.prog W .any base 22 v) (h : DataW.Trod enc Try.prog W 0 (fun _ => true) true 22 v d p)
    (hz : ∀ n ∈ d.weights Try.prog 22, n ≤ reachBytes) : ∃ (A : Option Addr) (c : Nat) (l : List Int), v = .slice A l.length c ∧ RdI W A l ∧ l.length ≤ c ∧ ∀ x ∈ l, -9223372036854775808 ≤ x ∧ x ≤ 9223372036854775807 := by
  obtain ⟨a0, len0, cap0, rfl⟩ := okWide_slice Try.underlying22 hv
  obtain ⟨fuel, hf⟩ := h
  rcases open_ints Try.underlying22 Try.underlying2 cells_i64s_Try hf with ⟨hcs, hx⟩ | ⟨a, len, cap, zs, hcs, _, hl, hm, hzl, hx, hcell, hwz⟩
  · simp [Value.cells] at hcs
    obtain ⟨rfl, rfl, rfl⟩ := hcs
    exact ⟨none, 0, [], rfl, ⟨by simp, fun h => absurd h (by simp)⟩, by simp, by simp⟩
  · simp [Value.cells] at hcs
    obtain ⟨rfl, rfl, rfl⟩ := hcs
    simp only [if_true] at hzl
    simp only [Prod.mk.injEq] at hx
    obtain ⟨rfl, _⟩ := hx
    have hlen : len0 ≤ 281474976710656 := by
      have := hz ((lits .i64 (zs.take len0)).length * Try.prog.bytesOf 2 + (lits .i64 (zs.drop len0)).length * Try.prog.bytesOf 2) (by
        simp [DataW.weights, Try.underlying22, Nat.add_mul]
        exact .inl rfl)
      rw [bytes_i64s_Try] at this
      have hr : reachBytes = 140737488351232 := by decide
      rw [hr] at this
      simp [lits, hzl] at this
      omega
    have htl : (zs.take len0).length = len0 := by simp; omega
    refine ⟨some a, cap0, zs.take len0, by rw [htl], ⟨by rw [htl]; exact hlen, Rd.ofAddr fun _ => ⟨a, rfl, fun j hj => ?_⟩⟩, by rw [htl]; exact hl, fun x hx => lit_i64 (hwz x (List.mem_of_mem_take hx))⟩
    rw [htl] at hj
    rw [hcell j (by omega)]
    simp [List.getD_eq_getElem?_getD, show j < len0 by omega]
end
end Go.Proofs.Ytdimaapiloojeaa
