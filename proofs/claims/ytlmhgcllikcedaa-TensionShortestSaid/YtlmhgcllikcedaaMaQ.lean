/- Texts of this claim, laid together: OpenPk. -/
import Derived.Test.YtlmhgcllikcedaaMaO
import Derived.Test.YtlmhgcllikcedaaMaP
/- Picks that came in, opened. -/
namespace Go.Proofs.Ytlmhgcllikcedaa
open Go.RowKit Go.Joins Go.ChangeShapes Go.WideShapes Go.Deep

theorem cells_pk_Try : Try.prog.cellsOf 70 = 1 := by kernel_rfl
theorem bytes_pk_Try : Try.prog.bytesOf 70 = 2 := by kernel_rfl
theorem lit_pk {n : Int} (h : (Lit.int .u16 n).wf = true) : 0 ≤ n ∧ n ≤ 65535 := by
  have h1 : IntKind.u16.min = 0 := rfl
  have h2 : IntKind.u16.max = 65535 := rfl
  simp only [Lit.wf, Bool.and_eq_true, decide_eq_true_eq] at h
  omega
section
variable {H : Type} {enc : TypeId × Value → H} {W : World} {base : Nat}
set_option maxRecDepth 100000 in
theorem open_picks {v : Value} {d : DataW H} {p : List MemPlace} (hv : Value.okWide Try.prog W .any base 65 v) (h : DataW.Trod enc Try.prog W 0 (fun _ => true) true 65 v d p)
    (hz : ∀ n ∈ d.weights Try.prog 65, n ≤ reachBytes) : ∃ (A : Option Addr) (c : Nat) (l : List Int), v = .slice A l.length c ∧ RdU9 W A l ∧ True := by
  obtain ⟨a0, len0, cap0, rfl⟩ := okWide_slice Try.underlying65 hv
  obtain ⟨fuel, hf⟩ := h
  rcases open_ints Try.underlying65 Try.underlying70 cells_pk_Try hf with ⟨hcs, hx⟩ | ⟨a, len, cap, zs, hcs, _, hl, hm, hzl, hx, hcell, hwz⟩
  · simp [Value.cells] at hcs
    obtain ⟨rfl, rfl, rfl⟩ := hcs
    exact ⟨none, 0, [], rfl, ⟨by simp, by simp, fun h => absurd h (by simp)⟩, trivial⟩
  · simp [Value.cells] at hcs
    obtain ⟨rfl, rfl, rfl⟩ := hcs
    simp only [if_true] at hzl
    simp only [Prod.mk.injEq] at hx
    obtain ⟨rfl, _⟩ := hx
    have hlen : len0 ≤ 281474976710656 := by
      have := hz ((lits .u16 (zs.take len0)).length * Try.prog.bytesOf 70 + (lits .u16 (zs.drop len0)).length * Try.prog.bytesOf 70) (by
        simp [DataW.weights, Try.underlying65, Nat.add_mul]
        exact .inl rfl)
      rw [bytes_pk_Try] at this
      have hr : reachBytes = 140737488351232 := by decide
      rw [hr] at this
      simp [lits, hzl] at this
      omega
    have htl : (zs.take len0).length = len0 := by simp; omega
    refine ⟨some a, cap0, zs.take len0, by rw [htl], ⟨by rw [htl]; exact hlen, fun x hx => lit_pk (hwz x (List.mem_of_mem_take hx)), Rd.ofAddr fun _ => ⟨a, rfl, fun j hj => ?_⟩⟩, trivial⟩
    rw [htl] at hj
    rw [hcell j (by omega)]
    simp [List.getD_eq_getElem?_getD, show j < len0 by omega]
end
end Go.Proofs.Ytlmhgcllikcedaa
