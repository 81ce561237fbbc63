/- Texts of this claim, laid together: SEdges. -/
import Derived.Test.YtlpfecjkkgccgaaDoorMaA
import Derived.Test.YtlpfecjkkgccgaaDoorMaC
import Derived.Test.YtlpfecjkkgccgaaDoorMaK
/- The program's Edges. -/
namespace Go.Proofs.YtlpfecjkkgccgaaDoor
open Go Go.RowKit Go.Shelf
attribute [local go_sem] Oper.semAt_some

theorem edges_ (v0 v1 : Value) (w : World) : Calls Tryd.prog 68 #[.agg #[v0, v1]] w fun e w' => e = .returned (.func (.func 72) #[] #[.pointer (some ⟨w.heap.size, 0, none⟩)]) ∧ w' = w.alloc (.cells #[v0, v1] 24) := by
  go_enter Tryd.func68, Tryd.ntmps68
  go_wp2
  go_ret
  exact ⟨rfl, rfl⟩
theorem pls_le {P : Nat} {ws : List GW} (h : ∀ x ∈ ws, 0 ≤ x.pl ∧ x.pl ≤ (P : Int) - 2) : ∀ k, k < ws.length → plsOf ws k + 2 ≤ P := fun k hk => by
  unfold plsOf
  rw [show ws.getD k gwE = ws[k] by simp [List.getD_eq_getElem?_getD, hk]]
  have := h _ (List.getElem_mem hk)
  omega
/-- What Edges returns of a valid sheet. -/
def EdgesPost (P : Nat) (ws : List GW) (w : World) (e : Ending) (w' : World) : Prop :=
  ∃ R, e = .returned (.tuple #[.slice (some ⟨R, 0, none⟩) (P + 2 * ws.length) (P + 2 * ws.length), .int .i64 0]) ∧ FB w' R (P + 2 * ws.length) (outF (eAll P (plsOf ws) ws.length)) ∧ Below w.heap.size w w'

end Go.Proofs.YtlpfecjkkgccgaaDoor
