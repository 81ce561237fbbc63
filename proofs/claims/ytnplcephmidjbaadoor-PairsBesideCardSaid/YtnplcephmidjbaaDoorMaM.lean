/- Texts of this claim, laid together: REnd, SEdges. -/
import Derived.Test.YtnplcephmidjbaaDoorMaA
import Derived.Test.YtnplcephmidjbaaDoorMaD
import Derived.Test.YtnplcephmidjbaaDoorMaL
/- The reference's Takes and end. -/
namespace Go.Proofs.YtnplcephmidjbaaDoor
open Go.RowKit

def takesB (a q : Int) : Bool := decide (q = a ∨ q = a + 1)
set_option maxHeartbeats 400000 in
theorem rTakes_ (k a q : Int) (s : ByteArray) (w : World) (h1 : -1000 ≤ a) (h2 : a ≤ 1000) :
    Calls Tryd.prog 23 #[.agg #[.int .i64 k, .int .i64 a, .string s], .int .i64 q] w fun e w' => e = .returned (.bool (takesB a q)) ∧ Below w.heap.size w w' := by
  have x1 : IntKind.i64.wrap (a + 1) = a + 1 := IntWalk.i64_in _ (by omega)
  by_cases hc : q = a
  · have hr : takesB a q = true := by unfold takesB; simp [hc]
    subst hc
    have HR := Lib.hid hr; clear hr
    go_enter Tryd.func23, Tryd.ntmps23
    go_wp2
    go_ret
    exact ⟨ret_bool HR.out.symm, (Below.refl _ _).alloc (Nat.le_refl _) _⟩
  · have hc' : (q == a) = false := by simpa using hc
    have hr : takesB a q = (q == a + 1) := by unfold takesB; by_cases h : q = a + 1 <;> simp [hc, h]
    generalize hz : (q == a + 1) = z at *
    have HR := Lib.hid hr; clear hr
    go_enter Tryd.func23, Tryd.ntmps23
    go_wp2
    go_ret
    exact ⟨ret_bool HR.out.symm, (Below.refl _ _).alloc (Nat.le_refl _) _⟩

/-- Where an edge in place q behind so many works ends. -/
def EndIs (ws : List GW) (from' : Nat) (q tw inn : Int) : Prop :=
  (∃ k, from' ≤ k ∧ k < ws.length ∧ tw = k ∧ inn = q - (ws.getD k gwE).pl ∧ takesB (ws.getD k gwE).pl q = true ∧ ∀ j, from' ≤ j → j < k → takesB (ws.getD j gwE).pl q = false) ∨
  (tw = -1 ∧ inn = q ∧ ∀ j, from' ≤ j → j < ws.length → takesB (ws.getD j gwE).pl q = false)
def EndPost (ws : List GW) (from' : Nat) (q : Int) (w : World) (e : Ending) (w' : World) : Prop :=
  ∃ tw inn, e = .returned (.tuple #[.int .i64 tw, .int .i64 inn]) ∧ EndIs ws from' q tw inn ∧ Below w.heap.size w w'
end Go.Proofs.YtnplcephmidjbaaDoor
/- The program's Edges. -/
namespace Go.Proofs.YtnplcephmidjbaaDoor
open Go Go.RowKit Go.Shelf
attribute [local go_sem] Oper.semAt_some

theorem edges_ (v0 v1 : Value) (w : World) : Calls Tryd.prog 61 #[.agg #[v0, v1]] w fun e w' => e = .returned (.func (.func 64) #[] #[.pointer (some ⟨w.heap.size, 0, none⟩)]) ∧ w' = w.alloc (.cells #[v0, v1] 24) := by
  go_enter Tryd.func61, Tryd.ntmps61
  go_wp2
  go_ret
  exact ⟨rfl, rfl⟩
theorem pls_le {P : Nat} {ws : List GW} (h : ∀ x ∈ ws, 0 ≤ x.pl ∧ x.pl ≤ (P : Int) - 2) : ∀ k, k < ws.length → plsOf ws k + 2 ≤ P := fun k hk => by
  unfold plsOf
  rw [show ws.getD k gwE = ws[k] by simp [List.getD_eq_getElem?_getD, hk]]
  have := h _ (List.getElem_mem hk)
  omega
/-- What Edges returns of a valid sheet. -/
def EdgesPost (P : Nat) (ws : List GW) (w : World) (e : Ending) (w' : World) : Prop :=
  ∃ R, e = .returned (.tuple #[.slice (some ⟨R, 0, none⟩) (P + 2 * ws.length) (P + 2 * ws.length), .int .i64 0]) ∧ FB w' R (P + 2 * ws.length) (outF (eAll P (plsOf ws) ws.length)) ∧ Below w.heap.size w w'

end Go.Proofs.YtnplcephmidjbaaDoor
