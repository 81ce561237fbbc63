/- Texts of this claim, laid together: OrCnt1. -/
import Derived.Test.YtlpfecjkkgccgaaDoorMaR
import Derived.Recover
import Derived.RecoverIn
/- The function that Count defers: it takes in the panic of a sum above the limit. -/
namespace Go.Proofs.YtlpfecjkkgccgaaDoor
open Go.RowKit

theorem results_none {P : Program} {fn : Func} (h : fn.results = #[]) (t : Array Value) (w : World) : (results fn t).run P w = .ok (.tuple #[]) w := by
  have hm : ∀ (f : ResultVar → Sem Value), (#[] : Array ResultVar).mapM f = pure #[] := fun f => by simp
  unfold results
  rw [h, hm]
  rfl
def tooM : List PanicEntry := [{ v := .iface 63 (.agg #[]), recovered := false }]
theorem assert_tooM (w : World) (xT : TypeId) : (Instr.typeAssert (.iface 63 (.agg #[])) xT 63 true).run Tryd.prog w = .ok (.tuple #[.agg #[], .bool true]) w := by
  simp [Instr.typeAssert, run_underlying Tryd.underlying63, go_sem, Result.andThen]
set_option maxHeartbeats 4000000 in
set_option maxRecDepth 100000 in
theorem cnt1_panic (p q : Nat) (x y : Int) (Tp Tq : TypeId) (w : World) (hp : w.heap[p]? = some (.cells #[.int .i64 x] Tp (0, 0))) (hq : w.heap[q]? = some (.cells #[.int .i64 y] Tq (0, 0))) (hpq : p ≠ q) :
    CallsDIn Fence.wide 2 Tryd.prog 35 #[.pointer (some ⟨p, 0, none⟩), .pointer (some ⟨q, 0, none⟩)] (.panicking tooM) w fun e u' w' =>
      (∃ v, e = .returned v) ∧ u' = .panicking [{ v := .iface 63 (.agg #[]), recovered := true }] ∧ w'.heap[p]? = some (.cells #[.int .i64 0] Tp (0, 0)) ∧ w'.heap[q]? = some (.cells #[.int .i64 5] Tq (0, 0)) ∧ Kp (fun i => i = p ∨ i = q) w w' := by
  have ha := assert_tooM w 20
  have hlp : p < w.heap.size := (Array.getElem?_eq_some_iff.1 hp).1
  have hlq : q < w.heap.size := (Array.getElem?_eq_some_iff.1 hq).1
  have hold : ∀ r, r < w.heap.size → (w.alloc (.cells #[] 63)).heap[r]? = w.heap[r]? := fun r hr => ((Below.refl w.heap.size w).alloc (Nat.le_refl _) _).block r hr
  have hp1 := (hold p hlp).trans hp
  have hq1 := (hold q hlq).trans hq
  have c1 := cell_of_row _ p 0 _ _ _ hp1
  have z1 := frozen_of_row _ p 0 _ _ hp1
  have hq2 : ((w.alloc (.cells #[] 63)).setCell ⟨p, 0, none⟩ (.int .i64 0)).heap[q]? = some (.cells #[.int .i64 y] Tq (0, 0)) := (heap_setCell_other _ _ q _ (fun h => hpq h.symm)).trans hq1
  have hp2 : ((w.alloc (.cells #[] 63)).setCell ⟨p, 0, none⟩ (.int .i64 0)).heap[p]? = some (.cells #[.int .i64 0] Tp (0, 0)) := one_setCell hp1
  have c2 := cell_of_row _ q 0 _ _ _ hq2
  have z2 := frozen_of_row _ q 0 _ _ hq2
  have hp3 : (((w.alloc (.cells #[] 63)).setCell ⟨p, 0, none⟩ (.int .i64 0)).setCell ⟨q, 0, none⟩ (.int .i64 5)).heap[p]? = some (.cells #[.int .i64 0] Tp (0, 0)) := (heap_setCell_other _ _ p _ hpq).trans hp2
  have hq3 : (((w.alloc (.cells #[] 63)).setCell ⟨p, 0, none⟩ (.int .i64 0)).setCell ⟨q, 0, none⟩ (.int .i64 5)).heap[q]? = some (.cells #[.int .i64 5] Tq (0, 0)) := one_setCell hq2
  have hk : Kp (fun i => i = p ∨ i = q) w (((w.alloc (.cells #[] 63)).setCell ⟨p, 0, none⟩ (.int .i64 0)).setCell ⟨q, 0, none⟩ (.int .i64 5)) :=
    (((Kp.refl _ w).alloc _).setCell (p := ⟨p, 0, none⟩) (.inl (.inl rfl)) _).setCell (p := ⟨q, 0, none⟩) (.inl (.inr rfl)) _
  have hend := And.intro hp3 (And.intro hq3 hk)
  clear hp3 hq3 hk hp2 hq2 hp1 hq1 hold hp hq hlp hlq
  have HEND := Lib.hid hend; clear hend
  refine callsDIn_of_wpSIn Tryd.func35 rfl trivial fun c₀ cs hu => ?_
  apply wpSIn_seq
  apply wpSIn_region
  simp [wpOpsSIn, go_sem, recoverD, hu, Tryd.ntmps35, Exit.thenS, tooM]
  refine wpSIn_of_wpIn rfl (wpIn_wide.2 ?_)
  go_wp2
  exact ⟨rfl, _, rfl, _, results_none rfl _ _, ⟨_, rfl⟩, rfl, HEND.out⟩
set_option maxHeartbeats 4000000 in
set_option maxRecDepth 100000 in
theorem cnt1_quiet (p q : Addr) (w : World) :
    CallsDIn Fence.wide 2 Tryd.prog 35 #[.pointer (some p), .pointer (some q)] .returning w fun e u' w' =>
      (∃ v, e = .returned v) ∧ u' = .returning ∧ w' = w := by
  refine callsDIn_of_wpSIn Tryd.func35 rfl trivial fun c₀ cs hu => ?_
  apply wpSIn_seq
  apply wpSIn_region
  simp [wpOpsSIn, go_sem, recoverD, hu, Tryd.ntmps35, Exit.thenS]
  refine wpSIn_of_wpIn rfl (wpIn_wide.2 ?_)
  go_wp2
  refine ⟨rfl, .returning, ?_, _, results_none rfl _ _, ⟨_, rfl⟩, rfl, rfl⟩
  rw [← hu]
end Go.Proofs.YtlpfecjkkgccgaaDoor
