/- Texts of this claim, laid together: EdOver. -/
import Derived.Test.YtlpfecjkkgccgaaDoorMaH
import Derived.Test.YtlpfecjkkgccgaaDoorRows
/- The program's edges: over, which tells where an edge ends. -/
namespace Go.Proofs.YtlpfecjkkgccgaaDoor
open Go Go.RowKit Go.Shelf
attribute [local go_sem] Oper.semAt_some

set_option maxRecDepth 100000 in
set_option maxHeartbeats 4000000 in
theorem over_ (l Y B1 R1 B2 R2 m p : Nat) (fr out idx to in' : Int) (W : World) (R : World → Prop) (hp : p < m)
    (hb1 : W.cell? ⟨B1, 0, none⟩ = some (.slice (some ⟨R1, 0, none⟩) m m)) (hb2 : W.cell? ⟨B2, 0, none⟩ = some (.slice (some ⟨R2, 0, none⟩) m m))
    (hy : W.cell? ⟨Y, 0, none⟩ = some (.func (.yield l) #[] #[]))
    (e0 : W.cell? ⟨R1, p * 4, none⟩ = some (.int .i64 fr)) (e1 : W.cell? ⟨R1, p * 4 + 1, none⟩ = some (.int .i64 out)) (e2 : W.cell? ⟨R1, p * 4 + 2, none⟩ = some (.int .i64 0)) (e3 : W.cell? ⟨R1, p * 4 + 3, none⟩ = some (.int .i64 0))
    (e4 : W.cell? ⟨R2, p, none⟩ = some (.int .i64 idx)) (hs2 : B2 < W.heap.size) (hs3 : Y < W.heap.size) (hs4 : R2 < W.heap.size)
    (hY : ∀ W1, Below W.heap.size W W1 → YieldAt Fence.wide 1 Tryd.prog l #[.int .i64 idx, .agg #[.int .i64 fr, .int .i64 out, .int .i64 to, .int .i64 in']] W1 fun e W' => e = .returned (.bool true) ∧ R W') :
    Calls Tryd.prog 73 #[.int .i64 (p : Int), .int .i64 to, .int .i64 in', .pointer (some ⟨B1, 0, none⟩), .pointer (some ⟨Y, 0, none⟩), .pointer (some ⟨B2, 0, none⟩)] W fun e W' => e = .returned (.bool true) ∧ R W' := by
  have x1 : (0 : Int) ≤ (p : Int) := by omega
  have x2 : (p : Int) < (m : Int) := by omega
  obtain ⟨fn, tmps, assign, body, hyr, hR⟩ := hY ((W.alloc (.cells #[.int .i64 fr, .int .i64 out, .int .i64 to, .int .i64 in'] 118)).drew) (((Below.refl _ _).alloc (Nat.le_refl _) _).drew)
  clear hY
  refine (callsIn_wide (n := 2)).1 ?_
  refine callsIn_of_wp Tryd.func73 rfl trivial ?_ rfl
  simp only [Tryd.ntmps73, List.size_toArray, List.length_cons, List.length_nil, Nat.reduceAdd, Nat.reduceSub, Array.replicate_succ, Array.replicate_zero, List.push_toArray, List.append_toArray, List.nil_append, List.cons_append]
  have hmx : Tryd.prog.follows .mixedOrders = true := by kernel_rfl
  gi_wp2
  gi_region_with_o ((refine hR.mono ?_; rintro e W' ⟨rfl, hr⟩))
  all_goals
    gi_wp2
    go_ret
    exact ⟨rfl, hr⟩
end Go.Proofs.YtlpfecjkkgccgaaDoor
