/- Texts of this claim, laid together: OpenPr, OpenTn. -/
import Derived.Test.YtlmhgcllikcedaaMaE
import Derived.Deep.SlicePairs
import Derived.Lib.SmallJoins
import Derived.ProofKit
import Derived.SizedLaws
import Derived.Test.YtlmhgcllikcedaaRows
/- Slices of pairs of int64s (points, roots) that came in, opened; a lattice. -/
namespace Go.Proofs.Ytlmhgcllikcedaa
open Go.RowKit Go.Joins Go.ChangeShapes Go.WideShapes Go.Deep

theorem litP_i64 {n : Int} (h : (Lit.int .i64 n).wf = true) : -9223372036854775808 ≤ n ∧ n ≤ 9223372036854775807 := by
  have h1 : IntKind.i64.min = -9223372036854775808 := rfl
  have h2 : IntKind.i64.max = 9223372036854775807 := rfl
  simp only [Lit.wf, Bool.and_eq_true, decide_eq_true_eq] at h
  omega
theorem litP_u8 {n : Int} (h : (Lit.int .u8 n).wf = true) : 0 ≤ n ∧ n ≤ 255 := by
  have h1 : IntKind.u8.min = 0 := rfl
  have h2 : IntKind.u8.max = 255 := rfl
  simp only [Lit.wf, Bool.and_eq_true, decide_eq_true_eq] at h
  omega
section
variable {H : Type} {enc : TypeId × Value → H} {W : World} {base : Nat}
set_option maxRecDepth 100000 in
theorem open_prs {t e : TypeId} {f0 f1 : Field} (ht : Try.prog.underlying t = some (.slice e)) (he : Try.prog.underlying e = some (.struct #[f0, f1])) (ce : Try.prog.cellsOf e = 2) (o0 : f0.offset = 0) (o1 : f1.offset = 1) (c0 : Try.prog.cellsOf f0.type = 1) (c1 : Try.prog.cellsOf f1.type = 1)
    (u0 : Try.prog.underlying f0.type = some (.int .i64)) (u1 : Try.prog.underlying f1.type = some (.int .i64)) (hbe : Try.prog.bytesOf e = 16) {fuel : Nat} {v : Value} {x : DataW H × List MemPlace} (h : DataW.trod enc Try.prog W 0 (fun _ => true) true fuel t [v] = some x) (hz : ∀ n ∈ x.1.weights Try.prog t, n ≤ reachBytes) :
    ∃ (A : Option Addr) (c : Nat) (xs : List (Int × Int)), v = .slice A xs.length c ∧ RdR W A xs ∧ xs.length ≤ c ∧ ∀ y ∈ xs, (-9223372036854775808 ≤ y.1 ∧ y.1 ≤ 9223372036854775807) ∧ -9223372036854775808 ≤ y.2 ∧ y.2 ≤ 9223372036854775807 := by
  rcases open_slice_pairs ht he ce o0 o1 c0 c1 h with ⟨hcs, hx⟩ | ⟨a, len, cap, m, n', V0, V1, D0, D1, P0, P1, hcs, _, hl, hm, hmm, hx, hi⟩
  · injection hcs with hcs
    subst hcs
    exact ⟨none, 0, [], rfl, ⟨by simp, fun h => absurd h (by simp)⟩, by simp, by simp⟩
  · injection hcs with hcs
    subst hcs
    simp only [if_true] at hmm
    subst hmm
    have hlen : len ≤ 281474976710656 := by
      have := hz ((len + (m - len)) * Try.prog.bytesOf e) (by
        rw [hx]
        simp [DataW.weights, ht])
      rw [hbe] at this
      have hr : reachBytes = 140737488351232 := by decide
      rw [hr] at this
      omega
    have hch : ∀ i : Nat, ∃ g : Int × Int, i < len → W.cell? (a.add (i * 2)) = some (.int .i64 g.1) ∧ W.cell? (a.add (i * 2 + 1)) = some (.int .i64 g.2) ∧ (-9223372036854775808 ≤ g.1 ∧ g.1 ≤ 9223372036854775807) ∧ -9223372036854775808 ≤ g.2 ∧ g.2 ≤ 9223372036854775807 := by
      intro i
      by_cases hil : i < len
      · obtain ⟨g0, g1, g2, g3⟩ := hi i (by omega)
        obtain ⟨n0, e0, _, w0⟩ := DataW.trod_int u0 g2
        obtain ⟨n1, e1, _, w1⟩ := DataW.trod_int u1 g3
        injection e0 with e0
        injection e1 with e1
        rw [e0] at g0
        rw [e1] at g1
        exact ⟨(n0, n1), fun _ => ⟨g0, g1, litP_i64 w0, litP_i64 w1⟩⟩
      · exact ⟨(0, 0), fun h => absurd h hil⟩
    obtain ⟨f, hf⟩ := Classical.axiomOfChoice hch
    have hfl : ((List.range len).map f).length = len := by simp
    refine ⟨some a, m, (List.range len).map f, by rw [hfl], ⟨by rw [hfl]; exact hlen, Rd.ofAddr fun _ => ⟨a, rfl, fun j hj => ?_⟩⟩, by rw [hfl]; exact hl, fun y hy => ?_⟩
    · rw [hfl] at hj
      unfold cellsR
      have hg : ((List.range len).map f).getD (j / 2) (0, 0) = f (j / 2) := by
        rw [List.getD_eq_getElem?_getD, List.getElem?_map, List.getElem?_range (by omega)]
        rfl
      rw [hg]
      rcases (show j % 2 = 0 ∨ j % 2 = 1 by omega) with e | e
      · rw [if_pos e]
        have := (hf (j / 2) (by omega)).1
        rwa [show j / 2 * 2 = j by omega] at this
      · rw [if_neg (by omega)]
        have := (hf (j / 2) (by omega)).2.1
        rwa [show j / 2 * 2 + 1 = j by omega] at this
    · obtain ⟨i, hi, rfl⟩ := List.mem_map.1 hy
      exact (hf i (List.mem_range.1 hi)).2.2
set_option maxRecDepth 100000 in
theorem open_lat {v : Value} {d : DataW H} {p : List MemPlace} (hv : Value.okWide Try.prog W .any base 38 v) (h : DataW.Trod enc Try.prog W 0 (fun _ => true) true 38 v d p) :
    ∃ a b c : Int, v = .agg #[.int .i64 a, .int .i64 b, .int .i64 c] ∧ (-9223372036854775808 ≤ a ∧ a ≤ 9223372036854775807) ∧ (-9223372036854775808 ≤ b ∧ b ≤ 9223372036854775807) ∧ -9223372036854775808 ≤ c ∧ c ≤ 9223372036854775807 := by
  obtain ⟨v0, v1, v2, y0, y1, y2, n, rfl, rfl, _, h0, h1, h2⟩ := open_agg3 Try.underlying38 (by kernel_rfl) (by kernel_rfl) hv h
  obtain ⟨q0, e0, _, w0⟩ := DataW.trod_int Try.underlying2 h0
  obtain ⟨q1, e1, _, w1⟩ := DataW.trod_int Try.underlying2 h1
  obtain ⟨q2, e2, _, w2⟩ := DataW.trod_int Try.underlying2 h2
  injection e0 with e0
  injection e1 with e1
  injection e2 with e2
  subst e0; subst e1; subst e2
  exact ⟨q0, q1, q2, rfl, litP_i64 w0, litP_i64 w1, litP_i64 w2⟩
end
end Go.Proofs.Ytlmhgcllikcedaa
/- Sums and paths that came in, opened. -/
namespace Go.Proofs.Ytlmhgcllikcedaa
open Go.RowKit Go.Joins Go.ChangeShapes Go.WideShapes Go.Deep

section
variable {H : Type} {enc : TypeId × Value → H} {W : World} {base : Nat}
set_option maxRecDepth 100000 in
theorem open_prv {t e : TypeId} {f0 f1 : Field} (ht : Try.prog.underlying t = some (.slice e)) (he : Try.prog.underlying e = some (.struct #[f0, f1])) (ce : Try.prog.cellsOf e = 2) (o0 : f0.offset = 0) (o1 : f1.offset = 1) (c0 : Try.prog.cellsOf f0.type = 1) (c1 : Try.prog.cellsOf f1.type = 1)
    (u0 : Try.prog.underlying f0.type = some (.int .i64)) (u1 : Try.prog.underlying f1.type = some (.int .i64)) (hbe : Try.prog.bytesOf e = 16) {v : Value} {d : DataW H} {p : List MemPlace} (hv : Value.okWide Try.prog W .any base t v) (h : DataW.Trod enc Try.prog W 0 (fun _ => true) true t v d p) (hz : ∀ n ∈ d.weights Try.prog t, n ≤ reachBytes) :
    ∃ (A : Option Addr) (c : Nat) (xs : List (Int × Int)), v = .slice A xs.length c ∧ RdR W A xs ∧ xs.length ≤ c ∧ ∀ y ∈ xs, (-9223372036854775808 ≤ y.1 ∧ y.1 ≤ 9223372036854775807) ∧ -9223372036854775808 ≤ y.2 ∧ y.2 ≤ 9223372036854775807 := by
  obtain ⟨a0, len0, cap0, rfl⟩ := okWide_slice ht hv
  obtain ⟨fuel, hf⟩ := h
  exact open_prs ht he ce o0 o1 c0 c1 u0 u1 hbe (x := (d, p)) (by simpa [Value.cells] using hf) hz
end
end Go.Proofs.Ytlmhgcllikcedaa
