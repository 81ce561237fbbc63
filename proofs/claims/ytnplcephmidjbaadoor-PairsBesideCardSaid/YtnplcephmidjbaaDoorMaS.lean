/- Texts of this claim, laid together: Open4, OpenI4. -/
import Derived.Test.YtnplcephmidjbaaDoorMaO
import Derived.Deep.Slices
import Derived.Lib.SmallJoins
import Derived.ProofKit
import Derived.SizedLaws
/- A sheet that came in, opened: its places and its works. -/
namespace Go.Proofs.YtnplcephmidjbaaDoor
open Go.RowKit Go.Joins Go.ChangeShapes Go.WideShapes Go.Deep

theorem cells_work_Tryd : Tryd.prog.cellsOf 44 = 3 := by kernel_rfl
theorem cells_int_Tryd : Tryd.prog.cellsOf 3 = 1 := by kernel_rfl
theorem cells_string_Tryd : Tryd.prog.cellsOf 9 = 1 := by kernel_rfl
theorem bytes_work_Tryd : Tryd.prog.bytesOf 44 = 32 := by kernel_rfl

theorem list3 {α : Type} : ∀ {l : List α}, l.length = 3 → ∃ a b c, l = [a, b, c]
  | [a, b, c], _ => ⟨a, b, c, rfl⟩
theorem lit_i64 {n : Int} (h : (Lit.int .i64 n).wf = true) : -9223372036854775808 ≤ n ∧ n ≤ 9223372036854775807 := by
  have h1 : IntKind.i64.min = -9223372036854775808 := rfl
  have h2 : IntKind.i64.max = 9223372036854775807 := rfl
  simp only [Lit.wf, Bool.and_eq_true, decide_eq_true_eq] at h
  omega

section
variable {H : Type} {enc : TypeId × Value → H} {W : World} {base : Nat}
set_option maxRecDepth 100000 in
/-- One work, out of its cells. -/
theorem open_work {n : Nat} {a : Addr} {x : DataW H × List MemPlace} (h : ∃ cs', W.cells? 0 a (Tryd.prog.cellsOf 44) = some cs' ∧ DataW.trod enc Tryd.prog W 0 (fun _ => true) true n 44 cs' = some x) :
    ∃ g : GW, g.fits ∧ W.cell? (a.add 0) = some (.int .i64 g.kind) ∧ W.cell? (a.add 1) = some (.int .i64 g.pl) ∧ W.cell? (a.add 2) = some (.string g.word) := by
  obtain ⟨cs', hc, ht⟩ := h
  rw [cells_work_Tryd] at hc
  obtain ⟨ys, n', _, _, _, hyl, hf⟩ := DataW.trod_struct Tryd.underlying44 ht
  obtain ⟨_, hcl, hat⟩ := World.cells?_some hc
  obtain ⟨c0, c1, c2, rfl⟩ := list3 hcl
  have hy3 : ys.length = 3 := hyl
  have r0 := hf 0 _ rfl
  have s0 : DataW.trod enc Tryd.prog W 0 (fun _ => true) true n' 3 (([c0, c1, c2].drop 0).take (Tryd.prog.cellsOf 3)) = ys[0]? := r0
  clear r0
  have r1 := hf 1 _ rfl
  have s1 : DataW.trod enc Tryd.prog W 0 (fun _ => true) true n' 3 (([c0, c1, c2].drop 1).take (Tryd.prog.cellsOf 3)) = ys[1]? := r1
  clear r1
  have r2 := hf 2 _ rfl
  have s2 : DataW.trod enc Tryd.prog W 0 (fun _ => true) true n' 9 (([c0, c1, c2].drop 2).take (Tryd.prog.cellsOf 9)) = ys[2]? := r2
  clear r2
  rw [cells_int_Tryd] at s0 s1
  rw [cells_string_Tryd] at s2
  rw [List.getElem?_eq_getElem (by omega)] at s0 s1 s2
  obtain ⟨n0, e0, _, w0⟩ := DataW.trod_int Tryd.underlying3 s0
  obtain ⟨n1, e1, _, w1⟩ := DataW.trod_int Tryd.underlying3 s1
  obtain ⟨n2, e2, _, w2⟩ := DataW.trod_string Tryd.underlying9 s2
  have e0' : c0 = .int .i64 n0 := by simpa using e0
  have e1' : c1 = .int .i64 n1 := by simpa using e1
  have e2' : c2 = .string n2 := by simpa using e2
  subst e0'; subst e1'; subst e2'
  exact ⟨⟨n0, n1, n2⟩, ⟨lit_i64 w0, lit_i64 w1, by unfold maxLen at w2; omega⟩, hat 0 (by omega), hat 1 (by omega), hat 2 (by omega)⟩

set_option maxRecDepth 100000 in
theorem open_sheet {v : Value} {d : DataW H} {p : List MemPlace} (hv : Value.okWide Tryd.prog W .any base 24 v) (h : DataW.Trod enc Tryd.prog W 0 (fun _ => true) true 24 v d p)
    (hz : ∀ n ∈ d.weights Tryd.prog 24, n ≤ reachBytes) : ∃ (q : Int) (A : Option Addr) (c : Nat) (ws : List GW), v = .agg #[.int .i64 q, .slice A ws.length c] ∧ ShIn W q A ws ∧ ws.length ≤ c := by
  obtain ⟨v0, v1, y0, y1, n, rfl, rfl, _, h0, h1⟩ := open_agg2 Tryd.underlying24 (by kernel_rfl) (by kernel_rfl) hv h
  obtain ⟨q, e0, _, w0⟩ := DataW.trod_int Tryd.underlying3 h0
  injection e0 with e0
  subst e0
  rcases open_slice Tryd.underlying22 h1 with ⟨hcs, hx⟩ | ⟨a, len, cap, m, n', D, Pl, hcs, _, hl, hm, hmm, hx, hi⟩
  · injection hcs with hcs
    subst hcs
    exact ⟨q, none, 0, [], rfl, ⟨(lit_i64 w0).1, (lit_i64 w0).2, by simp, by simp, fun h => absurd h (by simp)⟩, by simp⟩
  · injection hcs with hcs
    subst hcs
    simp only [if_true] at hmm
    subst hmm
    have hlen : len ≤ 281474976710656 := by
      have := hz ((len + (m - len)) * Tryd.prog.bytesOf 44) (by
        rw [hx]
        simp [DataW.weights, DataW.weightsEach, Tryd.underlying24, Tryd.underlying22])
      rw [bytes_work_Tryd] at this
      have hr : reachBytes = 140737488351232 := by decide
      rw [hr] at this
      omega
    have hch : ∀ i : Nat, ∃ g : GW, i < len → g.fits ∧ W.cell? (a.add (i * 3)) = some (.int .i64 g.kind) ∧ W.cell? (a.add (i * 3 + 1)) = some (.int .i64 g.pl) ∧ W.cell? (a.add (i * 3 + 2)) = some (.string g.word) := by
      intro i
      by_cases hil : i < len
      · obtain ⟨g, g0, g1, g2, g3⟩ := open_work (hi i (by omega))
        rw [cells_work_Tryd, add_of_add] at g1 g2 g3
        exact ⟨g, fun _ => ⟨g0, g1, g2, g3⟩⟩
      · exact ⟨⟨0, 0, ByteArray.empty⟩, fun h => absurd h hil⟩
    obtain ⟨f, hf⟩ := Classical.axiomOfChoice hch
    have hfl : ((List.range len).map f).length = len := by simp
    refine ⟨q, some a, m, (List.range len).map f, by rw [hfl], ⟨(lit_i64 w0).1, (lit_i64 w0).2, by rw [hfl]; exact hlen, ?_, Rd.ofAddr ?_⟩, by rw [hfl]; exact hl⟩
    · intro x hx
      obtain ⟨i, hi, rfl⟩ := List.mem_map.1 hx
      exact (hf i (List.mem_range.1 hi)).1
    · intro _
      refine ⟨a, rfl, fun j hj => ?_⟩
      rw [hfl] at hj
      have hg : ∀ k, k < len → ((List.range len).map f).getD k ⟨0, 0, ByteArray.empty⟩ = f k := fun k hk => by simp [List.getD_eq_getElem?_getD, hk]
      rcases (show j % 3 = 0 ∨ j % 3 = 1 ∨ j % 3 = 2 by omega) with e | e | e
      · obtain ⟨k, rfl⟩ : ∃ k, j = k * 3 := ⟨j / 3, by omega⟩
        rw [(hf k (by omega)).2.1]; unfold cellsW; rw [show k * 3 / 3 = k by omega, show k * 3 % 3 = 0 by omega, hg k (by omega)]
        all_goals rfl
      · obtain ⟨k, rfl⟩ : ∃ k, j = k * 3 + 1 := ⟨j / 3, by omega⟩
        rw [(hf k (by omega)).2.2.1]; unfold cellsW; rw [show (k * 3 + 1) / 3 = k by omega, show (k * 3 + 1) % 3 = 1 by omega, hg k (by omega)]
        all_goals rfl
      · obtain ⟨k, rfl⟩ : ∃ k, j = k * 3 + 2 := ⟨j / 3, by omega⟩
        rw [(hf k (by omega)).2.2.2]; unfold cellsW; rw [show (k * 3 + 2) / 3 = k by omega, show (k * 3 + 2) % 3 = 2 by omega, hg k (by omega)]
        all_goals rfl
end
end Go.Proofs.YtnplcephmidjbaaDoor
/- A slice of ints that came in, opened. -/
namespace Go.Proofs.YtnplcephmidjbaaDoor
open Go.RowKit Go.Joins Go.ChangeShapes Go.WideShapes Go.Deep

theorem bytes_int_Tryd : Tryd.prog.bytesOf 3 = 8 := by kernel_rfl
section
variable {H : Type} {enc : TypeId × Value → H} {W : World} {base : Nat}
set_option maxRecDepth 100000 in
theorem open_intsA {v : Value} {d : DataW H} {p : List MemPlace} (hv : Value.okWide Tryd.prog W .any base 25 v) (h : DataW.Trod enc Tryd.prog W 0 (fun _ => true) true 25 v d p)
    (hz : ∀ n ∈ d.weights Tryd.prog 25, n ≤ reachBytes) : ∃ (A : Option Addr) (c : Nat) (l : List Int), v = .slice A l.length c ∧ RdI W A l ∧ l.length ≤ c ∧ ∀ x ∈ l, -9223372036854775808 ≤ x ∧ x ≤ 9223372036854775807 := by
  obtain ⟨a0, len0, cap0, rfl⟩ := okWide_slice Tryd.underlying25 hv
  obtain ⟨fuel, hf⟩ := h
  rcases open_ints Tryd.underlying25 Tryd.underlying3 cells_int_Tryd hf with ⟨hcs, hx⟩ | ⟨a, len, cap, zs, hcs, _, hl, hm, hzl, hx, hcell, hwz⟩
  · simp [Value.cells] at hcs
    obtain ⟨rfl, rfl, rfl⟩ := hcs
    exact ⟨none, 0, [], rfl, ⟨by simp, fun h => absurd h (by simp)⟩, by simp, by simp⟩
  · simp [Value.cells] at hcs
    obtain ⟨rfl, rfl, rfl⟩ := hcs
    simp only [if_true] at hzl
    simp only [Prod.mk.injEq] at hx
    obtain ⟨rfl, _⟩ := hx
    have hlen : len0 ≤ 281474976710656 := by
      have := hz ((lits .i64 (zs.take len0)).length * Tryd.prog.bytesOf 3 + (lits .i64 (zs.drop len0)).length * Tryd.prog.bytesOf 3) (by
        simp [DataW.weights, Tryd.underlying25, Nat.add_mul]
        exact .inl rfl)
      rw [bytes_int_Tryd] at this
      have hr : reachBytes = 140737488351232 := by decide
      rw [hr] at this
      simp [lits, hzl] at this
      omega
    have htl : (zs.take len0).length = len0 := by simp; omega
    refine ⟨some a, cap0, zs.take len0, by rw [htl], ⟨by rw [htl]; exact hlen, Rd.ofAddr fun _ => ⟨a, rfl, fun j hj => ?_⟩⟩, by rw [htl]; exact hl, fun x hx => lit_i64 (hwz x (List.mem_of_mem_take hx))⟩
    rw [htl] at hj
    rw [hcell j (by omega)]
    simp [List.getD_eq_getElem?_getD, show j < len0 by omega]
end
end Go.Proofs.YtnplcephmidjbaaDoor
