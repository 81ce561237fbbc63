/- Texts of this claim, laid together: Open4, OpenI4, OpenC. -/
import Derived.Test.YtlpfecjkkgccgaaDoorMaO
import Derived.Test.YtlpfecjkkgccgaaDoorMaP
import Derived.Deep.Slices
import Derived.Lib.SmallJoins
import Derived.OpenShut
import Derived.ProofKit
import Derived.SizedLaws
/- A sheet that came in, opened: its places and its works. -/
namespace Go.Proofs.YtlpfecjkkgccgaaDoor
open Go.RowKit Go.Joins Go.ChangeShapes Go.WideShapes Go.Deep

theorem cells_work_Tryd : Tryd.prog.cellsOf 50 = 3 := by kernel_rfl
theorem cells_int_Tryd : Tryd.prog.cellsOf 3 = 1 := by kernel_rfl
theorem cells_string_Tryd : Tryd.prog.cellsOf 9 = 1 := by kernel_rfl
theorem bytes_work_Tryd : Tryd.prog.bytesOf 50 = 32 := by kernel_rfl

theorem list3 {α : Type} : ∀ {l : List α}, l.length = 3 → ∃ a b c, l = [a, b, c]
  | [a, b, c], _ => ⟨a, b, c, rfl⟩
theorem lit_i64 {n : Int} (h : (Lit.int .i64 n).wf = true) : -9223372036854775808 ≤ n ∧ n ≤ 9223372036854775807 := by
  have h1 : IntKind.i64.min = -9223372036854775808 := rfl
  have h2 : IntKind.i64.max = 9223372036854775807 := rfl
  simp only [Lit.wf, Bool.and_eq_true, decide_eq_true_eq] at h
  omega

section
variable {H : Type} {enc : TypeId × Value → H} {W : World} {base : Nat}
set_option maxRecDepth 100000 in
/-- One work, out of its cells. -/
theorem open_work {n : Nat} {a : Addr} {x : DataW H × List MemPlace} (h : ∃ cs', W.cells? 0 a (Tryd.prog.cellsOf 50) = some cs' ∧ DataW.trod enc Tryd.prog W 0 (fun _ => true) true n 50 cs' = some x) :
    ∃ g : GW, g.fits ∧ W.cell? (a.add 0) = some (.int .i64 g.kind) ∧ W.cell? (a.add 1) = some (.int .i64 g.pl) ∧ W.cell? (a.add 2) = some (.string g.word) := by
  obtain ⟨cs', hc, ht⟩ := h
  rw [cells_work_Tryd] at hc
  obtain ⟨ys, n', _, _, _, hyl, hf⟩ := DataW.trod_struct Tryd.underlying50 ht
  obtain ⟨_, hcl, hat⟩ := World.cells?_some hc
  obtain ⟨c0, c1, c2, rfl⟩ := list3 hcl
  have hy3 : ys.length = 3 := hyl
  have r0 := hf 0 _ rfl
  have s0 : DataW.trod enc Tryd.prog W 0 (fun _ => true) true n' 3 (([c0, c1, c2].drop 0).take (Tryd.prog.cellsOf 3)) = ys[0]? := r0
  clear r0
  have r1 := hf 1 _ rfl
  have s1 : DataW.trod enc Tryd.prog W 0 (fun _ => true) true n' 3 (([c0, c1, c2].drop 1).take (Tryd.prog.cellsOf 3)) = ys[1]? := r1
  clear r1
  have r2 := hf 2 _ rfl
  have s2 : DataW.trod enc Tryd.prog W 0 (fun _ => true) true n' 9 (([c0, c1, c2].drop 2).take (Tryd.prog.cellsOf 9)) = ys[2]? := r2
  clear r2
  rw [cells_int_Tryd] at s0 s1
  rw [cells_string_Tryd] at s2
  rw [List.getElem?_eq_getElem (by omega)] at s0 s1 s2
  obtain ⟨n0, e0, _, w0⟩ := DataW.trod_int Tryd.underlying3 s0
  obtain ⟨n1, e1, _, w1⟩ := DataW.trod_int Tryd.underlying3 s1
  obtain ⟨n2, e2, _, w2⟩ := DataW.trod_string Tryd.underlying9 s2
  have e0' : c0 = .int .i64 n0 := by simpa using e0
  have e1' : c1 = .int .i64 n1 := by simpa using e1
  have e2' : c2 = .string n2 := by simpa using e2
  subst e0'; subst e1'; subst e2'
  exact ⟨⟨n0, n1, n2⟩, ⟨lit_i64 w0, lit_i64 w1, by unfold maxLen at w2; omega⟩, hat 0 (by omega), hat 1 (by omega), hat 2 (by omega)⟩

set_option maxRecDepth 100000 in
theorem open_sheet {v : Value} {d : DataW H} {p : List MemPlace} (hv : Value.okWide Tryd.prog W .any base 24 v) (h : DataW.Trod enc Tryd.prog W 0 (fun _ => true) true 24 v d p)
    (hz : ∀ n ∈ d.weights Tryd.prog 24, n ≤ reachBytes) : ∃ (q : Int) (A : Option Addr) (c : Nat) (ws : List GW), v = .agg #[.int .i64 q, .slice A ws.length c] ∧ ShIn W q A ws ∧ ws.length ≤ c := by
  obtain ⟨v0, v1, y0, y1, n, rfl, rfl, _, h0, h1⟩ := open_agg2 Tryd.underlying24 (by kernel_rfl) (by kernel_rfl) hv h
  obtain ⟨q, e0, _, w0⟩ := DataW.trod_int Tryd.underlying3 h0
  injection e0 with e0
  subst e0
  rcases open_slice Tryd.underlying22 h1 with ⟨hcs, hx⟩ | ⟨a, len, cap, m, n', D, Pl, hcs, _, hl, hm, hmm, hx, hi⟩
  · injection hcs with hcs
    subst hcs
    exact ⟨q, none, 0, [], rfl, ⟨(lit_i64 w0).1, (lit_i64 w0).2, by simp, by simp, fun h => absurd h (by simp)⟩, by simp⟩
  · injection hcs with hcs
    subst hcs
    simp only [if_true] at hmm
    subst hmm
    have hlen : len ≤ 281474976710656 := by
      have := hz ((len + (m - len)) * Tryd.prog.bytesOf 50) (by
        rw [hx]
        simp [DataW.weights, DataW.weightsEach, Tryd.underlying24, Tryd.underlying22])
      rw [bytes_work_Tryd] at this
      have hr : reachBytes = 140737488351232 := by decide
      rw [hr] at this
      omega
    have hch : ∀ i : Nat, ∃ g : GW, i < len → g.fits ∧ W.cell? (a.add (i * 3)) = some (.int .i64 g.kind) ∧ W.cell? (a.add (i * 3 + 1)) = some (.int .i64 g.pl) ∧ W.cell? (a.add (i * 3 + 2)) = some (.string g.word) := by
      intro i
      by_cases hil : i < len
      · obtain ⟨g, g0, g1, g2, g3⟩ := open_work (hi i (by omega))
        rw [cells_work_Tryd, add_of_add] at g1 g2 g3
        exact ⟨g, fun _ => ⟨g0, g1, g2, g3⟩⟩
      · exact ⟨⟨0, 0, ByteArray.empty⟩, fun h => absurd h hil⟩
    obtain ⟨f, hf⟩ := Classical.axiomOfChoice hch
    have hfl : ((List.range len).map f).length = len := by simp
    refine ⟨q, some a, m, (List.range len).map f, by rw [hfl], ⟨(lit_i64 w0).1, (lit_i64 w0).2, by rw [hfl]; exact hlen, ?_, Rd.ofAddr ?_⟩, by rw [hfl]; exact hl⟩
    · intro x hx
      obtain ⟨i, hi, rfl⟩ := List.mem_map.1 hx
      exact (hf i (List.mem_range.1 hi)).1
    · intro _
      refine ⟨a, rfl, fun j hj => ?_⟩
      rw [hfl] at hj
      have hg : ∀ k, k < len → ((List.range len).map f).getD k ⟨0, 0, ByteArray.empty⟩ = f k := fun k hk => by simp [List.getD_eq_getElem?_getD, hk]
      rcases (show j % 3 = 0 ∨ j % 3 = 1 ∨ j % 3 = 2 by omega) with e | e | e
      · obtain ⟨k, rfl⟩ : ∃ k, j = k * 3 := ⟨j / 3, by omega⟩
        rw [(hf k (by omega)).2.1]; unfold cellsW; rw [show k * 3 / 3 = k by omega, show k * 3 % 3 = 0 by omega, hg k (by omega)]
        all_goals rfl
      · obtain ⟨k, rfl⟩ : ∃ k, j = k * 3 + 1 := ⟨j / 3, by omega⟩
        rw [(hf k (by omega)).2.2.1]; unfold cellsW; rw [show (k * 3 + 1) / 3 = k by omega, show (k * 3 + 1) % 3 = 1 by omega, hg k (by omega)]
        all_goals rfl
      · obtain ⟨k, rfl⟩ : ∃ k, j = k * 3 + 2 := ⟨j / 3, by omega⟩
        rw [(hf k (by omega)).2.2.2]; unfold cellsW; rw [show (k * 3 + 2) / 3 = k by omega, show (k * 3 + 2) % 3 = 2 by omega, hg k (by omega)]
        all_goals rfl
end
end Go.Proofs.YtlpfecjkkgccgaaDoor
/- A slice of ints that came in, opened. -/
namespace Go.Proofs.YtlpfecjkkgccgaaDoor
open Go.RowKit Go.Joins Go.ChangeShapes Go.WideShapes Go.Deep

theorem bytes_int_Tryd : Tryd.prog.bytesOf 3 = 8 := by kernel_rfl
section
variable {H : Type} {enc : TypeId × Value → H} {W : World} {base : Nat}
set_option maxRecDepth 100000 in
theorem open_intsA {v : Value} {d : DataW H} {p : List MemPlace} (hv : Value.okWide Tryd.prog W .any base 26 v) (h : DataW.Trod enc Tryd.prog W 0 (fun _ => true) true 26 v d p)
    (hz : ∀ n ∈ d.weights Tryd.prog 26, n ≤ reachBytes) : ∃ (A : Option Addr) (c : Nat) (l : List Int), v = .slice A l.length c ∧ RdI W A l ∧ l.length ≤ c ∧ ∀ x ∈ l, -9223372036854775808 ≤ x ∧ x ≤ 9223372036854775807 := by
  obtain ⟨a0, len0, cap0, rfl⟩ := okWide_slice Tryd.underlying26 hv
  obtain ⟨fuel, hf⟩ := h
  rcases open_ints Tryd.underlying26 Tryd.underlying3 cells_int_Tryd hf with ⟨hcs, hx⟩ | ⟨a, len, cap, zs, hcs, _, hl, hm, hzl, hx, hcell, hwz⟩
  · simp [Value.cells] at hcs
    obtain ⟨rfl, rfl, rfl⟩ := hcs
    exact ⟨none, 0, [], rfl, ⟨by simp, fun h => absurd h (by simp)⟩, by simp, by simp⟩
  · simp [Value.cells] at hcs
    obtain ⟨rfl, rfl, rfl⟩ := hcs
    simp only [if_true] at hzl
    simp only [Prod.mk.injEq] at hx
    obtain ⟨rfl, _⟩ := hx
    have hlen : len0 ≤ 281474976710656 := by
      have := hz ((lits .i64 (zs.take len0)).length * Tryd.prog.bytesOf 3 + (lits .i64 (zs.drop len0)).length * Tryd.prog.bytesOf 3) (by
        simp [DataW.weights, Tryd.underlying26, Nat.add_mul]
        exact .inl rfl)
      rw [bytes_int_Tryd] at this
      have hr : reachBytes = 140737488351232 := by decide
      rw [hr] at this
      simp [lits, hzl] at this
      omega
    have htl : (zs.take len0).length = len0 := by simp; omega
    refine ⟨some a, cap0, zs.take len0, by rw [htl], ⟨by rw [htl]; exact hlen, Rd.ofAddr fun _ => ⟨a, rfl, fun j hj => ?_⟩⟩, by rw [htl]; exact hl, fun x hx => lit_i64 (hwz x (List.mem_of_mem_take hx))⟩
    rw [htl] at hj
    rw [hcell j (by omega)]
    simp [List.getD_eq_getElem?_getD, show j < len0 by omega]
end
end Go.Proofs.YtlpfecjkkgccgaaDoor
/- A case that came in, opened: a sheet, wishes, an order. -/
namespace Go.Proofs.YtlpfecjkkgccgaaDoor
open Go.RowKit Go.Joins Go.ChangeShapes Go.WideShapes Go.Deep

theorem cells_pair2_Tryd : Tryd.prog.cellsOf 43 = 2 := by kernel_rfl
theorem bytes_pair2_Tryd : Tryd.prog.bytesOf 43 = 16 := by kernel_rfl
theorem cells_case_Tryd : Tryd.prog.cellsOf 28 = 4 := by kernel_rfl
theorem cells_sheet_Tryd : Tryd.prog.cellsOf 24 = 2 := by kernel_rfl
theorem cells_ints_Tryd : Tryd.prog.cellsOf 26 = 1 := by kernel_rfl
theorem cells_pairs2_Tryd : Tryd.prog.cellsOf 25 = 1 := by kernel_rfl
theorem cells_works_Tryd : Tryd.prog.cellsOf 22 = 1 := by kernel_rfl
theorem list2 {α : Type} : ∀ {l : List α}, l.length = 2 → ∃ a b, l = [a, b]
  | [a, b], _ => ⟨a, b, rfl⟩
theorem list4 {α : Type} : ∀ {l : List α}, l.length = 4 → ∃ a b c d, l = [a, b, c, d]
  | [a, b, c, d], _ => ⟨a, b, c, d, rfl⟩
section
variable {H : Type} {enc : TypeId × Value → H} {W : World} {base fuel : Nat}
set_option maxRecDepth 100000 in
theorem open_ints_c {v0 : Value} {x : DataW H × List MemPlace} (hf : DataW.trod enc Tryd.prog W 0 (fun _ => true) true fuel 26 [v0] = some x) (hz : ∀ n ∈ x.1.weights Tryd.prog 26, n ≤ reachBytes) :
    ∃ (A : Option Addr) (c : Nat) (l : List Int), v0 = .slice A l.length c ∧ RdI W A l ∧ l.length ≤ c ∧ ∀ x ∈ l, -9223372036854775808 ≤ x ∧ x ≤ 9223372036854775807 := by
  rcases open_ints Tryd.underlying26 Tryd.underlying3 cells_int_Tryd hf with ⟨hcs, hx⟩ | ⟨a, len, cap, zs, hcs, _, hl, hm, hzl, hx, hcell, hwz⟩
  · injection hcs with hcs
    subst hcs
    exact ⟨none, 0, [], rfl, ⟨by simp, fun h => absurd h (by simp)⟩, by simp, by simp⟩
  · injection hcs with hcs
    subst hcs
    simp only [if_true] at hzl
    subst hx
    have hlen : len ≤ 281474976710656 := by
      have := hz ((lits .i64 (zs.take len)).length * Tryd.prog.bytesOf 3 + (lits .i64 (zs.drop len)).length * Tryd.prog.bytesOf 3) (by
        simp [DataW.weights, Tryd.underlying26, Nat.add_mul]
        exact .inl rfl)
      rw [bytes_int_Tryd] at this
      have hr : reachBytes = 140737488351232 := by decide
      rw [hr] at this
      simp [lits, hzl] at this
      omega
    have htl : (zs.take len).length = len := by simp; omega
    refine ⟨some a, cap, zs.take len, by rw [htl], ⟨by rw [htl]; exact hlen, Rd.ofAddr fun _ => ⟨a, rfl, fun j hj => ?_⟩⟩, by rw [htl]; exact hl, fun x hx => lit_i64 (hwz x (List.mem_of_mem_take hx))⟩
    rw [htl] at hj
    rw [hcell j (by omega)]
    simp [List.getD_eq_getElem?_getD, show j < len by omega]
set_option maxRecDepth 100000 in
/-- One wish, out of its cells. -/
theorem open_pair {n : Nat} {a : Addr} {x : DataW H × List MemPlace} (h : ∃ cs', W.cells? 0 a (Tryd.prog.cellsOf 43) = some cs' ∧ DataW.trod enc Tryd.prog W 0 (fun _ => true) true n 43 cs' = some x) :
    ∃ g : Int × Int, W.cell? (a.add 0) = some (.int .i64 g.1) ∧ W.cell? (a.add 1) = some (.int .i64 g.2) := by
  obtain ⟨cs', hc, ht⟩ := h
  rw [cells_pair2_Tryd] at hc
  obtain ⟨ys, n', _, _, _, hyl, hf⟩ := DataW.trod_array Tryd.underlying43 ht
  obtain ⟨_, hcl, hat⟩ := World.cells?_some hc
  obtain ⟨c0, c1, rfl⟩ := list2 hcl
  have s0 := hf 0 (by omega)
  have s1 := hf 1 (by omega)
  rw [cells_int_Tryd] at s0 s1
  rw [List.getElem?_eq_getElem (by omega)] at s0 s1
  obtain ⟨n0, e0, _, _⟩ := DataW.trod_int Tryd.underlying3 s0
  obtain ⟨n1, e1, _, _⟩ := DataW.trod_int Tryd.underlying3 s1
  have e0' : c0 = .int .i64 n0 := by simpa using e0
  have e1' : c1 = .int .i64 n1 := by simpa using e1
  subst e0'; subst e1'
  exact ⟨(n0, n1), hat 0 (by omega), hat 1 (by omega)⟩
set_option maxRecDepth 100000 in
theorem open_pairs_c {v0 : Value} {x : DataW H × List MemPlace} (hf : DataW.trod enc Tryd.prog W 0 (fun _ => true) true fuel 25 [v0] = some x) (hz : ∀ n ∈ x.1.weights Tryd.prog 25, n ≤ reachBytes) :
    ∃ (A : Option Addr) (c : Nat) (wl : List (Int × Int)), v0 = .slice A wl.length c ∧ RdP W A wl ∧ wl.length ≤ c := by
  rcases open_slice Tryd.underlying25 hf with ⟨hcs, hx⟩ | ⟨a, len, cap, m, n', D, Pl, hcs, _, hl, hm, hmm, hx, hi⟩
  · injection hcs with hcs
    subst hcs
    exact ⟨none, 0, [], rfl, ⟨by simp, fun h => absurd h (by simp)⟩, by simp⟩
  · injection hcs with hcs
    subst hcs
    simp only [if_true] at hmm
    subst hmm
    have hlen : len ≤ 281474976710656 := by
      have := hz ((len + (m - len)) * Tryd.prog.bytesOf 43) (by
        rw [hx]
        simp [DataW.weights, Tryd.underlying25])
      rw [bytes_pair2_Tryd] at this
      have hr : reachBytes = 140737488351232 := by decide
      rw [hr] at this
      omega
    have hch : ∀ i : Nat, ∃ g : Int × Int, i < len → W.cell? (a.add (i * 2)) = some (.int .i64 g.1) ∧ W.cell? (a.add (i * 2 + 1)) = some (.int .i64 g.2) := by
      intro i
      by_cases hil : i < len
      · obtain ⟨g, g1, g2⟩ := open_pair (hi i (by omega))
        rw [cells_pair2_Tryd, add_of_add] at g1 g2
        exact ⟨g, fun _ => ⟨g1, g2⟩⟩
      · exact ⟨(0, 0), fun h => absurd h hil⟩
    obtain ⟨f, hf⟩ := Classical.axiomOfChoice hch
    have hfl : ((List.range len).map f).length = len := by simp
    refine ⟨some a, m, (List.range len).map f, by rw [hfl], ⟨by rw [hfl]; exact hlen, Rd.ofAddr ?_⟩, by rw [hfl]; exact hl⟩
    intro _
    refine ⟨a, rfl, fun j hj => ?_⟩
    rw [hfl] at hj
    have hg : ∀ k, k < len → ((List.range len).map f).getD k (0, 0) = f k := fun k hk => by simp [List.getD_eq_getElem?_getD, hk]
    rcases (show j % 2 = 0 ∨ j % 2 = 1 by omega) with e | e
    · obtain ⟨k, rfl⟩ : ∃ k, j = k * 2 := ⟨j / 2, by omega⟩
      rw [(hf k (by omega)).1]; unfold cellsP; rw [if_pos (by omega), show k * 2 / 2 = k by omega, hg k (by omega)]
    · obtain ⟨k, rfl⟩ : ∃ k, j = k * 2 + 1 := ⟨j / 2, by omega⟩
      rw [(hf k (by omega)).2]; unfold cellsP; rw [if_neg (by omega), show (k * 2 + 1) / 2 = k by omega, hg k (by omega)]
set_option maxRecDepth 100000 in
theorem open_sheet_c {v0 v1 : Value} {x : DataW H × List MemPlace} (hf : DataW.trod enc Tryd.prog W 0 (fun _ => true) true fuel 24 [v0, v1] = some x) (hz : ∀ n ∈ x.1.weights Tryd.prog 24, n ≤ reachBytes) :
    ∃ (q : Int) (A : Option Addr) (c : Nat) (ws : List GW), v0 = .int .i64 q ∧ v1 = .slice A ws.length c ∧ ShIn W q A ws ∧ ws.length ≤ c := by
  have hv : ∃ v : Value, v = .agg #[v0, v1] := ⟨_, rfl⟩
  obtain ⟨ys, n, _, hx, _, hyl, hff⟩ := DataW.trod_struct Tryd.underlying24 hf
  have r0 := hff 0 _ rfl
  have s0 : DataW.trod enc Tryd.prog W 0 (fun _ => true) true n 3 (([v0, v1].drop 0).take (Tryd.prog.cellsOf 3)) = ys[0]? := r0
  have r1 := hff 1 _ rfl
  have s1 : DataW.trod enc Tryd.prog W 0 (fun _ => true) true n 22 (([v0, v1].drop 1).take (Tryd.prog.cellsOf 22)) = ys[1]? := r1
  rw [cells_int_Tryd] at s0
  rw [cells_works_Tryd] at s1
  have hyl2 : ys.length = 2 := hyl
  obtain ⟨y0, y1, rfl⟩ := list2 hyl2
  obtain ⟨q, e0, _, w0⟩ := DataW.trod_int Tryd.underlying3 s0
  have e0' : v0 = .int .i64 q := by simpa using e0
  subst e0'
  have s1' : DataW.trod enc Tryd.prog W 0 (fun _ => true) true n 22 [v1] = some y1 := s1
  rcases open_slice Tryd.underlying22 s1' with ⟨hcs, hx1⟩ | ⟨a, len, cap, m, n', D, Pl, hcs, _, hl, hm, hmm, hx1, hi⟩
  · injection hcs with hcs
    subst hcs
    exact ⟨q, none, 0, [], rfl, rfl, ⟨(lit_i64 w0).1, (lit_i64 w0).2, by simp, by simp, fun h => absurd h (by simp)⟩, by simp⟩
  · injection hcs with hcs
    subst hcs
    simp only [if_true] at hmm
    subst hmm
    have hlen : len ≤ 281474976710656 := by
      have := hz ((len + (m - len)) * Tryd.prog.bytesOf 50) (by
        rw [hx, hx1]
        simp [DataW.weights, DataW.weightsEach, Tryd.underlying24, Tryd.underlying22])
      rw [bytes_work_Tryd] at this
      have hr : reachBytes = 140737488351232 := by decide
      rw [hr] at this
      omega
    have hch : ∀ i : Nat, ∃ g : GW, i < len → g.fits ∧ W.cell? (a.add (i * 3)) = some (.int .i64 g.kind) ∧ W.cell? (a.add (i * 3 + 1)) = some (.int .i64 g.pl) ∧ W.cell? (a.add (i * 3 + 2)) = some (.string g.word) := by
      intro i
      by_cases hil : i < len
      · obtain ⟨g, g0, g1, g2, g3⟩ := open_work (hi i (by omega))
        rw [cells_work_Tryd, add_of_add] at g1 g2 g3
        exact ⟨g, fun _ => ⟨g0, g1, g2, g3⟩⟩
      · exact ⟨⟨0, 0, ByteArray.empty⟩, fun h => absurd h hil⟩
    obtain ⟨f, hf⟩ := Classical.axiomOfChoice hch
    have hfl : ((List.range len).map f).length = len := by simp
    refine ⟨q, some a, m, (List.range len).map f, rfl, by rw [hfl], ⟨(lit_i64 w0).1, (lit_i64 w0).2, by rw [hfl]; exact hlen, ?_, Rd.ofAddr ?_⟩, by rw [hfl]; exact hl⟩
    · intro x hx
      obtain ⟨i, hi, rfl⟩ := List.mem_map.1 hx
      exact (hf i (List.mem_range.1 hi)).1
    · intro _
      refine ⟨a, rfl, fun j hj => ?_⟩
      rw [hfl] at hj
      have hg : ∀ k, k < len → ((List.range len).map f).getD k ⟨0, 0, ByteArray.empty⟩ = f k := fun k hk => by simp [List.getD_eq_getElem?_getD, hk]
      rcases (show j % 3 = 0 ∨ j % 3 = 1 ∨ j % 3 = 2 by omega) with e | e | e
      · obtain ⟨k, rfl⟩ : ∃ k, j = k * 3 := ⟨j / 3, by omega⟩
        rw [(hf k (by omega)).2.1]; unfold cellsW; rw [show k * 3 / 3 = k by omega, show k * 3 % 3 = 0 by omega, hg k (by omega)]
        all_goals rfl
      · obtain ⟨k, rfl⟩ : ∃ k, j = k * 3 + 1 := ⟨j / 3, by omega⟩
        rw [(hf k (by omega)).2.2.1]; unfold cellsW; rw [show (k * 3 + 1) / 3 = k by omega, show (k * 3 + 1) % 3 = 1 by omega, hg k (by omega)]
        all_goals rfl
      · obtain ⟨k, rfl⟩ : ∃ k, j = k * 3 + 2 := ⟨j / 3, by omega⟩
        rw [(hf k (by omega)).2.2.2]; unfold cellsW; rw [show (k * 3 + 2) / 3 = k by omega, show (k * 3 + 2) % 3 = 2 by omega, hg k (by omega)]
        all_goals rfl
set_option maxRecDepth 100000 in
theorem open_case {v : Value} {d : DataW H} {p : List MemPlace} (hv : Value.okWide Tryd.prog W .any base 28 v) (h : DataW.Trod enc Tryd.prog W 0 (fun _ => true) true 28 v d p)
    (hz : ∀ n ∈ d.weights Tryd.prog 28, n ≤ reachBytes) :
    ∃ (q : Int) (A Wa B : Option Addr) (c wc lc : Nat) (ws : List GW) (wl : List (Int × Int)) (l : List Int), v = .agg #[.int .i64 q, .slice A ws.length c, .slice Wa wl.length wc, .slice B l.length lc] ∧ ShIn W q A ws ∧ RdP W Wa wl ∧ wl.length ≤ wc ∧ RdI W B l ∧ l.length ≤ lc ∧ ∀ x ∈ l, -9223372036854775808 ≤ x ∧ x ≤ 9223372036854775807 := by
  obtain ⟨cs, rfl, hsz⟩ := okWide_struct Tryd.underlying28 hv
  rw [cells_case_Tryd] at hsz
  obtain ⟨fuel, hf⟩ := h
  have hcl : cs.toList.length = 4 := by simpa using hsz
  replace hf : DataW.trod enc Tryd.prog W 0 (fun _ => true) true fuel 28 cs.toList = some (d, p) := hf
  obtain ⟨c0, c1, c2, c3, hcs⟩ := list4 hcl
  rw [hcs] at hf
  obtain ⟨ys, n, _, hx, _, hyl, hff⟩ := DataW.trod_struct Tryd.underlying28 hf
  have r0 := hff 0 _ rfl
  have s0 : DataW.trod enc Tryd.prog W 0 (fun _ => true) true n 24 (([c0, c1, c2, c3].drop 0).take (Tryd.prog.cellsOf 24)) = ys[0]? := r0
  have r1 := hff 1 _ rfl
  have s1 : DataW.trod enc Tryd.prog W 0 (fun _ => true) true n 25 (([c0, c1, c2, c3].drop 2).take (Tryd.prog.cellsOf 25)) = ys[1]? := r1
  have r2 := hff 2 _ rfl
  have s2 : DataW.trod enc Tryd.prog W 0 (fun _ => true) true n 26 (([c0, c1, c2, c3].drop 3).take (Tryd.prog.cellsOf 26)) = ys[2]? := r2
  rw [cells_sheet_Tryd] at s0
  rw [cells_pairs2_Tryd] at s1
  rw [cells_ints_Tryd] at s2
  have hyl3 : ys.length = 3 := hyl
  obtain ⟨y0, y1, y2, rfl⟩ := list3 hyl3
  have hd : d = .agg [y0.1, y1.1, y2.1] := by
    simp only [Prod.mk.injEq] at hx
    exact hx.1
  have hw : ∀ m, (m ∈ y0.1.weights Tryd.prog 24 ∨ m ∈ y1.1.weights Tryd.prog 25 ∨ m ∈ y2.1.weights Tryd.prog 26) → m ≤ reachBytes := fun m hm => hz m (by
    rw [hd]
    simp only [DataW.weights, Tryd.underlying28, DataW.weightsEach, List.map_cons, List.map_nil, List.mem_append]
    rcases hm with hm | hm | hm
    · exact .inl hm
    · exact .inr (.inl hm)
    · exact .inr (.inr (.inl hm)))
  obtain ⟨q, A, c, ws, rfl, rfl, hsh, _⟩ := open_sheet_c (x := y0) s0 fun m hm => hw m (.inl hm)
  obtain ⟨Wa, wc, wl, rfl, hwl, hwc⟩ := open_pairs_c (x := y1) s1 fun m hm => hw m (.inr (.inl hm))
  obtain ⟨B, lc, l, rfl, hl, hlc, hr⟩ := open_ints_c (x := y2) s2 fun m hm => hw m (.inr (.inr hm))
  refine ⟨q, A, Wa, B, c, wc, lc, ws, wl, l, ?_, hsh, hwl, hwc, hl, hlc, hr⟩
  congr 1
  apply Array.ext'
  exact hcs
end
end Go.Proofs.YtlpfecjkkgccgaaDoor
