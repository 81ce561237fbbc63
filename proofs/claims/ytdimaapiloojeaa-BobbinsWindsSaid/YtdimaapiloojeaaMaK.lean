/- Texts of this claim, laid together: OpenBo1, OpenBo2. -/
import Derived.Test.YtdimaapiloojeaaMaB
import Derived.Test.YtdimaapiloojeaaMaI
/- A thread that came in, opened. -/
namespace Go.Proofs.Ytdimaapiloojeaa
open Go.RowKit Go.Joins Go.ChangeShapes Go.WideShapes Go.Deep

theorem cells_thr_Try : Try.prog.cellsOf 43 = 2 := by kernel_rfl
theorem cells_sl_Try : Try.prog.cellsOf 22 = 1 := by kernel_rfl
theorem list2 {α : Type} : ∀ {l : List α}, l.length = 2 → ∃ a b, l = [a, b]
  | [a, b], _ => ⟨a, b, rfl⟩
theorem weightsAll_mem {H : Type} {P : Program} {e : TypeId} {d : DataW H} {n : Nat} : ∀ {ds : List (DataW H)}, d ∈ ds → n ∈ d.weights P e → n ∈ DataW.weightsAll P e ds
  | [], h, _ => absurd h (by simp)
  | x :: ds, h, hn => by
    unfold DataW.weightsAll
    rcases List.mem_cons.1 h with rfl | h
    · exact List.mem_append.2 (.inl hn)
    · exact List.mem_append.2 (.inr (weightsAll_mem h hn))
section
variable {H : Type} {enc : TypeId × Value → H} {W : World} {base : Nat}
/-- A slice of int64s out of its one cell. -/
theorem open_i64c {fuel : Nat} {v : Value} {x : DataW H × List MemPlace} (h : DataW.trod enc Try.prog W 0 (fun _ => true) true fuel 22 [v] = some x) (hz : ∀ n ∈ x.1.weights Try.prog 22, n ≤ reachBytes) :
    ∃ (A : Option Addr) (c : Nat) (l : List Int), v = .slice A l.length c ∧ RdI W A l ∧ l.length ≤ c := by
  rcases open_ints Try.underlying22 Try.underlying2 cells_i64s_Try h with ⟨hcs, hx⟩ | ⟨a, len, cap, zs, hcs, _, hl, hm, hzl, hx, hcell, hwz⟩
  · injection hcs with hcs
    subst hcs
    exact ⟨none, 0, [], rfl, ⟨by simp, fun h => absurd h (by simp)⟩, by simp⟩
  · injection hcs with hcs
    subst hcs
    simp only [if_true] at hzl
    have hlen : len ≤ 281474976710656 := by
      have := hz ((lits .i64 (zs.take len)).length * Try.prog.bytesOf 2 + (lits .i64 (zs.drop len)).length * Try.prog.bytesOf 2) (by
        rw [hx]
        simp [DataW.weights, Try.underlying22, Nat.add_mul]
        exact .inl rfl)
      rw [bytes_i64s_Try] at this
      have hr : reachBytes = 140737488351232 := by decide
      rw [hr] at this
      simp [lits, hzl] at this
      omega
    have htl : (zs.take len).length = len := by simp; omega
    refine ⟨some a, cap, zs.take len, by rw [htl], ⟨by rw [htl]; exact hlen, Rd.ofAddr fun _ => ⟨a, rfl, fun j hj => ?_⟩⟩, by rw [htl]; exact hl⟩
    rw [htl] at hj
    rw [hcell j (by omega)]
    simp [List.getD_eq_getElem?_getD, show j < len by omega]
set_option maxRecDepth 100000 in
theorem open_thr {v : Value} {d : DataW H} {p : List MemPlace} (hv : Value.okWide Try.prog W .any base 43 v) (h : DataW.Trod enc Try.prog W 0 (fun _ => true) true 43 v d p)
    (hz : ∀ n ∈ d.weights Try.prog 43, n ≤ reachBytes) : ∃ (q : Int) (A : Option Addr) (c : Nat) (l : List Int), v = .agg #[.int .i64 q, .slice A l.length c] ∧ RdI W A l := by
  obtain ⟨v0, v1, y0, y1, n, rfl, rfl, _, h0, h1⟩ := open_agg2 Try.underlying43 (by kernel_rfl) (by kernel_rfl) hv h
  obtain ⟨q, e0, _, w0⟩ := DataW.trod_int Try.underlying2 h0
  injection e0 with e0
  subst e0
  obtain ⟨A, c, l, rfl, hr, _⟩ := open_i64c h1 (fun n hn => hz n (by
    simp only [DataW.weights, Try.underlying43]
    exact List.mem_append.2 (.inr (List.mem_append.2 (.inl hn)))))
  exact ⟨q, A, c, l, rfl, hr⟩
set_option maxRecDepth 100000 in
theorem open_thrc {n : Nat} {a : Addr} {x : DataW H × List MemPlace} (h : ∃ cs', W.cells? 0 a (Try.prog.cellsOf 43) = some cs' ∧ DataW.trod enc Try.prog W 0 (fun _ => true) true n 43 cs' = some x) (hz : ∀ n ∈ x.1.weights Try.prog 43, n ≤ reachBytes) :
    ∃ (q : Int) (A : Option Addr) (c : Nat) (l : List Int), W.cell? (a.add 0) = some (.int .i64 q) ∧ W.cell? (a.add 1) = some (.slice A l.length c) ∧ RdI W A l := by
  obtain ⟨cs', hc, ht⟩ := h
  rw [cells_thr_Try] at hc
  obtain ⟨ys, n', _, hx, _, hyl, hf⟩ := DataW.trod_struct Try.underlying43 ht
  obtain ⟨_, hcl, hat⟩ := World.cells?_some hc
  obtain ⟨c0, c1, rfl⟩ := list2 hcl
  have hy2 : ys.length = 2 := hyl
  obtain ⟨y0, y1, rfl⟩ := list2 hy2
  have r0 := hf 0 _ rfl
  have s0 : DataW.trod enc Try.prog W 0 (fun _ => true) true n' 2 (([c0, c1].drop 0).take (Try.prog.cellsOf 2)) = some y0 := r0
  clear r0
  have r1 := hf 1 _ rfl
  have s1 : DataW.trod enc Try.prog W 0 (fun _ => true) true n' 22 (([c0, c1].drop 1).take (Try.prog.cellsOf 22)) = some y1 := r1
  clear r1
  rw [cells_i64s_Try] at s0
  rw [cells_sl_Try] at s1
  obtain ⟨q, e0, _, w0⟩ := DataW.trod_int Try.underlying2 s0
  have e0' : c0 = .int .i64 q := by simpa using e0
  subst e0'
  have s1' : DataW.trod enc Try.prog W 0 (fun _ => true) true n' 22 [c1] = some y1 := s1
  obtain ⟨A, c, l, rfl, hr, _⟩ := open_i64c s1' (fun n hn => hz n (by
    rw [hx]
    simp only [DataW.weights, Try.underlying43]
    exact List.mem_append.2 (.inr (List.mem_append.2 (.inl hn)))))
  exact ⟨q, A, c, l, hat 0 (by omega), hat 1 (by omega), hr⟩
end
end Go.Proofs.Ytdimaapiloojeaa
/- A slice of threads that came in, opened. -/
namespace Go.Proofs.Ytdimaapiloojeaa
open Go.RowKit Go.Joins Go.ChangeShapes Go.WideShapes Go.Deep

theorem bytes_thr_Try : Try.prog.bytesOf 43 = 32 := by kernel_rfl
section
variable {H : Type} {enc : TypeId × Value → H} {W : World} {base : Nat}
set_option maxRecDepth 100000 in
theorem open_thrs {v : Value} {d : DataW H} {p : List MemPlace} (hv : Value.okWide Try.prog W .any base 49 v) (h : DataW.Trod enc Try.prog W 0 (fun _ => true) true 49 v d p)
    (hz : ∀ n ∈ d.weights Try.prog 49, n ≤ reachBytes) : ∃ (A : Option Addr) (c : Nat) (l : List (Int × List Int)), v = .slice A l.length c ∧ RdTh W A l := by
  obtain ⟨a0, len0, cap0, rfl⟩ := okWide_slice Try.underlying49 hv
  obtain ⟨fuel, hf⟩ := h
  rcases open_slice Try.underlying49 hf with ⟨hcs, hx⟩ | ⟨a, len, cap, m, n', D, Pl, hcs, _, hl, hm, hmm, hx, hi⟩
  · simp [Value.cells] at hcs
    obtain ⟨rfl, rfl, rfl⟩ := hcs
    exact ⟨none, 0, [], rfl, by simp, fun h => absurd h (by simp)⟩
  · simp [Value.cells] at hcs
    obtain ⟨rfl, rfl, rfl⟩ := hcs
    simp only [if_true] at hmm
    subst hmm
    simp only [Prod.mk.injEq] at hx
    obtain ⟨rfl, _⟩ := hx
    have hlen : len0 ≤ 281474976710656 := by
      have := hz ((len0 + (m - len0)) * Try.prog.bytesOf 43) (by
        simp [DataW.weights, Try.underlying49])
      rw [bytes_thr_Try] at this
      have hr : reachBytes = 140737488351232 := by decide
      rw [hr] at this
      omega
    have hch : ∀ i : Nat, ∃ g : Int × List Int, ∃ (PA : Option Addr) (pc : Nat), i < len0 → W.cell? (a.add (i * 2)) = some (.int .i64 g.1) ∧ W.cell? (a.add (i * 2 + 1)) = some (.slice PA g.2.length pc) ∧ RdI W PA g.2 := by
      intro i
      by_cases hil : i < len0
      · obtain ⟨q, A, c, l, g0, g1, g2⟩ := open_thrc (hi i (by omega)) (fun n hn => hz n (by
          simp only [DataW.weights, Try.underlying49]
          refine List.mem_cons.2 (.inr (List.mem_append.2 (.inl ?_)))
          exact weightsAll_mem (List.mem_map.2 ⟨i, List.mem_range.2 hil, rfl⟩) hn))
        rw [cells_thr_Try, add_of_add] at g0 g1
        exact ⟨(q, l), A, c, fun _ => ⟨g0, g1, g2⟩⟩
      · exact ⟨(0, []), none, 0, fun h => absurd h hil⟩
    obtain ⟨f, hf9⟩ := Classical.axiomOfChoice hch
    obtain ⟨PAf, hf8⟩ := Classical.axiomOfChoice hf9
    obtain ⟨pcf, hf7⟩ := Classical.axiomOfChoice hf8
    have hrd : Rd W (some a) 2 len0 (fun j => if j % 2 = 0 then .int .i64 (f (j / 2)).1 else .slice (PAf (j / 2)) (f (j / 2)).2.length (pcf (j / 2))) := Rd.ofAddr fun _ => ⟨a, rfl, fun j hj => by
      rcases (show j % 2 = 0 ∨ j % 2 = 1 by omega) with e | e
      · obtain ⟨k, rfl⟩ : ∃ k, j = k * 2 := ⟨j / 2, by omega⟩
        rw [(hf7 k (by omega)).1, if_pos e, show k * 2 / 2 = k by omega]
      · obtain ⟨k, rfl⟩ : ∃ k, j = k * 2 + 1 := ⟨j / 2, by omega⟩
        rw [(hf7 k (by omega)).2.1, if_neg (by omega), show (k * 2 + 1) / 2 = k by omega]⟩
    have hfl : ((List.range len0).map f).length = len0 := by simp
    refine ⟨some a, m, (List.range len0).map f, by rw [hfl], by rw [hfl]; exact hlen, fun h0 => ?_⟩
    rw [hfl] at h0
    obtain ⟨b, off, e, hlt, hc⟩ := hrd (by omega)
    refine ⟨b, off, e, hlt, fun k hk => ?_⟩
    rw [hfl] at hk
    have hg : ((List.range len0).map f)[k]'(by rw [hfl]; exact hk) = f k := by simp
    rw [hg]
    have h0 := hc (k * 2) (by omega)
    have h1 := hc (k * 2 + 1) (by omega)
    dsimp only at h0 h1
    rw [if_pos (by omega), show k * 2 / 2 = k by omega] at h0
    rw [if_neg (by omega), show (k * 2 + 1) / 2 = k by omega] at h1
    exact ⟨h0, PAf k, pcf k, by rw [Nat.add_assoc]; exact h1, (hf7 k hk).2.2⟩
end
end Go.Proofs.Ytdimaapiloojeaa
