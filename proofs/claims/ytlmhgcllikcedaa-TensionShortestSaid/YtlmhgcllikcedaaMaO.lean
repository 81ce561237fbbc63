/- Texts of this claim, laid together: OpenTr. -/
import Derived.Test.YtlmhgcllikcedaaMaJ
import Derived.Test.YtlmhgcllikcedaaMaN
/- A thread that came in, opened. -/
namespace Go.Proofs.Ytlmhgcllikcedaa
open Go.RowKit Go.Joins Go.ChangeShapes Go.WideShapes Go.Deep

theorem cells_gate_Try : Try.prog.cellsOf 68 = 3 := by kernel_rfl
theorem bytes_gate_Try : Try.prog.bytesOf 68 = 24 := by kernel_rfl
theorem list3T {α : Type} : ∀ {l : List α}, l.length = 3 → ∃ a b c, l = [a, b, c]
  | [a, b, c], _ => ⟨a, b, c, rfl⟩
theorem list4T {α : Type} : ∀ {l : List α}, l.length = 4 → ∃ a b c d, l = [a, b, c, d]
  | [a, b, c, d], _ => ⟨a, b, c, d, rfl⟩
theorem array6T {α : Type} {cs : Array α} (h : cs.size = 6) : ∃ c0 c1 c2 c3 c4 c5, cs = #[c0, c1, c2, c3, c4, c5] := by
  obtain ⟨l⟩ := cs
  match l, h with
  | [c0, c1, c2, c3, c4, c5], _ => exact ⟨c0, c1, c2, c3, c4, c5, rfl⟩
section
variable {H : Type} {enc : TypeId × Value → H} {W : World} {base : Nat}
set_option maxRecDepth 100000 in
theorem open_gtc {n : Nat} {a : Addr} {x : DataW H × List MemPlace} (h : ∃ cs', W.cells? 0 a (Try.prog.cellsOf 68) = some cs' ∧ DataW.trod enc Try.prog W 0 (fun _ => true) true n 68 cs' = some x) :
    ∃ g : Gt, W.cell? (a.add 0) = some (.int .i64 g.1) ∧ W.cell? (a.add 1) = some (.int .i64 g.2.1) ∧ W.cell? (a.add 2) = some (.int .i64 g.2.2) := by
  obtain ⟨cs', hc, ht⟩ := h
  rw [cells_gate_Try] at hc
  obtain ⟨ys, n', _, hx, _, hyl, hf⟩ := DataW.trod_struct Try.underlying68 ht
  obtain ⟨_, hcl, hat⟩ := World.cells?_some hc
  obtain ⟨c0, c1, c2, rfl⟩ := list3T hcl
  have hy2 : ys.length = 3 := hyl
  obtain ⟨y0, y1, y2, rfl⟩ := list3T hy2
  have s0 : DataW.trod enc Try.prog W 0 (fun _ => true) true n' 2 (([c0, c1, c2].drop 0).take (Try.prog.cellsOf 2)) = some y0 := hf 0 _ rfl
  have s1 : DataW.trod enc Try.prog W 0 (fun _ => true) true n' 2 (([c0, c1, c2].drop 1).take (Try.prog.cellsOf 2)) = some y1 := hf 1 _ rfl
  have s2 : DataW.trod enc Try.prog W 0 (fun _ => true) true n' 2 (([c0, c1, c2].drop 2).take (Try.prog.cellsOf 2)) = some y2 := hf 2 _ rfl
  rw [show Try.prog.cellsOf 2 = 1 by kernel_rfl] at s0 s1 s2
  obtain ⟨q0, e0, _, _⟩ := DataW.trod_int Try.underlying2 s0
  obtain ⟨q1, e1, _, _⟩ := DataW.trod_int Try.underlying2 s1
  obtain ⟨q2, e2, _, _⟩ := DataW.trod_int Try.underlying2 s2
  have e0' : c0 = .int .i64 q0 := by simpa using e0
  have e1' : c1 = .int .i64 q1 := by simpa using e1
  have e2' : c2 = .int .i64 q2 := by simpa using e2
  subst e0'; subst e1'; subst e2'
  exact ⟨(q0, q1, q2), hat 0 (by omega), hat 1 (by omega), hat 2 (by omega)⟩
set_option maxRecDepth 100000 in
theorem open_gts {fuel : Nat} {v : Value} {x : DataW H × List MemPlace} (h : DataW.trod enc Try.prog W 0 (fun _ => true) true fuel 46 [v] = some x) (hz : ∀ n ∈ x.1.weights Try.prog 46, n ≤ reachBytes) :
    ∃ (A : Option Addr) (c : Nat) (l : List Gt), v = .slice A l.length c ∧ RdG W A l ∧ l.length ≤ c := by
  rcases open_slice Try.underlying46 h with ⟨hcs, hx⟩ | ⟨a, len, cap, m, n', D, Pl, hcs, _, hl, hm, hmm, hx, hi⟩
  · injection hcs with hcs
    subst hcs
    exact ⟨none, 0, [], rfl, ⟨by simp, fun h => absurd h (by simp)⟩, by simp⟩
  · injection hcs with hcs
    subst hcs
    simp only [if_true] at hmm
    subst hmm
    have hlen : len ≤ 281474976710656 := by
      have := hz ((len + (m - len)) * Try.prog.bytesOf 68) (by
        rw [hx]
        simp [DataW.weights, Try.underlying46])
      rw [bytes_gate_Try] at this
      have hr : reachBytes = 140737488351232 := by decide
      rw [hr] at this
      omega
    have hch : ∀ i : Nat, ∃ g : Gt, i < len → W.cell? (a.add (i * 3)) = some (.int .i64 g.1) ∧ W.cell? (a.add (i * 3 + 1)) = some (.int .i64 g.2.1) ∧ W.cell? (a.add (i * 3 + 2)) = some (.int .i64 g.2.2) := by
      intro i
      by_cases hil : i < len
      · obtain ⟨g, g0, g1, g2⟩ := open_gtc (hi i (by omega))
        rw [cells_gate_Try, add_of_add] at g0 g1 g2
        exact ⟨g, fun _ => ⟨g0, g1, g2⟩⟩
      · exact ⟨(0, 0, 0), fun h => absurd h hil⟩
    obtain ⟨f, hf⟩ := Classical.axiomOfChoice hch
    have hfl : ((List.range len).map f).length = len := by simp
    refine ⟨some a, m, (List.range len).map f, by rw [hfl], ⟨by rw [hfl]; exact hlen, Rd.ofAddr fun _ => ⟨a, rfl, fun j hj => ?_⟩⟩, by rw [hfl]; exact hl⟩
    rw [hfl] at hj
    unfold cellsG
    have hg : ((List.range len).map f).getD (j / 3) (0, 0, 0) = f (j / 3) := by
      rw [List.getD_eq_getElem?_getD, List.getElem?_map, List.getElem?_range (by omega)]
      rfl
    rw [hg]
    obtain ⟨f0, f1, f2⟩ := hf (j / 3) (by omega)
    rcases (show j % 3 = 0 ∨ j % 3 = 1 ∨ j % 3 = 2 by omega) with e | e | e
    · rw [if_pos e]
      rwa [show j / 3 * 3 = j by omega] at f0
    · rw [if_neg (by omega), if_pos e]
      rwa [show j / 3 * 3 + 1 = j by omega] at f1
    · rw [if_neg (by omega), if_neg (by omega)]
      rwa [show j / 3 * 3 + 2 = j by omega] at f2
set_option maxRecDepth 100000 in
theorem open_pt {n : Nat} {c0 c1 : Value} {x : DataW H × List MemPlace} (h : DataW.trod enc Try.prog W 0 (fun _ => true) true n 45 [c0, c1] = some x) : ∃ p q : Int, c0 = .int .i64 p ∧ c1 = .int .i64 q := by
  obtain ⟨ys, n', _, hx, _, hyl, hf⟩ := DataW.trod_struct Try.underlying45 h
  have hy2 : ys.length = 2 := hyl
  obtain ⟨y0, y1, rfl⟩ : ∃ y0 y1, ys = [y0, y1] := by
    match ys, hy2 with
    | [y0, y1], _ => exact ⟨y0, y1, rfl⟩
  have s0 : DataW.trod enc Try.prog W 0 (fun _ => true) true n' 2 (([c0, c1].drop 0).take (Try.prog.cellsOf 2)) = some y0 := hf 0 _ rfl
  have s1 : DataW.trod enc Try.prog W 0 (fun _ => true) true n' 2 (([c0, c1].drop 1).take (Try.prog.cellsOf 2)) = some y1 := hf 1 _ rfl
  rw [show Try.prog.cellsOf 2 = 1 by kernel_rfl] at s0 s1
  obtain ⟨q0, e0, _, _⟩ := DataW.trod_int Try.underlying2 s0
  obtain ⟨q1, e1, _, _⟩ := DataW.trod_int Try.underlying2 s1
  exact ⟨q0, q1, by simpa using e0, by simpa using e1⟩
set_option maxRecDepth 100000 in
theorem open_thd {v : Value} {d : DataW H} {p : List MemPlace} (hv : Value.okWide Try.prog W .any base 48 v) (h : DataW.Trod enc Try.prog W 0 (fun _ => true) true 48 v d p)
    (hz : ∀ n ∈ d.weights Try.prog 48, n ≤ reachBytes) : ∃ (t : Thr) (ga : Option Addr) (gc : Nat) (ra : Option Addr) (rc : Nat), v = .agg (thrC t ga gc ra rc) ∧ RdG W ga t.gs ∧ t.gs.length ≤ gc ∧ RdR W ra t.giv ∧ t.giv.length ≤ rc := by
  obtain ⟨cs, rfl, hsz⟩ := okWide_struct Try.underlying48 hv
  obtain ⟨c0, c1, c2, c3, c4, c5, rfl⟩ := array6T (hsz.trans (by kernel_rfl))
  obtain ⟨fuel, hf0⟩ := h
  obtain ⟨ys, n', _, hx, _, hyl, hf⟩ := DataW.trod_struct Try.underlying48 hf0
  have hy2 : ys.length = 4 := hyl
  obtain ⟨y0, y1, y2, y3, rfl⟩ := list4T hy2
  have s0 : DataW.trod enc Try.prog W 0 (fun _ => true) true n' 45 (([c0, c1, c2, c3, c4, c5].drop 0).take (Try.prog.cellsOf 45)) = some y0 := hf 0 _ rfl
  have s1 : DataW.trod enc Try.prog W 0 (fun _ => true) true n' 45 (([c0, c1, c2, c3, c4, c5].drop 2).take (Try.prog.cellsOf 45)) = some y1 := hf 1 _ rfl
  have s2 : DataW.trod enc Try.prog W 0 (fun _ => true) true n' 46 (([c0, c1, c2, c3, c4, c5].drop 4).take (Try.prog.cellsOf 46)) = some y2 := hf 2 _ rfl
  have s3 : DataW.trod enc Try.prog W 0 (fun _ => true) true n' 22 (([c0, c1, c2, c3, c4, c5].drop 5).take (Try.prog.cellsOf 22)) = some y3 := hf 3 _ rfl
  rw [show Try.prog.cellsOf 45 = 2 by kernel_rfl] at s0 s1
  rw [show Try.prog.cellsOf 46 = 1 by kernel_rfl] at s2
  rw [show Try.prog.cellsOf 22 = 1 by kernel_rfl] at s3
  obtain ⟨a0, a1, rfl, rfl⟩ := open_pt s0
  obtain ⟨a2, a3, rfl, rfl⟩ := open_pt s1
  have hd : d = .agg [y0.1, y1.1, y2.1, y3.1] := by
    simp only [Prod.mk.injEq] at hx
    simpa using hx.1
  obtain ⟨ga, gc, gs, rfl, hg, hgc⟩ := open_gts s2 (fun n hn => hz n (by
    rw [hd]
    simp only [DataW.weights, Try.underlying48]
    refine List.mem_append.2 (.inr (List.mem_append.2 (.inr (List.mem_append.2 (.inl ?_)))))
    exact hn))
  obtain ⟨ra, rc, giv, rfl, hr, hrc, _⟩ := open_prs Try.underlying22 Try.underlying26 (by kernel_rfl) rfl rfl (by kernel_rfl) (by kernel_rfl) Try.underlying2 Try.underlying2 (by kernel_rfl) s3 (fun n hn => hz n (by
    rw [hd]
    simp only [DataW.weights, Try.underlying48]
    refine List.mem_append.2 (.inr (List.mem_append.2 (.inr (List.mem_append.2 (.inr (List.mem_append.2 (.inl ?_)))))))
    exact hn))
  exact ⟨⟨(a0, a1), (a2, a3), gs, giv⟩, ga, gc, ra, rc, rfl, hg, hgc, hr, hrc⟩
end
end Go.Proofs.Ytlmhgcllikcedaa
