/- A map from ints to ints that holds what a function says. -/
import Derived.Test.YtepdgffccfcfpaaMap
namespace Go.Proofs.Ytepdgffccfcfpaa
open Go.RowKit

/-- Block b is a map that holds just what f says. -/
def MapIs (w : World) (b : Nat) (f : Nat → Option Nat) : Prop :=
  ∃ es clock, w.heap[b]? = some (.map es clock) ∧ (∀ e ∈ es.toList, ∃ s z : Nat, e.key = .int .i64 (s : Int) ∧ e.val = .int .i64 (z : Int) ∧ f s = some z) ∧ ∀ s z, f s = some z → ∃ e ∈ es.toList, e.key = .int .i64 (s : Int)

section
variable {P : Program} {w w1 : World} {b : Nat} {f : Nat → Option Nat}
theorem MapIs.lt (h : MapIs w b f) : b < w.heap.size := by
  obtain ⟨es, clock, h1, _⟩ := h
  exact lt_of_block h1
theorem MapIs.at_ (h : MapIs w b f) (he : w1.heap[b]? = w.heap[b]?) : MapIs w1 b f := by
  obtain ⟨es, clock, h1, h2⟩ := h
  exact ⟨es, clock, he.trans h1, h2⟩
theorem MapIs.kept (h : MapIs w b f) {row : Option Nat} (hg : w.grownBy w1 row) (hne : some b ≠ row) : MapIs w1 b f := h.at_ (hg.block b h.lt hne)
theorem MapIs.later (h : MapIs w b f) (hb : Below w.heap.size w w1) : MapIs w1 b f := h.at_ (hb.block b h.lt)
theorem MapIs.drew (h : MapIs w b f) : MapIs w.drew b f := h
theorem MapIs.empty (w : World) : MapIs (w.alloc (.map #[] 0)) w.heap.size (fun _ => none) :=
  ⟨#[], 0, heap_alloc_new w _, fun e he => absurd he (by simp), fun s z h => by cases h⟩

theorem MapIs.run_ (h : MapIs w b f) {t k e : TypeId} (ht : P.underlying t = some (.map k e)) (hk : P.underlying k = some (.int .i64)) (hz : (zeroValue e).run P w = .ok (.int .i64 0) w) (s : Nat) :
    (Instr.lookup t (.map (some b)) (.int .i64 (s : Int)) true).run P w = .ok (.tuple #[.int .i64 (((f s).getD 0 : Nat) : Int), .bool (f s).isSome]) w := by
  obtain ⟨es, clock, h1, h2, h3⟩ := h
  have hobj : (getObj b).run P w = .ok (.map es clock) w := by simp [getObj, Sem.run, h1]
  have hunk := run_underlying (P := P) (w := w) hk
  have hN : ∀ e ∈ es.toList, ∃ s, e.key = .int .i64 s ∧ e.val = .int .i64 ((fun s : Int => (((f s.toNat).getD 0 : Nat) : Int)) s) := fun e he => by
    obtain ⟨s, z, g1, g2, g3⟩ := h2 e he
    exact ⟨s, g1, by rw [g2]; simp [g3]⟩
  rcases findNow_good (s : Int) es.toList 0 hN with ⟨hn, hno⟩ | ⟨j, hj, hl, hkk⟩
  · have hf : f s = none := by
      cases hf : f s with
      | none => rfl
      | some z =>
        obtain ⟨e, he, hke⟩ := h3 s z hf
        exact absurd hke (hno e he)
    simp [Instr.lookup, run_underlying ht, hobj, run_checkKey_int hk, Instr.findKey, hunk, hn, hz, hf]
  · have hf : ∃ z, f s = some z := by
      obtain ⟨s', z, g1, g2, g3⟩ := h2 es.toList[j] (List.getElem_mem hl)
      rw [g1] at hkk
      injection hkk with _ hkk
      have : s' = s := by omega
      subst this
      exact ⟨z, g3⟩
    obtain ⟨z, hf⟩ := hf
    simp only [Int.toNat_natCast, hf, Option.getD_some] at hj
    simp [Instr.lookup, run_underlying ht, hobj, run_checkKey_int hk, Instr.findKey, hunk, hj, hf]
theorem MapIs.some_ (h : MapIs w b f) {t k e : TypeId} (ht : P.underlying t = some (.map k e)) (hk : P.underlying k = some (.int .i64)) (hz : (zeroValue e).run P w = .ok (.int .i64 0) w) {s z : Nat} (hf : f s = some z) :
    (Instr.lookup t (.map (some b)) (.int .i64 (s : Int)) true).run P w = .ok (.tuple #[.int .i64 (z : Int), .bool true]) w := by
  have := h.run_ ht hk hz s
  rw [hf] at this
  exact this
theorem MapIs.none_ (h : MapIs w b f) {t k e : TypeId} (ht : P.underlying t = some (.map k e)) (hk : P.underlying k = some (.int .i64)) (hz : (zeroValue e).run P w = .ok (.int .i64 0) w) {s : Nat} (hf : f s = none) :
    (Instr.lookup t (.map (some b)) (.int .i64 (s : Int)) true).run P w = .ok (.tuple #[.int .i64 0, .bool false]) w := by
  have := h.run_ ht hk hz s
  rw [hf] at this
  exact this
theorem MapIs.update (h : MapIs w b f) {t k e : TypeId} (ht : P.underlying t = some (.map k e)) (hk : P.underlying k = some (.int .i64)) (s z : Nat) (hf : f s = none) :
    ∃ w', (Instr.mapUpdate t (.map (some b)) (.int .i64 (s : Int)) (.int .i64 (z : Int))).run P w = .ok () w' ∧ MapIs w' b (fun j => if j = s then some z else f j) ∧ w.grownBy w' (some b) ∧ w'.heap.size = w.heap.size := by
  obtain ⟨es, clock, h1, h2, h3⟩ := h
  have hobj : (getObj b).run P w = .ok (.map es clock) w := by simp [getObj, Sem.run, h1]
  have hunk := run_underlying (P := P) (w := w) hk
  have hset : ∀ o : Obj, (setObj b o).run P w = .ok () { w with heap := w.heap.setIfInBounds b o } := fun o => by simp [setObj, Sem.run, h1]
  have hgr : ∀ o : Obj, w.grownBy { w with heap := w.heap.setIfInBounds b o } (some b) := fun o => ⟨rfl, rfl, rfl, by simp, fun i _ hi => by
    have : i ≠ b := fun e => hi (by rw [e])
    simp [Ne.symm this]⟩
  have hat : ∀ o : Obj, ({ w with heap := w.heap.setIfInBounds b o } : World).heap[b]? = some o := fun o => by
    have := lt_of_block h1
    simp [this]
  have hN : ∀ e ∈ es.toList, ∃ s, e.key = .int .i64 s ∧ e.val = .int .i64 ((fun s : Int => (((f s.toNat).getD 0 : Nat) : Int)) s) := fun e he => by
    obtain ⟨s, z, g1, g2, g3⟩ := h2 e he
    exact ⟨s, g1, by rw [g2]; simp [g3]⟩
  rcases findNow_good (s : Int) es.toList 0 hN with ⟨hn, hno⟩ | ⟨j, hj, hl, hkk⟩
  · refine ⟨_, by simp [Instr.mapUpdate, run_underlying ht, hobj, run_checkKey_int hk, Instr.findKey, hunk, hn, hset]; rfl, ⟨_, _, hat _, ?_, ?_⟩, hgr _, by simp⟩
    · intro e he
      simp only [Array.toList_push, List.mem_append, List.mem_singleton] at he
      rcases he with he | rfl
      · obtain ⟨s', z', g1, g2, g3⟩ := h2 e he
        refine ⟨s', z', g1, g2, ?_⟩
        show (if s' = s then some z else f s') = some z'
        rw [if_neg]
        · exact g3
        · rintro rfl
          rw [hf] at g3; cases g3
      · exact ⟨s, z, rfl, rfl, by simp⟩
    · intro s' z' hz'
      by_cases hs : s' = s
      · subst hs
        exact ⟨_, by simp; exact .inr rfl, rfl⟩
      · replace hz' : (if s' = s then some z else f s') = some z' := hz'
        rw [if_neg hs] at hz'
        obtain ⟨e, he, hke⟩ := h3 s' z' hz'
        exact ⟨e, by simp [Array.mem_toList_iff.1 he], hke⟩
  · exfalso
    obtain ⟨s', z', g1, g2, g3⟩ := h2 es.toList[j] (List.getElem_mem hl)
    rw [g1] at hkk
    injection hkk with _ hkk
    have : s' = s := by omega
    subst this
    rw [hf] at g3; cases g3
end
theorem wpList_upd_is {P : Program} (w : World) {ops : Array Oper} {rest : List Oper} {o : Oper} {a : Act} {Q : Exit → Act → World → Prop} {f : Nat → Option Nat}
    (hg : o.guard = none) (m x v : Operand) (t : TypeId) (hop : o.op = Op.mapUpdate t m x v) (k e : TypeId) (ht : P.underlying t = some (.map k e)) (hk : P.underlying k = some (.int .i64)) (b : Nat)
    (hm : a.eval m = .map (some b)) (h : MapIs w b f) (s z : Nat) (hf : f s = none) (hx : a.eval x = .int .i64 (s : Int)) (hv : a.eval v = .int .i64 (z : Int))
    (hK : ∀ w', MapIs w' b (fun j => if j = s then some z else f j) → w.grownBy w' (some b) → w'.heap.size = w.heap.size → wpList P ops Q rest (a.put o.dst undef) w') : wpList P ops Q (o :: rest) a w := by
  refine wpList_plain hg fun K' hK' => ?_
  obtain ⟨w', hrun, r1, r2, r3⟩ := h.update ht hk s z hf
  unfold Oper.wp
  simp [execOp, hop, hm, hx, hv, hrun, Result.andThen]
  exact hK' _ _ (hK w' r1 r2 r3)
end Go.Proofs.Ytepdgffccfcfpaa
