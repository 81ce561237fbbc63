/- Texts of this claim, laid together: MapS. -/
import Derived.Test.YtlpfecjkkgccgaaDoorMaB
import Derived.Test.YtlpfecjkkgccgaaDoorMaE
import Derived.Laws.StructEq
/- A map from states to ints whose every entry is right. -/
namespace Go.Proofs.YtlpfecjkkgccgaaDoor
open Go.RowKit

def stV (S : Nat) (z : Int) : Value := .agg #[.int .u64 (S : Int), .int .i64 z]
/-- Every entry of block b holds what N says. -/
def MapSt (w : World) (b : Nat) (N : Nat → Int → Nat) : Prop :=
  ∃ es clock, w.heap[b]? = some (.map es clock) ∧ ∀ e ∈ es.toList, ∃ S z, e.key = stV S z ∧ e.val = .int .i64 ((N S z : Nat) : Int)
set_option maxRecDepth 100000 in
theorem eqSt_Tryd (a c : Nat) (b d : Int) (w : World) : (Op.equal 91 (stV a b) (stV c d)).run Tryd.prog w = .ok (a == c && b == d) w := by
  have hS : Tryd.prog.underlying 91 = some (.struct (Tryd.prog.fieldsOf 91)) := by kernel_rfl
  have hp : Tryd.prog.stoodInHeld 91 = false := by kernel_rfl
  unfold stV Op.equal Op.maxDepth
  rw [show (10000 : Nat) = 9999 + 1 from rfl, run_equalIn_agg w 9999 91 _ _ hS hp]
  simp only [Program.fieldsOf, Tryd.underlying91]
  go_simp
  by_cases h1 : a = c
  · subst h1
    by_cases h2 : b = d <;> simp [h2]
  · have h3 : ¬ (a : Int) = (c : Int) := by omega
    have h4 : (a == c) = false := by simpa using h1
    by_cases h2 : b = d <;> simp [h2, h3, h4]
set_option maxRecDepth 100000 in
theorem checkSt_Tryd (a : Nat) (b : Int) (x : Bool) (w : World) : (Instr.checkKey x 10000 91 (stV a b)).run Tryd.prog w = .ok () w := by
  unfold stV
  have h1 : ∀ n w, (Instr.checkKey x (n + 1) 70 (.int .u64 (a : Int))).run Tryd.prog w = .ok () w := fun n w => by simp [Instr.checkKey, run_underlying Tryd.underlying70]
  have h2 : ∀ n w, (Instr.checkKey x (n + 1) 3 (.int .i64 b)).run Tryd.prog w = .ok () w := fun n w => by simp [Instr.checkKey, run_underlying Tryd.underlying3]
  rw [show (10000 : Nat) = 9998 + 1 + 1 from rfl, Instr.checkKey]
  simp only [Sem.run_bind, run_underlying Tryd.underlying91, Result.andThen_ok]
  go_simp
theorem findSt_Tryd {N : Nat → Int → Nat} (S : Nat) (z : Int) (w : World) : ∀ (l : List MapEntry) (i : Nat), (∀ e ∈ l, ∃ S z, e.key = stV S z ∧ e.val = .int .i64 ((N S z : Nat) : Int)) →
    (Instr.findAsking 91 (stV S z) l i).run Tryd.prog w = .ok none w ∨ ∃ j, (Instr.findAsking 91 (stV S z) l i).run Tryd.prog w = .ok (some (i + j, .int .i64 ((N S z : Nat) : Int))) w ∧ ∃ h : j < l.length, l[j].key = stV S z
  | [], i, _ => .inl rfl
  | e :: l, i, h => by
    obtain ⟨T, y, h1, h2⟩ := h e (List.mem_cons_self ..)
    unfold Instr.findAsking
    rw [h1]
    simp only [Sem.run_bind, eqSt_Tryd, Result.andThen_ok]
    by_cases hst : S = T ∧ z = y
    · obtain ⟨rfl, rfl⟩ := hst
      refine .inr ⟨0, ?_, by simp, by simp [h1]⟩
      simp [h2]
    · have hb : (S == T && z == y) = false := by
        rw [Bool.eq_false_iff]
        intro hc
        simp at hc
        exact hst hc
      simp only [hb]
      rcases findSt_Tryd S z w l (i + 1) (fun e he => h e (List.mem_cons_of_mem _ he)) with hn | ⟨j, hj, hl, hk⟩
      · exact .inl (by simpa using hn)
      · refine .inr ⟨j + 1, ?_, by simpa using hl, by simpa using hk⟩
        rw [show i + (j + 1) = i + 1 + j by omega]
        simpa using hj
theorem findK_Tryd {N : Nat → Int → Nat} (S : Nat) (z : Int) (w : World) (l : List MapEntry) (h : ∀ e ∈ l, ∃ S z, e.key = stV S z ∧ e.val = .int .i64 ((N S z : Nat) : Int)) :
    (Instr.findKey 91 (stV S z) l).run Tryd.prog w = .ok none w ∨ ∃ j, (Instr.findKey 91 (stV S z) l).run Tryd.prog w = .ok (some (j, .int .i64 ((N S z : Nat) : Int))) w ∧ ∃ h : j < l.length, l[j].key = stV S z := by
  cases l with
  | nil => left; simp [Instr.findKey, run_underlying Tryd.underlying91, Instr.findNow]
  | cons e l =>
    obtain ⟨T, y, h1, h2⟩ := h e (List.mem_cons_self ..)
    have hn : Instr.findNow (.struct (Tryd.prog.fieldsOf 91)) (stV S z) (e :: l) 0 = none := by
      unfold Instr.findNow
      rw [h1]
      unfold stV
      simp [Instr.sameNow]
    have hu : Tryd.prog.underlying 91 = some (.struct (Tryd.prog.fieldsOf 91)) := by kernel_rfl
    have hrun : (Instr.findKey 91 (stV S z) (e :: l)).run Tryd.prog w = (Instr.findAsking 91 (stV S z) (e :: l) 0).run Tryd.prog w := by
      simp only [Instr.findKey, Sem.run_bind, run_underlying hu, Result.andThen_ok, hn]
    rw [hrun]
    rcases findSt_Tryd S z w (e :: l) 0 h with h3 | ⟨j, h3, h4⟩
    · exact .inl h3
    · rw [Nat.zero_add] at h3
      exact .inr ⟨j, h3, h4⟩
section
variable {w w1 : World} {b : Nat} {N : Nat → Int → Nat}
theorem MapSt.lt (h : MapSt w b N) : b < w.heap.size := by
  obtain ⟨es, clock, h1, _⟩ := h
  exact lt_of_block h1
theorem MapSt.at_ (h : MapSt w b N) (he : w1.heap[b]? = w.heap[b]?) : MapSt w1 b N := by
  obtain ⟨es, clock, h1, h2⟩ := h
  exact ⟨es, clock, he.trans h1, h2⟩
theorem MapSt.later (h : MapSt w b N) {B : Nat} (hb : Below B w w1) (hB : b < B) : MapSt w1 b N := h.at_ (hb.block b hB)
theorem MapSt.empty (w : World) (N : Nat → Int → Nat) : MapSt (w.alloc (.map #[] 0)) w.heap.size N :=
  ⟨#[], 0, heap_alloc_new w _, fun e he => absurd he (by simp)⟩
theorem MapSt.lookup_Tryd (h : MapSt w b N) (S : Nat) (z : Int) :
    (Instr.lookup 88 (.map (some b)) (stV S z) true).run Tryd.prog w = .ok (.tuple #[.int .i64 ((N S z : Nat) : Int), .bool true]) w ∨ (Instr.lookup 88 (.map (some b)) (stV S z) true).run Tryd.prog w = .ok (.tuple #[.int .i64 0, .bool false]) w := by
  obtain ⟨es, clock, h1, h2⟩ := h
  have hobj : (getObj b).run Tryd.prog w = .ok (.map es clock) w := by simp [getObj, Sem.run, h1]
  have hz : (zeroValue 3).run Tryd.prog w = .ok (.int .i64 0) w := by
    unfold zeroValue
    rw [Sem.run_bind, Tryd.typeInfo3]
    rfl
  rcases findK_Tryd S z w es.toList h2 with hn | ⟨j, hj, _⟩
  · right
    simp only [Instr.lookup, Sem.run_bind, run_underlying Tryd.underlying88, Result.andThen_ok, hobj, Sem.run_pure, checkSt_Tryd, hn, hz]
    rfl
  · left
    simp only [Instr.lookup, Sem.run_bind, run_underlying Tryd.underlying88, Result.andThen_ok, hobj, Sem.run_pure, checkSt_Tryd, hj]
    rfl
theorem MapSt.update_Tryd (h : MapSt w b N) (S : Nat) (z : Int) :
    ∃ w', (Instr.mapUpdate 88 (.map (some b)) (stV S z) (.int .i64 ((N S z : Nat) : Int))).run Tryd.prog w = .ok () w' ∧ MapSt w' b N ∧ w.grownBy w' (some b) ∧ w'.heap.size = w.heap.size := by
  obtain ⟨es, clock, h1, h2⟩ := h
  have hobj : (getObj b).run Tryd.prog w = .ok (.map es clock) w := by simp [getObj, Sem.run, h1]
  have hset : ∀ o : Obj, (setObj b o).run Tryd.prog w = .ok () { w with heap := w.heap.setIfInBounds b o } := fun o => by simp [setObj, Sem.run, h1]
  have hgr : ∀ o : Obj, w.grownBy { w with heap := w.heap.setIfInBounds b o } (some b) := fun o => ⟨rfl, rfl, rfl, by simp, fun i _ hi => by
    have : i ≠ b := fun e => hi (by rw [e])
    simp [Ne.symm this]⟩
  have hat : ∀ o : Obj, ({ w with heap := w.heap.setIfInBounds b o } : World).heap[b]? = some o := fun o => by
    have := lt_of_block h1
    simp [this]
  rcases findK_Tryd S z w es.toList h2 with hn | ⟨j, hj, hjl, hjk⟩
  · refine ⟨_, by simp only [Instr.mapUpdate, Sem.run_bind, run_underlying Tryd.underlying88, Result.andThen_ok, hobj, checkSt_Tryd, hn, hset]; rfl, ⟨_, _, hat _, ?_⟩, hgr _, by simp⟩
    intro e he
    simp only [Array.toList_push, List.mem_append, List.mem_singleton] at he
    rcases he with he | rfl
    · exact h2 e he
    · exact ⟨S, z, rfl, rfl⟩
  · have hjs : j < es.size := by simpa using hjl
    have hjk' : es[j].key = stV S z := by simpa using hjk
    have hstay : (Instr.keyThatStays (stV S z) (stV S z)).run Tryd.prog w = .ok (stV S z) w := by
      unfold stV
      simp [Instr.keyThatStays, Instr.sameBits]
    have hk1 : ((es[j]?).map (·.key)).getD (stV S z) = stV S z := by simp [hjs, hjk']
    refine ⟨_, by simp only [Instr.mapUpdate, Sem.run_bind, run_underlying Tryd.underlying88, Result.andThen_ok, hobj, checkSt_Tryd, hj, hk1, hstay, hset]; rfl, ⟨_, _, hat _, ?_⟩, hgr _, by simp⟩
    intro e he
    obtain ⟨i, hi, rfl⟩ := List.mem_iff_getElem.1 he
    simp only [Array.getElem_toList, Array.getElem_modify]
    split
    · exact ⟨S, z, rfl, rfl⟩
    · exact h2 _ (by simp)
end
end Go.Proofs.YtlpfecjkkgccgaaDoor
