/- A map from ints to ints whose every entry is right. Over any program. -/
import Derived.Test.YtepdgffccfcfpaaOwn
import Derived.Carry
namespace Go.Proofs.Ytepdgffccfcfpaa
open Go.RowKit

/-- Every entry of block b holds what N says, and there is one for m. -/
def MapGood (w : World) (b : Nat) (kk ek : IntKind) (N : Int → Int) (m : Int) : Prop :=
  ∃ es clock, w.heap[b]? = some (.map es clock) ∧ (∀ e ∈ es.toList, ∃ s, e.key = .int kk s ∧ e.val = .int ek (N s)) ∧ ∃ e ∈ es.toList, e.key = .int kk m

theorem findNow_good {kk ek : IntKind} {N : Int → Int} (s : Int) : ∀ (l : List MapEntry) (i : Nat), (∀ e ∈ l, ∃ s, e.key = .int kk s ∧ e.val = .int ek (N s)) →
    (Instr.findNow (.int kk) (.int kk s) l i = some none ∧ ∀ e ∈ l, e.key ≠ .int kk s) ∨ ∃ j, Instr.findNow (.int kk) (.int kk s) l i = some (some (i + j, .int ek (N s))) ∧ ∃ h : j < l.length, l[j].key = .int kk s
  | [], i, _ => .inl ⟨rfl, fun e he => by cases he⟩
  | e :: l, i, h => by
    obtain ⟨t, h1, h2⟩ := h e (List.mem_cons_self ..)
    unfold Instr.findNow
    simp only [h1, Instr.sameNow, if_true]
    by_cases hst : s = t
    · subst hst
      refine .inr ⟨0, ?_, by simp, by simp [h1]⟩
      simp [h2]
    · have hb : (s == t) = false := by simpa using hst
      simp only [hb]
      rcases findNow_good s l (i + 1) (fun e he => h e (List.mem_cons_of_mem _ he)) with ⟨hn, hno⟩ | ⟨j, hj, hl, hk⟩
      · refine .inl ⟨hn, fun e' he' => ?_⟩
        rcases List.mem_cons.1 he' with rfl | he'
        · rw [h1]; intro hc; injection hc with _ hc; exact hst hc.symm
        · exact hno e' he'
      · refine .inr ⟨j + 1, ?_, by simpa using hl, by simpa using hk⟩
        rw [hj, show i + 1 + j = i + (j + 1) by omega]

section
variable {P : Program} {w w1 : World} {b : Nat} {kk ek : IntKind} {N : Int → Int} {m : Int}

theorem MapGood.lt (h : MapGood w b kk ek N m) : b < w.heap.size := by
  obtain ⟨es, clock, h1, _⟩ := h
  exact lt_of_block h1
theorem MapGood.kept (h : MapGood w b kk ek N m) {row : Option Nat} (hg : w.grownBy w1 row) (hne : some b ≠ row) : MapGood w1 b kk ek N m := by
  have hlt := h.lt
  obtain ⟨es, clock, h1, h2⟩ := h
  exact ⟨es, clock, (hg.block b hlt hne).trans h1, h2⟩
theorem MapGood.at_ (h : MapGood w b kk ek N m) (he : w1.heap[b]? = w.heap[b]?) : MapGood w1 b kk ek N m := by
  obtain ⟨es, clock, h1, h2⟩ := h
  exact ⟨es, clock, he.trans h1, h2⟩

theorem run_checkKey_int {k : TypeId} (hk : P.underlying k = some (.int kk)) (x : Bool) (s : Int) : (Instr.checkKey x 10000 k (.int kk s)).run P w = .ok () w := by
  have h : ∀ n, (Instr.checkKey x (n + 1) k (.int kk s)).run P w = .ok () w := fun n => by simp [Instr.checkKey, run_underlying hk]
  exact h 9999

theorem MapGood.lookup (h : MapGood w b kk ek N m) {t k e : TypeId} (ht : P.underlying t = some (.map k e)) (hk : P.underlying k = some (.int kk)) (hz : (zeroValue e).run P w = .ok (.int ek 0) w) (s : Int) :
    (Instr.lookup t (.map (some b)) (.int kk s) true).run P w = .ok (.tuple #[.int ek (N s), .bool true]) w ∨ (Instr.lookup t (.map (some b)) (.int kk s) true).run P w = .ok (.tuple #[.int ek 0, .bool false]) w ∧ s ≠ m := by
  obtain ⟨es, clock, h1, h2, em, hem, hm⟩ := h
  have hobj : (getObj b).run P w = .ok (.map es clock) w := by simp [getObj, Sem.run, h1]
  have hunk := run_underlying (P := P) (w := w) hk
  rcases findNow_good s es.toList 0 h2 with ⟨hn, hno⟩ | ⟨j, hj, _⟩
  · right
    refine ⟨?_, fun hs => hno em hem (by rw [hm, hs])⟩
    simp [Instr.lookup, run_underlying ht, hobj, run_checkKey_int hk, Instr.findKey, hunk, hn, hz]
  · left
    simp [Instr.lookup, run_underlying ht, hobj, run_checkKey_int hk, Instr.findKey, hunk, hj]

theorem MapGood.update (h : MapGood w b kk ek N m) {t k e : TypeId} (ht : P.underlying t = some (.map k e)) (hk : P.underlying k = some (.int kk)) (s : Int) :
    ∃ w', (Instr.mapUpdate t (.map (some b)) (.int kk s) (.int ek (N s))).run P w = .ok () w' ∧ MapGood w' b kk ek N m ∧ w.grownBy w' (some b) := by
  obtain ⟨es, clock, h1, h2, em, hem, hm⟩ := h
  have hobj : (getObj b).run P w = .ok (.map es clock) w := by simp [getObj, Sem.run, h1]
  have hunk := run_underlying (P := P) (w := w) hk
  have hset : ∀ o : Obj, (setObj b o).run P w = .ok () { w with heap := w.heap.setIfInBounds b o } := fun o => by simp [setObj, Sem.run, h1]
  have hgr : ∀ o : Obj, w.grownBy { w with heap := w.heap.setIfInBounds b o } (some b) := fun o => ⟨rfl, rfl, rfl, by simp, fun i _ hi => by
    have : i ≠ b := fun e => hi (by rw [e])
    simp [Ne.symm this]⟩
  have hat : ∀ o : Obj, ({ w with heap := w.heap.setIfInBounds b o } : World).heap[b]? = some o := fun o => by
    have := lt_of_block h1
    simp [this]
  rcases findNow_good s es.toList 0 h2 with ⟨hn, _⟩ | ⟨j, hj, hjl, hjk⟩
  · refine ⟨_, by simp [Instr.mapUpdate, run_underlying ht, hobj, run_checkKey_int hk, Instr.findKey, hunk, hn, hset]; rfl, ⟨_, _, hat _, ?_, em, by simp [hem], hm⟩, hgr _⟩
    intro e he
    simp only [Array.toList_push, List.mem_append, List.mem_singleton] at he
    rcases he with he | rfl
    · exact h2 e he
    · exact ⟨s, rfl, rfl⟩
  · have hjs : j < es.size := by simpa using hjl
    have hjk' : es[j].key = .int kk s := by simpa using hjk
    have hstay : (Instr.keyThatStays (.int kk s) (.int kk s)).run P w = .ok (.int kk s) w := by simp [Instr.keyThatStays, Instr.sameBits]
    refine ⟨_, by simp [Instr.mapUpdate, run_underlying ht, hobj, run_checkKey_int hk, Instr.findKey, hunk, hj, hjs, hjk', hstay, hset]; rfl, ⟨_, _, hat _, ?_, ?_⟩, hgr _⟩
    rotate_left
    · obtain ⟨i, hi, rfl⟩ := List.mem_iff_getElem.1 hem
      have hi' : i < es.size := by simpa using hi
      refine ⟨(es.modify j fun e => { e with key := .int kk s, val := .int ek (N s) })[i]'(by simpa using hi'), Array.mem_toList_iff.2 (Array.getElem_mem _), ?_⟩
      simp only [Array.getElem_modify]
      split
      · rename_i hij; subst hij; rw [← hjk']; simpa using hm
      · simpa using hm
    intro e he
    obtain ⟨i, hi, rfl⟩ := List.mem_iff_getElem.1 he
    simp only [Array.getElem_toList, Array.getElem_modify]
    split
    · exact ⟨s, rfl, rfl⟩
    · exact h2 _ (by simp)
end
end Go.Proofs.Ytepdgffccfcfpaa
