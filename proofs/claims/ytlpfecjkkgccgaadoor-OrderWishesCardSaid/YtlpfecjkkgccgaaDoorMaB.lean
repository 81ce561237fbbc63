/- Texts of this claim, laid together: Map, MapG, App1, BoB, OwnX, Held. -/
import Derived.Test.YtlpfecjkkgccgaaDoorMaA
import Derived.Carry
import Derived.Deep.DeepCutAuto
import Derived.Deep.RegionHeld3
import Derived.Deep.RegionLaw
import Derived.Test.YtlpfecjkkgccgaaDoorRows
/- A map from ints to ints whose every entry is right. Over any program. -/
namespace Go.Proofs.YtlpfecjkkgccgaaDoor
open Go.RowKit

/-- Every entry of block b holds what N says, and there is one for m. -/
def MapGood (w : World) (b : Nat) (kk ek : IntKind) (N : Int → Int) (m : Int) : Prop :=
  ∃ es clock, w.heap[b]? = some (.map es clock) ∧ (∀ e ∈ es.toList, ∃ s, e.key = .int kk s ∧ e.val = .int ek (N s)) ∧ ∃ e ∈ es.toList, e.key = .int kk m

theorem findNow_good {kk ek : IntKind} {N : Int → Int} (s : Int) : ∀ (l : List MapEntry) (i : Nat), (∀ e ∈ l, ∃ s, e.key = .int kk s ∧ e.val = .int ek (N s)) →
    (Instr.findNow (.int kk) (.int kk s) l i = some none ∧ ∀ e ∈ l, e.key ≠ .int kk s) ∨ ∃ j, Instr.findNow (.int kk) (.int kk s) l i = some (some (i + j, .int ek (N s))) ∧ ∃ h : j < l.length, l[j].key = .int kk s
  | [], i, _ => .inl ⟨rfl, fun e he => by cases he⟩
  | e :: l, i, h => by
    obtain ⟨t, h1, h2⟩ := h e (List.mem_cons_self ..)
    unfold Instr.findNow
    simp only [h1, Instr.sameNow, if_true]
    by_cases hst : s = t
    · subst hst
      refine .inr ⟨0, ?_, by simp, by simp [h1]⟩
      simp [h2]
    · have hb : (s == t) = false := by simpa using hst
      simp only [hb]
      rcases findNow_good s l (i + 1) (fun e he => h e (List.mem_cons_of_mem _ he)) with ⟨hn, hno⟩ | ⟨j, hj, hl, hk⟩
      · refine .inl ⟨hn, fun e' he' => ?_⟩
        rcases List.mem_cons.1 he' with rfl | he'
        · rw [h1]; intro hc; injection hc with _ hc; exact hst hc.symm
        · exact hno e' he'
      · refine .inr ⟨j + 1, ?_, by simpa using hl, by simpa using hk⟩
        rw [hj, show i + 1 + j = i + (j + 1) by omega]

section
variable {P : Program} {w w1 : World} {b : Nat} {kk ek : IntKind} {N : Int → Int} {m : Int}

theorem MapGood.lt (h : MapGood w b kk ek N m) : b < w.heap.size := by
  obtain ⟨es, clock, h1, _⟩ := h
  exact lt_of_block h1
theorem MapGood.kept (h : MapGood w b kk ek N m) {row : Option Nat} (hg : w.grownBy w1 row) (hne : some b ≠ row) : MapGood w1 b kk ek N m := by
  have hlt := h.lt
  obtain ⟨es, clock, h1, h2⟩ := h
  exact ⟨es, clock, (hg.block b hlt hne).trans h1, h2⟩
theorem MapGood.at_ (h : MapGood w b kk ek N m) (he : w1.heap[b]? = w.heap[b]?) : MapGood w1 b kk ek N m := by
  obtain ⟨es, clock, h1, h2⟩ := h
  exact ⟨es, clock, he.trans h1, h2⟩

theorem run_checkKey_int {k : TypeId} (hk : P.underlying k = some (.int kk)) (x : Bool) (s : Int) : (Instr.checkKey x 10000 k (.int kk s)).run P w = .ok () w := by
  have h : ∀ n, (Instr.checkKey x (n + 1) k (.int kk s)).run P w = .ok () w := fun n => by simp [Instr.checkKey, run_underlying hk]
  exact h 9999

theorem MapGood.lookup (h : MapGood w b kk ek N m) {t k e : TypeId} (ht : P.underlying t = some (.map k e)) (hk : P.underlying k = some (.int kk)) (hz : (zeroValue e).run P w = .ok (.int ek 0) w) (s : Int) :
    (Instr.lookup t (.map (some b)) (.int kk s) true).run P w = .ok (.tuple #[.int ek (N s), .bool true]) w ∨ (Instr.lookup t (.map (some b)) (.int kk s) true).run P w = .ok (.tuple #[.int ek 0, .bool false]) w ∧ s ≠ m := by
  obtain ⟨es, clock, h1, h2, em, hem, hm⟩ := h
  have hobj : (getObj b).run P w = .ok (.map es clock) w := by simp [getObj, Sem.run, h1]
  have hunk := run_underlying (P := P) (w := w) hk
  rcases findNow_good s es.toList 0 h2 with ⟨hn, hno⟩ | ⟨j, hj, _⟩
  · right
    refine ⟨?_, fun hs => hno em hem (by rw [hm, hs])⟩
    simp [Instr.lookup, run_underlying ht, hobj, run_checkKey_int hk, Instr.findKey, hunk, hn, hz]
  · left
    simp [Instr.lookup, run_underlying ht, hobj, run_checkKey_int hk, Instr.findKey, hunk, hj]

theorem MapGood.update (h : MapGood w b kk ek N m) {t k e : TypeId} (ht : P.underlying t = some (.map k e)) (hk : P.underlying k = some (.int kk)) (s : Int) :
    ∃ w', (Instr.mapUpdate t (.map (some b)) (.int kk s) (.int ek (N s))).run P w = .ok () w' ∧ MapGood w' b kk ek N m ∧ w.grownBy w' (some b) := by
  obtain ⟨es, clock, h1, h2, em, hem, hm⟩ := h
  have hobj : (getObj b).run P w = .ok (.map es clock) w := by simp [getObj, Sem.run, h1]
  have hunk := run_underlying (P := P) (w := w) hk
  have hset : ∀ o : Obj, (setObj b o).run P w = .ok () { w with heap := w.heap.setIfInBounds b o } := fun o => by simp [setObj, Sem.run, h1]
  have hgr : ∀ o : Obj, w.grownBy { w with heap := w.heap.setIfInBounds b o } (some b) := fun o => ⟨rfl, rfl, rfl, by simp, fun i _ hi => by
    have : i ≠ b := fun e => hi (by rw [e])
    simp [Ne.symm this]⟩
  have hat : ∀ o : Obj, ({ w with heap := w.heap.setIfInBounds b o } : World).heap[b]? = some o := fun o => by
    have := lt_of_block h1
    simp [this]
  rcases findNow_good s es.toList 0 h2 with ⟨hn, _⟩ | ⟨j, hj, hjl, hjk⟩
  · refine ⟨_, by simp [Instr.mapUpdate, run_underlying ht, hobj, run_checkKey_int hk, Instr.findKey, hunk, hn, hset]; rfl, ⟨_, _, hat _, ?_, em, by simp [hem], hm⟩, hgr _⟩
    intro e he
    simp only [Array.toList_push, List.mem_append, List.mem_singleton] at he
    rcases he with he | rfl
    · exact h2 e he
    · exact ⟨s, rfl, rfl⟩
  · have hjs : j < es.size := by simpa using hjl
    have hjk' : es[j].key = .int kk s := by simpa using hjk
    have hstay : (Instr.keyThatStays (.int kk s) (.int kk s)).run P w = .ok (.int kk s) w := by simp [Instr.keyThatStays, Instr.sameBits]
    refine ⟨_, by simp [Instr.mapUpdate, run_underlying ht, hobj, run_checkKey_int hk, Instr.findKey, hunk, hj, hjs, hjk', hstay, hset]; rfl, ⟨_, _, hat _, ?_, ?_⟩, hgr _⟩
    rotate_left
    · obtain ⟨i, hi, rfl⟩ := List.mem_iff_getElem.1 hem
      have hi' : i < es.size := by simpa using hi
      refine ⟨(es.modify j fun e => { e with key := .int kk s, val := .int ek (N s) })[i]'(by simpa using hi'), Array.mem_toList_iff.2 (Array.getElem_mem _), ?_⟩
      simp only [Array.getElem_modify]
      split
      · rename_i hij; subst hij; rw [← hjk']; simpa using hm
      · simpa using hm
    intro e he
    obtain ⟨i, hi, rfl⟩ := List.mem_iff_getElem.1 he
    simp only [Array.getElem_toList, Array.getElem_modify]
    split
    · exact ⟨s, rfl, rfl⟩
    · exact h2 _ (by simp)
end
end Go.Proofs.YtlpfecjkkgccgaaDoor
/- A map from ints to ints whose every entry is right; it may be empty. Over any program. -/
namespace Go.Proofs.YtlpfecjkkgccgaaDoor
open Go.RowKit

/-- Every entry of block b holds what N says. -/
def MapOk (w : World) (b : Nat) (kk ek : IntKind) (N : Int → Int) : Prop :=
  ∃ es clock, w.heap[b]? = some (.map es clock) ∧ ∀ e ∈ es.toList, ∃ s, e.key = .int kk s ∧ e.val = .int ek (N s)
section
variable {P : Program} {w w1 : World} {b : Nat} {kk ek : IntKind} {N : Int → Int}

theorem MapOk.lt (h : MapOk w b kk ek N) : b < w.heap.size := by
  obtain ⟨es, clock, h1, _⟩ := h
  exact lt_of_block h1
theorem MapOk.at_ (h : MapOk w b kk ek N) (he : w1.heap[b]? = w.heap[b]?) : MapOk w1 b kk ek N := by
  obtain ⟨es, clock, h1, h2⟩ := h
  exact ⟨es, clock, he.trans h1, h2⟩
theorem MapOk.kept (h : MapOk w b kk ek N) {row : Option Nat} (hg : w.grownBy w1 row) (hne : some b ≠ row) : MapOk w1 b kk ek N := h.at_ (hg.block b h.lt hne)
theorem MapOk.later (h : MapOk w b kk ek N) (hb : Below w.heap.size w w1) : MapOk w1 b kk ek N := h.at_ (hb.block b h.lt)
theorem MapOk.empty (w : World) (kk ek : IntKind) (N : Int → Int) : MapOk (w.alloc (.map #[] 0)) w.heap.size kk ek N :=
  ⟨#[], 0, heap_alloc_new w _, fun e he => absurd he (by simp)⟩
theorem MapOk.lookup (h : MapOk w b kk ek N) {t k e : TypeId} (ht : P.underlying t = some (.map k e)) (hk : P.underlying k = some (.int kk)) (hz : (zeroValue e).run P w = .ok (.int ek 0) w) (s : Int) :
    (Instr.lookup t (.map (some b)) (.int kk s) true).run P w = .ok (.tuple #[.int ek (N s), .bool true]) w ∨ (Instr.lookup t (.map (some b)) (.int kk s) true).run P w = .ok (.tuple #[.int ek 0, .bool false]) w := by
  obtain ⟨es, clock, h1, h2⟩ := h
  have hobj : (getObj b).run P w = .ok (.map es clock) w := by simp [getObj, Sem.run, h1]
  have hunk := run_underlying (P := P) (w := w) hk
  rcases findNow_good s es.toList 0 h2 with ⟨hn, hno⟩ | ⟨j, hj, _⟩
  · right
    simp [Instr.lookup, run_underlying ht, hobj, run_checkKey_int hk, Instr.findKey, hunk, hn, hz]
  · left
    simp [Instr.lookup, run_underlying ht, hobj, run_checkKey_int hk, Instr.findKey, hunk, hj]
theorem MapOk.update (h : MapOk w b kk ek N) {t k e : TypeId} (ht : P.underlying t = some (.map k e)) (hk : P.underlying k = some (.int kk)) (s : Int) :
    ∃ w', (Instr.mapUpdate t (.map (some b)) (.int kk s) (.int ek (N s))).run P w = .ok () w' ∧ MapOk w' b kk ek N ∧ w.grownBy w' (some b) := by
  obtain ⟨es, clock, h1, h2⟩ := h
  have hobj : (getObj b).run P w = .ok (.map es clock) w := by simp [getObj, Sem.run, h1]
  have hunk := run_underlying (P := P) (w := w) hk
  have hset : ∀ o : Obj, (setObj b o).run P w = .ok () { w with heap := w.heap.setIfInBounds b o } := fun o => by simp [setObj, Sem.run, h1]
  have hgr : ∀ o : Obj, w.grownBy { w with heap := w.heap.setIfInBounds b o } (some b) := fun o => ⟨rfl, rfl, rfl, by simp, fun i _ hi => by
    have : i ≠ b := fun e => hi (by rw [e])
    simp [Ne.symm this]⟩
  have hat : ∀ o : Obj, ({ w with heap := w.heap.setIfInBounds b o } : World).heap[b]? = some o := fun o => by
    have := lt_of_block h1
    simp [this]
  rcases findNow_good s es.toList 0 h2 with ⟨hn, _⟩ | ⟨j, hj, hjl, hjk⟩
  · refine ⟨_, by simp [Instr.mapUpdate, run_underlying ht, hobj, run_checkKey_int hk, Instr.findKey, hunk, hn, hset]; rfl, ⟨_, _, hat _, ?_⟩, hgr _⟩
    intro e he
    simp only [Array.toList_push, List.mem_append, List.mem_singleton] at he
    rcases he with he | rfl
    · exact h2 e he
    · exact ⟨s, rfl, rfl⟩
  · have hjs : j < es.size := by simpa using hjl
    have hjk' : es[j].key = .int kk s := by simpa using hjk
    have hstay : (Instr.keyThatStays (.int kk s) (.int kk s)).run P w = .ok (.int kk s) w := by simp [Instr.keyThatStays, Instr.sameBits]
    refine ⟨_, by simp [Instr.mapUpdate, run_underlying ht, hobj, run_checkKey_int hk, Instr.findKey, hunk, hj, hjs, hjk', hstay, hset]; rfl, ⟨_, _, hat _, ?_⟩, hgr _⟩
    intro e he
    obtain ⟨i, hi, rfl⟩ := List.mem_iff_getElem.1 he
    simp only [Array.getElem_toList, Array.getElem_modify]
    split
    · exact ⟨s, rfl, rfl⟩
    · exact h2 _ (by simp)
end
theorem wpList_upd_ok {P : Program} (w : World) {ops : Array Oper} {rest : List Oper} {o : Oper} {a : Act} {Q : Exit → Act → World → Prop} {kk ek : IntKind} {N : Int → Int}
    (hg : o.guard = none) (m x v : Operand) (t : TypeId) (hop : o.op = Op.mapUpdate t m x v) (k e : TypeId) (ht : P.underlying t = some (.map k e)) (hk : P.underlying k = some (.int kk)) (b : Nat)
    (hm : a.eval m = .map (some b)) (hgood : MapOk w b kk ek N) (s : Int) (hx : a.eval x = .int kk s) (hv : a.eval v = .int ek (N s))
    (hK : ∀ w', MapOk w' b kk ek N → w.grownBy w' (some b) → wpList P ops Q rest (a.put o.dst undef) w') : wpList P ops Q (o :: rest) a w := by
  refine wpList_plain hg fun K' hK' => ?_
  obtain ⟨w', hrun, r1, r2⟩ := hgood.update ht hk s
  unfold Oper.wp
  simp [execOp, hop, hm, hx, hv, hrun, Result.andThen]
  exact hK' _ _ (hK w' r1 r2)
end Go.Proofs.YtlpfecjkkgccgaaDoor
/- One more number for a list; the sheets that a function is given. -/
namespace Go.Proofs.YtlpfecjkkgccgaaDoor
open Go.RowKit

theorem info_int_Tryd : (Tryd.prog.info? 3).map (fun i => (i.zero, i.size, i.bytes)) = some (some (.int .i64 0), 1, 8) := by kernel_rfl

/-- One int is appended to a row of the call's own. -/
theorem run_app1_Tryd (w : World) (base : Nat) (v : Value) (xs : List Int) (hown : w.ownsRow base 3 1 v xs.length (ints xs)) (b : Nat) (z : Int) (hb : w.heap[b]? = some (.cells #[.int .i64 z] 3 (0, 0)))
    (hn : xs.length ≤ 1000000000) (hbase : base ≤ w.heap.size) (ty : TypeId) :
    ∃ g cap w', (Builtin.append_ #[26, 26] ty #[v, .slice (some ⟨b, 0, none⟩) 1 1]).run Tryd.prog w = .ok (.slice (some ⟨g, 0, none⟩) (xs.length + 1) cap) w' ∧
      w'.ownsRow base 3 1 (.slice (some ⟨g, 0, none⟩) (xs.length + 1) cap) (xs ++ [z]).length (ints (xs ++ [z])) ∧ w.grownBy w' v.ownBlock ∧ (v.ownBlock = some g ∨ g = w.heap.size) ∧ g < w'.heap.size := by
  obtain ⟨i0, hi, hz0, hz1, hz2⟩ := info_parts info_int_Tryd
  obtain ⟨g, cap, w', h1, h2, h3, h4, h5⟩ := run_append_lies (P := Tryd.prog) w 26 ty base 3 i0 (.int .i64 0) 1 8 Tryd.underlying26 hi hz0 hz1 hz2 rfl (by omega) v xs.length (ints xs) hown ⟨b, 0, none⟩ 1 1 [.int .i64 z] rfl
    (World.news_of_block hb) (ints_one [z]) (by omega) (by unfold maxLen; omega) (by omega) hbase w.heap.size rfl
  refine ⟨g, cap, w', h1, ?_, h3, h4, h5⟩
  rw [List.length_append]
  simpa [ints] using h2
theorem step_app1_Tryd {ops : Array Oper} {o : Oper} {a : Act} {K : Act → World → Prop} {Q : Exit → Act → World → Prop} {E : Prop} {w : World} (hgd : o.guard = none) (s x : Operand)
    (ho : o.op = .call { callee := .builtin .append, args := #[s, x], argTypes := #[26, 26] })
    (base : Nat) (v : Value) (xs : List Int) (hs : a.eval s = v) (hown : w.ownsRow base 3 1 v xs.length (ints xs)) (b : Nat) (z : Int) (hx : a.eval x = .slice (some ⟨b, 0, none⟩) 1 1)
    (hb : w.heap[b]? = some (.cells #[.int .i64 z] 3 (0, 0))) (hn : xs.length ≤ 1000000000) (hbase : base ≤ w.heap.size)
    (h : ∀ g cap w', w'.ownsRow base 3 1 (.slice (some ⟨g, 0, none⟩) (xs.length + 1) cap) (xs ++ [z]).length (ints (xs ++ [z])) → w.grownBy w' v.ownBlock → (v.ownBlock = some g ∨ g = w.heap.size) → g < w'.heap.size →
      K (a.put o.dst (.slice (some ⟨g, 0, none⟩) (xs.length + 1) cap)) w') :
    if Region.wanted o (yielded ops a.tmps) = true then Oper.wp Tryd.prog o a w K Q else E := by
  obtain ⟨i0, hi, hz0, hz1, hz2⟩ := info_parts info_int_Tryd
  refine step_append_lies w hgd s x 26 ho base 3 i0 (.int .i64 0) 1 8 Tryd.underlying26 hi hz0 hz1 hz2 rfl (by omega) v xs.length (ints xs) hs hown ⟨b, 0, none⟩ 1 1 [.int .i64 z] hx rfl
    (World.news_of_block hb) (ints_one [z]) (by omega) (by unfold maxLen; omega) (by omega) hbase w.heap.size rfl fun g cap w' h2 h3 h4 h5 => h g cap w' ?_ h3 h4 h5
  rw [List.length_append]
  simpa [ints] using h2
theorem wpList_app1_Tryd {ops : Array Oper} {rest : List Oper} {o : Oper} {a : Act} {Q : Exit → Act → World → Prop} {w : World} (hgd : o.guard = none) (s x : Operand)
    (ho : o.op = .call { callee := .builtin .append, args := #[s, x], argTypes := #[26, 26] })
    (base : Nat) (v : Value) (xs : List Int) (hs : a.eval s = v) (hown : w.ownsRow base 3 1 v xs.length (ints xs)) (b : Nat) (z : Int) (hx : a.eval x = .slice (some ⟨b, 0, none⟩) 1 1)
    (hb : w.heap[b]? = some (.cells #[.int .i64 z] 3 (0, 0))) (hn : xs.length ≤ 1000000000) (hbase : base ≤ w.heap.size)
    (h : ∀ g cap w', w'.ownsRow base 3 1 (.slice (some ⟨g, 0, none⟩) (xs.length + 1) cap) (xs ++ [z]).length (ints (xs ++ [z])) → w.grownBy w' v.ownBlock → (v.ownBlock = some g ∨ g = w.heap.size) → g < w'.heap.size →
      wpList Tryd.prog ops Q rest (a.put o.dst (.slice (some ⟨g, 0, none⟩) (xs.length + 1) cap)) w') : wpList Tryd.prog ops Q (o :: rest) a w := by
  obtain ⟨i0, hi, hz0, hz1, hz2⟩ := info_parts info_int_Tryd
  refine wpList_append_lies w hgd s x 26 ho base 3 i0 (.int .i64 0) 1 8 Tryd.underlying26 hi hz0 hz1 hz2 rfl (by omega) v xs.length (ints xs) hs hown ⟨b, 0, none⟩ 1 1 [.int .i64 z] hx rfl
    (World.news_of_block hb) (ints_one [z]) (by omega) (by unfold maxLen; omega) (by omega) hbase w.heap.size rfl fun g cap w' h2 h3 h4 h5 => h g cap w' ?_ h3 h4 h5
  rw [List.length_append]
  simpa [ints] using h2
theorem own_slice1 {w : World} {base e n : Nat} {v : Value} {xs : List Value} (h : w.ownsRow base e 1 v n xs) : ∃ A c, v = .slice A n c := by
  rcases h.2 with ⟨rfl, h0⟩ | ⟨g, cap, cur, rfl, _⟩
  · exact ⟨none, 0, by rw [h0]⟩
  · exact ⟨_, cap, rfl⟩
def ListPost (l : List Int) (x : Int) (w : World) (e : Ending) (w' : World) : Prop := ∃ v, e = .returned (.tuple #[v, .int .i64 x]) ∧ RdV w' v l ∧ Below w.heap.size w w'
end Go.Proofs.YtlpfecjkkgccgaaDoor
/- A block of bools; a matrix of bools. -/
namespace Go.Proofs.YtlpfecjkkgccgaaDoor
open Go.RowKit

/-- Block R holds m bools. -/
def BoB (w : World) (R m : Nat) (g : Nat → Bool) : Prop := w.heap[R]? = some (.cells ((List.range m).map fun p => Value.bool (g p)).toArray 4 (0, 0))
section
variable {w w' : World} {R m : Nat} {g g' : Nat → Bool}
theorem BoB.lt (h : BoB w R m g) : R < w.heap.size := lt_of_block h
theorem BoB.at_ (h : BoB w R m g) {p : Nat} (hp : p < m) : w.cell? ⟨R, p, none⟩ = some (.bool (g p)) := by
  rw [cell_of_row w R p _ _ _ h]; simp [hp]
theorem BoB.free (h : BoB w R m g) (p : Nat) : w.frozen? ⟨R, p, none⟩ = false := frozen_of_row _ _ p _ _ h
theorem BoB.put (h : BoB w R m g) (p : Nat) (z : Bool) : BoB (w.setCell ⟨R, p, none⟩ (.bool z)) R m (fun q => if q = p then z else g q) := by
  refine Eq.trans (heap_setCell_same w R p _ _ (.bool z) h) ?_
  congr 2
  apply Array.ext'
  simp only [Array.toList_setIfInBounds]
  apply List.ext_getElem
  · simp
  · intro j h1 h2
    rw [List.getElem_set]
    simp only [List.getElem_map, List.getElem_range]
    by_cases c : p = j
    · subst c; simp
    · rw [if_neg c, if_neg (fun e => c e.symm)]
theorem BoB.congr (h : BoB w R m g) (he : ∀ p, p < m → g p = g' p) : BoB w R m g' := by
  unfold BoB at h ⊢
  rw [h]
  congr 3
  apply List.map_congr_left
  intro p hp
  rw [he p (List.mem_range.1 hp)]
theorem BoB.later (h : BoB w R m g) (hb : Below w.heap.size w w') : BoB w' R m g := (hb.block R h.lt).trans h
theorem BoB.kept (h : BoB w R m g) {row : Option Nat} (hg : w.grownBy w' row) (hne : some R ≠ row) : BoB w' R m g := (hg.block R h.lt hne).trans h
theorem BoB.other (h : BoB w R m g) {p : Addr} (hp : p.block ≠ R) (u : Value) : BoB (w.setCell p u) R m g := (heap_setCell_other w p R u (fun e => hp e.symm)).trans h
theorem boCells_zero (m : Nat) : madeCells #[Value.bool false] m = ((List.range m).map fun _ => Value.bool false).toArray := by
  apply Array.ext'
  apply List.ext_getElem
  · simp [madeCells]
  · intro j h1 h2
    simp [madeCells, Nat.mod_one]
theorem BoB.made (w : World) (m : Nat) : BoB (w.alloc (.cells (madeCells #[Value.bool false] m) 4)) w.heap.size m (fun _ => false) := by
  unfold BoB
  rw [heap_alloc_new, boCells_zero]
/-- The slice at A reads as n rows of n bools. -/
def MatB (w : World) (A : Option Addr) (n : Nat) (M : Nat → Nat → Bool) : Prop :=
  ∀ b, b < n → ∃ g o R, A = some ⟨g, o, none⟩ ∧ g < w.heap.size ∧ w.cell? ⟨g, o + b, none⟩ = some (.slice (some ⟨R, 0, none⟩) n n) ∧ R < w.heap.size ∧ ∀ a, a < n → w.cell? ⟨R, a, none⟩ = some (.bool (M b a))
theorem MatB.later {A : Option Addr} {n : Nat} {M : Nat → Nat → Bool} (h : MatB w A n M) (hb : Below w.heap.size w w') : MatB w' A n M := fun b hbn => by
  obtain ⟨g, o, R, h1, h2, h3, h4, h5⟩ := h b hbn
  exact ⟨g, o, R, h1, Nat.lt_of_lt_of_le h2 hb.size, below_at hb (Nat.le_refl _) h3, Nat.lt_of_lt_of_le h4 hb.size, fun a ha => below_at hb (Nat.le_refl _) (h5 a ha)⟩
end
theorem infoB_Tryd : (Tryd.prog.info? 4).map (fun i => (i.zero, i.size, i.bytes)) = some (some (Value.bool false), 1, 1) := by kernel_rfl
theorem infoBs_Tryd : (Tryd.prog.info? 84).map (fun i => (i.zero, i.size, i.bytes)) = some (some (Value.slice none 0 0), 1, 24) := by kernel_rfl

/-- One row is put behind the others. -/
theorem wpList_appB_Tryd {ops : Array Oper} {rest : List Oper} {o : Oper} {a : Act} {Q : Exit → Act → World → Prop} {w : World} (hgd : o.guard = none) (s x : Operand)
    (ho : o.op = .call { callee := .builtin .append, args := #[s, x], argTypes := #[58, 58] })
    (base : Nat) (v : Value) (xs : List Value) (hs : a.eval s = v) (hown : w.ownsRow base 84 1 v xs.length xs) (b : Nat) (A : Option Addr) (n c : Nat) (hx : a.eval x = .slice (some ⟨b, 0, none⟩) 1 1)
    (hb : w.heap[b]? = some (.cells #[Value.slice A n c] 84 (0, 0))) (hn : xs.length ≤ 1000000) (hbase : base ≤ w.heap.size)
    (h : ∀ g cap w', w'.ownsRow base 84 1 (.slice (some ⟨g, 0, none⟩) (xs.length + 1) cap) (xs ++ [Value.slice A n c]).length (xs ++ [Value.slice A n c]) → w.grownBy w' v.ownBlock → (v.ownBlock = some g ∨ g = w.heap.size) → g < w'.heap.size →
      wpList Tryd.prog ops Q rest (a.put o.dst (.slice (some ⟨g, 0, none⟩) (xs.length + 1) cap)) w') : wpList Tryd.prog ops Q (o :: rest) a w := by
  obtain ⟨i0, hi, hz0, hz1, hz2⟩ := info_parts infoBs_Tryd
  refine wpList_append_lies w hgd s x 58 ho base 84 i0 _ 1 24 Tryd.underlying58 hi hz0 hz1 hz2 rfl (by omega) v xs.length xs hs hown ⟨b, 0, none⟩ 1 1 [Value.slice A n c] hx rfl
    (World.news_of_block hb) (fun u hu => by simp at hu; subst hu; rfl) (by omega) (by unfold maxLen; omega) (by omega) hbase w.heap.size rfl fun g cap w' h2 h3 h4 h5 => h g cap w' ?_ h3 h4 h5
  rw [List.length_append]
  exact h2
end Go.Proofs.YtlpfecjkkgccgaaDoor
/- Rows of works of the call's own. -/
namespace Go.Proofs.YtlpfecjkkgccgaaDoor
open Go.RowKit

/-- The works' cells, one after the other. -/
def worksC (ws : List GW) : List Value := ws.flatMap fun x => [.int .i64 x.kind, .int .i64 x.pl, .string x.word]
theorem worksC_length : ∀ ws, (worksC ws).length = ws.length * 3
  | [] => rfl
  | x :: ws => by
    have ih := worksC_length ws
    unfold worksC at ih ⊢
    simp only [List.flatMap_cons, List.length_append, List.length_cons, List.length_nil, ih]
    omega
theorem worksC_append (xs ys : List GW) : worksC (xs ++ ys) = worksC xs ++ worksC ys := by unfold worksC; simp
theorem worksC_one (ws : List GW) : ∀ u ∈ worksC ws, u.oneCell' = true := by
  intro u hu
  simp only [worksC, List.mem_flatMap] at hu
  obtain ⟨x, _, hx⟩ := hu
  simp only [List.mem_cons, List.not_mem_nil, or_false] at hx
  rcases hx with rfl | rfl | rfl <;> rfl
theorem worksC_get : ∀ (ws : List GW) (j : Nat), j < ws.length * 3 → (worksC ws)[j]? = some (cellsW ws j)
  | [], j, h => by simp at h
  | x :: ws, j, h => by
    have e : worksC (x :: ws) = [.int .i64 x.kind, .int .i64 x.pl, .string x.word] ++ worksC ws := by unfold worksC; simp
    rw [e]
    rcases Nat.lt_or_ge j 3 with h3 | h3
    · rw [List.getElem?_append_left (by simpa using h3)]
      obtain rfl | rfl | rfl : j = 0 ∨ j = 1 ∨ j = 2 := by omega
      all_goals simp [cellsW]
    · rw [List.getElem?_append_right (by simpa using h3)]
      have ih := worksC_get ws (j - 3) (by simp at h; omega)
      simp only [List.length_cons, List.length_nil, Nat.zero_add]
      rw [ih]
      unfold cellsW
      rw [show (j - 3) % 3 = j % 3 by omega, show j / 3 = (j - 3) / 3 + 1 by omega]
      simp [List.getD_eq_getElem?_getD]

theorem own_rdW {w : World} {base e n c : Nat} {A : Option Addr} {ws : List GW} (h : w.ownsRow base e 3 (.slice A n c) n (worksC ws)) : Rd w A 3 ws.length (cellsW ws) := fun h0 => by
  have hl : n = ws.length := by have := h.1; rw [worksC_length] at this; omega
  obtain ⟨g, cap, hv, _, hlt⟩ := h.form (by omega)
  injection hv with hA
  subst hA
  refine ⟨g, 0, rfl, hlt, fun j hj => ?_⟩
  have := h.cells (g := g) rfl j (cellsW ws j) (worksC_get ws j hj)
  unfold Addr.add at this
  by_cases hj0 : j = 0
  · subst hj0; simpa using this
  · simpa [hj0] using this
theorem own_slice3 {w : World} {base e n : Nat} {v : Value} {xs : List Value} (h : w.ownsRow base e 3 v n xs) : ∃ A c, v = .slice A n c ∧ n ≤ c := by
  rcases h.2 with ⟨rfl, h0⟩ | ⟨g, cap, cur, rfl, _, _, hn, _⟩
  · exact ⟨none, 0, by rw [h0], by omega⟩
  · exact ⟨_, cap, rfl, hn⟩
theorem info_work_Tryd : (Tryd.prog.info? 50).map (fun i => (i.zero, i.size, i.bytes)) = some (some (.agg #[.int .i64 0, .int .i64 0, .string ByteArray.empty]), 3, 32) := by kernel_rfl

theorem step_appW_Tryd {ops : Array Oper} {o : Oper} {a : Act} {K : Act → World → Prop} {Q : Exit → Act → World → Prop} {E : Prop} {w : World} (hgd : o.guard = none) (s x : Operand)
    (ho : o.op = .call { callee := .builtin .append, args := #[s, x], argTypes := #[22, 22] })
    (base : Nat) (v : Value) (xs : List GW) (hs : a.eval s = v) (hown : w.ownsRow base 50 3 v xs.length (worksC xs)) (b : Nat) (z : GW) (hx : a.eval x = .slice (some ⟨b, 0, none⟩) 1 1)
    (hb : w.heap[b]? = some (.cells #[.int .i64 z.kind, .int .i64 z.pl, .string z.word] 50 (0, 0))) (hn : xs.length ≤ 1000000) (hbase : base ≤ w.heap.size)
    (h : ∀ g cap w', w'.ownsRow base 50 3 (.slice (some ⟨g, 0, none⟩) (xs.length + 1) cap) (xs ++ [z]).length (worksC (xs ++ [z])) → w.grownBy w' v.ownBlock → (v.ownBlock = some g ∨ g = w.heap.size) → g < w'.heap.size →
      K (a.put o.dst (.slice (some ⟨g, 0, none⟩) (xs.length + 1) cap)) w') :
    if Region.wanted o (yielded ops a.tmps) = true then Oper.wp Tryd.prog o a w K Q else E := by
  obtain ⟨i0, hi, hz0, hz1, hz2⟩ := info_parts info_work_Tryd
  refine step_append_lies w hgd s x 22 ho base 50 i0 _ 3 32 Tryd.underlying22 hi hz0 hz1 hz2 rfl (by omega) v xs.length (worksC xs) hs hown ⟨b, 0, none⟩ 1 1 (worksC [z]) hx rfl
    (World.news_of_block hb) (worksC_one [z]) (by omega) (by unfold maxLen; omega) (by omega) hbase w.heap.size rfl fun g cap w' h2 h3 h4 h5 => h g cap w' ?_ h3 h4 h5
  rw [List.length_append, worksC_append]
  exact h2
theorem wpList_appW_Tryd {ops : Array Oper} {rest : List Oper} {o : Oper} {a : Act} {Q : Exit → Act → World → Prop} {w : World} (hgd : o.guard = none) (s x : Operand)
    (ho : o.op = .call { callee := .builtin .append, args := #[s, x], argTypes := #[22, 22] })
    (base : Nat) (v : Value) (xs : List GW) (hs : a.eval s = v) (hown : w.ownsRow base 50 3 v xs.length (worksC xs)) (b : Nat) (z : GW) (hx : a.eval x = .slice (some ⟨b, 0, none⟩) 1 1)
    (hb : w.heap[b]? = some (.cells #[.int .i64 z.kind, .int .i64 z.pl, .string z.word] 50 (0, 0))) (hn : xs.length ≤ 1000000) (hbase : base ≤ w.heap.size)
    (h : ∀ g cap w', w'.ownsRow base 50 3 (.slice (some ⟨g, 0, none⟩) (xs.length + 1) cap) (xs ++ [z]).length (worksC (xs ++ [z])) → w.grownBy w' v.ownBlock → (v.ownBlock = some g ∨ g = w.heap.size) → g < w'.heap.size →
      wpList Tryd.prog ops Q rest (a.put o.dst (.slice (some ⟨g, 0, none⟩) (xs.length + 1) cap)) w') : wpList Tryd.prog ops Q (o :: rest) a w := by
  obtain ⟨i0, hi, hz0, hz1, hz2⟩ := info_parts info_work_Tryd
  refine wpList_append_lies w hgd s x 22 ho base 50 i0 _ 3 32 Tryd.underlying22 hi hz0 hz1 hz2 rfl (by omega) v xs.length (worksC xs) hs hown ⟨b, 0, none⟩ 1 1 (worksC [z]) hx rfl
    (World.news_of_block hb) (worksC_one [z]) (by omega) (by unfold maxLen; omega) (by omega) hbase w.heap.size rfl fun g cap w' h2 h3 h4 h5 => h g cap w' ?_ h3 h4 h5
  rw [List.length_append, worksC_append]
  exact h2
theorem ownsRow_setCell_below3 {w : World} {base e size n : Nat} {v : Value} {xs : List Value} (h : w.ownsRow base e size v n xs) {p : Addr} (hp : p.block < base) (u : Value) : (w.setCell p u).ownsRow base e size v n xs := ownsRow_setCell_below h hp u
end Go.Proofs.YtlpfecjkkgccgaaDoor
/- A region with calls that make memory. -/
namespace Go.Proofs.YtlpfecjkkgccgaaDoor
open Go.RowKit
theorem bcell2 {w0 w1 : World} (h : Below w0.heap.size w0 w1) : Below w0.heap.size w0 w1 ∧ (∀ b o, b < w0.heap.size → w1.cell? ⟨b, o, none⟩ = w0.cell? ⟨b, o, none⟩) ∧ w0.heap.size ≤ w1.heap.size := ⟨h, fun b o hb => h.cell (p := ⟨b, o, none⟩) hb, h.size⟩
end Go.Proofs.YtlpfecjkkgccgaaDoor
