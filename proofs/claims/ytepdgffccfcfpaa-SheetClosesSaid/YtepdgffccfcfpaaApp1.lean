/- One more number for a list; the sheets that a function is given. -/
import Derived.Test.YtepdgffccfcfpaaRows
import Derived.Test.YtepdgffccfcfpaaOwn
import Derived.Deep.RegionLaw
import Derived.Deep.DeepCutAuto
namespace Go.Proofs.Ytepdgffccfcfpaa
open Go.RowKit

theorem info_int_Try : (Try.prog.info? 3).map (fun i => (i.zero, i.size, i.bytes)) = some (some (.int .i64 0), 1, 8) := by kernel_rfl

/-- One int is appended to a row of the call's own. -/
theorem run_app1_Try (w : World) (base : Nat) (v : Value) (xs : List Int) (hown : w.ownsRow base 3 1 v xs.length (ints xs)) (b : Nat) (z : Int) (hb : w.heap[b]? = some (.cells #[.int .i64 z] 3 (0, 0)))
    (hn : xs.length ≤ 1000000000) (hbase : base ≤ w.heap.size) (ty : TypeId) :
    ∃ g cap w', (Builtin.append_ #[33, 33] ty #[v, .slice (some ⟨b, 0, none⟩) 1 1]).run Try.prog w = .ok (.slice (some ⟨g, 0, none⟩) (xs.length + 1) cap) w' ∧
      w'.ownsRow base 3 1 (.slice (some ⟨g, 0, none⟩) (xs.length + 1) cap) (xs ++ [z]).length (ints (xs ++ [z])) ∧ w.grownBy w' v.ownBlock ∧ (v.ownBlock = some g ∨ g = w.heap.size) ∧ g < w'.heap.size := by
  obtain ⟨i0, hi, hz0, hz1, hz2⟩ := info_parts info_int_Try
  obtain ⟨g, cap, w', h1, h2, h3, h4, h5⟩ := run_append_lies (P := Try.prog) w 33 ty base 3 i0 (.int .i64 0) 1 8 Try.underlying33 hi hz0 hz1 hz2 rfl (by omega) v xs.length (ints xs) hown ⟨b, 0, none⟩ 1 1 [.int .i64 z] rfl
    (World.news_of_block hb) (ints_one [z]) (by omega) (by unfold maxLen; omega) (by omega) hbase w.heap.size rfl
  refine ⟨g, cap, w', h1, ?_, h3, h4, h5⟩
  rw [List.length_append]
  simpa [ints] using h2
theorem step_app1_Try {ops : Array Oper} {o : Oper} {a : Act} {K : Act → World → Prop} {Q : Exit → Act → World → Prop} {E : Prop} {w : World} (hgd : o.guard = none) (s x : Operand)
    (ho : o.op = .call { callee := .builtin .append, args := #[s, x], argTypes := #[33, 33] })
    (base : Nat) (v : Value) (xs : List Int) (hs : a.eval s = v) (hown : w.ownsRow base 3 1 v xs.length (ints xs)) (b : Nat) (z : Int) (hx : a.eval x = .slice (some ⟨b, 0, none⟩) 1 1)
    (hb : w.heap[b]? = some (.cells #[.int .i64 z] 3 (0, 0))) (hn : xs.length ≤ 1000000000) (hbase : base ≤ w.heap.size)
    (h : ∀ g cap w', w'.ownsRow base 3 1 (.slice (some ⟨g, 0, none⟩) (xs.length + 1) cap) (xs ++ [z]).length (ints (xs ++ [z])) → w.grownBy w' v.ownBlock → (v.ownBlock = some g ∨ g = w.heap.size) → g < w'.heap.size →
      K (a.put o.dst (.slice (some ⟨g, 0, none⟩) (xs.length + 1) cap)) w') :
    if Region.wanted o (yielded ops a.tmps) = true then Oper.wp Try.prog o a w K Q else E := by
  obtain ⟨i0, hi, hz0, hz1, hz2⟩ := info_parts info_int_Try
  refine step_append_lies w hgd s x 33 ho base 3 i0 (.int .i64 0) 1 8 Try.underlying33 hi hz0 hz1 hz2 rfl (by omega) v xs.length (ints xs) hs hown ⟨b, 0, none⟩ 1 1 [.int .i64 z] hx rfl
    (World.news_of_block hb) (ints_one [z]) (by omega) (by unfold maxLen; omega) (by omega) hbase w.heap.size rfl fun g cap w' h2 h3 h4 h5 => h g cap w' ?_ h3 h4 h5
  rw [List.length_append]
  simpa [ints] using h2
theorem wpList_app1_Try {ops : Array Oper} {rest : List Oper} {o : Oper} {a : Act} {Q : Exit → Act → World → Prop} {w : World} (hgd : o.guard = none) (s x : Operand)
    (ho : o.op = .call { callee := .builtin .append, args := #[s, x], argTypes := #[33, 33] })
    (base : Nat) (v : Value) (xs : List Int) (hs : a.eval s = v) (hown : w.ownsRow base 3 1 v xs.length (ints xs)) (b : Nat) (z : Int) (hx : a.eval x = .slice (some ⟨b, 0, none⟩) 1 1)
    (hb : w.heap[b]? = some (.cells #[.int .i64 z] 3 (0, 0))) (hn : xs.length ≤ 1000000000) (hbase : base ≤ w.heap.size)
    (h : ∀ g cap w', w'.ownsRow base 3 1 (.slice (some ⟨g, 0, none⟩) (xs.length + 1) cap) (xs ++ [z]).length (ints (xs ++ [z])) → w.grownBy w' v.ownBlock → (v.ownBlock = some g ∨ g = w.heap.size) → g < w'.heap.size →
      wpList Try.prog ops Q rest (a.put o.dst (.slice (some ⟨g, 0, none⟩) (xs.length + 1) cap)) w') : wpList Try.prog ops Q (o :: rest) a w := by
  obtain ⟨i0, hi, hz0, hz1, hz2⟩ := info_parts info_int_Try
  refine wpList_append_lies w hgd s x 33 ho base 3 i0 (.int .i64 0) 1 8 Try.underlying33 hi hz0 hz1 hz2 rfl (by omega) v xs.length (ints xs) hs hown ⟨b, 0, none⟩ 1 1 [.int .i64 z] hx rfl
    (World.news_of_block hb) (ints_one [z]) (by omega) (by unfold maxLen; omega) (by omega) hbase w.heap.size rfl fun g cap w' h2 h3 h4 h5 => h g cap w' ?_ h3 h4 h5
  rw [List.length_append]
  simpa [ints] using h2
theorem own_slice1 {w : World} {base e n : Nat} {v : Value} {xs : List Value} (h : w.ownsRow base e 1 v n xs) : ∃ A c, v = .slice A n c := by
  rcases h.2 with ⟨rfl, h0⟩ | ⟨g, cap, cur, rfl, _⟩
  · exact ⟨none, 0, by rw [h0]⟩
  · exact ⟨_, cap, rfl⟩
def ListPost (l : List Int) (x : Int) (w : World) (e : Ending) (w' : World) : Prop := ∃ v, e = .returned (.tuple #[v, .int .i64 x]) ∧ RdV w' v l ∧ Below w.heap.size w w'
end Go.Proofs.Ytepdgffccfcfpaa
