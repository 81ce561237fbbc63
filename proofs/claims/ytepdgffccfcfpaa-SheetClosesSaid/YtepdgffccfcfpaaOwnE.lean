/- Rows of edges of the call's own. -/
import Derived.Test.YtepdgffccfcfpaaOwn
import Derived.Test.YtepdgffccfcfpaaRows
import Derived.Test.YtepdgffccfcfpaaEdF
import Derived.Deep.RegionLaw
import Derived.Deep.DeepCutAuto
namespace Go.Proofs.Ytepdgffccfcfpaa
open Go.RowKit

/-- The edges' cells, one after the other. -/
def edC (es : List E4) : List Value := es.flatMap fun x => [.int .i64 x.fr, .int .i64 x.out, .int .i64 x.to, .int .i64 x.inn]
theorem edC_length : ∀ es, (edC es).length = es.length * 4
  | [] => rfl
  | x :: es => by
    have ih := edC_length es
    unfold edC at ih ⊢
    simp only [List.flatMap_cons, List.length_append, List.length_cons, List.length_nil, ih]
    omega
theorem edC_append (xs ys : List E4) : edC (xs ++ ys) = edC xs ++ edC ys := by unfold edC; simp
theorem edC_one (es : List E4) : ∀ u ∈ edC es, u.oneCell' = true := by
  intro u hu
  simp only [edC, List.mem_flatMap] at hu
  obtain ⟨x, _, hx⟩ := hu
  simp only [List.mem_cons, List.not_mem_nil, or_false] at hx
  rcases hx with rfl | rfl | rfl | rfl <;> rfl
theorem edC_get : ∀ (es : List E4) (j : Nat), j < es.length * 4 → (edC es)[j]? = some (fCell (fun i => es.getD i e40) j)
  | [], j, h => by simp at h
  | x :: es, j, h => by
    have e : edC (x :: es) = [.int .i64 x.fr, .int .i64 x.out, .int .i64 x.to, .int .i64 x.inn] ++ edC es := by unfold edC; simp
    rw [e]
    rcases Nat.lt_or_ge j 4 with h3 | h3
    · rw [List.getElem?_append_left (by simpa using h3)]
      obtain rfl | rfl | rfl | rfl : j = 0 ∨ j = 1 ∨ j = 2 ∨ j = 3 := by omega
      all_goals simp [fCell]
    · rw [List.getElem?_append_right (by simpa using h3)]
      have ih := edC_get es (j - 4) (by simp at h; omega)
      simp only [List.length_cons, List.length_nil, Nat.zero_add]
      rw [ih]
      unfold fCell
      rw [show (j - 4) % 4 = j % 4 by omega, show j / 4 = (j - 4) / 4 + 1 by omega]
      simp [List.getD_eq_getElem?_getD]

theorem own_rdE {w : World} {base e n c : Nat} {A : Option Addr} {es : List E4} (h : w.ownsRow base e 4 (.slice A n c) n (edC es)) : Rd w A 4 es.length (fCell (fun i => es.getD i e40)) := fun h0 => by
  have hl : n = es.length := by have := h.1; rw [edC_length] at this; omega
  obtain ⟨g, cap, hv, _, hlt⟩ := h.form (by omega)
  injection hv with hA
  subst hA
  refine ⟨g, 0, rfl, hlt, fun j hj => ?_⟩
  have := h.cells (g := g) rfl j _ (edC_get es j hj)
  unfold Addr.add at this
  by_cases hj0 : j = 0
  · subst hj0; simpa using this
  · simpa [hj0] using this
theorem own_slice4 {w : World} {base e n : Nat} {v : Value} {xs : List Value} (h : w.ownsRow base e 4 v n xs) : ∃ A c, v = .slice A n c := by
  rcases h.2 with ⟨rfl, h0⟩ | ⟨g, cap, cur, rfl, _⟩
  · exact ⟨none, 0, by rw [h0]⟩
  · exact ⟨_, cap, rfl⟩
theorem info_edge_Try : (Try.prog.info? 46).map (fun i => (i.zero, i.size, i.bytes)) = some (some (.agg #[.int .i64 0, .int .i64 0, .int .i64 0, .int .i64 0]), 4, 32) := by kernel_rfl
theorem wpList_appE_Try {ops : Array Oper} {rest : List Oper} {o : Oper} {a : Act} {Q : Exit → Act → World → Prop} {w : World} (hgd : o.guard = none) (s x : Operand)
    (ho : o.op = .call { callee := .builtin .append, args := #[s, x], argTypes := #[27, 27] })
    (base : Nat) (v : Value) (xs : List E4) (hs : a.eval s = v) (hown : w.ownsRow base 46 4 v xs.length (edC xs)) (b : Nat) (z : E4) (hx : a.eval x = .slice (some ⟨b, 0, none⟩) 1 1)
    (hb : w.heap[b]? = some (.cells #[.int .i64 z.fr, .int .i64 z.out, .int .i64 z.to, .int .i64 z.inn] 46 (0, 0))) (hn : xs.length ≤ 1000000) (hbase : base ≤ w.heap.size)
    (h : ∀ g cap w', w'.ownsRow base 46 4 (.slice (some ⟨g, 0, none⟩) (xs.length + 1) cap) (xs ++ [z]).length (edC (xs ++ [z])) → w.grownBy w' v.ownBlock → (v.ownBlock = some g ∨ g = w.heap.size) → g < w'.heap.size →
      wpList Try.prog ops Q rest (a.put o.dst (.slice (some ⟨g, 0, none⟩) (xs.length + 1) cap)) w') : wpList Try.prog ops Q (o :: rest) a w := by
  obtain ⟨i0, hi, hz0, hz1, hz2⟩ := info_parts info_edge_Try
  refine wpList_append_lies w hgd s x 27 ho base 46 i0 _ 4 32 Try.underlying27 hi hz0 hz1 hz2 rfl (by omega) v xs.length (edC xs) hs hown ⟨b, 0, none⟩ 1 1 (edC [z]) hx rfl
    (World.news_of_block hb) (edC_one [z]) (by omega) (by unfold maxLen; omega) (by omega) hbase w.heap.size rfl fun g cap w' h2 h3 h4 h5 => h g cap w' ?_ h3 h4 h5
  rw [List.length_append, edC_append]
  exact h2
end Go.Proofs.Ytepdgffccfcfpaa
