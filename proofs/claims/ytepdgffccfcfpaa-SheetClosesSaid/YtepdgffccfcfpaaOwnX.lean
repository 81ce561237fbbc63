/- Rows of works of the call's own. -/
import Derived.Test.YtepdgffccfcfpaaOwn
import Derived.Test.YtepdgffccfcfpaaRows
import Derived.Deep.RegionLaw
import Derived.Deep.DeepCutAuto
namespace Go.Proofs.Ytepdgffccfcfpaa
open Go.RowKit

/-- The works' cells, one after the other. -/
def worksC (ws : List GW) : List Value := ws.flatMap fun x => [.int .i64 x.kind, .int .i64 x.pl, .string x.word]
theorem worksC_length : ∀ ws, (worksC ws).length = ws.length * 3
  | [] => rfl
  | x :: ws => by
    have ih := worksC_length ws
    unfold worksC at ih ⊢
    simp only [List.flatMap_cons, List.length_append, List.length_cons, List.length_nil, ih]
    omega
theorem worksC_append (xs ys : List GW) : worksC (xs ++ ys) = worksC xs ++ worksC ys := by unfold worksC; simp
theorem worksC_one (ws : List GW) : ∀ u ∈ worksC ws, u.oneCell' = true := by
  intro u hu
  simp only [worksC, List.mem_flatMap] at hu
  obtain ⟨x, _, hx⟩ := hu
  simp only [List.mem_cons, List.not_mem_nil, or_false] at hx
  rcases hx with rfl | rfl | rfl <;> rfl
theorem worksC_get : ∀ (ws : List GW) (j : Nat), j < ws.length * 3 → (worksC ws)[j]? = some (cellsW ws j)
  | [], j, h => by simp at h
  | x :: ws, j, h => by
    have e : worksC (x :: ws) = [.int .i64 x.kind, .int .i64 x.pl, .string x.word] ++ worksC ws := by unfold worksC; simp
    rw [e]
    rcases Nat.lt_or_ge j 3 with h3 | h3
    · rw [List.getElem?_append_left (by simpa using h3)]
      obtain rfl | rfl | rfl : j = 0 ∨ j = 1 ∨ j = 2 := by omega
      all_goals simp [cellsW]
    · rw [List.getElem?_append_right (by simpa using h3)]
      have ih := worksC_get ws (j - 3) (by simp at h; omega)
      simp only [List.length_cons, List.length_nil, Nat.zero_add]
      rw [ih]
      unfold cellsW
      rw [show (j - 3) % 3 = j % 3 by omega, show j / 3 = (j - 3) / 3 + 1 by omega]
      simp [List.getD_eq_getElem?_getD]

theorem own_rdW {w : World} {base e n c : Nat} {A : Option Addr} {ws : List GW} (h : w.ownsRow base e 3 (.slice A n c) n (worksC ws)) : Rd w A 3 ws.length (cellsW ws) := fun h0 => by
  have hl : n = ws.length := by have := h.1; rw [worksC_length] at this; omega
  obtain ⟨g, cap, hv, _, hlt⟩ := h.form (by omega)
  injection hv with hA
  subst hA
  refine ⟨g, 0, rfl, hlt, fun j hj => ?_⟩
  have := h.cells (g := g) rfl j (cellsW ws j) (worksC_get ws j hj)
  unfold Addr.add at this
  by_cases hj0 : j = 0
  · subst hj0; simpa using this
  · simpa [hj0] using this
theorem own_slice3 {w : World} {base e n : Nat} {v : Value} {xs : List Value} (h : w.ownsRow base e 3 v n xs) : ∃ A c, v = .slice A n c ∧ n ≤ c := by
  rcases h.2 with ⟨rfl, h0⟩ | ⟨g, cap, cur, rfl, _, _, hn, _⟩
  · exact ⟨none, 0, by rw [h0], by omega⟩
  · exact ⟨_, cap, rfl, hn⟩
theorem info_work_Try : (Try.prog.info? 48).map (fun i => (i.zero, i.size, i.bytes)) = some (some (.agg #[.int .i64 0, .int .i64 0, .string ByteArray.empty]), 3, 32) := by kernel_rfl

theorem step_appW_Try {ops : Array Oper} {o : Oper} {a : Act} {K : Act → World → Prop} {Q : Exit → Act → World → Prop} {E : Prop} {w : World} (hgd : o.guard = none) (s x : Operand)
    (ho : o.op = .call { callee := .builtin .append, args := #[s, x], argTypes := #[22, 22] })
    (base : Nat) (v : Value) (xs : List GW) (hs : a.eval s = v) (hown : w.ownsRow base 48 3 v xs.length (worksC xs)) (b : Nat) (z : GW) (hx : a.eval x = .slice (some ⟨b, 0, none⟩) 1 1)
    (hb : w.heap[b]? = some (.cells #[.int .i64 z.kind, .int .i64 z.pl, .string z.word] 48 (0, 0))) (hn : xs.length ≤ 1000000) (hbase : base ≤ w.heap.size)
    (h : ∀ g cap w', w'.ownsRow base 48 3 (.slice (some ⟨g, 0, none⟩) (xs.length + 1) cap) (xs ++ [z]).length (worksC (xs ++ [z])) → w.grownBy w' v.ownBlock → (v.ownBlock = some g ∨ g = w.heap.size) → g < w'.heap.size →
      K (a.put o.dst (.slice (some ⟨g, 0, none⟩) (xs.length + 1) cap)) w') :
    if Region.wanted o (yielded ops a.tmps) = true then Oper.wp Try.prog o a w K Q else E := by
  obtain ⟨i0, hi, hz0, hz1, hz2⟩ := info_parts info_work_Try
  refine step_append_lies w hgd s x 22 ho base 48 i0 _ 3 32 Try.underlying22 hi hz0 hz1 hz2 rfl (by omega) v xs.length (worksC xs) hs hown ⟨b, 0, none⟩ 1 1 (worksC [z]) hx rfl
    (World.news_of_block hb) (worksC_one [z]) (by omega) (by unfold maxLen; omega) (by omega) hbase w.heap.size rfl fun g cap w' h2 h3 h4 h5 => h g cap w' ?_ h3 h4 h5
  rw [List.length_append, worksC_append]
  exact h2
theorem wpList_appW_Try {ops : Array Oper} {rest : List Oper} {o : Oper} {a : Act} {Q : Exit → Act → World → Prop} {w : World} (hgd : o.guard = none) (s x : Operand)
    (ho : o.op = .call { callee := .builtin .append, args := #[s, x], argTypes := #[22, 22] })
    (base : Nat) (v : Value) (xs : List GW) (hs : a.eval s = v) (hown : w.ownsRow base 48 3 v xs.length (worksC xs)) (b : Nat) (z : GW) (hx : a.eval x = .slice (some ⟨b, 0, none⟩) 1 1)
    (hb : w.heap[b]? = some (.cells #[.int .i64 z.kind, .int .i64 z.pl, .string z.word] 48 (0, 0))) (hn : xs.length ≤ 1000000) (hbase : base ≤ w.heap.size)
    (h : ∀ g cap w', w'.ownsRow base 48 3 (.slice (some ⟨g, 0, none⟩) (xs.length + 1) cap) (xs ++ [z]).length (worksC (xs ++ [z])) → w.grownBy w' v.ownBlock → (v.ownBlock = some g ∨ g = w.heap.size) → g < w'.heap.size →
      wpList Try.prog ops Q rest (a.put o.dst (.slice (some ⟨g, 0, none⟩) (xs.length + 1) cap)) w') : wpList Try.prog ops Q (o :: rest) a w := by
  obtain ⟨i0, hi, hz0, hz1, hz2⟩ := info_parts info_work_Try
  refine wpList_append_lies w hgd s x 22 ho base 48 i0 _ 3 32 Try.underlying22 hi hz0 hz1 hz2 rfl (by omega) v xs.length (worksC xs) hs hown ⟨b, 0, none⟩ 1 1 (worksC [z]) hx rfl
    (World.news_of_block hb) (worksC_one [z]) (by omega) (by unfold maxLen; omega) (by omega) hbase w.heap.size rfl fun g cap w' h2 h3 h4 h5 => h g cap w' ?_ h3 h4 h5
  rw [List.length_append, worksC_append]
  exact h2
theorem ownsRow_setCell_below3 {w : World} {base e size n : Nat} {v : Value} {xs : List Value} (h : w.ownsRow base e size v n xs) {p : Addr} (hp : p.block < base) (u : Value) : (w.setCell p u).ownsRow base e size v n xs := ownsRow_setCell_below h hp u
end Go.Proofs.Ytepdgffccfcfpaa
