/- A whole list of works appended to a row of works of the call's own. -/
import Derived.Test.YtifpkdajfdlgeaaOwnW
import Derived.Maps.AppendAt
namespace Go.Proofs.Ytifpkdajfdlgeaa
open Go.RowKit

theorem rdW_nil_of_none {w : World} {ws : List GW} (h : RdW w none ws) : ws = [] := by
  rcases Nat.eq_zero_or_pos ws.length with h0 | h0
  · exact List.eq_nil_of_length_eq_zero h0
  · obtain ⟨b, off, e, _⟩ := h.2.2 (by omega)
    cases e
theorem run_appAll_Try (w : World) (base : Nat) (v : Value) (xs : List GW) (hown : w.ownsRow base 40 3 v xs.length (worksC xs)) (A : Option Addr) (c : Nat) (ws : List GW) (hrd : RdW w A ws)
    (hn : xs.length + ws.length ≤ 1000000) (hbase : base ≤ w.heap.size) (ty : TypeId) :
    ∃ v' w', (Builtin.append_ #[22, 22] ty #[v, .slice A ws.length c]).run Try.prog w = .ok v' w' ∧ w'.ownsRow base 40 3 v' (xs ++ ws).length (worksC (xs ++ ws)) ∧ w.grownBy w' v.ownBlock ∧
      (v'.ownBlock = v.ownBlock ∨ v'.ownBlock = some w.heap.size) := by
  obtain ⟨i0, hi, hz0, hz1, hz2⟩ := info_parts info_work_Try
  cases A with
  | none =>
    obtain rfl := rdW_nil_of_none hrd
    refine ⟨v, w, ?_, by simpa using hown, World.grownBy.refl w _, .inl rfl⟩
    rcases hown.2 with ⟨rfl, _⟩ | ⟨g, cap, cur, rfl, _, _, hnc, _⟩
    · simp [Builtin.append_, run_underlying Try.underlying22, sizeOf, typeInfo, hi, Builtin.lenOf, Builtin.firstCells]
    · simp [Builtin.append_, run_underlying Try.underlying22, sizeOf, typeInfo, hi, Builtin.lenOf, Builtin.firstCells, hnc, storeCells]
  | some ad =>
    have hnews : ∀ j u, (worksC ws)[j]? = some u → w.cell? (ad.add j) = some u := fun j u hu => by
      have hj : j < ws.length * 3 := by
        have := (List.getElem?_eq_some_iff.1 hu).1
        rwa [worksC_length] at this
      rw [worksC_get ws j hj] at hu
      obtain ⟨b, off, e, _, hc⟩ := hrd.2.2 (by omega)
      obtain rfl : ad = ⟨b, off, none⟩ := Option.some.inj e
      have h9 := hc j hj
      rw [← Option.some.inj hu, ← h9]
      by_cases h0 : j = 0
      · subst h0; simp [Addr.add]
      · simp [Addr.add, h0]
    obtain ⟨v', w', hr, h2, h3, _, h5⟩ := run_append_own_at (P := Try.prog) w base 22 ty 40 i0 _ 3 32 Try.underlying22 hi hz0 hz1 hz2 rfl (by omega) v xs.length (worksC xs) hown ad ws.length c (worksC ws) (worksC_length ws) hnews (worksC_one ws)
      (by unfold maxLen; omega) (by omega) hbase
    refine ⟨v', w', hr, ?_, h3, h5⟩
    rw [List.length_append, worksC_append]
    exact h2
theorem wp_appAll_Try {o : Oper} {a : Act} {K : Act → World → Prop} {Q : Exit → Act → World → Prop} {w : World} (s x : Operand)
    (ho : o.op = .call { callee := .builtin .append, args := #[s, x], argTypes := #[22, 22] })
    (base : Nat) (v : Value) (xs : List GW) (hs : a.eval s = v) (hown : w.ownsRow base 40 3 v xs.length (worksC xs)) (A : Option Addr) (c : Nat) (ws : List GW) (hx : a.eval x = .slice A ws.length c) (hrd : RdW w A ws)
    (hn : xs.length + ws.length ≤ 1000000) (hbase : base ≤ w.heap.size)
    (h : ∀ v' w', w'.ownsRow base 40 3 v' (xs ++ ws).length (worksC (xs ++ ws)) → w.grownBy w' v.ownBlock → (v'.ownBlock = v.ownBlock ∨ v'.ownBlock = some w.heap.size) → K (a.put o.dst v') w') : o.wp Try.prog a w K Q := by
  obtain ⟨v', w', hr, h2, h3, h4⟩ := run_appAll_Try w base v xs hown A c ws hrd hn hbase o.type
  unfold Oper.wp execOp
  simp only [ho, resolve, invoke, builtin, Sem.run_bind, Sem.run_pure, Result.andThen_ok, List.map_toArray, List.map_cons, List.map_nil, hs, hx, hr]
  exact h v' w' h2 h3 h4
theorem step_appAll_Try {ops : Array Oper} {o : Oper} {a : Act} {K : Act → World → Prop} {Q : Exit → Act → World → Prop} {E : Prop} {w : World} (hgd : o.guard = none) (s x : Operand)
    (ho : o.op = .call { callee := .builtin .append, args := #[s, x], argTypes := #[22, 22] })
    (base : Nat) (v : Value) (xs : List GW) (hs : a.eval s = v) (hown : w.ownsRow base 40 3 v xs.length (worksC xs)) (A : Option Addr) (c : Nat) (ws : List GW) (hx : a.eval x = .slice A ws.length c) (hrd : RdW w A ws)
    (hn : xs.length + ws.length ≤ 1000000) (hbase : base ≤ w.heap.size)
    (h : ∀ v' w', w'.ownsRow base 40 3 v' (xs ++ ws).length (worksC (xs ++ ws)) → w.grownBy w' v.ownBlock → (v'.ownBlock = v.ownBlock ∨ v'.ownBlock = some w.heap.size) → K (a.put o.dst v') w') :
    if Region.wanted o (yielded ops a.tmps) = true then Oper.wp Try.prog o a w K Q else E := by
  have hw : Region.wanted o (yielded ops a.tmps) = true := by simp [Region.wanted, hgd]
  rw [if_pos hw]
  exact wp_appAll_Try s x ho base v xs hs hown A c ws hx hrd hn hbase h
theorem wpList_appAll_Try {ops : Array Oper} {rest : List Oper} {o : Oper} {a : Act} {Q : Exit → Act → World → Prop} {w : World} (hgd : o.guard = none) (s x : Operand)
    (ho : o.op = .call { callee := .builtin .append, args := #[s, x], argTypes := #[22, 22] })
    (base : Nat) (v : Value) (xs : List GW) (hs : a.eval s = v) (hown : w.ownsRow base 40 3 v xs.length (worksC xs)) (A : Option Addr) (c : Nat) (ws : List GW) (hx : a.eval x = .slice A ws.length c) (hrd : RdW w A ws)
    (hn : xs.length + ws.length ≤ 1000000) (hbase : base ≤ w.heap.size)
    (h : ∀ v' w', w'.ownsRow base 40 3 v' (xs ++ ws).length (worksC (xs ++ ws)) → w.grownBy w' v.ownBlock → (v'.ownBlock = v.ownBlock ∨ v'.ownBlock = some w.heap.size) → wpList Try.prog ops Q rest (a.put o.dst v') w') :
    wpList Try.prog ops Q (o :: rest) a w :=
  wpList_plain hgd fun _ hK => wp_appAll_Try s x ho base v xs hs hown A c ws hx hrd hn hbase fun v' w' h2 h3 h4 => hK _ _ (h v' w' h2 h3 h4)
/-- append([]Work{}, ws...): a copy. -/
theorem step_copyW_Try {ops : Array Oper} {o : Oper} {a : Act} {K : Act → World → Prop} {Q : Exit → Act → World → Prop} {E : Prop} {w : World} (hgd : o.guard = none) (s x : Operand)
    (ho : o.op = .call { callee := .builtin .append, args := #[s, x], argTypes := #[22, 22] })
    (base : Nat) (v : Value) (hs : a.eval s = v) (hown : w.ownsRow base 40 3 v ([] : List GW).length (worksC [])) (A : Option Addr) (c : Nat) (ws : List GW) (hx : a.eval x = .slice A ws.length c) (hrd : RdW w A ws)
    (hn : ws.length ≤ 1000000) (hbase : base ≤ w.heap.size)
    (h : ∀ sA sc w', w'.ownsRow base 40 3 (.slice sA ws.length sc) ws.length (worksC ws) → w.grownBy w' v.ownBlock → ((Value.slice sA ws.length sc).ownBlock = v.ownBlock ∨ (Value.slice sA ws.length sc).ownBlock = some w.heap.size) → ws.length ≤ sc → K (a.put o.dst (.slice sA ws.length sc)) w') :
    if Region.wanted o (yielded ops a.tmps) = true then Oper.wp Try.prog o a w K Q else E :=
  step_appAll_Try hgd s x ho base v [] hs hown A c ws hx hrd (by simpa using hn) hbase fun v' w' h2 h3 h4 => by
    rw [List.nil_append] at h2
    obtain ⟨sA, sc, rfl, hsc⟩ := own_slice3 h2
    exact h sA sc w' h2 h3 h4 hsc
/-- An empty list of works that was just laid. -/
theorem own_emptyW {w : World} {b base : Nat} (hb : w.heap[b]? = some (.cells #[] 40 (0, 0))) (h : base ≤ b) : w.ownsRow base 40 3 (.slice (some ⟨b, 0, none⟩) 0 0) ([] : List GW).length (worksC []) :=
  ⟨rfl, .inr ⟨b, 0, #[], rfl, h, hb, Nat.le_refl _, by unfold maxLen; omega, rfl, rfl⟩⟩
theorem RdW.grown {w w' : World} {A : Option Addr} {ws : List GW} {row : Option Nat} {B : Nat} (h : RdW w A ws) (hg : w.grownBy w' row) (hA : 0 < ws.length → ∀ b off, A = some ⟨b, off, none⟩ → b < B) (hr : ∀ k, row = some k → B ≤ k) : RdW w' A ws := by
  refine ⟨h.1, h.2.1, fun h0 => ?_⟩
  obtain ⟨b, off, e, hb, hc⟩ := h.2.2 h0
  have hlt := hA (by omega) b off e
  exact ⟨b, off, e, Nat.lt_of_lt_of_le hb hg.size, fun j hj => hg.cell (hc j hj) (fun e' => by have := hr b e'.symm; omega)⟩
theorem RdW.of_own {w : World} {base e n c : Nat} {A : Option Addr} {ws : List GW} (h : w.ownsRow base e 3 (.slice A n c) n (worksC ws)) (hl : ws.length ≤ 281474976710656) (hf : ∀ x ∈ ws, x.fits) : RdW w A ws := ⟨hl, hf, own_rdW h⟩
theorem own_set_ne {w : World} {base e size n : Nat} {v : Value} {xs : List Value} (h : w.ownsRow base e size v n xs) {p : Addr} (hne : some p.block ≠ v.ownBlock) (u : Value) : (w.setCell p u).ownsRow base e size v n xs := by
  obtain ⟨h1, h2⟩ := h
  refine ⟨h1, ?_⟩
  rcases h2 with h2 | ⟨g, cap, cur, rfl, h4, h5, h6⟩
  · exact .inl h2
  · refine .inr ⟨g, cap, cur, rfl, h4, ?_, h6⟩
    rw [Below.heap_setCell w p u g (fun e => hne (by rw [← e]; rfl))]
    exact h5
theorem two_set {w : World} {S : Nat} {x y a b : Value} {T : TypeId} (h : w.heap[S]? = some (.cells #[x, y] T (0, 0))) : ((w.setCell ⟨S, 0, none⟩ a).setCell ⟨S, 1, none⟩ b).heap[S]? = some (.cells #[a, b] T (0, 0)) := by
  have h1 : (w.setCell ⟨S, 0, none⟩ a).heap[S]? = some (.cells #[a, y] T (0, 0)) := by rw [heap_setCell_same w S 0 _ _ _ h]; rfl
  rw [heap_setCell_same _ S 1 _ _ _ h1]; rfl
end Go.Proofs.Ytifpkdajfdlgeaa
