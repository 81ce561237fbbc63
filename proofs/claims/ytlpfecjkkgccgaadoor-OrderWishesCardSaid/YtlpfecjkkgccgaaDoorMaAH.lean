/- Texts of this claim, laid together: OwnP, OpenC3. -/
import Derived.Test.YtlpfecjkkgccgaaDoorMaB
import Derived.Test.YtlpfecjkkgccgaaDoorMaP
import Derived.Test.YtlpfecjkkgccgaaDoorMaY
import Derived.Maps.AppendAt
/- Lists of pairs of the call's own: a whole list appended, and one more pair. -/
namespace Go.Proofs.YtlpfecjkkgccgaaDoor
open Go.RowKit

def pairC (wl : List (Int × Int)) : List Value := wl.flatMap fun x => [.int .i64 x.1, .int .i64 x.2]
theorem pairC_length : ∀ wl, (pairC wl).length = wl.length * 2
  | [] => rfl
  | x :: wl => by
    have ih := pairC_length wl
    unfold pairC at ih ⊢
    simp only [List.flatMap_cons, List.length_append, List.length_cons, List.length_nil, ih]
    omega
theorem pairC_append (xs ys : List (Int × Int)) : pairC (xs ++ ys) = pairC xs ++ pairC ys := by unfold pairC; simp
theorem pairC_one (wl : List (Int × Int)) : ∀ u ∈ pairC wl, u.oneCell' = true := by
  intro u hu
  simp only [pairC, List.mem_flatMap] at hu
  obtain ⟨x, _, hx⟩ := hu
  simp only [List.mem_cons, List.not_mem_nil, or_false] at hx
  rcases hx with rfl | rfl <;> rfl
theorem pairC_get : ∀ (wl : List (Int × Int)) (j : Nat), j < wl.length * 2 → (pairC wl)[j]? = some (cellsP wl j)
  | [], j, h => by simp at h
  | x :: wl, j, h => by
    have e : pairC (x :: wl) = [.int .i64 x.1, .int .i64 x.2] ++ pairC wl := by unfold pairC; simp
    rw [e]
    rcases Nat.lt_or_ge j 2 with h2 | h2
    · rw [List.getElem?_append_left (by simpa using h2)]
      obtain rfl | rfl : j = 0 ∨ j = 1 := by omega
      all_goals simp [cellsP]
    · rw [List.getElem?_append_right (by simpa using h2)]
      have ih := pairC_get wl (j - 2) (by simp at h; omega)
      simp only [List.length_cons, List.length_nil, Nat.zero_add]
      rw [ih]
      unfold cellsP
      rw [show (j - 2) % 2 = j % 2 by omega, show j / 2 = (j - 2) / 2 + 1 by omega]
      simp [List.getD_eq_getElem?_getD]
theorem own_rdP {w : World} {base e n c : Nat} {A : Option Addr} {wl : List (Int × Int)} (h : w.ownsRow base e 2 (.slice A n c) n (pairC wl)) : Rd w A 2 wl.length (cellsP wl) := fun h0 => by
  have hl : n = wl.length := by have := h.1; rw [pairC_length] at this; omega
  obtain ⟨g, cap, hv, _, hlt⟩ := h.form (by omega)
  injection hv with hA
  subst hA
  refine ⟨g, 0, rfl, hlt, fun j hj => ?_⟩
  have := h.cells (g := g) rfl j (cellsP wl j) (pairC_get wl j hj)
  unfold Addr.add at this
  by_cases hj0 : j = 0
  · subst hj0; simpa using this
  · simpa [hj0] using this
theorem RdP.of_own {w : World} {base e n c : Nat} {A : Option Addr} {wl : List (Int × Int)} (h : w.ownsRow base e 2 (.slice A n c) n (pairC wl)) (hl : wl.length ≤ 281474976710656) : RdP w A wl := ⟨hl, own_rdP h⟩
theorem own_slice2 {w : World} {base e n : Nat} {v : Value} {xs : List Value} (h : w.ownsRow base e 2 v n xs) : ∃ A c, v = .slice A n c ∧ n ≤ c := by
  rcases h.2 with ⟨rfl, h0⟩ | ⟨g, cap, cur, rfl, _, _, hn, _⟩
  · exact ⟨none, 0, by rw [h0], by omega⟩
  · exact ⟨_, cap, rfl, hn⟩
theorem info_pair_Tryd : (Tryd.prog.info? 43).map (fun i => (i.zero, i.size, i.bytes)) = some (some (.agg #[.int .i64 0, .int .i64 0]), 2, 16) := by kernel_rfl
theorem rdP_nil_of_none {w : World} {wl : List (Int × Int)} (h : RdP w none wl) : wl = [] := by
  rcases Nat.eq_zero_or_pos wl.length with h0 | h0
  · exact List.eq_nil_of_length_eq_zero h0
  · obtain ⟨b, off, e, _⟩ := h.2 (by omega)
    cases e
theorem run_appAllP_Tryd (w : World) (base : Nat) (v : Value) (xs : List (Int × Int)) (hown : w.ownsRow base 43 2 v xs.length (pairC xs)) (A : Option Addr) (c : Nat) (wl : List (Int × Int)) (hrd : RdP w A wl)
    (hn : xs.length + wl.length ≤ 1000000) (hbase : base ≤ w.heap.size) (ty : TypeId) :
    ∃ v' w', (Builtin.append_ #[25, 25] ty #[v, .slice A wl.length c]).run Tryd.prog w = .ok v' w' ∧ w'.ownsRow base 43 2 v' (xs ++ wl).length (pairC (xs ++ wl)) ∧ w.grownBy w' v.ownBlock ∧
      (v'.ownBlock = v.ownBlock ∨ v'.ownBlock = some w.heap.size) := by
  obtain ⟨i0, hi, hz0, hz1, hz2⟩ := info_parts info_pair_Tryd
  cases A with
  | none =>
    obtain rfl := rdP_nil_of_none hrd
    refine ⟨v, w, ?_, by simpa using hown, World.grownBy.refl w _, .inl rfl⟩
    rcases hown.2 with ⟨rfl, _⟩ | ⟨g, cap, cur, rfl, _, _, hnc, _⟩
    · simp [Builtin.append_, run_underlying Tryd.underlying25, sizeOf, typeInfo, hi, Builtin.lenOf, Builtin.firstCells]
    · simp [Builtin.append_, run_underlying Tryd.underlying25, sizeOf, typeInfo, hi, Builtin.lenOf, Builtin.firstCells, hnc, storeCells]
  | some ad =>
    have hnews : ∀ j u, (pairC wl)[j]? = some u → w.cell? (ad.add j) = some u := fun j u hu => by
      have hj : j < wl.length * 2 := by
        have := (List.getElem?_eq_some_iff.1 hu).1
        rwa [pairC_length] at this
      rw [pairC_get wl j hj] at hu
      obtain ⟨b, off, e, _, hc⟩ := hrd.2 (by omega)
      obtain rfl : ad = ⟨b, off, none⟩ := Option.some.inj e
      have h9 := hc j hj
      rw [← Option.some.inj hu, ← h9]
      by_cases h0 : j = 0
      · subst h0; simp [Addr.add]
      · simp [Addr.add, h0]
    obtain ⟨v', w', hr, h2, h3, _, h5⟩ := run_append_own_at (P := Tryd.prog) w base 25 ty 43 i0 _ 2 16 Tryd.underlying25 hi hz0 hz1 hz2 rfl (by omega) v xs.length (pairC xs) hown ad wl.length c (pairC wl) (pairC_length wl) hnews (pairC_one wl)
      (by unfold maxLen; omega) (by omega) hbase
    refine ⟨v', w', hr, ?_, h3, h5⟩
    rw [List.length_append, pairC_append]
    exact h2
theorem wp_appAllP_Tryd {o : Oper} {a : Act} {K : Act → World → Prop} {Q : Exit → Act → World → Prop} {w : World} (s x : Operand)
    (ho : o.op = .call { callee := .builtin .append, args := #[s, x], argTypes := #[25, 25] })
    (base : Nat) (v : Value) (xs : List (Int × Int)) (hs : a.eval s = v) (hown : w.ownsRow base 43 2 v xs.length (pairC xs)) (A : Option Addr) (c : Nat) (wl : List (Int × Int)) (hx : a.eval x = .slice A wl.length c) (hrd : RdP w A wl)
    (hn : xs.length + wl.length ≤ 1000000) (hbase : base ≤ w.heap.size)
    (h : ∀ A' c' w', w'.ownsRow base 43 2 (.slice A' (xs ++ wl).length c') (xs ++ wl).length (pairC (xs ++ wl)) → w.grownBy w' v.ownBlock → ((Value.slice A' (xs ++ wl).length c').ownBlock = v.ownBlock ∨ (Value.slice A' (xs ++ wl).length c').ownBlock = some w.heap.size) → K (a.put o.dst (.slice A' (xs ++ wl).length c')) w') : o.wp Tryd.prog a w K Q := by
  obtain ⟨v', w', hr, h2, h3, h4⟩ := run_appAllP_Tryd w base v xs hown A c wl hrd hn hbase o.type
  obtain ⟨A', c', rfl, _⟩ := own_slice2 h2
  unfold Oper.wp execOp
  simp only [ho, resolve, invoke, builtin, Sem.run_bind, Sem.run_pure, Result.andThen_ok, List.map_toArray, List.map_cons, List.map_nil, hs, hx, hr]
  exact h A' c' w' h2 h3 h4
theorem wpList_appAllP_Tryd {ops : Array Oper} {rest : List Oper} {o : Oper} {a : Act} {Q : Exit → Act → World → Prop} {w : World} (hgd : o.guard = none) (s x : Operand)
    (ho : o.op = .call { callee := .builtin .append, args := #[s, x], argTypes := #[25, 25] })
    (base : Nat) (v : Value) (xs : List (Int × Int)) (hs : a.eval s = v) (hown : w.ownsRow base 43 2 v xs.length (pairC xs)) (A : Option Addr) (c : Nat) (wl : List (Int × Int)) (hx : a.eval x = .slice A wl.length c) (hrd : RdP w A wl)
    (hn : xs.length + wl.length ≤ 1000000) (hbase : base ≤ w.heap.size)
    (h : ∀ A' c' w', w'.ownsRow base 43 2 (.slice A' (xs ++ wl).length c') (xs ++ wl).length (pairC (xs ++ wl)) → w.grownBy w' v.ownBlock → ((Value.slice A' (xs ++ wl).length c').ownBlock = v.ownBlock ∨ (Value.slice A' (xs ++ wl).length c').ownBlock = some w.heap.size) → wpList Tryd.prog ops Q rest (a.put o.dst (.slice A' (xs ++ wl).length c')) w') :
    wpList Tryd.prog ops Q (o :: rest) a w :=
  wpList_plain hgd fun _ hK => wp_appAllP_Tryd s x ho base v xs hs hown A c wl hx hrd hn hbase fun A' c' w' h2 h3 h4 => hK _ _ (h A' c' w' h2 h3 h4)
theorem step_appAllP_Tryd {ops : Array Oper} {o : Oper} {a : Act} {K : Act → World → Prop} {Q : Exit → Act → World → Prop} {E : Prop} {w : World} (hgd : o.guard = none) (s x : Operand)
    (ho : o.op = .call { callee := .builtin .append, args := #[s, x], argTypes := #[25, 25] })
    (base : Nat) (v : Value) (xs : List (Int × Int)) (hs : a.eval s = v) (hown : w.ownsRow base 43 2 v xs.length (pairC xs)) (A : Option Addr) (c : Nat) (wl : List (Int × Int)) (hx : a.eval x = .slice A wl.length c) (hrd : RdP w A wl)
    (hn : xs.length + wl.length ≤ 1000000) (hbase : base ≤ w.heap.size)
    (h : ∀ A' c' w', w'.ownsRow base 43 2 (.slice A' (xs ++ wl).length c') (xs ++ wl).length (pairC (xs ++ wl)) → w.grownBy w' v.ownBlock → ((Value.slice A' (xs ++ wl).length c').ownBlock = v.ownBlock ∨ (Value.slice A' (xs ++ wl).length c').ownBlock = some w.heap.size) → K (a.put o.dst (.slice A' (xs ++ wl).length c')) w') :
    if Region.wanted o (yielded ops a.tmps) = true then Oper.wp Tryd.prog o a w K Q else E := by
  have hw : Region.wanted o (yielded ops a.tmps) = true := by simp [Region.wanted, hgd]
  rw [if_pos hw]
  exact wp_appAllP_Tryd s x ho base v xs hs hown A c wl hx hrd hn hbase h
theorem step_appP_Tryd {ops : Array Oper} {o : Oper} {a : Act} {K : Act → World → Prop} {Q : Exit → Act → World → Prop} {E : Prop} {w : World} (hgd : o.guard = none) (s x : Operand)
    (ho : o.op = .call { callee := .builtin .append, args := #[s, x], argTypes := #[25, 25] })
    (base : Nat) (v : Value) (xs : List (Int × Int)) (hs : a.eval s = v) (hown : w.ownsRow base 43 2 v xs.length (pairC xs)) (b : Nat) (z : Int × Int) (hx : a.eval x = .slice (some ⟨b, 0, none⟩) 1 1)
    (hb : w.heap[b]? = some (.cells #[.int .i64 z.1, .int .i64 z.2] 43 (0, 0))) (hn : xs.length ≤ 1000000) (hbase : base ≤ w.heap.size)
    (h : ∀ g cap w', w'.ownsRow base 43 2 (.slice (some ⟨g, 0, none⟩) (xs.length + 1) cap) (xs ++ [z]).length (pairC (xs ++ [z])) → w.grownBy w' v.ownBlock → (v.ownBlock = some g ∨ g = w.heap.size) → g < w'.heap.size →
      K (a.put o.dst (.slice (some ⟨g, 0, none⟩) (xs.length + 1) cap)) w') :
    if Region.wanted o (yielded ops a.tmps) = true then Oper.wp Tryd.prog o a w K Q else E := by
  obtain ⟨i0, hi, hz0, hz1, hz2⟩ := info_parts info_pair_Tryd
  refine step_append_lies w hgd s x 25 ho base 43 i0 _ 2 16 Tryd.underlying25 hi hz0 hz1 hz2 rfl (by omega) v xs.length (pairC xs) hs hown ⟨b, 0, none⟩ 1 1 (pairC [z]) hx rfl
    (World.news_of_block hb) (pairC_one [z]) (by omega) (by unfold maxLen; omega) (by omega) hbase w.heap.size rfl fun g cap w' h2 h3 h4 h5 => h g cap w' ?_ h3 h4 h5
  rw [List.length_append, pairC_append]
  exact h2
theorem wpList_appP_Tryd {ops : Array Oper} {rest : List Oper} {o : Oper} {a : Act} {Q : Exit → Act → World → Prop} {w : World} (hgd : o.guard = none) (s x : Operand)
    (ho : o.op = .call { callee := .builtin .append, args := #[s, x], argTypes := #[25, 25] })
    (base : Nat) (v : Value) (xs : List (Int × Int)) (hs : a.eval s = v) (hown : w.ownsRow base 43 2 v xs.length (pairC xs)) (b : Nat) (z : Int × Int) (hx : a.eval x = .slice (some ⟨b, 0, none⟩) 1 1)
    (hb : w.heap[b]? = some (.cells #[.int .i64 z.1, .int .i64 z.2] 43 (0, 0))) (hn : xs.length ≤ 1000000) (hbase : base ≤ w.heap.size)
    (h : ∀ g cap w', w'.ownsRow base 43 2 (.slice (some ⟨g, 0, none⟩) (xs.length + 1) cap) (xs ++ [z]).length (pairC (xs ++ [z])) → w.grownBy w' v.ownBlock → (v.ownBlock = some g ∨ g = w.heap.size) → g < w'.heap.size →
      wpList Tryd.prog ops Q rest (a.put o.dst (.slice (some ⟨g, 0, none⟩) (xs.length + 1) cap)) w') : wpList Tryd.prog ops Q (o :: rest) a w := by
  obtain ⟨i0, hi, hz0, hz1, hz2⟩ := info_parts info_pair_Tryd
  refine wpList_append_lies w hgd s x 25 ho base 43 i0 _ 2 16 Tryd.underlying25 hi hz0 hz1 hz2 rfl (by omega) v xs.length (pairC xs) hs hown ⟨b, 0, none⟩ 1 1 (pairC [z]) hx rfl
    (World.news_of_block hb) (pairC_one [z]) (by omega) (by unfold maxLen; omega) (by omega) hbase w.heap.size rfl fun g cap w' h2 h3 h4 h5 => h g cap w' ?_ h3 h4 h5
  rw [List.length_append, pairC_append]
  exact h2
theorem wpList_copyP_Tryd {ops : Array Oper} {rest : List Oper} {o : Oper} {a : Act} {Q : Exit → Act → World → Prop} {w : World} (hgd : o.guard = none) (s x : Operand)
    (ho : o.op = .call { callee := .builtin .append, args := #[s, x], argTypes := #[25, 25] })
    (base : Nat) (v : Value) (hs : a.eval s = v) (hown : w.ownsRow base 43 2 v ([] : List (Int × Int)).length (pairC [])) (A : Option Addr) (c : Nat) (wl : List (Int × Int)) (hx : a.eval x = .slice A wl.length c) (hrd : RdP w A wl)
    (hn : wl.length ≤ 1000000) (hbase : base ≤ w.heap.size)
    (h : ∀ A' c' w', w'.ownsRow base 43 2 (.slice A' wl.length c') wl.length (pairC wl) → w.grownBy w' v.ownBlock → wpList Tryd.prog ops Q rest (a.put o.dst (.slice A' wl.length c')) w') :
    wpList Tryd.prog ops Q (o :: rest) a w :=
  wpList_appAllP_Tryd hgd s x ho base v [] hs hown A c wl hx hrd (by simpa using hn) hbase fun A' c' w' h2 h3 _ => by
    rw [List.nil_append] at h2
    exact h A' c' w' h2 h3
theorem own_emptyP {w : World} {b base : Nat} (hb : w.heap[b]? = some (.cells #[] 43 (0, 0))) (h : base ≤ b) : w.ownsRow base 43 2 (.slice (some ⟨b, 0, none⟩) 0 0) ([] : List (Int × Int)).length (pairC []) :=
  ⟨rfl, .inr ⟨b, 0, #[], rfl, h, hb, Nat.le_refl _, by unfold maxLen; omega, rfl, rfl⟩⟩
end Go.Proofs.YtlpfecjkkgccgaaDoor
/- Two numbers of 8 bits that came in, opened. -/
namespace Go.Proofs.YtlpfecjkkgccgaaDoor
open Go.RowKit Go.Joins Go.ChangeShapes Go.WideShapes Go.Deep

theorem cells_u8_Tryd : Tryd.prog.cellsOf 5 = 1 := by kernel_rfl
theorem cells_arr2b_Tryd : Tryd.prog.cellsOf 42 = 2 := by kernel_rfl
section
variable {H : Type} {enc : TypeId × Value → H} {W : World} {base : Nat}
set_option maxRecDepth 100000 in
theorem open_arr2 {v : Value} {d : DataW H} {p : List MemPlace} (hv : Value.okWide Tryd.prog W .any base 42 v) (h : DataW.Trod enc Tryd.prog W 0 (fun _ => true) true 42 v d p) :
    ∃ x y : Int, v = .agg #[.int .u8 x, .int .u8 y] ∧ (0 ≤ x ∧ x ≤ 255) ∧ 0 ≤ y ∧ y ≤ 255 := by
  simp only [Value.okWide, Tryd.underlying42] at hv
  obtain ⟨cs, rfl, hsz, _⟩ := hv
  rw [cells_arr2b_Tryd] at hsz
  obtain ⟨c0, c1, hcs⟩ := list2 (l := cs.toList) (by simpa using hsz)
  obtain rfl : cs = #[c0, c1] := by apply Array.ext'; exact hcs
  obtain ⟨fuel, hf⟩ := h
  obtain ⟨ys, n', _, _, _, hyl, hf2⟩ := DataW.trod_array Tryd.underlying42 hf
  have s0 := hf2 0 (by omega)
  have s1 := hf2 1 (by omega)
  rw [cells_u8_Tryd] at s0 s1
  rw [List.getElem?_eq_getElem (by omega)] at s0 s1
  obtain ⟨n0, e0, _, w0⟩ := DataW.trod_int Tryd.underlying5 s0
  obtain ⟨n1, e1, _, w1⟩ := DataW.trod_int Tryd.underlying5 s1
  have e0' : c0 = .int .u8 n0 := by injection e0
  have e1' : c1 = .int .u8 n1 := by injection e1
  subst e0'; subst e1'
  exact ⟨n0, n1, rfl, lit_u8 w0, lit_u8 w1⟩
end
end Go.Proofs.YtlpfecjkkgccgaaDoor
