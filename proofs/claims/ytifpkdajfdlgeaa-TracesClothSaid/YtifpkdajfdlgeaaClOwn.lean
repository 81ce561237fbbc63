/- Rows of meetings of the call's own. -/
import Derived.Test.YtifpkdajfdlgeaaClPure
import Derived.Test.YtifpkdajfdlgeaaOwn
import Derived.Test.YtifpkdajfdlgeaaTrSwapR
namespace Go.Proofs.Ytifpkdajfdlgeaa
open Go.RowKit

/-- The cells of meetings. -/
def mcells (l : List (Nat × Bool)) : List Value := l.flatMap fun x => [.int .i64 (x.1 : Int), .bool x.2]
theorem mcells_length : ∀ l, (mcells l).length = l.length * 2
  | [] => rfl
  | x :: l => by
    have ih := mcells_length l
    unfold mcells at ih ⊢
    simp only [List.flatMap_cons, List.length_append, List.length_cons, List.length_nil, ih]
    omega
theorem mcells_append (xs ys : List (Nat × Bool)) : mcells (xs ++ ys) = mcells xs ++ mcells ys := by unfold mcells; simp
theorem mcells_one (l : List (Nat × Bool)) : ∀ u ∈ mcells l, u.oneCell' = true := by
  intro u hu
  simp only [mcells, List.mem_flatMap] at hu
  obtain ⟨x, _, hx⟩ := hu
  simp only [List.mem_cons, List.not_mem_nil, or_false] at hx
  rcases hx with rfl | rfl <;> rfl
theorem mcells_get : ∀ (l : List (Nat × Bool)) (j : Nat) (h : j < l.length), (mcells l)[j * 2]? = some (.int .i64 (l[j].1 : Int)) ∧ (mcells l)[j * 2 + 1]? = some (.bool l[j].2)
  | x :: l, 0, _ => ⟨rfl, rfl⟩
  | x :: l, j + 1, h => by
    have e : mcells (x :: l) = [.int .i64 (x.1 : Int), .bool x.2] ++ mcells l := by unfold mcells; simp
    have ih := mcells_get l j (by simpa using h)
    rw [e, List.getElem?_append_right (by simp; omega), List.getElem?_append_right (by simp; omega)]
    simp only [List.length_cons, List.length_nil, Nat.zero_add, List.getElem_cons_succ]
    rw [show (j + 1) * 2 - 2 = j * 2 by omega, show (j + 1) * 2 + 1 - 2 = j * 2 + 1 by omega]
    exact ih
/-- A meeting in an owned row. -/
theorem own_meet {w : World} {base e n c : Nat} {A : Option Addr} {l : List (Nat × Bool)} (h : w.ownsRow base e 2 (.slice A n c) n (mcells l)) {j : Nat} (hj : j < l.length) :
    ∃ g, A = some ⟨g, 0, none⟩ ∧ w.cell? ⟨g, j * 2, none⟩ = some (.int .i64 (l[j].1 : Int)) ∧ w.cell? ⟨g, j * 2 + 1, none⟩ = some (.bool l[j].2) := by
  have hl : n = l.length := by have := h.1; rw [mcells_length] at this; omega
  obtain ⟨g, cap, hv, _, hlt⟩ := h.form (by omega)
  injection hv with hA
  subst hA
  obtain ⟨e1, e2⟩ := mcells_get l j hj
  have h1 := h.cells (g := g) rfl _ _ e1
  have h2 := h.cells (g := g) rfl _ _ e2
  refine ⟨g, rfl, ?_, ?_⟩
  · unfold Addr.add at h1
    by_cases h0 : j * 2 = 0
    · rw [h0] at h1 ⊢; simpa using h1
    · simpa [h0] using h1
  · simpa [Addr.add] using h2
theorem own_slice2 {w : World} {base e n : Nat} {v : Value} {xs : List Value} (h : w.ownsRow base e 2 v n xs) : ∃ A c, v = .slice A n c := by
  rcases h.2 with ⟨rfl, h0⟩ | ⟨g, cap, cur, rfl, _⟩
  · exact ⟨none, 0, by rw [h0]⟩
  · exact ⟨_, cap, rfl⟩
theorem info_meet_Try : (Try.prog.info? 68).map (fun i => (i.zero, i.size, i.bytes)) = some (some (.agg #[.int .i64 0, .bool false]), 2, 16) := by kernel_rfl
theorem step_appM_Try {ops : Array Oper} {o : Oper} {a : Act} {K : Act → World → Prop} {Q : Exit → Act → World → Prop} {E : Prop} {w : World} (hgd : o.guard = none) (s x : Operand)
    (ho : o.op = .call { callee := .builtin .append, args := #[s, x], argTypes := #[66, 66] })
    (base : Nat) (v : Value) (xs : List (Nat × Bool)) (hs : a.eval s = v) (hown : w.ownsRow base 68 2 v xs.length (mcells xs)) (b : Nat) (z : Nat × Bool) (hx : a.eval x = .slice (some ⟨b, 0, none⟩) 1 1)
    (hb : w.heap[b]? = some (.cells #[.int .i64 (z.1 : Int), .bool z.2] 68 (0, 0))) (hn : xs.length ≤ 1000000) (hbase : base ≤ w.heap.size)
    (h : ∀ g cap w', w'.ownsRow base 68 2 (.slice (some ⟨g, 0, none⟩) (xs.length + 1) cap) (xs ++ [z]).length (mcells (xs ++ [z])) → w.grownBy w' v.ownBlock → (v.ownBlock = some g ∨ g = w.heap.size) → g < w'.heap.size →
      K (a.put o.dst (.slice (some ⟨g, 0, none⟩) (xs.length + 1) cap)) w') :
    if Region.wanted o (yielded ops a.tmps) = true then Oper.wp Try.prog o a w K Q else E := by
  obtain ⟨i0, hi, hz0, hz1, hz2⟩ := info_parts info_meet_Try
  refine step_append_lies w hgd s x 66 ho base 68 i0 _ 2 16 Try.underlying66 hi hz0 hz1 hz2 rfl (by omega) v xs.length (mcells xs) hs hown ⟨b, 0, none⟩ 1 1 (mcells [z]) hx rfl
    (World.news_of_block hb) (mcells_one [z]) (by omega) (by unfold maxLen; omega) (by omega) hbase w.heap.size rfl fun g cap w' h2 h3 h4 h5 => h g cap w' ?_ h3 h4 h5
  rw [List.length_append, mcells_append]
  exact h2

/-- Block R holds `m` slices of meetings, each a row of its own above R. -/
def RwsM (w : World) (R T e m : Nat) (f : Nat → List (Nat × Bool)) : Prop :=
  ∃ cs : Array Value, w.heap[R]? = some (.cells cs T (0, 0)) ∧ cs.size = m ∧ (∀ p (h : p < cs.size), w.ownsRow (R + 1) e 2 cs[p] (f p).length (mcells (f p))) ∧
    (∀ p q (hp : p < cs.size) (hq : q < cs.size), p ≠ q → cs[p].ownBlock = none ∨ cs[p].ownBlock ≠ cs[q].ownBlock)

section
variable {w w1 : World} {R T e m : Nat} {f : Nat → List (Nat × Bool)}
theorem RwsM.lt (h : RwsM w R T e m f) : R < w.heap.size := by
  obtain ⟨cs, h1, _⟩ := h
  exact lt_of_block h1
theorem RwsM.kept (h : RwsM w R T e m f) {row : Option Nat} (hg : w.grownBy w1 row) (hr : ∀ k, row = some k → w.heap.size ≤ k) : RwsM w1 R T e m f := by
  have hlt := h.lt
  obtain ⟨cs, h1, h2, h3, h4⟩ := h
  have far : ∀ k, k < w.heap.size → some k ≠ row := fun k hk hc => by have := hr k hc.symm; omega
  refine ⟨cs, ?_, h2, fun p hp => (h3 p hp).kept hg ?_, h4⟩
  · rw [hg.block R hlt (far R hlt)]; exact h1
  · cases hb : cs[p].ownBlock with
    | none => exact .inl rfl
    | some k => exact .inr (far k ((h3 p hp).lt k hb).2)
theorem RwsM.alloc (h : RwsM w R T e m f) (o : Obj) : RwsM (w.alloc o) R T e m f := h.kept (World.grownBy_alloc w o none) (fun k hk => by cases hk)
theorem RwsM.drew (h : RwsM w R T e m f) : RwsM w.drew R T e m f := h
theorem RwsM.drewN (h : RwsM w R T e m f) (n : Nat) : RwsM (w.drewN n) R T e m f := h
/-- The slice in a cell. -/
theorem RwsM.at_ (h : RwsM w R T e m f) {p : Nat} (hp : p < m) :
    ∃ v, w.cell? ⟨R, p, none⟩ = some v ∧ w.frozen? ⟨R, p, none⟩ = false ∧ w.ownsRow (R + 1) e 2 v (f p).length (mcells (f p)) := by
  obtain ⟨cs, h1, h2, h3, h4⟩ := h
  refine ⟨cs[p]'(by omega), ?_, frozen_of_row w R p cs T h1, h3 p (by omega)⟩
  rw [cell_of_row w R p cs T _ h1, Array.getElem?_eq_getElem (by omega)]
/-- One row has grown by an append, and its slice is stored. -/
theorem RwsM.grow (h : RwsM w R T e m f) {p : Nat} (hp : p < m) {v v' : Value} {xs : List (Nat × Bool)} {g n cap : Nat} (hv : w.cell? ⟨R, p, none⟩ = some v) (hown : w1.ownsRow (R + 1) e 2 v' xs.length (mcells xs))
    (hv' : v' = .slice (some ⟨g, 0, none⟩) n cap) (hgrow : w.grownBy w1 v.ownBlock) (hat : v.ownBlock = some g ∨ g = w.heap.size) : RwsM (w1.setCell ⟨R, p, none⟩ v') R T e m (fun q => if q = p then xs else f q) := by
  have hlt := h.lt
  obtain ⟨cs, h1, h2, h3, h4⟩ := h
  have hpc : p < cs.size := by omega
  have hvp : v = cs[p] := by
    rw [cell_of_row w R p cs T _ h1, Array.getElem?_eq_getElem hpc] at hv
    exact (Option.some.inj hv).symm
  subst hvp
  have hb : ∀ k, cs[p].ownBlock = some k → R + 1 ≤ k ∧ k < w.heap.size := (h3 p hpc).lt
  have hR : w1.heap[R]? = some (.cells cs T (0, 0)) := by
    rw [hgrow.block R hlt (fun hc => by have := hb R hc.symm; omega)]; exact h1
  have hgR : R + 1 ≤ g := by
    rcases hat with hat | hat
    · exact (hb g hat).1
    · omega
  refine ⟨cs.setIfInBounds p v', heap_setCell_same w1 R p cs T v' hR, by simpa using h2, fun q hq => ?_, fun q r hq hr hqr => ?_⟩
  · have hqc : q < cs.size := by simpa using hq
    by_cases hqp : q = p
    · subst hqp
      simp only [Array.getElem_setIfInBounds_self, if_true]
      exact ownsRow_setCell_below hown (by show R < R + 1; omega) _
    · simp only [Array.getElem_setIfInBounds_ne hqc (Ne.symm hqp), if_neg hqp]
      refine ownsRow_setCell_below ((h3 q hqc).kept hgrow ?_) (by show R < R + 1; omega) _
      exact h4 q p hqc hpc hqp
  · have hqc : q < cs.size := by simpa using hq
    have hrc : r < cs.size := by simpa using hr
    by_cases hqp : q = p
    · subst hqp
      have hrp : r ≠ q := Ne.symm hqr
      simp only [Array.getElem_setIfInBounds_self, Array.getElem_setIfInBounds_ne hrc (Ne.symm hrp)]
      refine .inr fun he => ?_
      have he' : cs[r].ownBlock = some g := by rw [← he, hv']; rfl
      rcases hat with hat | hat
      · rcases h4 q r hqc hrc hqr with h | h
        · rw [h] at hat; cases hat
        · exact h (by rw [hat, he'])
      · have := ((h3 r hrc).lt g he').2; omega
    · by_cases hrp : r = p
      · subst hrp
        simp only [Array.getElem_setIfInBounds_self, Array.getElem_setIfInBounds_ne hqc (Ne.symm hqp)]
        cases hbq : cs[q].ownBlock with
        | none => exact .inl rfl
        | some k =>
          refine .inr fun he => ?_
          have he' : k = g := by rw [hv'] at he; exact Option.some.inj he
          subst he'
          rcases hat with hat | hat
          · rcases h4 q r hqc hpc hqp with h | h
            · rw [hbq] at h; cases h
            · exact h (by rw [hat, hbq])
          · have := ((h3 q hqc).lt k hbq).2; omega
      · simp only [Array.getElem_setIfInBounds_ne hqc (Ne.symm hqp), Array.getElem_setIfInBounds_ne hrc (Ne.symm hrp)]
        exact h4 q r hqc hrc hqr
theorem RwsM.congr {f' : Nat → List (Nat × Bool)} (h : RwsM w R T e m f) (he : ∀ p, p < m → f p = f' p) : RwsM w R T e m f' := by
  obtain ⟨cs, h1, h2, h3, h4⟩ := h
  exact ⟨cs, h1, h2, fun p hp => by rw [← he p (by omega)]; exact h3 p hp, h4⟩
/-- A new block of nil slices. -/
theorem RwsM.made (w : World) (cs : Array Value) (hm : cs.size = m) (hc : ∀ p (h : p < cs.size), cs[p] = .slice none 0 0) : RwsM (w.alloc (.cells cs T)) w.heap.size T e m (fun _ => []) :=
  ⟨cs, heap_alloc_new w _, hm, fun p hp => by rw [hc p hp]; exact World.ownsRow_nil _ _ _ _, fun p q hp _ _ => .inl (by rw [hc p hp]; rfl)⟩
end

end Go.Proofs.Ytifpkdajfdlgeaa
