/- A block of rows: cells that hold slices of ints, each of the call's own. Over any program. -/
import Derived.Test.YtepdgffccfcfpaaBase
namespace Go.Proofs.Ytepdgffccfcfpaa
open Go.RowKit

/-- The ints' cells. -/
def ints (xs : List Int) : List Value := xs.map (Value.int .i64)
theorem ints_length (xs : List Int) : (ints xs).length = xs.length := by simp [ints]
theorem ints_one (xs : List Int) : ∀ u ∈ ints xs, u.oneCell' = true := by
  intro u hu; simp only [ints, List.mem_map] at hu; obtain ⟨x, _, rfl⟩ := hu; rfl

/-- An owned row of ints reads as those ints. -/
theorem own_rd {w : World} {base e n c : Nat} {A : Option Addr} {xs : List Int} (h : w.ownsRow base e 1 (.slice A n c) n (ints xs)) : Rd w A 1 xs.length fun j => .int .i64 (xs.getD j 0) := fun h0 => by
  have hl : n = xs.length := by have := h.1; rw [ints_length] at this; omega
  obtain ⟨g, cap, hv, _, hlt⟩ := h.form (by omega)
  injection hv with hA
  subst hA
  refine ⟨g, 0, rfl, hlt, fun j hj => ?_⟩
  have := h.cells (g := g) rfl j (.int .i64 (xs.getD j 0)) (by simp [ints, List.getD_eq_getElem?_getD, List.getElem?_eq_getElem (show j < xs.length by omega)])
  unfold Addr.add at this
  by_cases hj0 : j = 0
  · subst hj0; simpa using this
  · simpa [hj0] using this

theorem own_drewN {w : World} {base e size n : Nat} {v : Value} {xs : List Value} (h : w.ownsRow base e size v n xs) (k : Nat) : (w.drewN k).ownsRow base e size v n xs := h
/-- An owned row lies in no block of another element type. -/
theorem own_ne_type {w : World} {base e size n t g : Nat} {v : Value} {xs : List Value} {cs : Array Value} {fr : Nat × Nat} (h : w.ownsRow base e size v n xs) (hg : w.heap[g]? = some (.cells cs t fr)) (hne : e ≠ t) : some g ≠ v.ownBlock := by
  rcases h.2 with ⟨rfl, _⟩ | ⟨g', cap, cur, rfl, _, hh, _⟩
  · simp [Value.ownBlock]
  · intro he
    have : g = g' := by simpa [Value.ownBlock] using he
    subst this
    rw [hh] at hg
    injection hg with hg
    injection hg with _ ht
    exact hne ht

/-- Block R holds `m` slices of ints, each a row of its own above R. -/
def Rws (w : World) (R T e m : Nat) (f : Nat → List Int) : Prop :=
  ∃ cs : Array Value, w.heap[R]? = some (.cells cs T (0, 0)) ∧ cs.size = m ∧ (∀ p (h : p < cs.size), w.ownsRow (R + 1) e 1 cs[p] (f p).length (ints (f p))) ∧
    (∀ p q (hp : p < cs.size) (hq : q < cs.size), p ≠ q → cs[p].ownBlock = none ∨ cs[p].ownBlock ≠ cs[q].ownBlock)

section
variable {w w1 : World} {R T e m : Nat} {f : Nat → List Int}
theorem Rws.lt (h : Rws w R T e m f) : R < w.heap.size := by
  obtain ⟨cs, h1, _⟩ := h
  exact lt_of_block h1
theorem Rws.kept (h : Rws w R T e m f) {row : Option Nat} (hg : w.grownBy w1 row) (hr : ∀ k, row = some k → w.heap.size ≤ k) : Rws w1 R T e m f := by
  have hlt := h.lt
  obtain ⟨cs, h1, h2, h3, h4⟩ := h
  have far : ∀ k, k < w.heap.size → some k ≠ row := fun k hk hc => by have := hr k hc.symm; omega
  refine ⟨cs, ?_, h2, fun p hp => (h3 p hp).kept hg ?_, h4⟩
  · rw [hg.block R hlt (far R hlt)]; exact h1
  · cases hb : cs[p].ownBlock with
    | none => exact .inl rfl
    | some k => exact .inr (far k ((h3 p hp).lt k hb).2)
theorem Rws.alloc (h : Rws w R T e m f) (o : Obj) : Rws (w.alloc o) R T e m f := h.kept (World.grownBy_alloc w o none) (fun k hk => by cases hk)
theorem Rws.drew (h : Rws w R T e m f) : Rws w.drew R T e m f := h
theorem Rws.drewN (h : Rws w R T e m f) (n : Nat) : Rws (w.drewN n) R T e m f := h
/-- The slice in a cell. -/
theorem Rws.at_ (h : Rws w R T e m f) {p : Nat} (hp : p < m) :
    ∃ v, w.cell? ⟨R, p, none⟩ = some v ∧ w.frozen? ⟨R, p, none⟩ = false ∧ w.ownsRow (R + 1) e 1 v (f p).length (ints (f p)) := by
  obtain ⟨cs, h1, h2, h3, h4⟩ := h
  refine ⟨cs[p]'(by omega), ?_, frozen_of_row w R p cs T h1, h3 p (by omega)⟩
  rw [cell_of_row w R p cs T _ h1, Array.getElem?_eq_getElem (by omega)]
/-- One row has grown by an append, and its slice is stored. -/
theorem Rws.grow (h : Rws w R T e m f) {p : Nat} (hp : p < m) {v v' : Value} {xs : List Int} {g n cap : Nat} (hv : w.cell? ⟨R, p, none⟩ = some v) (hown : w1.ownsRow (R + 1) e 1 v' xs.length (ints xs))
    (hv' : v' = .slice (some ⟨g, 0, none⟩) n cap) (hgrow : w.grownBy w1 v.ownBlock) (hat : v.ownBlock = some g ∨ g = w.heap.size) : Rws (w1.setCell ⟨R, p, none⟩ v') R T e m (fun q => if q = p then xs else f q) := by
  have hlt := h.lt
  obtain ⟨cs, h1, h2, h3, h4⟩ := h
  have hpc : p < cs.size := by omega
  have hvp : v = cs[p] := by
    rw [cell_of_row w R p cs T _ h1, Array.getElem?_eq_getElem hpc] at hv
    exact (Option.some.inj hv).symm
  subst hvp
  have hb : ∀ k, cs[p].ownBlock = some k → R + 1 ≤ k ∧ k < w.heap.size := (h3 p hpc).lt
  have hR : w1.heap[R]? = some (.cells cs T (0, 0)) := by
    rw [hgrow.block R hlt (fun hc => by have := hb R hc.symm; omega)]; exact h1
  have hgR : R + 1 ≤ g := by
    rcases hat with hat | hat
    · exact (hb g hat).1
    · omega
  refine ⟨cs.setIfInBounds p v', heap_setCell_same w1 R p cs T v' hR, by simpa using h2, fun q hq => ?_, fun q r hq hr hqr => ?_⟩
  · have hqc : q < cs.size := by simpa using hq
    by_cases hqp : q = p
    · subst hqp
      simp only [Array.getElem_setIfInBounds_self, if_true]
      exact ownsRow_setCell_below hown (by show R < R + 1; omega) _
    · simp only [Array.getElem_setIfInBounds_ne hqc (Ne.symm hqp), if_neg hqp]
      refine ownsRow_setCell_below ((h3 q hqc).kept hgrow ?_) (by show R < R + 1; omega) _
      exact h4 q p hqc hpc hqp
  · have hqc : q < cs.size := by simpa using hq
    have hrc : r < cs.size := by simpa using hr
    by_cases hqp : q = p
    · subst hqp
      have hrp : r ≠ q := Ne.symm hqr
      simp only [Array.getElem_setIfInBounds_self, Array.getElem_setIfInBounds_ne hrc (Ne.symm hrp)]
      refine .inr fun he => ?_
      have he' : cs[r].ownBlock = some g := by rw [← he, hv']; rfl
      rcases hat with hat | hat
      · rcases h4 q r hqc hrc hqr with h | h
        · rw [h] at hat; cases hat
        · exact h (by rw [hat, he'])
      · have := ((h3 r hrc).lt g he').2; omega
    · by_cases hrp : r = p
      · subst hrp
        simp only [Array.getElem_setIfInBounds_self, Array.getElem_setIfInBounds_ne hqc (Ne.symm hqp)]
        cases hbq : cs[q].ownBlock with
        | none => exact .inl rfl
        | some k =>
          refine .inr fun he => ?_
          have he' : k = g := by rw [hv'] at he; exact Option.some.inj he
          subst he'
          rcases hat with hat | hat
          · rcases h4 q r hqc hpc hqp with h | h
            · rw [hbq] at h; cases h
            · exact h (by rw [hat, hbq])
          · have := ((h3 q hqc).lt k hbq).2; omega
      · simp only [Array.getElem_setIfInBounds_ne hqc (Ne.symm hqp), Array.getElem_setIfInBounds_ne hrc (Ne.symm hrp)]
        exact h4 q r hqc hrc hqr
theorem Rws.congr {f' : Nat → List Int} (h : Rws w R T e m f) (he : ∀ p, p < m → f p = f' p) : Rws w R T e m f' := by
  obtain ⟨cs, h1, h2, h3, h4⟩ := h
  exact ⟨cs, h1, h2, fun p hp => by rw [← he p (by omega)]; exact h3 p hp, h4⟩
/-- A new block of nil slices. -/
theorem Rws.made (w : World) (cs : Array Value) (hm : cs.size = m) (hc : ∀ p (h : p < cs.size), cs[p] = .slice none 0 0) : Rws (w.alloc (.cells cs T)) w.heap.size T e m (fun _ => []) :=
  ⟨cs, heap_alloc_new w _, hm, fun p hp => by rw [hc p hp]; exact World.ownsRow_nil _ _ _ _, fun p q hp _ _ => .inl (by rw [hc p hp]; rfl)⟩
end

section
variable {a w w1 : World} {row : Option Nat} {R : Nat}
theorem GB.drew (h : a.grownBy w row) : a.grownBy w.drew row := ⟨h.os, h.tape, h.output, h.size, h.block⟩
theorem GB.drewN (h : a.grownBy w row) (n : Nat) : a.grownBy (w.drewN n) row := ⟨h.os, h.tape, h.output, h.size, h.block⟩
theorem GB.alloc (h : a.grownBy w row) (o : Obj) : a.grownBy (w.alloc o) row :=
  ⟨h.os, h.tape, h.output, Nat.le_trans h.size (by simp), fun i hi hne => (Below.heap_alloc w o i (Nat.lt_of_lt_of_le hi h.size)).trans (h.block i hi hne)⟩
theorem GB.setCell (h : a.grownBy w (some R)) {p : Addr} (hp : p.block = R ∨ a.heap.size ≤ p.block) (u : Value) : a.grownBy (w.setCell p u) (some R) :=
  ⟨h.os, h.tape, h.output, by simpa [World.setCell] using h.size, fun i hi hne => (Below.heap_setCell w p u i (by
    rintro rfl
    rcases hp with hp | hp
    · exact hne (by rw [hp])
    · omega)).trans (h.block i hi hne)⟩
theorem GB.grown (h : a.grownBy w row) {row' : Option Nat} (hg : w.grownBy w1 row') (hr : ∀ k, row' = some k → a.heap.size ≤ k) : a.grownBy w1 row :=
  ⟨hg.os.trans h.os, hg.tape.trans h.tape, hg.output.trans h.output, Nat.le_trans h.size hg.size, fun i hi hne =>
    (hg.block i (Nat.lt_of_lt_of_le hi h.size) (fun e => by have := hr i e.symm; omega)).trans (h.block i hi hne)⟩
theorem GB.below {B : Nat} (h : a.grownBy w (some R)) (hB : B ≤ R) (hs : B ≤ a.heap.size) : Below B a w :=
  ⟨h.os, h.tape, h.output, h.size, fun k hk => h.block k (by omega) (by simp; omega)⟩
theorem GB.cell (h : a.grownBy w (some R)) {p : Addr} {v : Value} (hc : a.cell? p = some v) (hne : p.block ≠ R) : w.cell? p = some v :=
  h.cell hc (by simpa using hne)
end

/-- Block R holds m slices of ints; what they hold lies in other blocks of W0, and of those nothing has changed but block R. -/
structure Views (W0 w : World) (R T m : Nat) (f : Nat → List Int) : Prop where
  grown : W0.grownBy w (some R)
  cells : ∃ cs : Array Value, w.heap[R]? = some (.cells cs T (0, 0)) ∧ cs.size = m ∧ ∀ p (h : p < cs.size), ∃ A c, cs[p] = .slice A (f p).length c ∧ (f p).length ≤ c ∧ c ≤ maxLen ∧
    (0 < (f p).length → ∃ b off, A = some ⟨b, off, none⟩ ∧ b ≠ R ∧ b < W0.heap.size ∧ ∀ j (hj : j < (f p).length), W0.cell? ⟨b, off + j, none⟩ = some (.int .i64 (f p)[j]))

section
variable {W0 w w1 : World} {R T m : Nat} {f : Nat → List Int}
theorem Views.of_rws {e : Nat} (h : Rws W0 R T e m f) : Views W0 W0 R T m f := by
  refine ⟨World.grownBy.refl W0 _, ?_⟩
  obtain ⟨cs, h1, h2, h3, h4⟩ := h
  refine ⟨cs, h1, h2, fun p hp => ?_⟩
  have ho := h3 p hp
  rcases ho.2 with ⟨hv, h0⟩ | ⟨g, cap, cur, hv, hb, hh, hnc, hcap, _⟩
  · exact ⟨none, 0, by rw [hv, h0], by omega, by unfold maxLen; omega, fun hl => absurd hl (by omega)⟩
  · refine ⟨some ⟨g, 0, none⟩, cap, hv, hnc, hcap, fun hl => ⟨g, 0, rfl, by omega, lt_of_block hh, fun j hj => ?_⟩⟩
    rw [hv] at ho
    obtain ⟨b, off, e, _, hc⟩ := own_rd ho (by omega)
    injection e with e
    injection e with e1 e2
    subst e1; subst e2
    rw [hc j (by omega)]
    simp [List.getD_eq_getElem?_getD, hj]
theorem Views.kept (h : Views W0 w R T m f) (hg : W0.grownBy w1 (some R)) (hR : w1.heap[R]? = w.heap[R]?) : Views W0 w1 R T m f := by
  obtain ⟨_, cs, h1, h2, h3⟩ := h
  exact ⟨hg, cs, hR.trans h1, h2, h3⟩
theorem Views.lt (h : Views W0 w R T m f) : R < w.heap.size := by
  obtain ⟨_, cs, h1, _⟩ := h
  exact lt_of_block h1
theorem Views.alloc (h : Views W0 w R T m f) (o : Obj) : Views W0 (w.alloc o) R T m f := h.kept (GB.alloc h.grown o) (Below.heap_alloc w o R h.lt)
theorem Views.drew (h : Views W0 w R T m f) : Views W0 w.drew R T m f := h.kept (GB.drew h.grown) rfl
theorem Views.drewN (h : Views W0 w R T m f) (n : Nat) : Views W0 (w.drewN n) R T m f := h.kept (GB.drewN h.grown n) rfl
theorem Views.after (h : Views W0 w R T m f) {row : Option Nat} (hg : w.grownBy w1 row) (hr : ∀ k, row = some k → W0.heap.size ≤ k) (hR : R < W0.heap.size) : Views W0 w1 R T m f :=
  h.kept (GB.grown h.grown hg hr) (hg.block R h.lt (fun e => by have := hr R e.symm; omega))
theorem Views.at_ (h : Views W0 w R T m f) {p : Nat} (hp : p < m) : ∃ A c, w.cell? ⟨R, p, none⟩ = some (.slice A (f p).length c) ∧ w.frozen? ⟨R, p, none⟩ = false ∧ (f p).length ≤ c ∧ c ≤ maxLen ∧
    (0 < (f p).length → ∃ b off, A = some ⟨b, off, none⟩ ∧ b ≠ R ∧ b < W0.heap.size ∧ ∀ j (hj : j < (f p).length), W0.cell? ⟨b, off + j, none⟩ = some (.int .i64 (f p)[j])) := by
  obtain ⟨_, cs, h1, h2, h3⟩ := h
  obtain ⟨A, c, hv, h4, h5, h6⟩ := h3 p (by omega)
  exact ⟨A, c, by rw [cell_of_row w R p cs T _ h1, Array.getElem?_eq_getElem (by omega), hv], frozen_of_row w R p cs T h1, h4, h5, h6⟩
theorem Views.store (h : Views W0 w R T m f) {p : Nat} {xs : List Int} {A : Option Addr} {c : Nat} (h4 : xs.length ≤ c) (h5 : c ≤ maxLen)
    (h6 : 0 < xs.length → ∃ b off, A = some ⟨b, off, none⟩ ∧ b ≠ R ∧ b < W0.heap.size ∧ ∀ j (hj : j < xs.length), W0.cell? ⟨b, off + j, none⟩ = some (.int .i64 xs[j])) :
    Views W0 (w.setCell ⟨R, p, none⟩ (.slice A xs.length c)) R T m (fun q => if q = p then xs else f q) := by
  obtain ⟨hg, cs, h1, h2, h3⟩ := h
  refine ⟨GB.setCell hg (.inl rfl) _, cs.setIfInBounds p (.slice A xs.length c), heap_setCell_same w R p cs T _ h1, by simpa using h2, fun q hq => ?_⟩
  have hqc : q < cs.size := by simpa using hq
  by_cases hqp : q = p
  · subst hqp
    simp only [Array.getElem_setIfInBounds_self, if_true]
    exact ⟨A, c, rfl, h4, h5, h6⟩
  · simp only [Array.getElem_setIfInBounds_ne hqc (Ne.symm hqp), if_neg hqp]
    exact h3 q hqc
end

/-- A slice value that reads as these ints. -/
def RdV (w : World) (v : Value) (xs : List Int) : Prop := ∃ A c, v = .slice A xs.length c ∧ RdI w A xs
theorem RdV.nil (w : World) : RdV w (.slice none 0 0) [] := ⟨none, 0, rfl, by simp, fun h => absurd h (by simp)⟩
theorem RdV.later {w w' : World} {B : Nat} {v : Value} {xs : List Int} (h : RdV w v xs) (hb : Below B w w') (hB : w.heap.size ≤ B) : RdV w' v xs := by
  obtain ⟨A, c, h1, h2⟩ := h
  exact ⟨A, c, h1, h2.later hb hB⟩
theorem RdV.of_own {w : World} {base e : Nat} {v : Value} {xs : List Int} (h : w.ownsRow base e 1 v xs.length (ints xs)) (hl : xs.length ≤ 281474976710656) : RdV w v xs := by
  rcases h.2 with ⟨rfl, h0⟩ | ⟨g, cap, cur, rfl, _⟩
  · have : xs = [] := List.eq_nil_of_length_eq_zero h0
    subst this; exact RdV.nil w
  · exact ⟨_, cap, rfl, hl, own_rd h⟩
end Go.Proofs.Ytepdgffccfcfpaa
