/- Texts of this claim, laid together: OrCnt2, OrCount, OrNx0, OrNx1, OrNxB, OrNext, OrR1. -/
import Derived.Test.YtlpfecjkkgccgaaDoorMaC
import Derived.Test.YtlpfecjkkgccgaaDoorMaJ
import Derived.Test.YtlpfecjkkgccgaaDoorMaP
import Derived.Test.YtlpfecjkkgccgaaDoorMaQ
import Derived.Test.YtlpfecjkkgccgaaDoorMaT
/- What Count's walk leans on: the boxes of its two results; the row of the counts; how it is left. -/
namespace Go.Proofs.YtlpfecjkkgccgaaDoor
open Go.RowKit

/-- The boxes of the two results, side by side. -/
def NE (w : World) (b : Nat) (x y : Int) : Prop := w.heap[b]? = some (.cells #[.int .i64 x] 2 (0, 0)) ∧ w.heap[b + 1]? = some (.cells #[.int .i64 y] 31 (0, 0))
section
variable {w w' : World} {b : Nat} {x y : Int}
theorem NE.c1 (h : NE w b x y) : w.cell? ⟨b, 0, none⟩ = some (.int .i64 x) := cell_of_row w _ 0 _ _ _ h.1
theorem NE.z1 (h : NE w b x y) : w.frozen? ⟨b, 0, none⟩ = false := frozen_of_row w _ 0 _ _ h.1
theorem NE.c2 (h : NE w b x y) : w.cell? ⟨b + 1, 0, none⟩ = some (.int .i64 y) := cell_of_row w _ 0 _ _ _ h.2
theorem NE.z2 (h : NE w b x y) : w.frozen? ⟨b + 1, 0, none⟩ = false := frozen_of_row w _ 0 _ _ h.2
theorem NE.set1 (h : NE w b x y) (z : Int) : NE (w.setCell ⟨b, 0, none⟩ (.int .i64 z)) b z y := ⟨one_setCell h.1, (heap_setCell_other w _ _ _ (by show b + 1 ≠ b; omega)).trans h.2⟩
theorem NE.set2 (h : NE w b x y) (z : Int) : NE (w.setCell ⟨b + 1, 0, none⟩ (.int .i64 z)) b x z := ⟨(heap_setCell_other w _ _ _ (by show b ≠ b + 1; omega)).trans h.1, one_setCell h.2⟩
theorem NE.drew (h : NE w b x y) : NE w.drew b x y := ⟨h.1, h.2⟩
theorem NE.lt (h : NE w b x y) : b + 1 < w.heap.size := lt_of_block h.2
theorem NE.same (h : NE w b x y) (h1 : w'.heap[b]? = w.heap[b]?) (h2 : w'.heap[b + 1]? = w.heap[b + 1]?) : NE w' b x y := ⟨h1.trans h.1, h2.trans h.2⟩
theorem NE.later (h : NE w b x y) {B : Nat} (hb : Below B w w') (hB : b + 2 ≤ B) : NE w' b x y := h.same (hb.block _ (by omega)) (hb.block _ (by omega))
theorem NE.kp {C : Nat → Prop} (h : NE w b x y) (hk : Kp C w w') (h1 : ¬ C b) (h2 : ¬ C (b + 1)) : NE w' b x y := h.same (hk.same _ (by have := h.lt; omega) h1) (hk.same _ h.lt h2)
end
/-- What Count returns is read out of the boxes. -/
theorem cnt_results {w : World} {b : Nat} {x y : Int} (h : NE w b x y) {tmps : Array Value} (h4 : tmps.getD 4 undef = .pointer (some ⟨b, 0, none⟩)) (h5 : tmps.getD 5 undef = .pointer (some ⟨b + 1, 0, none⟩)) :
    (results Tryd.f16 tmps).run Tryd.prog w = .ok (.tuple #[.int .i64 x, .int .i64 y]) w := by
  have e1 := h.c1
  have e2 := h.c2
  have g4 : tmps[4]?.getD undef = .pointer (some ⟨b, 0, none⟩) := by rw [← h4]; simp
  have g5 : tmps[5]?.getD undef = .pointer (some ⟨b + 1, 0, none⟩) := by rw [← h5]; simp
  simp [results, Tryd.results16, go_sem, loadVar, isAgg, g4, g5, e1, e2]

/-- A row of int64. -/
def Ib6 (w : World) (R m : Nat) (g : Nat → Int) : Prop := w.heap[R]? = some (.cells ((List.range m).map fun p => Value.int .i64 (g p)).toArray 2 (0, 0))
section
variable {w w' : World} {R m : Nat} {g g' : Nat → Int}
theorem Ib6.at_ (h : Ib6 w R m g) {p : Nat} (hp : p < m) : w.cell? ⟨R, p, none⟩ = some (.int .i64 (g p)) := by
  rw [cell_of_row w R p _ _ _ h]; simp [hp]
theorem Ib6.free (h : Ib6 w R m g) (p : Nat) : w.frozen? ⟨R, p, none⟩ = false := frozen_of_row _ _ p _ _ h
theorem Ib6.put (h : Ib6 w R m g) (p : Nat) (z : Int) : Ib6 (w.setCell ⟨R, p, none⟩ (.int .i64 z)) R m (updF g p z) := by
  have h1 := heap_setCell_same w R p _ _ (.int .i64 z) h
  refine Eq.trans h1 ?_
  congr 2
  apply Array.ext'
  apply List.ext_getElem
  · simp
  · intro j h1 h2
    simp only [Array.toList_setIfInBounds, List.getElem_set, List.getElem_map, List.getElem_range]
    by_cases hj : p = j
    · subst hj; simp [updF]
    · rw [if_neg hj]; simp [updF, Ne.symm hj]
theorem Ib6.lt (h : Ib6 w R m g) : R < w.heap.size := lt_of_block h
theorem Ib6.same (h : Ib6 w R m g) (hb : w'.heap[R]? = w.heap[R]?) : Ib6 w' R m g := hb.trans h
theorem Ib6.eqv (h : Ib6 w R m g) (he : ∀ a, a < m → g a = g' a) : Ib6 w R m g' := by
  unfold Ib6 at h ⊢
  rw [h]
  congr 3
  apply List.map_congr_left
  intro a ha
  rw [he a (List.mem_range.1 ha)]
end
theorem ib6_zero (w : World) (m : Nat) : Ib6 (w.alloc (.cells (madeCells #[.int .i64 0] m) 2)) w.heap.size m (fun _ => 0) := by
  unfold Ib6
  rw [heap_alloc_new, idCells_zero]

/-- A frame that leaves, in whatever mode: the marks of ranges over functions first, then what was deferred ahead of them. -/
theorem leaves_marks_on {B : Nat} {F : Fence} {n : Nat} {P : Program} {fn : Func} {tmps : Array Value} {R : Ending → World → Prop} {u : FrameMode} (hu : u ≠ .run) {ds0 : List Deferred} : ∀ {ds : List Deferred} {w : World}, Marks B w ds →
    (∀ w', Shut B w w' → LeavesInM F n P fn tmps R ds0 u w') → LeavesInM F n P fn tmps R (ds ++ ds0) u w
  | [], w, _, hR => hR w (Shut.refl B w)
  | d :: ds, w, ⟨⟨r, h1, h2, h3, h4⟩, h5⟩, hR => by
    refine ⟨hu, .inl ⟨r, _, by rw [h1], run_takeDeferred h3, ?_⟩⟩
    have hs := Shut.put h2 h3
    refine leaves_marks_on hu ?_ fun w' hw => hR w' (hs.trans hw)
    have key : ∀ {es : List Deferred}, Marks B w es → (∀ d' ∈ es, d'.target ≠ .collected r) → Marks B (w.putObj r (.deferred none)) es := by
      intro es
      induction es with
      | nil => intro _ _; trivial
      | cons e es ih =>
        rintro ⟨⟨s, g1, g2, g3, g4⟩, g5⟩ hne
        refine ⟨⟨s, g1, g2, (World.putObj_heap_other ?_).trans g3, g4⟩, ih g5 fun d' hd => hne d' (List.mem_cons_of_mem _ hd)⟩
        rintro rfl
        exact hne e List.mem_cons_self (by rw [g1])
    exact key h5 h4
/-- The function that Count defers. -/
def cloD (b : Nat) : Deferred := { target := .fn (.func 35) #[.pointer (some ⟨b, 0, none⟩), .pointer (some ⟨b + 1, 0, none⟩)], args := #[] }
theorem leaves_quiet {tmps : Array Value} {w : World} {b : Nat} {x y : Int} {R : Ending → World → Prop} (h : NE w b x y) (h4 : tmps.getD 4 undef = .pointer (some ⟨b, 0, none⟩)) (h5 : tmps.getD 5 undef = .pointer (some ⟨b + 1, 0, none⟩))
    (hR : R (.returned (.tuple #[.int .i64 x, .int .i64 y])) w) : LeavesInM Fence.wide 3 Tryd.prog Tryd.f16 tmps R [cloD b] .returning w := by
  refine ⟨by simp, .inr ⟨fun _ => by omega, _, _, _, _, rfl, enters_of Tryd.func35 (by kernel_rfl) rfl _ _, fun _ _ => trivial, ?_⟩⟩
  refine CallsDIn.mono (cnt1_quiet _ _ w) ?_
  rintro e u' w' ⟨⟨v, rfl⟩, rfl, rfl⟩
  exact ⟨_, cnt_results h h4 h5, hR⟩
theorem leaves_panic {tmps : Array Value} {w : World} {b : Nat} {x y : Int} {R : Ending → World → Prop} (h : NE w b x y) (h4 : tmps.getD 4 undef = .pointer (some ⟨b, 0, none⟩)) (h5 : tmps.getD 5 undef = .pointer (some ⟨b + 1, 0, none⟩))
    (hR : ∀ w', Kp (fun i => i = b ∨ i = b + 1) w w' → R (.returned (.tuple #[.int .i64 0, .int .i64 5])) w') : LeavesInM Fence.wide 3 Tryd.prog Tryd.f16 tmps R [cloD b] (.panicking tooM) w := by
  refine ⟨by simp, .inr ⟨fun _ => by omega, _, _, _, _, rfl, enters_of Tryd.func35 (by kernel_rfl) rfl _ _, fun _ _ => trivial, ?_⟩⟩
  refine CallsDIn.mono (cnt1_panic _ _ x y _ _ w h.1 h.2 (by omega)) ?_
  rintro e u' w' ⟨⟨v, rfl⟩, rfl, g1, g2, hk⟩
  exact ⟨_, cnt_results (⟨g1, g2⟩ : NE w' b 0 5) h4 h5, hR w' hk⟩

/-- What is gathered of the ways that were gone. -/
def sumW (n : Nat) (L : Nat → Nat) (S : Nat) (l : List Nat) : Nat := (l.map fun b => cU n L (S ||| 2 ^ b)).sum
theorem sumW_snoc (n : Nat) (L : Nat → Nat) (S : Nat) (l : List Nat) (b : Nat) : sumW n L S (l ++ [b]) = sumW n L S l + cU n L (S ||| 2 ^ b) := by unfold sumW; simp
theorem sumW_acc (n : Nat) (L : Nat → Nat) (S : Nat) : ∀ k, sumW n L S (wysL L S k) = accU (cU n L) L S k
  | 0 => rfl
  | k + 1 => by
    rw [wysL_succ, accU]
    split
    · rw [sumW_snoc, sumW_acc n L S k]
    · rw [List.append_nil, sumW_acc n L S k]
theorem sumW_le {n : Nat} {L : Nat → Nat} {S : Nat} {l : List Nat} (h : l <+: wysL L S n) : sumW n L S l ≤ accU (cU n L) L S n := by
  rw [← sumW_acc]
  obtain ⟨m, hm⟩ := h
  rw [← hm]
  unfold sumW
  rw [List.map_append, List.sum_append]
  omega
/-- The row of the counts, when all sets from d on are done. -/
def CntG (n : Nat) (L : Nat → Nat) (N : Nat) (d : Int) (g : Nat → Int) : Prop :=
  ∀ T, T < N → g T = (if T = N - 1 ∨ (d < (T : Int) ∧ sndB n L T = true) then ((cU n L T : Nat) : Int) else 0) ∧ 0 ≤ g T ∧ g T ≤ 1000000000
theorem cntG_start {n N : Nat} {L : Nat → Nat} (hN : 2 ^ n = N) : CntG n L N ((N : Int) - 2) (updF (fun _ => 0) (N - 1) 1) := fun T hT => by
  have hf : cU n L (N - 1) = 1 := by rw [← hN]; exact cU_full
  unfold updF
  by_cases h : T = N - 1
  · rw [if_pos h, if_pos (.inl h), h, hf]; omega
  · rw [if_neg h, if_neg (by omega)]
    exact ⟨rfl, Int.le_refl _, (by decide : (0 : Int) ≤ 1000000000)⟩
/-- A set that is not sound has no count. -/
theorem cntG_skip {n N : Nat} {L : Nat → Nat} {k : Nat} {g : Nat → Int} (h : CntG n L N (k : Int) g) (hk : k + 1 < N) (hs : sndB n L k = false) : CntG n L N ((k : Int) - 1) g := fun T hT => by
  obtain ⟨h1, h2⟩ := h T hT
  refine ⟨?_, h2⟩
  rw [h1]
  by_cases ht : T = k
  · subst ht
    rw [if_neg (by rw [hs]; simp; omega), if_neg (by rw [hs]; simp; omega)]
  · by_cases c : T = N - 1 ∨ ((k : Int) < T ∧ sndB n L T = true)
    · rw [if_pos c, if_pos (by rcases c with c | c; exact .inl c; exact .inr ⟨by omega, c.2⟩)]
    · rw [if_neg c, if_neg (by rintro (h | h); exact c (.inl h); exact c (.inr ⟨by omega, h.2⟩))]
/-- Before the ways of a set are gone. -/
theorem cntG_zero {n N : Nat} {L : Nat → Nat} {k : Nat} {g : Nat → Int} (h : CntG n L N (k : Int) g) (hk : k + 1 < N) : g k = 0 := by
  rw [(h k (by omega)).1, if_neg (by omega)]
/-- What lies at a way's set. -/
theorem cntG_way {n N : Nat} {L : Nat → Nat} {k b : Nat} {g : Nat → Int} (h : CntG n L N (k : Int) g) (hN : 2 ^ n = N) (hk : k + 1 < N) (hs : sndB n L k = true) (hb : b < n) (hf : freeB L k b = true) :
    k ||| 2 ^ b < N ∧ k < k ||| 2 ^ b ∧ g (k ||| 2 ^ b) = ((cU n L (k ||| 2 ^ b) : Nat) : Int) := by
  have h1 : k ||| 2 ^ b < N := by rw [← hN]; exact set_lt (by omega) hb
  have h2 : k < k ||| 2 ^ b := by
    have : k ≤ k ||| 2 ^ b := Nat.left_le_or
    rcases Nat.lt_or_ge k (k ||| 2 ^ b) with h3 | h3
    · exact h3
    · have e : k ||| 2 ^ b = k := by omega
      have := freeB_bit hf
      rw [← e, testBit_set] at this
      simp at this
  refine ⟨h1, h2, ?_⟩
  rw [(h _ h1).1, if_pos (.inr ⟨by omega, sndB_iff.2 ((sndB_iff.1 hs).put hf)⟩)]
theorem cntG_next {n N : Nat} {L : Nat → Nat} {k : Nat} {g : Nat → Int} (h : CntG n L N (k : Int) g) (hN : 2 ^ n = N) (hk : k + 1 < N) (hs : sndB n L k = true) (hle : sumW n L k (wysL L k n) ≤ 1000000000) :
    CntG n L N ((k : Int) - 1) (updF g k ((sumW n L k (wysL L k n) : Nat) : Int)) := fun T hT => by
  have hne : k ≠ 2 ^ n - 1 := by omega
  have he : sumW n L k (wysL L k n) = cU n L k := by rw [sumW_acc, ← cU_step hne]
  unfold updF
  by_cases ht : T = k
  · subst ht
    rw [if_pos rfl, if_pos (.inr ⟨by omega, hs⟩), he]
    rw [he] at hle
    omega
  · rw [if_neg ht]
    obtain ⟨h1, h2⟩ := h T hT
    refine ⟨?_, h2⟩
    rw [h1]
    by_cases c : T = N - 1 ∨ ((k : Int) < T ∧ sndB n L T = true)
    · rw [if_pos c, if_pos (by rcases c with c | c; exact .inl c; exact .inr ⟨by omega, c.2⟩)]
    · rw [if_neg c, if_neg (by rintro (h | h); exact c (.inl h); exact c (.inr ⟨by omega, h.2⟩))]
theorem cntG_end {n N : Nat} {L : Nat → Nat} {g : Nat → Int} (h : CntG n L N (-1) g) (hN : 1 ≤ N) : g 0 = ((cU n L 0 : Nat) : Int) ∧ cU n L 0 ≤ 1000000000 := by
  obtain ⟨h1, h2, h3⟩ := h 0 (by omega)
  have hs : sndB n L 0 = true := sndB_iff.2 fun b _ hb => by simp at hb
  rw [if_pos (.inr ⟨by omega, hs⟩)] at h1
  exact ⟨h1, by omega⟩

/-- The world while it counts. -/
structure CW (w : World) (R n M N : Nat) (L : Nat → Nat) (g : Nat → Int) (ds : List Deferred) (wr : World) : Prop where
  ne : NE wr (w.heap.size + 1) 0 0
  rows : SBo wr R n L
  many : Ib6 wr M N g
  box : wr.heap[M + 1]? = some (.cells #[.slice (some ⟨M, 0, none⟩) N N] 65 (0, 0))
  marks : Marks (M + 2) wr ds
  below : Below w.heap.size w wr
  lo : w.heap.size + 3 ≤ M
  lr : R < M
section
variable {w wr W : World} {R n M N : Nat} {L : Nat → Nat} {g g' : Nat → Int} {ds : List Deferred}
theorem Kp.under {C : Nat → Prop} (h : Kp C wr W) (hb : Below w.heap.size w wr) (hC : ∀ i, C i → w.heap.size ≤ i) : Below w.heap.size w W :=
  ⟨h.os.trans hb.os, h.tape.trans hb.tape, h.output.trans hb.output, Nat.le_trans hb.size h.size, fun i hi => (h.same i (by have := hb.size; omega) (fun c => by have := hC i c; omega)).trans (hb.block i hi)⟩
theorem CW.kp {C : Nat → Prop} (h : CW w R n M N L g ds wr) (hk : Kp C wr W) (hC : ∀ i, C i → i = M ∨ (M + 2 ≤ i ∧ wr.heap[i]? ≠ some (.deferred (some [])))) (hm : Ib6 W M N g') : CW w R n M N L g' ds W := by
  have l1 := h.ne.lt
  have l2 := h.rows.lt
  have l3 := lt_of_block h.box
  have h4 := h.lo
  have h5 := h.lr
  refine ⟨h.ne.kp hk (fun c => by have := hC _ c; omega) (fun c => by have := hC _ c; omega), (hk.same _ l2 (fun c => by have := hC _ c; omega)).trans h.rows, hm, (hk.same _ l3 (fun c => by have := hC _ c; omega)).trans h.box, ?_, hk.under h.below (fun i c => by have := hC _ c; omega), h4, h5⟩
  refine h.marks.later fun i hi hd => hk.same i (lt_of_block hd) fun c => ?_
  rcases hC i c with c | ⟨_, c⟩
  · omega
  · exact c hd
theorem CW.more (h : CW w R n M N L g ds wr) (hk : Kp (fun i => i = M) wr W) (hm : Ib6 W M N g') {r : Nat} (hr : wr.heap.size ≤ r) (hd : W.heap[r]? = some (.deferred (some []))) : CW w R n M N L g' ({ target := .collected r, args := #[] } :: ds) W := by
  have k := h.kp hk (fun i c => .inl c) hm
  refine ⟨k.ne, k.rows, k.many, k.box, ?_, k.below, k.lo, k.lr⟩
  exact h.marks.more hr (by have := lt_of_block h.box; omega) (fun i hi _ hB => hk.same i hi (by omega)) hd
end
/-- What a box of a number holds. -/
def boxI (w : World) (v : Value) : Nat := match v with | .pointer (some p) => (match w.cell? p with | some (.int _ z) => (z + 1).toNat | _ => 0) | _ => 0
theorem boxI_is {w : World} {Z : Nat} {d : Int} (h : w.heap[Z]? = some (.cells #[.int .i64 d] 3 (0, 0))) : boxI w (.pointer (some ⟨Z, 0, none⟩)) = (d + 1).toNat := by
  unfold boxI
  have := cell_of_row w Z 0 _ _ _ h
  simp only [this]
  rfl

theorem arr_range (t : Array Value) (n : Nat) (h : t.size = n) : t = ((List.range n).map fun i => t.getD i undef).toArray := by
  apply Array.ext
  · simp [h]
  · intro i h1 h2
    simp [h1]
/-- The temporaries while Count counts. -/
def CA (p : Int) (A Wa : Option Addr) (c wc n m b R M Z : Nat) (v : Value) (ds : List Deferred) (a : Act) : Prop :=
  a.tmps.size = 79 ∧ a.defers = ds ++ [cloD (b + 1)] ∧ a.tmps.getD 0 undef = .agg #[.int .i64 p, .slice A n c] ∧ a.tmps.getD 1 undef = .slice Wa m wc ∧ a.tmps.getD 2 undef = .pointer (some ⟨b, 0, none⟩) ∧ a.tmps.getD 3 undef = undef ∧ a.tmps.getD 4 undef = .pointer (some ⟨b + 1, 0, none⟩) ∧ a.tmps.getD 5 undef = .pointer (some ⟨b + 1 + 1, 0, none⟩) ∧ a.tmps.getD 6 undef = .slice (some ⟨R, 0, none⟩) n n ∧ a.tmps.getD 7 undef = v ∧ a.tmps.getD 8 undef = .bool true ∧ a.tmps.getD 9 undef = .pointer (some ⟨M + 1, 0, none⟩) ∧ a.tmps.getD 10 undef = .pointer (some ⟨Z, 0, none⟩)
theorem CA.opn {p : Int} {A Wa : Option Addr} {c wc n m b R M Z : Nat} {v : Value} {ds : List Deferred} {a : Act} (h : CA p A Wa c wc n m b R M Z v ds a) :
    ∃ f : Nat → Value, a = { tmps := #[.agg #[.int .i64 p, .slice A n c], .slice Wa m wc, .pointer (some ⟨b, 0, none⟩), undef, .pointer (some ⟨b + 1, 0, none⟩), .pointer (some ⟨b + 1 + 1, 0, none⟩), .slice (some ⟨R, 0, none⟩) n n, v, .bool true, .pointer (some ⟨M + 1, 0, none⟩), .pointer (some ⟨Z, 0, none⟩), f 11, f 12, f 13, f 14, f 15, f 16, f 17, f 18, f 19, f 20, f 21, f 22, f 23, f 24, f 25, f 26, f 27, f 28, f 29, f 30, f 31, f 32, f 33, f 34, f 35, f 36, f 37, f 38, f 39, f 40, f 41, f 42, f 43, f 44, f 45, f 46, f 47, f 48, f 49, f 50, f 51, f 52, f 53, f 54, f 55, f 56, f 57, f 58, f 59, f 60, f 61, f 62, f 63, f 64, f 65, f 66, f 67, f 68, f 69, f 70, f 71, f 72, f 73, f 74, f 75, f 76, f 77, f 78], defers := ds ++ [cloD (b + 1)] } := by
  obtain ⟨hs, hd, g0, g1, g2, g3, g4, g5, g6, g7, g8, g9, g10⟩ := h
  obtain ⟨t, d⟩ := a
  dsimp only at *
  have e := arr_range t 79 hs
  generalize hf : (fun i => t.getD i undef) = f at e
  have k : ∀ i, t.getD i undef = f i := fun i => congrFun hf i
  rw [k] at g0 g1 g2 g3 g4 g5 g6 g7 g8 g9 g10
  refine ⟨f, ?_⟩
  rw [hd, e]
  congr 1
  show #[f 0, f 1, f 2, f 3, f 4, f 5, f 6, f 7, f 8, f 9, f 10, f 11, f 12, f 13, f 14, f 15, f 16, f 17, f 18, f 19, f 20, f 21, f 22, f 23, f 24, f 25, f 26, f 27, f 28, f 29, f 30, f 31, f 32, f 33, f 34, f 35, f 36, f 37, f 38, f 39, f 40, f 41, f 42, f 43, f 44, f 45, f 46, f 47, f 48, f 49, f 50, f 51, f 52, f 53, f 54, f 55, f 56, f 57, f 58, f 59, f 60, f 61, f 62, f 63, f 64, f 65, f 66, f 67, f 68, f 69, f 70, f 71, f 72, f 73, f 74, f 75, f 76, f 77, f 78] = _
  rw [g0, g1, g2, g3, g4, g5, g6, g7, g8, g9, g10]

/-- A part is left on its way, or by a panic. -/
def BlkPost (Qn : Act → World → Prop) (Qp : List PanicEntry → Act → World → Prop) : Exit → Act → World → Prop
  | .normal, a, w => Qn a w
  | .panic ch, a, w => Qp ch a w
  | _, _, _ => False
theorem at_seq_two {f : FuncId} {P : Program} {x y : Code} {Q : Exit → Act → World → Prop} {a : Act} {w : World} (Qn : Act → World → Prop) (Qp : List PanicEntry → Act → World → Prop)
    (h : CodeAt f P x (BlkPost Qn Qp) a w) (hy : ∀ a w, Qn a w → CodeAt f P y Q a w) (hp : ∀ ch a w, Qp ch a w → Q (.panic ch) a w) : CodeAt f P (Code.seq x y) Q a w := by
  refine at_seq (at_mono h ?_)
  intro e a w h
  cases e with
  | normal => exact hy a w h
  | panic ch => exact hp ch a w h
  | ret => exact h.elim
  | exit id => exact h.elim
  | goto id => exact h.elim
  | outgrown => exact h.elim

/-- The temporaries in a round. -/
def CR (M Z x : Nat) (a : Act) : Prop := a.tmps.size = 79 ∧ a.defers = [] ∧ a.tmps.getD 9 undef = .pointer (some ⟨M + 1, 0, none⟩) ∧ a.tmps.getD 10 undef = .pointer (some ⟨Z, 0, none⟩) ∧ a.tmps.getD 12 undef = .int .i64 (x : Int)
theorem CR.opn {M Z x : Nat} {a : Act} (h : CR M Z x a) : ∃ f : Nat → Value, a = { tmps := #[f 0, f 1, f 2, f 3, f 4, f 5, f 6, f 7, f 8, .pointer (some ⟨M + 1, 0, none⟩), .pointer (some ⟨Z, 0, none⟩), f 11, .int .i64 (x : Int), f 13, f 14, f 15, f 16, f 17, f 18, f 19, f 20, f 21, f 22, f 23, f 24, f 25, f 26, f 27, f 28, f 29, f 30, f 31, f 32, f 33, f 34, f 35, f 36, f 37, f 38, f 39, f 40, f 41, f 42, f 43, f 44, f 45, f 46, f 47, f 48, f 49, f 50, f 51, f 52, f 53, f 54, f 55, f 56, f 57, f 58, f 59, f 60, f 61, f 62, f 63, f 64, f 65, f 66, f 67, f 68, f 69, f 70, f 71, f 72, f 73, f 74, f 75, f 76, f 77, f 78], defers := [] } := by
  obtain ⟨hs, hd, g9, g10, g12⟩ := h
  obtain ⟨t, d⟩ := a
  dsimp only at *
  have e := arr_range t 79 hs
  generalize hf : (fun i => t.getD i undef) = f at e
  have k : ∀ i, t.getD i undef = f i := fun i => congrFun hf i
  rw [k] at g9 g10 g12
  refine ⟨f, ?_⟩
  rw [hd, e]
  congr 1
  show #[f 0, f 1, f 2, f 3, f 4, f 5, f 6, f 7, f 8, f 9, f 10, f 11, f 12, f 13, f 14, f 15, f 16, f 17, f 18, f 19, f 20, f 21, f 22, f 23, f 24, f 25, f 26, f 27, f 28, f 29, f 30, f 31, f 32, f 33, f 34, f 35, f 36, f 37, f 38, f 39, f 40, f 41, f 42, f 43, f 44, f 45, f 46, f 47, f 48, f 49, f 50, f 51, f 52, f 53, f 54, f 55, f 56, f 57, f 58, f 59, f 60, f 61, f 62, f 63, f 64, f 65, f 66, f 67, f 68, f 69, f 70, f 71, f 72, f 73, f 74, f 75, f 76, f 77, f 78] = _
  rw [g9, g10, g12]

/-- .. ahead of its assignment. -/
def CR0 (M Z x : Nat) (a : Act) : Prop := a.tmps.size = 79 ∧ a.defers = [] ∧ a.tmps.getD 9 undef = .pointer (some ⟨M + 1, 0, none⟩) ∧ a.tmps.getD 10 undef = .pointer (some ⟨Z, 0, none⟩) ∧ a.tmps.getD 59 undef = .int .i64 (x : Int)
theorem CR0.wp {M Z x : Nat} {a : Act} {c : Code} {F : Fence} {n : Nat} {P : Program} {Q : Exit → Act → World → Prop} {w : World} (h : CR0 M Z x a)
    (hk : ∀ f : Nat → Value, c.wpIn F n P Q { tmps := #[f 0, f 1, f 2, f 3, f 4, f 5, f 6, f 7, f 8, .pointer (some ⟨M + 1, 0, none⟩), .pointer (some ⟨Z, 0, none⟩), f 11, f 12, f 13, f 14, f 15, f 16, f 17, f 18, f 19, f 20, f 21, f 22, f 23, f 24, f 25, f 26, f 27, f 28, f 29, f 30, f 31, f 32, f 33, f 34, f 35, f 36, f 37, f 38, f 39, f 40, f 41, f 42, f 43, f 44, f 45, f 46, f 47, f 48, f 49, f 50, f 51, f 52, f 53, f 54, f 55, f 56, f 57, f 58, .int .i64 (x : Int), f 60, f 61, f 62, f 63, f 64, f 65, f 66, f 67, f 68, f 69, f 70, f 71, f 72, f 73, f 74, f 75, f 76, f 77, f 78], defers := [] } w) : c.wpIn F n P Q a w := by
  suffices ∃ f : Nat → Value, a = { tmps := #[f 0, f 1, f 2, f 3, f 4, f 5, f 6, f 7, f 8, .pointer (some ⟨M + 1, 0, none⟩), .pointer (some ⟨Z, 0, none⟩), f 11, f 12, f 13, f 14, f 15, f 16, f 17, f 18, f 19, f 20, f 21, f 22, f 23, f 24, f 25, f 26, f 27, f 28, f 29, f 30, f 31, f 32, f 33, f 34, f 35, f 36, f 37, f 38, f 39, f 40, f 41, f 42, f 43, f 44, f 45, f 46, f 47, f 48, f 49, f 50, f 51, f 52, f 53, f 54, f 55, f 56, f 57, f 58, .int .i64 (x : Int), f 60, f 61, f 62, f 63, f 64, f 65, f 66, f 67, f 68, f 69, f 70, f 71, f 72, f 73, f 74, f 75, f 76, f 77, f 78], defers := [] } by
    obtain ⟨f, rfl⟩ := this
    exact hk f
  obtain ⟨hs, hd, g9, g10, g12⟩ := h
  obtain ⟨t, d⟩ := a
  dsimp only at *
  have e := arr_range t 79 hs
  generalize hf : (fun i => t.getD i undef) = f at e
  have k : ∀ i, t.getD i undef = f i := fun i => congrFun hf i
  rw [k] at g9 g10 g12
  refine ⟨f, ?_⟩
  rw [hd, e]
  congr 1
  show #[f 0, f 1, f 2, f 3, f 4, f 5, f 6, f 7, f 8, f 9, f 10, f 11, f 12, f 13, f 14, f 15, f 16, f 17, f 18, f 19, f 20, f 21, f 22, f 23, f 24, f 25, f 26, f 27, f 28, f 29, f 30, f 31, f 32, f 33, f 34, f 35, f 36, f 37, f 38, f 39, f 40, f 41, f 42, f 43, f 44, f 45, f 46, f 47, f 48, f 49, f 50, f 51, f 52, f 53, f 54, f 55, f 56, f 57, f 58, f 59, f 60, f 61, f 62, f 63, f 64, f 65, f 66, f 67, f 68, f 69, f 70, f 71, f 72, f 73, f 74, f 75, f 76, f 77, f 78] = _
  rw [g9, g10, g12]

theorem or_nat63 (a b : Nat) (ha : a < 65536) (hb : b < 65536) : bits .or .i64 (a : Int) (b : Int) = ((a ||| b : Nat) : Int) :=
  (bits_nat .i64 16 (by decide) (fun n h1 h2 => IntWalk.i64_in n (by have : (2 : Int) ^ 16 = 65536 := rfl; omega)) a b ha hb).2
theorem shl_nat63 (x : Nat) (h : x < 16) : wrap64 ((2 : Int) ^ x) = ((2 ^ x : Nat) : Int) ∧ IntKind.i64.wrap ((2 : Int) ^ x) = ((2 ^ x : Nat) : Int) ∧ IntKind.i64.wrap ((2 : Int) ^ min x 64) = ((2 ^ x : Nat) : Int) ∧ 2 ^ x < 65536 := by
  have h1 : 2 ^ x < 2 ^ 16 := Nat.pow_lt_pow_right (by decide) h
  have e : ((2 : Int) ^ x) = ((2 ^ x : Nat) : Int) := by push_cast; rfl
  have e2 : min x 64 = x := Nat.min_eq_left (by omega)
  rw [e2, e]
  rw [show (2 : Nat) ^ 16 = 65536 from rfl] at h1
  generalize 2 ^ x = y at *
  exact ⟨IntWalk.wrap64_in _ (by omega), IntWalk.i64_in _ (by omega), IntWalk.i64_in _ (by omega), h1⟩
end Go.Proofs.YtlpfecjkkgccgaaDoor
/- The program's Count. -/
namespace Go.Proofs.YtlpfecjkkgccgaaDoor
open Go.RowKit
attribute [local go_sem] Oper.semAt_some

/-- How many orders there are; what is said. -/
def cntV (p : Int) (ws : List GW) (wl : List (Int × Int)) : Int :=
  if errO p ws wl = 0 then if 16 < ws.length then 0 else if (lstO ws wl).isSome = true then (if 1000000000 < cU ws.length (LO ws wl) 0 then 0 else ((cU ws.length (LO ws wl) 0 : Nat) : Int)) else 0 else 0
def cntX (p : Int) (ws : List GW) (wl : List (Int × Int)) : Int :=
  if errO p ws wl = 0 then if 16 < ws.length then 3 else if (lstO ws wl).isSome = true then (if 1000000000 < cU ws.length (LO ws wl) 0 then 5 else 0) else 0 else errO p ws wl
theorem infoI6_Tryd : (Tryd.prog.info? 2).map (fun i => (i.zero, i.size, i.bytes)) = some (some (.int .i64 0), 1, 8) := by kernel_rfl
def CntPost (n e : Int) (w : World) (en : Ending) (w' : World) : Prop := en = .returned (.tuple #[.int .i64 n, .int .i64 e]) ∧ Below w.heap.size w w'
set_option maxRecDepth 100000 in
set_option maxHeartbeats 4000000 in
theorem oCount_ (p : Int) (A Wa : Option Addr) (c wc : Nat) (ws : List GW) (wl : List (Int × Int)) (w : World) (ha : ShIn w p A ws) (hl : RdP w Wa wl) (hT : Tz w) :
    Calls Tryd.prog 16 #[.agg #[.int .i64 p, .slice A ws.length c], .slice Wa wl.length wc] w (CntPost (cntV p ws wl) (cntX p ws wl) w) := by
  have hb2 : Below w.heap.size w (w.alloc (.cells #[.int .i64 p, .slice A ws.length c] 24)) := (Below.refl _ _).alloc (Nat.le_refl _) _
  have Y0 := Lib.hid hb2; clear hb2
  have X0 := Lib.hid (Box1.made w p A c ws.length 24)
  have HA := Lib.hid ha; have HL := Lib.hid hl; have HT := Lib.hid hT; clear ha hl hT
  refine (callsIn_wide (n := 3)).1 ?_
  refine callsIn_of_at Tryd.func16 rfl ?_
  simp only [Tryd.ntmps16, List.size_toArray, List.length_cons, List.length_nil, Nat.reduceAdd, Nat.reduceSub, Array.replicate_succ, Array.replicate_zero, List.push_toArray, List.append_toArray, List.nil_append, List.cons_append]
  refine at_seq (at_of_wp ?_)
  go_wp2_with fail
  obtain ⟨w3, hw3⟩ : ∃ w3, w3 = ((w.alloc (.cells #[.int .i64 p, .slice A ws.length c] 24)).alloc (.cells #[.int .i64 0] 2)).alloc (.cells #[.int .i64 0] 31) := ⟨_, rfl⟩
  have hb3 : Below (w.alloc (.cells #[.int .i64 p, .slice A ws.length c] 24)).heap.size (w.alloc (.cells #[.int .i64 p, .slice A ws.length c] 24)) w3 := by rw [hw3]; exact ((Below.refl _ _).alloc (Nat.le_refl _) _).alloc (by simp) _
  have hN3 : NE w3 (w.heap.size + 1) 0 0 := by
    have h1 := heap_alloc2_new w (.cells #[.int .i64 p, .slice A ws.length c] 24) (.cells #[.int .i64 0] 2)
    have h2 := heap_alloc_new ((w.alloc (.cells #[.int .i64 p, .slice A ws.length c] 24)).alloc (.cells #[.int .i64 0] 2)) (.cells #[.int .i64 0] 31)
    rw [World.size_alloc, World.size_alloc] at h2
    rw [hw3]
    exact ⟨(Below.heap_alloc _ _ _ (by simp)).trans h1, h2⟩
  rw [← hw3]
  have X1 := Lib.hid (X0.out.later hb3)
  have Y1 := Lib.hid (Y0.out.trans (hb3.mono Y0.out.size))
  have hs3 : w.heap.size + 3 ≤ w3.heap.size := by have := hN3.lt; omega
  clear hb3 hw3 X0 Y0
  obtain ⟨c1, c2, s1⟩ := X1.out
  have HN3 := Lib.hid hN3; clear hN3
  refine at_seq (at_of_wp ?_)
  go_wp2_with fail
  refine (before_ p A Wa c wc ws wl _ (HA.out.later Y1.out (Nat.le_refl _)) (HL.out.later Y1.out (Nat.le_refl _))).mono ?_
  rintro e w4 ⟨hz, hn, hb4⟩
  have X2 := Lib.hid (X1.out.later hb4)
  have hN4 := HN3.out.later hb4 (by omega)
  have hs4 := hb4.size
  have Y2 := Lib.hid (Y1.out.trans (hb4.mono Y1.out.size))
  clear hb4 c1 c2 X1 Y1 HN3
  by_cases he : errO p ws wl = 0
  rotate_left
  · obtain rfl := hn he
    have hx : cntX p ws wl = errO p ws wl := by unfold cntX; rw [if_neg he]
    have hv : cntV p ws wl = 0 := by unfold cntV; rw [if_neg he]
    have heb : (errO p ws wl != 0) = true := by simpa using he
    clear hz hn
    generalize errO p ws wl = E at *
    have hN5 := hN4.set2 E
    have hb5 : Below w.heap.size w (w4.setCell ⟨w.heap.size + 1 + 1, 0, none⟩ (.int .i64 E)) := Y2.out.setCell (by show w.heap.size ≤ w.heap.size + 1 + 1; omega) _
    have a1 := hN4.c1
    have a2 := hN4.z1
    have a3 := hN4.c2
    have a4 := hN4.z2
    have HE := Lib.hid he; have HX := Lib.hid hx; have HV := Lib.hid hv; have HN4 := Lib.hid hN4; have HN5 := Lib.hid hN5; have HB5 := Lib.hid hb5; clear he hx hv hN4 hN5 hb5
    go_wp2
    generalize w4.setCell ⟨w.heap.size + 1 + 1, 0, none⟩ (.int .i64 E) = w5 at *
    clear a1 a2 a3 a4
    have hN6 := HN5.out.set1 0
    have hN7 := hN6.set2 E
    have hb7 : Below w.heap.size w ((w5.setCell ⟨w.heap.size + 1, 0, none⟩ (.int .i64 0)).setCell ⟨w.heap.size + 1 + 1, 0, none⟩ (.int .i64 E)) := (HB5.out.setCell (by show w.heap.size ≤ w.heap.size + 1; omega) _).setCell (by show w.heap.size ≤ w.heap.size + 1 + 1; omega) _
    have a1 := HN5.out.c1
    have a2 := HN5.out.z1
    have a3 := HN5.out.c2
    have a4 := HN5.out.z2
    have b1 := hN6.c2
    have b2 := hN6.z2
    have HN6 := Lib.hid hN6; have HN7 := Lib.hid hN7; have HB7 := Lib.hid hb7; clear hN6 hN7 hb7
    refine at_seq (at_of_wp ?_)
    go_wp2
    go_region
    go_wp2
    exact ⟨_, cnt_results HN7.out.drew rfl rfl, by rw [HV.out, HX.out], HB7.out.drew⟩
  obtain ⟨R, rfl, hR, hRl⟩ := hz he
  have hx : cntX p ws wl = if 16 < ws.length then 3 else if (lstO ws wl).isSome = true then (if 1000000000 < cU ws.length (LO ws wl) 0 then 5 else 0) else 0 := by unfold cntX; rw [if_pos he]
  have hv : cntV p ws wl = if 16 < ws.length then 0 else if (lstO ws wl).isSome = true then (if 1000000000 < cU ws.length (LO ws wl) 0 then 0 else ((cU ws.length (LO ws wl) 0 : Nat) : Int)) else 0 := by unfold cntV; rw [if_pos he]
  have hn4 : ws.length ≤ 400 := by have := (okAll (errO_zero he).1).2.2.1; omega
  clear hz hn
  have hN5 := hN4.set2 0
  have hb5 : Below w.heap.size w (w4.setCell ⟨w.heap.size + 1 + 1, 0, none⟩ (.int .i64 0)) := Y2.out.setCell (by show w.heap.size ≤ w.heap.size + 1 + 1; omega) _
  have hR5 : SBo (w4.setCell ⟨w.heap.size + 1 + 1, 0, none⟩ (.int .i64 0)) R ws.length (LO ws wl) := (heap_setCell_other _ _ _ _ (by show R ≠ w.heap.size + 1 + 1; omega)).trans hR
  have a1 := hN4.c1
  have a2 := hN4.z1
  have a3 := hN4.c2
  have a4 := hN4.z2
  have hs5 : w.heap.size + 3 ≤ (w4.setCell ⟨w.heap.size + 1 + 1, 0, none⟩ (.int .i64 0)).heap.size := by simp; omega
  have HE := Lib.hid he; have HX := Lib.hid hx; have HV := Lib.hid hv; have HN4 := Lib.hid hN4; have HN5 := Lib.hid hN5; have HB5 := Lib.hid hb5; have HR := Lib.hid hR; have HR5 := Lib.hid hR5; clear he hx hv hN4 hN5 hb5 hR hR5
  go_wp2
  generalize w4.setCell ⟨w.heap.size + 1 + 1, 0, none⟩ (.int .i64 0) = w5 at *
  clear a1 a2 a3 a4 HN4 HR X2 Y2 hs4 hs3 s1
  have a1 := HN5.out.c1
  have a2 := HN5.out.z1
  have a3 := HN5.out.c2
  have a4 := HN5.out.z2
  by_cases h16 : 16 < ws.length
  · have hN6 := HN5.out.set1 0
    have hN7 := hN6.set2 3
    have hb7 : Below w.heap.size w ((w5.setCell ⟨w.heap.size + 1, 0, none⟩ (.int .i64 0)).setCell ⟨w.heap.size + 1 + 1, 0, none⟩ (.int .i64 3)) := (HB5.out.setCell (by show w.heap.size ≤ w.heap.size + 1; omega) _).setCell (by show w.heap.size ≤ w.heap.size + 1 + 1; omega) _
    have b1 := hN6.c2
    have b2 := hN6.z2
    have z1 : (16 : Int) < (ws.length : Int) := by omega
    have z2 : cntX p ws wl = 3 := by rw [HX.out, if_pos h16]
    have z3 : cntV p ws wl = 0 := by rw [HV.out, if_pos h16]
    have HN6 := Lib.hid hN6; have HN7 := Lib.hid hN7; have HB7 := Lib.hid hb7; have Z2 := Lib.hid z2; have Z3 := Lib.hid z3; clear hN6 hN7 hb7 z2 z3
    refine at_seq (at_of_wp ?_)
    go_wp2
    refine at_seq (at_of_wp ?_)
    go_wp2
    exact ⟨_, cnt_results HN7.out rfl rfl, by rw [Z2.out, Z3.out], HB7.out⟩
  have z1 : decide ((16 : Int) < (ws.length : Int)) = false := by simp; omega
  refine at_seq (at_of_wp ?_)
  go_wp2
  refine at_seq (at_of_wp ?_)
  go_wp2
  refine at_seq (at_of_wp ?_)
  go_wp2_with fail
  refine (goOn_ R ws.length ws.length 0 (LO ws wl) none [] _ hn4 LO_all HR5.out (rdI_nil _) (Nat.zero_le _) (fun x hx => by cases hx)).mono ?_
  rw [opt_nil]
  show ∀ e w, GoPost (lstO ws wl) w5 e w → _
  rintro e w6 ⟨h1, h2, hb6⟩
  have hN6 := HN5.out.later hb6 (by omega)
  have hR6 : SBo w6 R ws.length (LO ws wl) := (hb6.block R HR5.out.lt).trans HR5.out
  have Y6 := Lib.hid (HB5.out.trans (hb6.mono HB5.out.size))
  have hs6 := hb6.size
  have hT6 := HT.out.later (HB5.out.trans (hb6.mono HB5.out.size)) (Nat.le_refl _)
  clear hb6 a1 a2 a3 a4
  have a1 := hN6.c1
  have a2 := hN6.z1
  have a3 := hN6.c2
  have a4 := hN6.z2
  cases hr2 : lstO ws wl with
  | none =>
    obtain rfl := h2 hr2
    clear h1 h2
    have hN7 := hN6.set1 0
    have hN8 := hN7.set2 0
    have hb7 : Below w.heap.size w ((w6.setCell ⟨w.heap.size + 1, 0, none⟩ (.int .i64 0)).setCell ⟨w.heap.size + 1 + 1, 0, none⟩ (.int .i64 0)) := (Y6.out.setCell (by show w.heap.size ≤ w.heap.size + 1; omega) _).setCell (by show w.heap.size ≤ w.heap.size + 1 + 1; omega) _
    have b1 := hN7.c2
    have b2 := hN7.z2
    have z2 : cntX p ws wl = 0 := by rw [HX.out, if_neg h16, hr2]; rfl
    have z3 : cntV p ws wl = 0 := by rw [HV.out, if_neg h16, hr2]; rfl
    have HN6 := Lib.hid hN6; have HN7 := Lib.hid hN7; have HN8 := Lib.hid hN8; have HB7 := Lib.hid hb7; have Z2 := Lib.hid z2; have Z3 := Lib.hid z3; have HR6 := Lib.hid hR6; have HR2 := Lib.hid hr2; have HT6 := Lib.hid hT6; clear hN6 hN7 hN8 hb7 z2 z3 hR6 hr2 hT6
    go_wp2
    exact ⟨_, cnt_results HN8.out rfl rfl, by rw [Z2.out, Z3.out], HB7.out⟩
  | some l =>
    obtain ⟨v, rfl, hw⟩ := h1 l hr2
    clear h1 h2 hw
    have z2 : cntX p ws wl = if 1000000000 < cU ws.length (LO ws wl) 0 then 5 else 0 := by rw [HX.out, if_neg h16, hr2]; rfl
    have z3 : cntV p ws wl = if 1000000000 < cU ws.length (LO ws wl) 0 then 0 else ((cU ws.length (LO ws wl) 0 : Nat) : Int) := by rw [HV.out, if_neg h16, hr2]; rfl
    obtain ⟨N, hN, hN1, hN2⟩ : ∃ N : Nat, 2 ^ ws.length = N ∧ 1 ≤ N ∧ N ≤ 65536 := by
      have h1 : 2 ^ ws.length ≤ 2 ^ 16 := Nat.pow_le_pow_right (by decide) (by omega)
      have h2 : 1 ≤ 2 ^ ws.length := Nat.one_le_two_pow
      rw [show (2 : Nat) ^ 16 = 65536 from rfl] at h1
      exact ⟨_, rfl, h2, h1⟩
    have q2 : IntKind.i64.wrap ((N : Int) - 1) = ((N - 1 : Nat) : Int) := (IntWalk.i64_in _ (by omega)).trans (by omega)
    have q3 : IntKind.i64.wrap ((N : Int) - 2) = (N : Int) - 2 := IntWalk.i64_in _ (by omega)
    have hmk := run_make_row' (P := Tryd.prog) 65 2 (.int .i64 0) 8 Tryd.underlying65 infoI6_Tryd rfl .i64 .i64 N (by omega) (by omega)
    have q1 : wrap64 ((2 : Int) ^ ws.length) = (N : Int) := by
      have : ((2 : Int) ^ ws.length) = ((2 ^ ws.length : Nat) : Int) := by push_cast; rfl
      have h3 : wrap64 ((2 ^ ws.length : Nat) : Int) = ((2 ^ ws.length : Nat) : Int) := IntWalk.wrap64_in _ (by omega)
      exact (congrArg wrap64 this).trans (h3.trans (congrArg _ hN))
    have HN6 := Lib.hid hN6; have Z2 := Lib.hid z2; have Z3 := Lib.hid z3; have HR6 := Lib.hid hR6; have HR2 := Lib.hid hr2; have HT6 := Lib.hid hT6; have HN := Lib.hid hN; clear hN6 z2 z3 hR6 hr2 hT6 hN
    go_wp2
    refine at_seq (at_of_wp ?_)
    go_wp2
    refine at_seq (at_of_wp ?_)
    go_wp2
    obtain ⟨w7, hw7⟩ : ∃ w7, w7 = (w6.alloc (.cells (madeCells #[.int .i64 0] N) 2)).alloc (.cells #[.slice (some ⟨w6.heap.size, 0, none⟩) N N] 65) := ⟨_, rfl⟩
    have hb7 : Below w6.heap.size w6 w7 := by rw [hw7]; exact ((Below.refl _ _).alloc (Nat.le_refl _) _).alloc (by simp) _
    have hM7 : Ib6 w7 w6.heap.size N (fun _ => 0) := by
      rw [hw7]; exact (ib6_zero w6 N).same (Below.heap_alloc _ _ _ (by simp))
    have hJ7 : w7.heap[w6.heap.size + 1]? = some (.cells #[.slice (some ⟨w6.heap.size, 0, none⟩) N N] 65 (0, 0)) := by
      rw [hw7]; exact heap_alloc2_new _ _ _
    rw [← hw7]
    clear hw7 hmk a1 a2 a3 a4 q1
    have hR7 : SBo w7 R ws.length (LO ws wl) := (hb7.block R HR6.out.lt).trans HR6.out
    have hN7 := HN6.out.later hb7 (by omega)
    have Y7 := Lib.hid (Y6.out.trans (hb7.mono Y6.out.size))
    have hT7 := HT6.out.later hb7 (Nat.le_refl _)
    have hR67 := HR6.out.lt
    have s7 := hb7.size
    clear Y6 HR6 HN6 HT6
    have c1 := cell_of_row _ _ 0 _ _ _ hJ7
    have m1 := hM7.free (N - 1)
    have m2 := hM7.at_ (show N - 1 < N by omega)
    have m3 : (0 : Int) ≤ ((N - 1 : Nat) : Int) := by omega
    have m4 : ((N - 1 : Nat) : Int) < (N : Int) := by omega
    have hM8 := hM7.put (N - 1) 1
    have hJ8 : (w7.setCell ⟨w6.heap.size, N - 1, none⟩ (.int .i64 1)).heap[w6.heap.size + 1]? = some (.cells #[.slice (some ⟨w6.heap.size, 0, none⟩) N N] 65 (0, 0)) := (heap_setCell_other _ _ _ _ (by show w6.heap.size + 1 ≠ w6.heap.size; omega)).trans hJ7
    have hR8 : SBo (w7.setCell ⟨w6.heap.size, N - 1, none⟩ (.int .i64 1)) R ws.length (LO ws wl) := (heap_setCell_other _ _ _ _ (by show R ≠ w6.heap.size; omega)).trans hR7
    have hN8 : NE (w7.setCell ⟨w6.heap.size, N - 1, none⟩ (.int .i64 1)) (w.heap.size + 1) 0 0 := hN7.same (heap_setCell_other _ _ _ _ (by show w.heap.size + 1 ≠ w6.heap.size; omega)) (heap_setCell_other _ _ _ _ (by show w.heap.size + 1 + 1 ≠ w6.heap.size; omega))
    have hb8 : Below w.heap.size w (w7.setCell ⟨w6.heap.size, N - 1, none⟩ (.int .i64 1)) := Y7.out.setCell (by show w.heap.size ≤ w6.heap.size; omega) _
    have HN8 := Lib.hid hN8; have HR8 := Lib.hid hR8; have HM7 := Lib.hid hM7; have HM8 := Lib.hid hM8; have HJ7 := Lib.hid hJ7; have HR7 := Lib.hid hR7; have HN7 := Lib.hid hN7; have HT7 := Lib.hid hT7; have HJ8 := Lib.hid hJ8; have HB8 := Lib.hid hb8; clear hN8 hR8 hM7 hM8 hJ7 hR7 hN7 hT7 hJ8 hb8
    refine at_seq (at_of_wp ?_)
    go_wp2
    obtain ⟨w8, hw8⟩ : ∃ w8, w8 = w7.setCell ⟨w6.heap.size, N - 1, none⟩ (.int .i64 1) := ⟨_, rfl⟩
    have s8 : w6.heap.size + 2 ≤ w8.heap.size := by
      have h1 := lt_of_block HJ8.out
      rw [← hw8] at h1; omega
    rw [← hw8] at HN8 HR8 HM8 HB8 HJ8 ⊢
    clear HM7 HJ7 HR7 HN7 hw8 m1 m2 m3 m4 c1 Y7
    have c1 := cell_of_row _ _ 0 _ _ _ HJ8.out
    refine at_seq (at_seq (at_of_wp ?_))
    go_wp2
    have hk9 : Kp (fun _ => False) w8 (w8.alloc (.cells #[.int .i64 ((N : Int) - 2)] 3)) := (Kp.refl _ w8).alloc _
    have hZ9 := heap_alloc_new w8 (.cells #[.int .i64 ((N : Int) - 2)] 3)
    have hC8 : CW w R ws.length w6.heap.size N (LO ws wl) (updF (fun _ => 0) (N - 1) 1) [] w8 := ⟨HN8.out, HR8.out, HM8.out, HJ8.out, trivial, HB8.out, by omega, hR67⟩
    have hC9 := hC8.kp hk9 (fun i h => h.elim) (HM8.out.same (Below.heap_alloc _ _ _ (by omega)))
    have hT9 := HT7.out
    have hG9 := cntG_start (L := LO ws wl) HN.out
    obtain ⟨M, hM⟩ : ∃ M, M = w6.heap.size := ⟨_, rfl⟩
    rw [← hM] at hC9 s8 c1
    generalize w8.alloc (.cells #[.int .i64 ((N : Int) - 2)] 3) = w9 at *
    generalize updF (fun _ => (0 : Int)) (N - 1) 1 = g9 at *
    have hTz : ∀ W, Below w.heap.size w W → Tz W := fun W h => HT.out.later h (Nat.le_refl _)
    refine at_block ?_
    refine at_loop (fun a' wr => ∃ (d : Int) (Z : Nat) (g : Nat → Int) (ds : List Deferred), CA p A Wa c wc ws.length wl.length w.heap.size R M Z v ds a' ∧ -1 ≤ d ∧ d ≤ (N : Int) - 2 ∧ wr.heap[Z]? = some (.cells #[.int .i64 d] 3 (0, 0)) ∧ M + 2 ≤ Z ∧ CntG ws.length (LO ws wl) N d g ∧ CW w R ws.length M N (LO ws wl) g ds wr) (fun a' wr => boxI wr (a'.tmps.getD 10 undef)) ?start ?round
    case start => exact ⟨(N : Int) - 2, w8.heap.size, g9, [], ⟨rfl, rfl, rfl, rfl, rfl, rfl, rfl, rfl, rfl, rfl, rfl, (by rw [hM]; rfl), rfl⟩, by omega, by omega, hZ9, by omega, hG9, hC9⟩
    case round =>
      clear hM hZ9 hG9 hC9 hk9 hC8 HN8 HR8 HM8 HJ8 HB8 HT7 HT hb7 s7 hR67 c1 hs6 hs5 s8 hRl
      clear w9 g9 hT9 w8 w7 w6
      rintro a' wr ⟨d, Z, g, ds, hA, hd1, hd2, hZ, hZl, hG, hC⟩
      obtain ⟨f, rfl⟩ := hA.opn
      clear hA
      have e1 := cell_of_row _ Z 0 _ _ _ hZ
      have e2 := cell_of_row _ _ 0 _ _ _ hC.box
      have hboxI := boxI_is hZ
      have lZ := lt_of_block hZ
      by_cases hd0 : 0 ≤ d
      · obtain ⟨k, rfl⟩ := Int.eq_ofNat_of_zero_le hd0
        have hk : k + 1 < N := by omega
        have hb1 := Below.refl wr.heap.size wr
        have hS16 : k < 2 ^ ws.length := by rw [HN.out]; omega
        have HZ := Lib.hid hZ; have HG := Lib.hid hG; have HC := Lib.hid hC; have HTZ := Lib.hid hTz; have HBOXI := Lib.hid hboxI; have HS16 := Lib.hid hS16; clear hZ hG hC hTz hboxI hS16
        refine at_seq (at_of_wp ?_)
        go_wp2
        refine at_seq_two (fun a' W => ∃ (ds : List Deferred) (g : Nat → Int), CA p A Wa c wc ws.length wl.length w.heap.size R M Z v ds a' ∧ W.heap[Z]? = some (.cells #[.int .i64 (k : Int)] 3 (0, 0)) ∧ CntG ws.length (LO ws wl) N ((k : Int) - 1) g ∧ CW w R ws.length M N (LO ws wl) g ds W)
          (fun ch a' W => LeavesInM Fence.wide 3 Tryd.prog Tryd.f16 a'.tmps (CntPost (cntV p ws wl) (cntX p ws wl) w) a'.defers (.panicking ch) W) ?cntblk ?cnttl (fun ch a' W h => h)
        case cnttl =>
          intro a' W h
          · clear e1 e2 hb1
            clear HZ HG HC
            obtain ⟨ds, g, hA, hZ, hG, hC⟩ := h
            obtain ⟨f, rfl⟩ := hA.opn
            clear hA
            have e1 := cell_of_row _ Z 0 _ _ _ hZ
            have q4 : IntKind.i64.wrap ((k : Int) - 1) = (k : Int) - 1 := IntWalk.i64_in _ (by omega)
            have lM := lt_of_block hC.box
            have hZ1 := heap_alloc_new W (.cells #[.int .i64 (k : Int)] 3)
            have hk1 : Kp (fun _ => False) W (W.alloc (.cells #[.int .i64 (k : Int)] 3)) := (Kp.refl _ W).alloc _
            have hC1 := hC.kp hk1 (fun i h => h.elim) (hC.many.same (Below.heap_alloc _ _ _ hC.many.lt))
            have HZ := Lib.hid hZ; have HG := Lib.hid hG; have HC := Lib.hid hC; have HZ1 := Lib.hid hZ1; have HC1 := Lib.hid hC1; have HK1 := Lib.hid hk1; clear hZ hG hC hZ1 hC1 hk1
            refine at_seq (at_seq (at_of_wp ?_))
            go_wp2
            refine at_of_wp ?_
            go_wp2
            have hs1 : W.heap.size < (W.alloc (.cells #[.int .i64 (k : Int)] 3)).heap.size := by simp
            generalize W.alloc (.cells #[.int .i64 (k : Int)] 3) = W1 at *
            clear e1
            have e1 := cell_of_row _ _ 0 _ _ _ HZ1.out
            have e2 := frozen_of_row _ _ 0 _ _ HZ1.out
            have hZ2 : (W1.setCell ⟨W.heap.size, 0, none⟩ (.int .i64 ((k : Int) - 1))).heap[W.heap.size]? = some (.cells #[.int .i64 ((k : Int) - 1)] 3 (0, 0)) := one_setCell HZ1.out
            have hk2 : Kp (fun i => i = W.heap.size) W1 (W1.setCell ⟨W.heap.size, 0, none⟩ (.int .i64 ((k : Int) - 1))) := Kp.setCell (C := fun i => i = W.heap.size) (p := ⟨W.heap.size, 0, none⟩) (Kp.refl (fun i => i = W.heap.size) W1) (.inl rfl) _
            have hC2 := HC1.out.kp hk2 (fun i h => by subst h; exact .inr ⟨by omega, by rw [HZ1.out]; simp⟩) (HC1.out.many.same (heap_setCell_other _ _ _ _ (by show M ≠ W.heap.size; omega)))
            have hms := boxI_is hZ2
            have HZ2 := Lib.hid hZ2; have HC2 := Lib.hid hC2; have HMS := Lib.hid hms; clear hZ2 hC2 hms
            refine at_of_wp ?_
            go_wp2
            refine ⟨⟨(k : Int) - 1, W.heap.size, g, ds, ⟨rfl, rfl, rfl, rfl, rfl, rfl, rfl, rfl, rfl, rfl, rfl, rfl, rfl⟩, by omega, by omega, HZ2.out, by omega, HG.out, HC2.out⟩, ?_⟩
            show boxI _ (.pointer (some ⟨W.heap.size, 0, none⟩)) < boxI wr (.pointer (some ⟨Z, 0, none⟩))
            rw [HMS.out, HBOXI.out]
            omega
        case cntblk =>
          refine at_block (at_seq (at_of_wp ?_))
          go_wp2
          have hAk := setAt_one wr (show k < 2 ^ 64 by omega) 68
          have hkq : Kp (fun _ => False) wr (wr.alloc (.cells #[.int .u64 (k : Nat), .int .u64 0, .int .u64 0, .int .u64 0, .int .u64 0, .int .u64 0, .int .u64 0] 68)) := (Kp.refl _ wr).alloc _
          have hbq : Below wr.heap.size wr (wr.alloc (.cells #[.int .u64 (k : Nat), .int .u64 0, .int .u64 0, .int .u64 0, .int .u64 0, .int .u64 0, .int .u64 0] 68)) := hb1.alloc (Nat.le_refl _) _
          generalize wr.alloc (.cells #[.int .u64 (k : Nat), .int .u64 0, .int .u64 0, .int .u64 0, .int .u64 0, .int .u64 0, .int .u64 0] 68) = wq at *
          have hCq := HC.out.kp hkq (fun i h => h.elim) (HC.out.many.same (hbq.block _ HC.out.many.lt))
          have hZq := (hbq.block _ lZ).trans HZ.out
          clear e1 e2 hb1
          have e1 := cell_of_row _ Z 0 _ _ _ hZq
          have hwq := hbq.size
          have HAK := Lib.hid hAk; have HKQ := Lib.hid hkq; have HBQ := Lib.hid hbq; have HCQ := Lib.hid hCq; have HZQ := Lib.hid hZq; clear hAk hkq hbq hCq hZq
          refine at_seq (at_of_wp ?_)
          go_wp2_with fail
          refine (oSound_ R ws.length ws.length k (LO ws wl) wq (by omega) LO_all HCQ.out.rows HS16.out (HTZ.out _ HCQ.out.below)).mono ?_
          rintro e w10 ⟨rfl, hb10⟩
          have hC10 := HCQ.out.kp (Kp.of_below (fun _ => False) hb10) (fun i h => h.elim) (HCQ.out.many.same (hb10.block _ HCQ.out.many.lt))
          have hZ10 := (hb10.block _ (lt_of_block HZQ.out)).trans HZQ.out
          have hA10 := HAK.out.kept (hb10.block _ HAK.out.lt)
          have hs10 := hb10.size
          clear hb10 e1 HZQ HCQ HAK
          cases hs : sndB ws.length (LO ws wl) k with
          | false =>
            have hG2 := cntG_skip HG.out hk hs
            have HC10 := Lib.hid hC10; have HZ10 := Lib.hid hZ10; have HA10 := Lib.hid hA10; have HG2 := Lib.hid hG2; have HS := Lib.hid hs; clear hC10 hZ10 hA10 hG2 hs
            go_wp2
            exact ⟨ds, g, ⟨rfl, rfl, rfl, rfl, rfl, rfl, rfl, rfl, rfl, rfl, rfl, rfl, rfl⟩, HZ10.out, HG2.out, HC10.out⟩
          | true =>
            have HC10 := Lib.hid hC10; have HZ10 := Lib.hid hZ10; have HA10 := Lib.hid hA10; have HS := Lib.hid hs; clear hC10 hZ10 hA10 hs
            go_wp2
            refine at_seq (at_of_wp ?_)
            go_wp2_with fail
            refine (ways_ _ _ _ _ _).mono ?_
            rintro e w11 ⟨rfl, rfl⟩
            go_wp2
            obtain ⟨w11, hw11⟩ : ∃ w11, w11 = (w10.alloc (.cells #[.slice (some ⟨R, 0, none⟩) ws.length ws.length] 52)).alloc (.cells #[.pointer (some ⟨wr.heap.size, 0, none⟩)] 74) := ⟨_, rfl⟩
            have h14 : w11.heap[w10.heap.size]? = some (.cells #[.slice (some ⟨R, 0, none⟩) ws.length ws.length] 52 (0, 0)) := by
              rw [hw11, Below.heap_alloc _ _ _ (by simp)]; exact heap_alloc_new _ _
            have h24 : w11.heap[w10.heap.size + 1]? = some (.cells #[.pointer (some ⟨wr.heap.size, 0, none⟩)] 74 (0, 0)) := by
              rw [hw11]; exact heap_alloc2_new _ _ _
            have hb11 : Below w10.heap.size w10 w11 := by rw [hw11]; exact ((Below.refl _ _).alloc (Nat.le_refl _) _).alloc (by simp) _
            rw [← hw11]
            clear hw11
            have hs11 := hb11.size
            have hC11 := HC10.out.kp (Kp.of_below (fun _ => False) hb11) (fun i h => h.elim) (HC10.out.many.same (hb11.block _ HC10.out.many.lt))
            have hZ11 := (hb11.block _ (lt_of_block HZ10.out)).trans HZ10.out
            have hA11 := HA10.out.kept (hb11.block _ HA10.out.lt)
            have lM := lt_of_block HC.out.box
            have l14 := lt_of_block h14
            have hseq := ways1_ w10.heap.size (w10.heap.size + 1) R ws.length wr.heap.size 0 ws.length k (LO ws wl) w11 (fun i => i = M) hn4 LO_all h14 h24 hC11.rows hA11 (fun i h => by subst h; exact ⟨by omega, by omega, by omega, by have := hC11.lr; omega, by omega⟩)
            clear h14 h24 hb11 hA11 HA10 HC10 HZ10
            have hg0 := cntG_zero HG.out hk
            have hway := fun b hb hf => cntG_way (b := b) HG.out HN.out hk HS.out hb hf
            have hM0 : Ib6 w11 M N (updF g k ((sumW ws.length (LO ws wl) k [] : Nat) : Int)) := hC11.many.eqv fun a _ => by
              unfold updF sumW
              by_cases h : a = k
              · subst h; rw [if_pos rfl, hg0]; rfl
              · rw [if_neg h]
            have hkp0 := Kp.refl (fun i => i = M) w11
            have HC11 := Lib.hid hC11; have HZ11 := Lib.hid hZ11; have HG0 := Lib.hid hg0; have HWAY := Lib.hid hway; have HM0 := Lib.hid hM0; have HKP0 := Lib.hid hkp0; clear hC11 hZ11 hg0 hway hM0 hkp0
            refine at_block (at_rangeFunc ?_)
            refine iter_core (α := Nat) (gf := 55) (lb := #[.pointer (some ⟨w10.heap.size, 0, none⟩), .pointer (some ⟨w10.heap.size + 1, 0, none⟩)]) rfl (enters_of Tryd.func55 (by kernel_rfl) rfl) (encs := fun b : Nat => #[.int .i64 (b : Int)]) (wysL (LO ws wl) k ws.length) (fun i => i = M) (fun i h => by omega) (fun _ => rfl) hseq
              (fun pre W => Ib6 W M N (updF g k ((sumW ws.length (LO ws wl) k pre : Nat) : Int)) ∧ sumW ws.length (LO ws wl) k pre ≤ 1000000000 ∧ Kp (fun i => i = M) w11 W)
              (fun _ _ _ => False)
              (fun ch pre W => ch = tooM ∧ 1000000000 < sumW ws.length (LO ws wl) k pre ∧ (∃ g', Ib6 W M N g') ∧ Kp (fun i => i = M) w11 W)
              (fun pre A' B' hi hs hb => ⟨hi.1.same (hb.block _ (by omega)), hi.2.1, hi.2.2.below hb⟩)
              (fun cd pre A' B' hi hs hb => hi.elim)
              ⟨HM0.out, by simp [sumW], HKP0.out⟩
              (fun x a' _ => CR M Z x a')
              (fun x a' W W' l r hx hl hs hsame => hx) ?assign ?body ?done ?stop ?cntpan 16 (.inr ⟨_, Tryd.func16⟩)
            case assign =>
              intro l' pre x W K hp hi hs hK
              refine CR0.wp (M := M) (Z := Z) (x := x) ?_ fun f => ?_
              · refine ⟨?_, rfl, ?_, ?_, ?_⟩ <;> simp
              gi_wp2
              refine hK _ _ ?_ (Below.refl _ _)
              exact ⟨rfl, rfl, rfl, rfl, rfl⟩
            case body =>
              rintro l' pre x a' W hp ⟨hm, hle, hkw⟩ hx hs
              obtain ⟨f, rfl⟩ := hx.opn
              clear hx
              obtain ⟨hxn, hxf⟩ := wysL_mem (hp.subset (List.mem_append_right _ (List.mem_singleton.2 rfl)) : x ∈ _)
              obtain ⟨y1, y2, y3⟩ := HWAY.out x hxn hxf
              have d1 := cell_of_row _ _ 0 _ _ _ ((hkw.same (M + 1) (by omega) (by omega)).trans HC11.out.box)
              have d2 := cell_of_row _ _ 0 _ _ _ ((hkw.same Z (by omega) (by omega)).trans HZ11.out)
              have d3 := hm.at_ (show k < N by omega)
              have d4 := hm.at_ y1
              have d5 := hm.free k
              have v3 : updF g k ((sumW ws.length (LO ws wl) k pre : Nat) : Int) k = ((sumW ws.length (LO ws wl) k pre : Nat) : Int) := if_pos rfl
              have v4 : updF g k ((sumW ws.length (LO ws wl) k pre : Nat) : Int) (k ||| 2 ^ x) = ((cU ws.length (LO ws wl) (k ||| 2 ^ x) : Nat) : Int) := (if_neg (by omega)).trans y3
              rw [v3] at d3
              rw [v4] at d4
              have hcu : 0 ≤ g (k ||| 2 ^ x) ∧ g (k ||| 2 ^ x) ≤ 1000000000 := (HG.out _ y1).2
              rw [y3] at hcu
              have hsn := sumW_snoc ws.length (LO ws wl) k pre x
              generalize hU : cU ws.length (LO ws wl) (k ||| 2 ^ x) = U at *
              clear hseq
              clear hU v3 v4 y3
              have y4 : ((k ||| 2 ^ x : Nat) : Int) < (N : Int) := by omega
              have y5 : (0 : Int) ≤ ((k ||| 2 ^ x : Nat) : Int) := by omega
              have y6 : (k : Int) < (N : Int) := by omega
              have y7 : decide ((x : Int) < 0) = false := by simp
              obtain ⟨u1, u2, u3, u4⟩ := shl_nat63 x (by omega)
              have u5 : bits .or .i64 (k : Int) ((2 : Int) ^ x) = ((k ||| 2 ^ x : Nat) : Int) := by
                have h1 := or_nat63 k (2 ^ x) (by omega) u4
                rw [← h1]
                congr 1
              have hmx : Tryd.prog.follows .mixedOrders = true := by kernel_rfl
              have HM := Lib.hid hm; have HLE := Lib.hid hle; have HKW := Lib.hid hkw; have HP := Lib.hid hp; have HXF := Lib.hid hxf; have HSN := Lib.hid hsn; clear hm hle hkw hp hxf hsn
              by_cases hsum : sumW ws.length (LO ws wl) k pre + U ≤ 1000000000
              · have hpl := fun W => plus_ok ((sumW ws.length (LO ws wl) k pre : Nat) : Int) (U : Int) W (by omega) (by omega) (by omega)
                generalize sumW ws.length (LO ws wl) k pre = s0 at *
                gi_wp2
                refine wpIn_region_held (S := fun W' => W'.cell? ⟨M + 1, 0, none⟩ = some (.slice (some ⟨M, 0, none⟩) N N) ∧ W'.cell? ⟨Z, 0, none⟩ = some (.int .i64 (k : Int)) ∧ W'.cell? ⟨M, k ||| 2 ^ x, none⟩ = some (.int .i64 (U : Int))) (by kernel_rfl) (by kernel_rfl) ?_ ⟨d1, d2, d4⟩ (fun hHeld => ?_)
                · rintro ⟨a, w, h⟩
                  exact h
                refine takeH (i := 0) (v := ?v0) rfl rfl (by kernel_rfl) (by kernel_rfl) (by kernel_rfl) (fun _ _ _ _ => ⟨fun h _ => h, fun h => h #[]⟩) (by rfl) hHeld ?y0 ?r0
                case y0 =>
                  intro W' hSw
                  obtain ⟨s1, s2, s3⟩ := hSw
                  go_simp
                  try with_reducible rfl
                simp only [List.setIfInBounds_toArray, List.set_cons_zero, List.set_cons_succ]
                refine takeH (i := 1) (v := ?v1) rfl rfl (by kernel_rfl) (by kernel_rfl) (by kernel_rfl) (fun _ _ _ _ => ⟨fun h _ => h, fun h => h #[]⟩) (by rfl) hHeld ?y1 ?r1
                case y1 =>
                  intro W' hSw
                  obtain ⟨s1, s2, s3⟩ := hSw
                  go_simp
                  try with_reducible rfl
                simp only [List.setIfInBounds_toArray, List.set_cons_zero, List.set_cons_succ]
                refine takeH (i := 2) (v := ?v2) rfl rfl (by kernel_rfl) (by kernel_rfl) (by kernel_rfl) (fun _ _ _ _ => ⟨fun h _ => h, fun h => h #[]⟩) (by rfl) hHeld ?y2 ?r2
                case y2 =>
                  intro W' hSw
                  obtain ⟨s1, s2, s3⟩ := hSw
                  go_simp
                  try with_reducible rfl
                simp only [List.setIfInBounds_toArray, List.set_cons_zero, List.set_cons_succ]
                refine takeH (i := 3) (v := ?v3) rfl rfl (by kernel_rfl) (by kernel_rfl) (by kernel_rfl) (fun _ _ _ _ => ⟨fun h _ => h, fun h => h #[]⟩) (by rfl) hHeld ?y3 ?r3
                case y3 =>
                  intro W' hSw
                  obtain ⟨s1, s2, s3⟩ := hSw
                  go_simp
                  try with_reducible rfl
                simp only [List.setIfInBounds_toArray, List.set_cons_zero, List.set_cons_succ]
                refine takeH (i := 4) (v := ?v4) rfl rfl (by kernel_rfl) (by kernel_rfl) (by kernel_rfl) (fun _ _ _ _ => ⟨fun h _ => h, fun h => h #[]⟩) (by rfl) hHeld ?y4 ?r4
                case y4 =>
                  intro W' hSw
                  obtain ⟨s1, s2, s3⟩ := hSw
                  go_simp
                  try with_reducible rfl
                simp only [List.setIfInBounds_toArray, List.set_cons_zero, List.set_cons_succ]
                refine takeH (i := 6) (v := ?v6) rfl rfl (by kernel_rfl) (by kernel_rfl) (by kernel_rfl) (fun _ _ _ _ => ⟨fun h _ => h, fun h => h #[]⟩) (by rfl) hHeld ?y6 ?r6
                case y6 =>
                  intro W' hSw
                  obtain ⟨s1, s2, s3⟩ := hSw
                  go_simp
                  try with_reducible rfl
                simp only [List.setIfInBounds_toArray, List.set_cons_zero, List.set_cons_succ]
                refine takeH (i := 7) (v := ?v7) rfl rfl (by kernel_rfl) (by kernel_rfl) (by kernel_rfl) (fun _ _ _ _ => ⟨fun h _ => h, fun h => h #[]⟩) (by rfl) hHeld ?y7 ?r7
                case y7 =>
                  intro W' hSw
                  obtain ⟨s1, s2, s3⟩ := hSw
                  go_simp
                  try with_reducible rfl
                simp only [List.setIfInBounds_toArray, List.set_cons_zero, List.set_cons_succ]
                refine takeH (i := 8) (v := ?v8) rfl rfl (by kernel_rfl) (by kernel_rfl) (by kernel_rfl) (fun _ _ _ _ => ⟨fun h _ => h, fun h => h #[]⟩) (by rfl) hHeld ?y8 ?r8
                case y8 =>
                  intro W' hSw
                  obtain ⟨s1, s2, s3⟩ := hSw
                  go_simp
                  try with_reducible rfl
                simp only [List.setIfInBounds_toArray, List.set_cons_zero, List.set_cons_succ]
                refine takeH (i := 9) (v := ?v9) rfl rfl (by kernel_rfl) (by kernel_rfl) (by kernel_rfl) (fun _ _ _ _ => ⟨fun h _ => h, fun h => h #[]⟩) (by rfl) hHeld ?y9 ?r9
                case y9 =>
                  intro W' hSw
                  obtain ⟨s1, s2, s3⟩ := hSw
                  go_simp
                  try with_reducible rfl
                simp only [List.setIfInBounds_toArray, List.set_cons_zero, List.set_cons_succ]
                refine takeH (i := 10) (v := ?v10) rfl rfl (by kernel_rfl) (by kernel_rfl) (by kernel_rfl) (fun _ _ _ _ => ⟨fun h _ => h, fun h => h #[]⟩) (by rfl) hHeld ?y10 ?r10
                case y10 =>
                  intro W' hSw
                  obtain ⟨s1, s2, s3⟩ := hSw
                  go_simp
                  try with_reducible rfl
                simp only [List.setIfInBounds_toArray, List.set_cons_zero, List.set_cons_succ]
                refine takeH (i := 11) (v := ?v11) rfl rfl (by kernel_rfl) (by kernel_rfl) (by kernel_rfl) (fun _ _ _ _ => ⟨fun h _ => h, fun h => h #[]⟩) (by rfl) hHeld ?y11 ?r11
                case y11 =>
                  intro W' hSw
                  obtain ⟨s1, s2, s3⟩ := hSw
                  go_simp
                  try with_reducible rfl
                simp only [List.setIfInBounds_toArray, List.set_cons_zero, List.set_cons_succ]
                refine takeH (i := 12) (v := ?v12) rfl rfl (by kernel_rfl) (by kernel_rfl) (by kernel_rfl) (fun _ _ _ _ => ⟨fun h _ => h, fun h => h #[]⟩) (by rfl) hHeld ?y12 ?r12
                case y12 =>
                  intro W' hSw
                  obtain ⟨s1, s2, s3⟩ := hSw
                  go_simp
                  try with_reducible rfl
                simp only [List.setIfInBounds_toArray, List.set_cons_zero, List.set_cons_succ]
                refine wpAnyH_ready (rs := [5]) (by kernel_rfl) (by simp) ?_
                refine AllReadyH.cons rfl (fun K hK => ?_) AllReadyH.nil
                go_simp
                refine hK.out _ _ hHeld (fun _ => ?_)
                clear hK K
                try simp only [Act.put, List.setIfInBounds_toArray, List.set_cons_zero, List.set_cons_succ]
                refine wpAnyH_ready (rs := [13]) (by kernel_rfl) (by simp) ?_
                refine AllReadyH.cons rfl (fun K hK => ?_) AllReadyH.nil
                go_simp
                go_wp2_with (go_at_call 38; refine (hpl _).mono ?_; rintro e w4 ⟨rfl, rfl⟩)
                refine hK.out _ _ hHeld (fun _ => ?_)
                clear hK K
                try simp only [Act.put, List.setIfInBounds_toArray, List.set_cons_zero, List.set_cons_succ]
                refine takeH (i := 14) (v := ?v14) rfl rfl (by kernel_rfl) (by kernel_rfl) (by kernel_rfl) (fun _ _ _ _ => ⟨fun h _ => h, fun h => h #[]⟩) (by rfl) hHeld ?y14 ?r14
                case y14 =>
                  intro W' hSw
                  obtain ⟨s1, s2, s3⟩ := hSw
                  go_simp
                  try with_reducible rfl
                simp only [List.setIfInBounds_toArray, List.set_cons_zero, List.set_cons_succ]
                refine wpAnyH_ready (rs := [15]) (by kernel_rfl) (by simp) ?_
                refine AllReadyH.cons rfl (fun K hK => ?_) AllReadyH.nil
                go_simp
                refine hK.out _ _ ?_ (fun _ => ?_)
                · obtain ⟨s1, s2, s3⟩ := hHeld
                  exact ⟨(World.cell?_setCell_far _ _ _ _ (by show M ≠ M + 1; omega)).trans s1, (World.cell?_setCell_far _ _ _ _ (by show M ≠ Z; omega)).trans s2, (World.cell?_setCell_other _ _ _ _ (by simp)).trans s3⟩
                clear hK K
                refine wpAnyH_done (by kernel_rfl) ?_ _
                have hput := HM.out.put k ((s0 : Int) + (U : Int))
                refine ⟨(Kp.setCell (C := fun i => i = M) (p := ⟨M, k, none⟩) (Kp.refl (fun i => i = M) W) (.inl rfl) _).drew, ?_, ?_, HKW.out.trans (Kp.setCell (C := fun i => i = M) (p := ⟨M, k, none⟩) (Kp.refl (fun i => i = M) W) (.inl rfl) _).drew⟩
                · rw [HSN.out]
                  refine Ib6.eqv (hput : Ib6 (W.setCell ⟨M, k, none⟩ (.int .i64 ((s0 : Int) + (U : Int)))).drew M N _) fun a _ => ?_
                  unfold updF
                  by_cases h : a = k
                  · rw [if_pos h, if_pos h]; push_cast; rfl
                  · rw [if_neg h, if_neg h, if_neg h]
                · rw [HSN.out]; exact hsum
              · have hpl := fun W => plus_no ((sumW ws.length (LO ws wl) k pre : Nat) : Int) (U : Int) W (by have := HLE.out; omega) (by omega) (by omega)
                generalize sumW ws.length (LO ws wl) k pre = s0 at *
                gi_wp2
                refine wpIn_region_held (S := fun W' => W'.cell? ⟨M + 1, 0, none⟩ = some (.slice (some ⟨M, 0, none⟩) N N) ∧ W'.cell? ⟨Z, 0, none⟩ = some (.int .i64 (k : Int)) ∧ W'.cell? ⟨M, k ||| 2 ^ x, none⟩ = some (.int .i64 (U : Int))) (by kernel_rfl) (by kernel_rfl) ?_ ⟨d1, d2, d4⟩ (fun hHeld => ?_)
                · rintro ⟨a, w, h⟩
                  exact h
                refine takeH (i := 0) (v := ?vp0) rfl rfl (by kernel_rfl) (by kernel_rfl) (by kernel_rfl) (fun _ _ _ _ => ⟨fun h _ => h, fun h => h #[]⟩) (by rfl) hHeld ?yp0 ?rp0
                case yp0 =>
                  intro W' hSw
                  obtain ⟨s1, s2, s3⟩ := hSw
                  go_simp
                  try with_reducible rfl
                simp only [List.setIfInBounds_toArray, List.set_cons_zero, List.set_cons_succ]
                refine takeH (i := 1) (v := ?vp1) rfl rfl (by kernel_rfl) (by kernel_rfl) (by kernel_rfl) (fun _ _ _ _ => ⟨fun h _ => h, fun h => h #[]⟩) (by rfl) hHeld ?yp1 ?rp1
                case yp1 =>
                  intro W' hSw
                  obtain ⟨s1, s2, s3⟩ := hSw
                  go_simp
                  try with_reducible rfl
                simp only [List.setIfInBounds_toArray, List.set_cons_zero, List.set_cons_succ]
                refine takeH (i := 2) (v := ?vp2) rfl rfl (by kernel_rfl) (by kernel_rfl) (by kernel_rfl) (fun _ _ _ _ => ⟨fun h _ => h, fun h => h #[]⟩) (by rfl) hHeld ?yp2 ?rp2
                case yp2 =>
                  intro W' hSw
                  obtain ⟨s1, s2, s3⟩ := hSw
                  go_simp
                  try with_reducible rfl
                simp only [List.setIfInBounds_toArray, List.set_cons_zero, List.set_cons_succ]
                refine takeH (i := 3) (v := ?vp3) rfl rfl (by kernel_rfl) (by kernel_rfl) (by kernel_rfl) (fun _ _ _ _ => ⟨fun h _ => h, fun h => h #[]⟩) (by rfl) hHeld ?yp3 ?rp3
                case yp3 =>
                  intro W' hSw
                  obtain ⟨s1, s2, s3⟩ := hSw
                  go_simp
                  try with_reducible rfl
                simp only [List.setIfInBounds_toArray, List.set_cons_zero, List.set_cons_succ]
                refine takeH (i := 4) (v := ?vp4) rfl rfl (by kernel_rfl) (by kernel_rfl) (by kernel_rfl) (fun _ _ _ _ => ⟨fun h _ => h, fun h => h #[]⟩) (by rfl) hHeld ?yp4 ?rp4
                case yp4 =>
                  intro W' hSw
                  obtain ⟨s1, s2, s3⟩ := hSw
                  go_simp
                  try with_reducible rfl
                simp only [List.setIfInBounds_toArray, List.set_cons_zero, List.set_cons_succ]
                refine takeH (i := 6) (v := ?vp6) rfl rfl (by kernel_rfl) (by kernel_rfl) (by kernel_rfl) (fun _ _ _ _ => ⟨fun h _ => h, fun h => h #[]⟩) (by rfl) hHeld ?yp6 ?rp6
                case yp6 =>
                  intro W' hSw
                  obtain ⟨s1, s2, s3⟩ := hSw
                  go_simp
                  try with_reducible rfl
                simp only [List.setIfInBounds_toArray, List.set_cons_zero, List.set_cons_succ]
                refine takeH (i := 7) (v := ?vp7) rfl rfl (by kernel_rfl) (by kernel_rfl) (by kernel_rfl) (fun _ _ _ _ => ⟨fun h _ => h, fun h => h #[]⟩) (by rfl) hHeld ?yp7 ?rp7
                case yp7 =>
                  intro W' hSw
                  obtain ⟨s1, s2, s3⟩ := hSw
                  go_simp
                  try with_reducible rfl
                simp only [List.setIfInBounds_toArray, List.set_cons_zero, List.set_cons_succ]
                refine takeH (i := 8) (v := ?vp8) rfl rfl (by kernel_rfl) (by kernel_rfl) (by kernel_rfl) (fun _ _ _ _ => ⟨fun h _ => h, fun h => h #[]⟩) (by rfl) hHeld ?yp8 ?rp8
                case yp8 =>
                  intro W' hSw
                  obtain ⟨s1, s2, s3⟩ := hSw
                  go_simp
                  try with_reducible rfl
                simp only [List.setIfInBounds_toArray, List.set_cons_zero, List.set_cons_succ]
                refine takeH (i := 9) (v := ?vp9) rfl rfl (by kernel_rfl) (by kernel_rfl) (by kernel_rfl) (fun _ _ _ _ => ⟨fun h _ => h, fun h => h #[]⟩) (by rfl) hHeld ?yp9 ?rp9
                case yp9 =>
                  intro W' hSw
                  obtain ⟨s1, s2, s3⟩ := hSw
                  go_simp
                  try with_reducible rfl
                simp only [List.setIfInBounds_toArray, List.set_cons_zero, List.set_cons_succ]
                refine takeH (i := 10) (v := ?vp10) rfl rfl (by kernel_rfl) (by kernel_rfl) (by kernel_rfl) (fun _ _ _ _ => ⟨fun h _ => h, fun h => h #[]⟩) (by rfl) hHeld ?yp10 ?rp10
                case yp10 =>
                  intro W' hSw
                  obtain ⟨s1, s2, s3⟩ := hSw
                  go_simp
                  try with_reducible rfl
                simp only [List.setIfInBounds_toArray, List.set_cons_zero, List.set_cons_succ]
                refine takeH (i := 11) (v := ?vp11) rfl rfl (by kernel_rfl) (by kernel_rfl) (by kernel_rfl) (fun _ _ _ _ => ⟨fun h _ => h, fun h => h #[]⟩) (by rfl) hHeld ?yp11 ?rp11
                case yp11 =>
                  intro W' hSw
                  obtain ⟨s1, s2, s3⟩ := hSw
                  go_simp
                  try with_reducible rfl
                simp only [List.setIfInBounds_toArray, List.set_cons_zero, List.set_cons_succ]
                refine takeH (i := 12) (v := ?vp12) rfl rfl (by kernel_rfl) (by kernel_rfl) (by kernel_rfl) (fun _ _ _ _ => ⟨fun h _ => h, fun h => h #[]⟩) (by rfl) hHeld ?yp12 ?rp12
                case yp12 =>
                  intro W' hSw
                  obtain ⟨s1, s2, s3⟩ := hSw
                  go_simp
                  try with_reducible rfl
                simp only [List.setIfInBounds_toArray, List.set_cons_zero, List.set_cons_succ]
                refine wpAnyH_ready (rs := [5]) (by kernel_rfl) (by simp) ?_
                refine AllReadyH.cons rfl (fun K hK => ?_) AllReadyH.nil
                go_simp
                refine hK.out _ _ hHeld (fun _ => ?_)
                clear hK K
                try simp only [Act.put, List.setIfInBounds_toArray, List.set_cons_zero, List.set_cons_succ]
                refine wpAnyH_ready (rs := [13]) (by kernel_rfl) (by simp) ?_
                refine AllReadyH.cons rfl (fun K hK => ?_) AllReadyH.nil
                go_simp
                go_wp2_with (go_at_call 38; refine (hpl _).mono ?_; rintro e w4 ⟨rfl, rfl⟩)
                exact ⟨rfl, (Kp.refl _ W).drew, rfl, by rw [HSN.out]; omega, ⟨_, (HM.out : Ib6 W.drew M N _)⟩, HKW.out.drew⟩
            case done =>
              rintro W ⟨hm, hle, hkw⟩ hd hlt
              exact ⟨{ target := .collected w11.heap.size, args := #[] } :: ds, _, ⟨rfl, rfl, rfl, rfl, rfl, rfl, rfl, rfl, rfl, rfl, rfl, rfl, rfl⟩, (hkw.same Z (lt_of_block HZ11.out) (by omega)).trans HZ11.out, cntG_next HG.out HN.out hk HS.out hle, HC11.out.more hkw hm (Nat.le_refl _) hd⟩
            case stop => exact fun c pre x W hp h _ _ => h.elim
            case cntpan =>
              rintro ch pre x W hp ⟨rfl, hgt, ⟨g', hm⟩, hkw⟩ hd hlt
              have hCp := HC11.out.more hkw hm (Nat.le_refl _) hd
              have hbig : 1000000000 < cU ws.length (LO ws wl) 0 := by
                have h1 := sumW_le hp
                have h2 := cU_step (n := ws.length) (L := LO ws wl) (S := k) (by have := HN.out; omega)
                have h3 := cU_sound (goO_run HR2.out) (sndB_iff.1 HS.out) HS16.out
                omega
              show LeavesInM _ _ _ _ _ _ (({ target := .collected w11.heap.size, args := #[] } :: ds) ++ [cloD (w.heap.size + 1)]) _ _
              refine leaves_marks_on (B := M + 2) (by simp) hCp.marks fun w' hs => ?_
              have hlo := hCp.lo
              have hN' : NE w' (w.heap.size + 1) 0 0 := hCp.ne.same (hs.same _ (.inl (by omega))) (hs.same _ (.inl (by omega)))
              refine leaves_panic hN' rfl rfl fun w'' hk' => ⟨?_, hk'.under (hs.below hCp.below (by omega)) (fun i h => by omega)⟩
              rw [Z2.out, Z3.out, if_pos hbig, if_pos hbig]
      · obtain rfl : d = -1 := by omega
        obtain ⟨hg1, hg2⟩ := cntG_end hG hN1
        have hres2 : cntX p ws wl = 0 := by rw [Z2.out, if_neg (by omega)]
        have hres3 : cntV p ws wl = g 0 := by rw [Z3.out, if_neg (by omega), hg1]
        have lo := hC.lo
        have d3 := hC.many.at_ (show 0 < N by omega)
        have n1 := hC.ne.c1
        have n2 := hC.ne.z1
        have hN1' := hC.ne.set1 (g 0)
        have n3 := hN1'.c2
        have n4 := hN1'.z2
        have hN2' := hN1'.set2 0
        have hk2 : Kp (fun i => i = w.heap.size + 1 ∨ i = w.heap.size + 1 + 1) wr ((wr.setCell ⟨w.heap.size + 1, 0, none⟩ (.int .i64 (g 0))).setCell ⟨w.heap.size + 1 + 1, 0, none⟩ (.int .i64 0)) :=
          Kp.setCell (C := fun i => i = w.heap.size + 1 ∨ i = w.heap.size + 1 + 1) (p := ⟨w.heap.size + 1 + 1, 0, none⟩) (Kp.setCell (C := fun i => i = w.heap.size + 1 ∨ i = w.heap.size + 1 + 1) (p := ⟨w.heap.size + 1, 0, none⟩) (Kp.refl (fun i => i = w.heap.size + 1 ∨ i = w.heap.size + 1 + 1) wr) (.inl (.inl rfl)) _) (.inl (.inr rfl)) _
        have hM2 : Marks (M + 2) ((wr.setCell ⟨w.heap.size + 1, 0, none⟩ (.int .i64 (g 0))).setCell ⟨w.heap.size + 1 + 1, 0, none⟩ (.int .i64 0)) ds := hC.marks.later fun i hi hd => hk2.same i (lt_of_block hd) (by omega)
        have hb2 := hk2.under hC.below (fun i h => by omega)
        have z5 : (0 : Int) < (N : Int) := by omega
        clear hg1 hg2
        have HZ := Lib.hid hZ; have HG := Lib.hid hG; have HC := Lib.hid hC; have HBOXI := Lib.hid hboxI; have HN1p := Lib.hid hN1'; have HN2p := Lib.hid hN2'; have HM2 := Lib.hid hM2; have HB2 := Lib.hid hb2; have HRES2 := Lib.hid hres2; have HRES3 := Lib.hid hres3; have HK2 := Lib.hid hk2; have HTZ := Lib.hid hTz; clear hZ hG hC hboxI hN1' hN2' hM2 hb2 hres2 hres3 hk2 hTz
        refine at_seq (at_of_wp ?_)
        go_wp2
        refine at_seq (at_of_wp ?_)
        go_wp2
        refine at_of_wp ?_
        go_wp2
        refine leaves_marks_on (B := M + 2) (by simp) HM2.out fun w' hs => ?_
        have hN' : NE w' (w.heap.size + 1) (g 0) 0 := HN2p.out.same (hs.same _ (.inl (by omega))) (hs.same _ (.inl (by omega)))
        exact leaves_quiet hN' rfl rfl ⟨by rw [HRES2.out, HRES3.out], hs.below HB2.out (by omega)⟩
end Go.Proofs.YtlpfecjkkgccgaaDoor
/- What Next's walk leans on: plain. -/
namespace Go.Proofs.YtlpfecjkkgccgaaDoor
open Go.RowKit

theorem wysL_sorted (L : Nat → Nat) (S : Nat) : ∀ k, (wysL L S k).Pairwise (· < ·) := fun k => by
  unfold wysL
  exact List.Pairwise.filter _ List.pairwise_lt_range
/-- All that may come and is less than a way was gone ahead of it. -/
theorem wys_before {L : Nat → Nat} {S n b : Nat} {pre : List Nat} (h : pre ++ [b] <+: wysL L S n) : ∀ a, a < b → freeB L S a = true → a ∈ pre := by
  intro a ha hf
  obtain ⟨m, hm⟩ := h
  have hbn : b ∈ wysL L S n := by rw [← hm]; simp
  have hamem : a ∈ wysL L S n := by
    unfold wysL
    rw [List.mem_filter, List.mem_range]
    exact ⟨Nat.lt_trans ha (wysL_mem hbn).1, hf⟩
  have hs := wysL_sorted L S n
  rw [← hm] at hamem hs
  rcases List.mem_append.1 hamem with h1 | h1
  · rcases List.mem_append.1 h1 with h2 | h2
    · exact h2
    · rw [List.mem_singleton] at h2; omega
  · have := (List.pairwise_append.1 hs).2.2 b (by simp) a h1
    omega
theorem over_is {n : Nat} {L : Nat → Nat} {S x b : Nat} {pre : List Nat} (h : pre ++ [b] <+: wysL L S n) (hx : x < b) (hp : ∀ a ∈ pre, a ≤ x) : overF n L S x = b := by
  obtain ⟨h1, h2⟩ := wysL_mem (h.subset (List.mem_append_right _ (List.mem_singleton.2 rfl)) : b ∈ _)
  unfold overF
  refine fstF_eq h1 (by rw [h2, decide_eq_true hx]; rfl) fun j hj => ?_
  cases hf : freeB L S j with
  | false => rfl
  | true =>
    have := hp j (wys_before h j hj hf)
    simp; omega
theorem over_no {n : Nat} {L : Nat → Nat} {S x : Nat} (hp : ∀ a ∈ wysL L S n, a ≤ x) : overF n L S x = n := by
  unfold overF
  rw [fstF_none]
  intro j hj
  cases hf : freeB L S j with
  | false => rfl
  | true =>
    have := hp j (by unfold wysL; rw [List.mem_filter, List.mem_range]; exact ⟨hj, hf⟩)
    simp; omega
theorem setL_run {n : Nat} {L : Nat → Nat} : ∀ {l : List Int} {S T : Nat}, pRun n L S l = some T → l.foldl (fun S x => S ||| 2 ^ x.toNat) S = T
  | [], S, T, h => by cases h; rfl
  | x :: l, S, T, h => by
    obtain ⟨k, rfl, hk, hf, _⟩ := pRun_cons (by rw [h]; rfl)
    rw [pRun_nat hk hf] at h
    rw [List.foldl_cons]
    exact setL_run h
/-- From where a greater work comes, an order goes on. -/
theorem over_go {n : Nat} {L : Nat → Nat} {l : List Int} {k S b : Nat} (hl : OrdL n L l) (hk : k < n) (hS : pRun n L 0 (l.take k) = some S) (hb : b < n) (hf : freeB L S b = true) : (goO n L (n - (k + 1)) (S ||| 2 ^ b)).isSome = true := by
  have hkl : k < l.length := by have := hl.1; omega
  obtain ⟨x, hx, hxn, hfx, hS2, hr, hd⟩ := take_run hkl hl.2 hS
  have hmS := pRun_miss hS
  rw [miss_nil, List.length_take, Nat.min_eq_left (by omega)] at hmS
  have hmis := miss_step' (freeB_bit hf) n hb
  obtain ⟨T, hT⟩ := Option.isSome_iff_exists.1 hr
  have hdl : (l.drop k).length = miss n S := by rw [List.length_drop, hl.1]; omega
  have hmem := mem_run hT hdl hb (freeB_bit hf)
  have hfirst := pRun_first hT hmem
  exact goO_some (l := (l.drop k).erase (b : Int)) (by omega) (by rw [List.length_erase_of_mem hmem, hdl]; omega) (by rw [hfirst]; rfl)
/-- Is a list a full order? -/
def ordB (n : Nat) (L : Nat → Nat) (l : List Int) : Bool := decide (l.length = n) && (pRun n L 0 l).isSome
theorem ordB_iff {n : Nat} {L : Nat → Nat} {l : List Int} : ordB n L l = true ↔ OrdL n L l := by
  unfold ordB OrdL
  rw [Bool.and_eq_true, decide_eq_true_eq]
/-- What Next returns. -/
def nxtO (ws : List GW) (wl : List (Int × Int)) (l : List Int) : Option (List Int) := nxK ws.length (LO ws wl) l ws.length
def nxtX (p : Int) (ws : List GW) (wl : List (Int × Int)) (l : List Int) : Int := if errO p ws wl = 0 then (if ordB ws.length (LO ws wl) l = true then (if (nxtO ws wl l).isSome = true then 0 else 9) else 4) else errO p ws wl
def nxtL (p : Int) (ws : List GW) (wl : List (Int × Int)) (l : List Int) : List Int := if errO p ws wl = 0 then (if ordB ws.length (LO ws wl) l = true then (nxtO ws wl l).getD [] else []) else []
/-- Where a run breaks off, it does not come to its end. -/
theorem run_stop {n : Nat} {L : Nat → Nat} {l : List Int} {k S : Nat} (hk : k < l.length) (hS : pRun n L 0 (l.take k) = some S) (h : pStep n L S l[k] = none) : (pRun n L 0 l).isSome = false := by
  conv => lhs; rw [← List.take_append_drop k l]
  rw [pRun_app, hS, List.drop_eq_getElem_cons hk]
  show (pRun n L S (l[k] :: l.drop (k + 1))).isSome = false
  rw [pRun, h]
  rfl
theorem run_on {n : Nat} {L : Nat → Nat} {l : List Int} {k S T : Nat} (hk : k < l.length) (hS : pRun n L 0 (l.take k) = some S) (h : pStep n L S l[k] = some T) : pRun n L 0 (l.take (k + 1)) = some T := by
  rw [List.take_succ_eq_append_getElem hk, pRun_snoc, hS]
  exact h

/-- A whole set is stored. -/
theorem WBo.row7 {w : World} {R m b : Nat} {G : Nat → Nat → Nat} (h0 : WBo w R m G) (hb : b < m) (v : Nat → Nat) :
    w.cell? ⟨R, b * 7, none⟩ = some (.int .u64 (G b 0 : Nat)) ∧ w.frozen? ⟨R, b * 7, none⟩ = false ∧
    (w.setCell ⟨R, b * 7, none⟩ (.int .u64 (v 0 : Nat))).cell? ⟨R, b * 7 + 1, none⟩ = some (.int .u64 (G b 1 : Nat)) ∧ (w.setCell ⟨R, b * 7, none⟩ (.int .u64 (v 0 : Nat))).frozen? ⟨R, b * 7 + 1, none⟩ = false ∧
    ((w.setCell ⟨R, b * 7, none⟩ (.int .u64 (v 0 : Nat))).setCell ⟨R, b * 7 + 1, none⟩ (.int .u64 (v 1 : Nat))).cell? ⟨R, b * 7 + 2, none⟩ = some (.int .u64 (G b 2 : Nat)) ∧ ((w.setCell ⟨R, b * 7, none⟩ (.int .u64 (v 0 : Nat))).setCell ⟨R, b * 7 + 1, none⟩ (.int .u64 (v 1 : Nat))).frozen? ⟨R, b * 7 + 2, none⟩ = false ∧
    (((w.setCell ⟨R, b * 7, none⟩ (.int .u64 (v 0 : Nat))).setCell ⟨R, b * 7 + 1, none⟩ (.int .u64 (v 1 : Nat))).setCell ⟨R, b * 7 + 2, none⟩ (.int .u64 (v 2 : Nat))).cell? ⟨R, b * 7 + 3, none⟩ = some (.int .u64 (G b 3 : Nat)) ∧ (((w.setCell ⟨R, b * 7, none⟩ (.int .u64 (v 0 : Nat))).setCell ⟨R, b * 7 + 1, none⟩ (.int .u64 (v 1 : Nat))).setCell ⟨R, b * 7 + 2, none⟩ (.int .u64 (v 2 : Nat))).frozen? ⟨R, b * 7 + 3, none⟩ = false ∧
    ((((w.setCell ⟨R, b * 7, none⟩ (.int .u64 (v 0 : Nat))).setCell ⟨R, b * 7 + 1, none⟩ (.int .u64 (v 1 : Nat))).setCell ⟨R, b * 7 + 2, none⟩ (.int .u64 (v 2 : Nat))).setCell ⟨R, b * 7 + 3, none⟩ (.int .u64 (v 3 : Nat))).cell? ⟨R, b * 7 + 4, none⟩ = some (.int .u64 (G b 4 : Nat)) ∧ ((((w.setCell ⟨R, b * 7, none⟩ (.int .u64 (v 0 : Nat))).setCell ⟨R, b * 7 + 1, none⟩ (.int .u64 (v 1 : Nat))).setCell ⟨R, b * 7 + 2, none⟩ (.int .u64 (v 2 : Nat))).setCell ⟨R, b * 7 + 3, none⟩ (.int .u64 (v 3 : Nat))).frozen? ⟨R, b * 7 + 4, none⟩ = false ∧
    (((((w.setCell ⟨R, b * 7, none⟩ (.int .u64 (v 0 : Nat))).setCell ⟨R, b * 7 + 1, none⟩ (.int .u64 (v 1 : Nat))).setCell ⟨R, b * 7 + 2, none⟩ (.int .u64 (v 2 : Nat))).setCell ⟨R, b * 7 + 3, none⟩ (.int .u64 (v 3 : Nat))).setCell ⟨R, b * 7 + 4, none⟩ (.int .u64 (v 4 : Nat))).cell? ⟨R, b * 7 + 5, none⟩ = some (.int .u64 (G b 5 : Nat)) ∧ (((((w.setCell ⟨R, b * 7, none⟩ (.int .u64 (v 0 : Nat))).setCell ⟨R, b * 7 + 1, none⟩ (.int .u64 (v 1 : Nat))).setCell ⟨R, b * 7 + 2, none⟩ (.int .u64 (v 2 : Nat))).setCell ⟨R, b * 7 + 3, none⟩ (.int .u64 (v 3 : Nat))).setCell ⟨R, b * 7 + 4, none⟩ (.int .u64 (v 4 : Nat))).frozen? ⟨R, b * 7 + 5, none⟩ = false ∧
    ((((((w.setCell ⟨R, b * 7, none⟩ (.int .u64 (v 0 : Nat))).setCell ⟨R, b * 7 + 1, none⟩ (.int .u64 (v 1 : Nat))).setCell ⟨R, b * 7 + 2, none⟩ (.int .u64 (v 2 : Nat))).setCell ⟨R, b * 7 + 3, none⟩ (.int .u64 (v 3 : Nat))).setCell ⟨R, b * 7 + 4, none⟩ (.int .u64 (v 4 : Nat))).setCell ⟨R, b * 7 + 5, none⟩ (.int .u64 (v 5 : Nat))).cell? ⟨R, b * 7 + 6, none⟩ = some (.int .u64 (G b 6 : Nat)) ∧ ((((((w.setCell ⟨R, b * 7, none⟩ (.int .u64 (v 0 : Nat))).setCell ⟨R, b * 7 + 1, none⟩ (.int .u64 (v 1 : Nat))).setCell ⟨R, b * 7 + 2, none⟩ (.int .u64 (v 2 : Nat))).setCell ⟨R, b * 7 + 3, none⟩ (.int .u64 (v 3 : Nat))).setCell ⟨R, b * 7 + 4, none⟩ (.int .u64 (v 4 : Nat))).setCell ⟨R, b * 7 + 5, none⟩ (.int .u64 (v 5 : Nat))).frozen? ⟨R, b * 7 + 6, none⟩ = false ∧
    WBo (((((((w.setCell ⟨R, b * 7, none⟩ (.int .u64 (v 0 : Nat))).setCell ⟨R, b * 7 + 1, none⟩ (.int .u64 (v 1 : Nat))).setCell ⟨R, b * 7 + 2, none⟩ (.int .u64 (v 2 : Nat))).setCell ⟨R, b * 7 + 3, none⟩ (.int .u64 (v 3 : Nat))).setCell ⟨R, b * 7 + 4, none⟩ (.int .u64 (v 4 : Nat))).setCell ⟨R, b * 7 + 5, none⟩ (.int .u64 (v 5 : Nat))).setCell ⟨R, b * 7 + 6, none⟩ (.int .u64 (v 6 : Nat))) R m (fun x y => if x = b then v y else G x y) := by
  have h1 : WBo (w.setCell ⟨R, b * 7, none⟩ (.int .u64 (v 0 : Nat))) R m _ := WBo.put h0 (b := b) (k := 0) (by decide) (v 0)
  have h2 : WBo ((w.setCell ⟨R, b * 7, none⟩ (.int .u64 (v 0 : Nat))).setCell ⟨R, b * 7 + 1, none⟩ (.int .u64 (v 1 : Nat))) R m _ := WBo.put h1 (b := b) (k := 1) (by decide) (v 1)
  have h3 : WBo (((w.setCell ⟨R, b * 7, none⟩ (.int .u64 (v 0 : Nat))).setCell ⟨R, b * 7 + 1, none⟩ (.int .u64 (v 1 : Nat))).setCell ⟨R, b * 7 + 2, none⟩ (.int .u64 (v 2 : Nat))) R m _ := WBo.put h2 (b := b) (k := 2) (by decide) (v 2)
  have h4 : WBo ((((w.setCell ⟨R, b * 7, none⟩ (.int .u64 (v 0 : Nat))).setCell ⟨R, b * 7 + 1, none⟩ (.int .u64 (v 1 : Nat))).setCell ⟨R, b * 7 + 2, none⟩ (.int .u64 (v 2 : Nat))).setCell ⟨R, b * 7 + 3, none⟩ (.int .u64 (v 3 : Nat))) R m _ := WBo.put h3 (b := b) (k := 3) (by decide) (v 3)
  have h5 : WBo (((((w.setCell ⟨R, b * 7, none⟩ (.int .u64 (v 0 : Nat))).setCell ⟨R, b * 7 + 1, none⟩ (.int .u64 (v 1 : Nat))).setCell ⟨R, b * 7 + 2, none⟩ (.int .u64 (v 2 : Nat))).setCell ⟨R, b * 7 + 3, none⟩ (.int .u64 (v 3 : Nat))).setCell ⟨R, b * 7 + 4, none⟩ (.int .u64 (v 4 : Nat))) R m _ := WBo.put h4 (b := b) (k := 4) (by decide) (v 4)
  have h6 : WBo ((((((w.setCell ⟨R, b * 7, none⟩ (.int .u64 (v 0 : Nat))).setCell ⟨R, b * 7 + 1, none⟩ (.int .u64 (v 1 : Nat))).setCell ⟨R, b * 7 + 2, none⟩ (.int .u64 (v 2 : Nat))).setCell ⟨R, b * 7 + 3, none⟩ (.int .u64 (v 3 : Nat))).setCell ⟨R, b * 7 + 4, none⟩ (.int .u64 (v 4 : Nat))).setCell ⟨R, b * 7 + 5, none⟩ (.int .u64 (v 5 : Nat))) R m _ := WBo.put h5 (b := b) (k := 5) (by decide) (v 5)
  have h7 : WBo (((((((w.setCell ⟨R, b * 7, none⟩ (.int .u64 (v 0 : Nat))).setCell ⟨R, b * 7 + 1, none⟩ (.int .u64 (v 1 : Nat))).setCell ⟨R, b * 7 + 2, none⟩ (.int .u64 (v 2 : Nat))).setCell ⟨R, b * 7 + 3, none⟩ (.int .u64 (v 3 : Nat))).setCell ⟨R, b * 7 + 4, none⟩ (.int .u64 (v 4 : Nat))).setCell ⟨R, b * 7 + 5, none⟩ (.int .u64 (v 5 : Nat))).setCell ⟨R, b * 7 + 6, none⟩ (.int .u64 (v 6 : Nat))) R m _ := WBo.put h6 (b := b) (k := 6) (by decide) (v 6)
  refine ⟨(by have := WBo.at_ h0 hb (show 0 < 7 by decide); simpa using this), WBo.free h0 _, (by have := WBo.at_ h1 hb (show 1 < 7 by decide); simpa using this), WBo.free h1 _, (by have := WBo.at_ h2 hb (show 2 < 7 by decide); simpa using this), WBo.free h2 _, (by have := WBo.at_ h3 hb (show 3 < 7 by decide); simpa using this), WBo.free h3 _, (by have := WBo.at_ h4 hb (show 4 < 7 by decide); simpa using this), WBo.free h4 _, (by have := WBo.at_ h5 hb (show 5 < 7 by decide); simpa using this), WBo.free h5 _, (by have := WBo.at_ h6 hb (show 6 < 7 by decide); simpa using this), WBo.free h6 _, WBo.congr h7 fun x y _ hy => ?_⟩
  by_cases hx : x = b
  · subst hx
    rw [if_pos rfl]
    obtain rfl | rfl | rfl | rfl | rfl | rfl | rfl : y = 0 ∨ y = 1 ∨ y = 2 ∨ y = 3 ∨ y = 4 ∨ y = 5 ∨ y = 6 := by omega
    all_goals simp
  · rw [if_neg hx]
    simp [hx]
end Go.Proofs.YtlpfecjkkgccgaaDoor
/- What Next's walk leans on: its temporaries and its world. -/
namespace Go.Proofs.YtlpfecjkkgccgaaDoor
open Go.RowKit

def CN (b Q D m Z : Nat) (ds : List Deferred) (a : Act) : Prop := a.tmps.size = 115 ∧ a.defers = ds ∧ a.tmps.getD 5 undef = .pointer (some ⟨b + 1, 0, none⟩) ∧ a.tmps.getD 6 undef = .pointer (some ⟨b + 1 + 1, 0, none⟩) ∧ a.tmps.getD 7 undef = .pointer (some ⟨b + 1 + 1 + 1, 0, none⟩) ∧ a.tmps.getD 8 undef = .pointer (some ⟨Q, 0, none⟩) ∧ a.tmps.getD 10 undef = .slice (some ⟨D, 0, none⟩) m m ∧ a.tmps.getD 13 undef = .pointer (some ⟨Z, 0, none⟩)
theorem CN.opn {b Q D m Z : Nat} {ds : List Deferred} {a : Act} (h : CN b Q D m Z ds a) : ∃ f : Nat → Value, a = { tmps := #[f 0, f 1, f 2, f 3, f 4, .pointer (some ⟨b + 1, 0, none⟩), .pointer (some ⟨b + 1 + 1, 0, none⟩), .pointer (some ⟨b + 1 + 1 + 1, 0, none⟩), .pointer (some ⟨Q, 0, none⟩), f 9, .slice (some ⟨D, 0, none⟩) m m, f 11, f 12, .pointer (some ⟨Z, 0, none⟩), f 14, f 15, f 16, f 17, f 18, f 19, f 20, f 21, f 22, f 23, f 24, f 25, f 26, f 27, f 28, f 29, f 30, f 31, f 32, f 33, f 34, f 35, f 36, f 37, f 38, f 39, f 40, f 41, f 42, f 43, f 44, f 45, f 46, f 47, f 48, f 49, f 50, f 51, f 52, f 53, f 54, f 55, f 56, f 57, f 58, f 59, f 60, f 61, f 62, f 63, f 64, f 65, f 66, f 67, f 68, f 69, f 70, f 71, f 72, f 73, f 74, f 75, f 76, f 77, f 78, f 79, f 80, f 81, f 82, f 83, f 84, f 85, f 86, f 87, f 88, f 89, f 90, f 91, f 92, f 93, f 94, f 95, f 96, f 97, f 98, f 99, f 100, f 101, f 102, f 103, f 104, f 105, f 106, f 107, f 108, f 109, f 110, f 111, f 112, f 113, f 114], defers := ds } := by
  obtain ⟨hs, hd, g5, g6, g7, g8, g10, g13⟩ := h
  obtain ⟨t, d⟩ := a
  dsimp only at *
  have e := arr_range t 115 hs
  generalize hf : (fun i => t.getD i undef) = f at e
  have k : ∀ i, t.getD i undef = f i := fun i => congrFun hf i
  rw [k] at g5 g6 g7 g8 g10 g13
  refine ⟨f, ?_⟩
  rw [hd, e]
  congr 1
  show #[f 0, f 1, f 2, f 3, f 4, f 5, f 6, f 7, f 8, f 9, f 10, f 11, f 12, f 13, f 14, f 15, f 16, f 17, f 18, f 19, f 20, f 21, f 22, f 23, f 24, f 25, f 26, f 27, f 28, f 29, f 30, f 31, f 32, f 33, f 34, f 35, f 36, f 37, f 38, f 39, f 40, f 41, f 42, f 43, f 44, f 45, f 46, f 47, f 48, f 49, f 50, f 51, f 52, f 53, f 54, f 55, f 56, f 57, f 58, f 59, f 60, f 61, f 62, f 63, f 64, f 65, f 66, f 67, f 68, f 69, f 70, f 71, f 72, f 73, f 74, f 75, f 76, f 77, f 78, f 79, f 80, f 81, f 82, f 83, f 84, f 85, f 86, f 87, f 88, f 89, f 90, f 91, f 92, f 93, f 94, f 95, f 96, f 97, f 98, f 99, f 100, f 101, f 102, f 103, f 104, f 105, f 106, f 107, f 108, f 109, f 110, f 111, f 112, f 113, f 114] = _
  rw [g5, g6, g7, g8, g10, g13]
theorem CN.wp {b Q D m Z : Nat} {ds : List Deferred} {a : Act} {cd : Code} {F : Fence} {n : Nat} {P : Program} {Po : Exit → Act → World → Prop} {w : World} (h : CN b Q D m Z ds a) (hk : ∀ f : Nat → Value, cd.wpIn F n P Po { tmps := #[f 0, f 1, f 2, f 3, f 4, .pointer (some ⟨b + 1, 0, none⟩), .pointer (some ⟨b + 1 + 1, 0, none⟩), .pointer (some ⟨b + 1 + 1 + 1, 0, none⟩), .pointer (some ⟨Q, 0, none⟩), f 9, .slice (some ⟨D, 0, none⟩) m m, f 11, f 12, .pointer (some ⟨Z, 0, none⟩), f 14, f 15, f 16, f 17, f 18, f 19, f 20, f 21, f 22, f 23, f 24, f 25, f 26, f 27, f 28, f 29, f 30, f 31, f 32, f 33, f 34, f 35, f 36, f 37, f 38, f 39, f 40, f 41, f 42, f 43, f 44, f 45, f 46, f 47, f 48, f 49, f 50, f 51, f 52, f 53, f 54, f 55, f 56, f 57, f 58, f 59, f 60, f 61, f 62, f 63, f 64, f 65, f 66, f 67, f 68, f 69, f 70, f 71, f 72, f 73, f 74, f 75, f 76, f 77, f 78, f 79, f 80, f 81, f 82, f 83, f 84, f 85, f 86, f 87, f 88, f 89, f 90, f 91, f 92, f 93, f 94, f 95, f 96, f 97, f 98, f 99, f 100, f 101, f 102, f 103, f 104, f 105, f 106, f 107, f 108, f 109, f 110, f 111, f 112, f 113, f 114], defers := ds } w) : cd.wpIn F n P Po a w := by
  obtain ⟨f, rfl⟩ := h.opn
  exact hk f

def CNR (b Q Z x : Nat) (a : Act) : Prop := a.tmps.size = 115 ∧ a.defers = [] ∧ a.tmps.getD 5 undef = .pointer (some ⟨b + 1, 0, none⟩) ∧ a.tmps.getD 6 undef = .pointer (some ⟨b + 1 + 1, 0, none⟩) ∧ a.tmps.getD 7 undef = .pointer (some ⟨b + 1 + 1 + 1, 0, none⟩) ∧ a.tmps.getD 8 undef = .pointer (some ⟨Q, 0, none⟩) ∧ a.tmps.getD 13 undef = .pointer (some ⟨Z, 0, none⟩) ∧ a.tmps.getD 14 undef = .int .i64 (x : Int)
theorem CNR.opn {b Q Z x : Nat} {a : Act} (h : CNR b Q Z x a) : ∃ f : Nat → Value, a = { tmps := #[f 0, f 1, f 2, f 3, f 4, .pointer (some ⟨b + 1, 0, none⟩), .pointer (some ⟨b + 1 + 1, 0, none⟩), .pointer (some ⟨b + 1 + 1 + 1, 0, none⟩), .pointer (some ⟨Q, 0, none⟩), f 9, f 10, f 11, f 12, .pointer (some ⟨Z, 0, none⟩), .int .i64 (x : Int), f 15, f 16, f 17, f 18, f 19, f 20, f 21, f 22, f 23, f 24, f 25, f 26, f 27, f 28, f 29, f 30, f 31, f 32, f 33, f 34, f 35, f 36, f 37, f 38, f 39, f 40, f 41, f 42, f 43, f 44, f 45, f 46, f 47, f 48, f 49, f 50, f 51, f 52, f 53, f 54, f 55, f 56, f 57, f 58, f 59, f 60, f 61, f 62, f 63, f 64, f 65, f 66, f 67, f 68, f 69, f 70, f 71, f 72, f 73, f 74, f 75, f 76, f 77, f 78, f 79, f 80, f 81, f 82, f 83, f 84, f 85, f 86, f 87, f 88, f 89, f 90, f 91, f 92, f 93, f 94, f 95, f 96, f 97, f 98, f 99, f 100, f 101, f 102, f 103, f 104, f 105, f 106, f 107, f 108, f 109, f 110, f 111, f 112, f 113, f 114], defers := [] } := by
  obtain ⟨hs, hd, g5, g6, g7, g8, g13, g14⟩ := h
  obtain ⟨t, d⟩ := a
  dsimp only at *
  have e := arr_range t 115 hs
  generalize hf : (fun i => t.getD i undef) = f at e
  have k : ∀ i, t.getD i undef = f i := fun i => congrFun hf i
  rw [k] at g5 g6 g7 g8 g13 g14
  refine ⟨f, ?_⟩
  rw [hd, e]
  congr 1
  show #[f 0, f 1, f 2, f 3, f 4, f 5, f 6, f 7, f 8, f 9, f 10, f 11, f 12, f 13, f 14, f 15, f 16, f 17, f 18, f 19, f 20, f 21, f 22, f 23, f 24, f 25, f 26, f 27, f 28, f 29, f 30, f 31, f 32, f 33, f 34, f 35, f 36, f 37, f 38, f 39, f 40, f 41, f 42, f 43, f 44, f 45, f 46, f 47, f 48, f 49, f 50, f 51, f 52, f 53, f 54, f 55, f 56, f 57, f 58, f 59, f 60, f 61, f 62, f 63, f 64, f 65, f 66, f 67, f 68, f 69, f 70, f 71, f 72, f 73, f 74, f 75, f 76, f 77, f 78, f 79, f 80, f 81, f 82, f 83, f 84, f 85, f 86, f 87, f 88, f 89, f 90, f 91, f 92, f 93, f 94, f 95, f 96, f 97, f 98, f 99, f 100, f 101, f 102, f 103, f 104, f 105, f 106, f 107, f 108, f 109, f 110, f 111, f 112, f 113, f 114] = _
  rw [g5, g6, g7, g8, g13, g14]
theorem CNR.wp {b Q Z x : Nat} {a : Act} {cd : Code} {F : Fence} {n : Nat} {P : Program} {Po : Exit → Act → World → Prop} {w : World} (h : CNR b Q Z x a) (hk : ∀ f : Nat → Value, cd.wpIn F n P Po { tmps := #[f 0, f 1, f 2, f 3, f 4, .pointer (some ⟨b + 1, 0, none⟩), .pointer (some ⟨b + 1 + 1, 0, none⟩), .pointer (some ⟨b + 1 + 1 + 1, 0, none⟩), .pointer (some ⟨Q, 0, none⟩), f 9, f 10, f 11, f 12, .pointer (some ⟨Z, 0, none⟩), .int .i64 (x : Int), f 15, f 16, f 17, f 18, f 19, f 20, f 21, f 22, f 23, f 24, f 25, f 26, f 27, f 28, f 29, f 30, f 31, f 32, f 33, f 34, f 35, f 36, f 37, f 38, f 39, f 40, f 41, f 42, f 43, f 44, f 45, f 46, f 47, f 48, f 49, f 50, f 51, f 52, f 53, f 54, f 55, f 56, f 57, f 58, f 59, f 60, f 61, f 62, f 63, f 64, f 65, f 66, f 67, f 68, f 69, f 70, f 71, f 72, f 73, f 74, f 75, f 76, f 77, f 78, f 79, f 80, f 81, f 82, f 83, f 84, f 85, f 86, f 87, f 88, f 89, f 90, f 91, f 92, f 93, f 94, f 95, f 96, f 97, f 98, f 99, f 100, f 101, f 102, f 103, f 104, f 105, f 106, f 107, f 108, f 109, f 110, f 111, f 112, f 113, f 114], defers := [] } w) : cd.wpIn F n P Po a w := by
  obtain ⟨f, rfl⟩ := h.opn
  exact hk f

def CN0 (b Q Z x : Nat) (a : Act) : Prop := a.tmps.size = 115 ∧ a.defers = [] ∧ a.tmps.getD 5 undef = .pointer (some ⟨b + 1, 0, none⟩) ∧ a.tmps.getD 6 undef = .pointer (some ⟨b + 1 + 1, 0, none⟩) ∧ a.tmps.getD 7 undef = .pointer (some ⟨b + 1 + 1 + 1, 0, none⟩) ∧ a.tmps.getD 8 undef = .pointer (some ⟨Q, 0, none⟩) ∧ a.tmps.getD 13 undef = .pointer (some ⟨Z, 0, none⟩) ∧ a.tmps.getD 94 undef = .int .i64 (x : Int)
theorem CN0.opn {b Q Z x : Nat} {a : Act} (h : CN0 b Q Z x a) : ∃ f : Nat → Value, a = { tmps := #[f 0, f 1, f 2, f 3, f 4, .pointer (some ⟨b + 1, 0, none⟩), .pointer (some ⟨b + 1 + 1, 0, none⟩), .pointer (some ⟨b + 1 + 1 + 1, 0, none⟩), .pointer (some ⟨Q, 0, none⟩), f 9, f 10, f 11, f 12, .pointer (some ⟨Z, 0, none⟩), f 14, f 15, f 16, f 17, f 18, f 19, f 20, f 21, f 22, f 23, f 24, f 25, f 26, f 27, f 28, f 29, f 30, f 31, f 32, f 33, f 34, f 35, f 36, f 37, f 38, f 39, f 40, f 41, f 42, f 43, f 44, f 45, f 46, f 47, f 48, f 49, f 50, f 51, f 52, f 53, f 54, f 55, f 56, f 57, f 58, f 59, f 60, f 61, f 62, f 63, f 64, f 65, f 66, f 67, f 68, f 69, f 70, f 71, f 72, f 73, f 74, f 75, f 76, f 77, f 78, f 79, f 80, f 81, f 82, f 83, f 84, f 85, f 86, f 87, f 88, f 89, f 90, f 91, f 92, f 93, .int .i64 (x : Int), f 95, f 96, f 97, f 98, f 99, f 100, f 101, f 102, f 103, f 104, f 105, f 106, f 107, f 108, f 109, f 110, f 111, f 112, f 113, f 114], defers := [] } := by
  obtain ⟨hs, hd, g5, g6, g7, g8, g13, g94⟩ := h
  obtain ⟨t, d⟩ := a
  dsimp only at *
  have e := arr_range t 115 hs
  generalize hf : (fun i => t.getD i undef) = f at e
  have k : ∀ i, t.getD i undef = f i := fun i => congrFun hf i
  rw [k] at g5 g6 g7 g8 g13 g94
  refine ⟨f, ?_⟩
  rw [hd, e]
  congr 1
  show #[f 0, f 1, f 2, f 3, f 4, f 5, f 6, f 7, f 8, f 9, f 10, f 11, f 12, f 13, f 14, f 15, f 16, f 17, f 18, f 19, f 20, f 21, f 22, f 23, f 24, f 25, f 26, f 27, f 28, f 29, f 30, f 31, f 32, f 33, f 34, f 35, f 36, f 37, f 38, f 39, f 40, f 41, f 42, f 43, f 44, f 45, f 46, f 47, f 48, f 49, f 50, f 51, f 52, f 53, f 54, f 55, f 56, f 57, f 58, f 59, f 60, f 61, f 62, f 63, f 64, f 65, f 66, f 67, f 68, f 69, f 70, f 71, f 72, f 73, f 74, f 75, f 76, f 77, f 78, f 79, f 80, f 81, f 82, f 83, f 84, f 85, f 86, f 87, f 88, f 89, f 90, f 91, f 92, f 93, f 94, f 95, f 96, f 97, f 98, f 99, f 100, f 101, f 102, f 103, f 104, f 105, f 106, f 107, f 108, f 109, f 110, f 111, f 112, f 113, f 114] = _
  rw [g5, g6, g7, g8, g13, g94]
theorem CN0.wp {b Q Z x : Nat} {a : Act} {cd : Code} {F : Fence} {n : Nat} {P : Program} {Po : Exit → Act → World → Prop} {w : World} (h : CN0 b Q Z x a) (hk : ∀ f : Nat → Value, cd.wpIn F n P Po { tmps := #[f 0, f 1, f 2, f 3, f 4, .pointer (some ⟨b + 1, 0, none⟩), .pointer (some ⟨b + 1 + 1, 0, none⟩), .pointer (some ⟨b + 1 + 1 + 1, 0, none⟩), .pointer (some ⟨Q, 0, none⟩), f 9, f 10, f 11, f 12, .pointer (some ⟨Z, 0, none⟩), f 14, f 15, f 16, f 17, f 18, f 19, f 20, f 21, f 22, f 23, f 24, f 25, f 26, f 27, f 28, f 29, f 30, f 31, f 32, f 33, f 34, f 35, f 36, f 37, f 38, f 39, f 40, f 41, f 42, f 43, f 44, f 45, f 46, f 47, f 48, f 49, f 50, f 51, f 52, f 53, f 54, f 55, f 56, f 57, f 58, f 59, f 60, f 61, f 62, f 63, f 64, f 65, f 66, f 67, f 68, f 69, f 70, f 71, f 72, f 73, f 74, f 75, f 76, f 77, f 78, f 79, f 80, f 81, f 82, f 83, f 84, f 85, f 86, f 87, f 88, f 89, f 90, f 91, f 92, f 93, .int .i64 (x : Int), f 95, f 96, f 97, f 98, f 99, f 100, f 101, f 102, f 103, f 104, f 105, f 106, f 107, f 108, f 109, f 110, f 111, f 112, f 113, f 114], defers := [] } w) : cd.wpIn F n P Po a w := by
  obtain ⟨f, rfl⟩ := h.opn
  exact hk f

/-- The boxes of the two results. -/
def NV (w : World) (b : Nat) (v : Value) (y : Int) : Prop := w.heap[b]? = some (.cells #[v] 26 (0, 0)) ∧ w.heap[b + 1]? = some (.cells #[.int .i64 y] 31 (0, 0))
section
variable {w w' : World} {b : Nat} {v : Value} {y : Int}
theorem NV.c1 (h : NV w b v y) : w.cell? ⟨b, 0, none⟩ = some v := cell_of_row w _ 0 _ _ _ h.1
theorem NV.z1 (h : NV w b v y) : w.frozen? ⟨b, 0, none⟩ = false := frozen_of_row w _ 0 _ _ h.1
theorem NV.c2 (h : NV w b v y) : w.cell? ⟨b + 1, 0, none⟩ = some (.int .i64 y) := cell_of_row w _ 0 _ _ _ h.2
theorem NV.z2 (h : NV w b v y) : w.frozen? ⟨b + 1, 0, none⟩ = false := frozen_of_row w _ 0 _ _ h.2
theorem NV.set1 (h : NV w b v y) (z : Value) : NV (w.setCell ⟨b, 0, none⟩ z) b z y := ⟨one_setCell h.1, (heap_setCell_other w _ _ _ (by show b + 1 ≠ b; omega)).trans h.2⟩
theorem NV.set2 (h : NV w b v y) (z : Int) : NV (w.setCell ⟨b + 1, 0, none⟩ (.int .i64 z)) b v z := ⟨(heap_setCell_other w _ _ _ (by show b ≠ b + 1; omega)).trans h.1, one_setCell h.2⟩
theorem NV.drew (h : NV w b v y) : NV w.drew b v y := ⟨h.1, h.2⟩
theorem NV.lt (h : NV w b v y) : b + 1 < w.heap.size := lt_of_block h.2
theorem NV.same (h : NV w b v y) (h1 : w'.heap[b]? = w.heap[b]?) (h2 : w'.heap[b + 1]? = w.heap[b + 1]?) : NV w' b v y := ⟨h1.trans h.1, h2.trans h.2⟩
theorem NV.later (h : NV w b v y) {B : Nat} (hb : Below B w w') (hB : b + 2 ≤ B) : NV w' b v y := h.same (hb.block _ (by omega)) (hb.block _ (by omega))
theorem NV.fin (h : NV w b v y) (z : Value) (E : Int) : w.cell? ⟨b, 0, none⟩ = some v ∧ w.frozen? ⟨b, 0, none⟩ = false ∧ (w.setCell ⟨b, 0, none⟩ z).cell? ⟨b + 1, 0, none⟩ = some (.int .i64 y) ∧ (w.setCell ⟨b, 0, none⟩ z).frozen? ⟨b + 1, 0, none⟩ = false ∧
    NV ((w.setCell ⟨b, 0, none⟩ z).setCell ⟨b + 1, 0, none⟩ (.int .i64 E)) b z E ∧ ∀ (N : Nat) (w0 : World), Below N w0 w → N ≤ b → Below N w0 ((w.setCell ⟨b, 0, none⟩ z).setCell ⟨b + 1, 0, none⟩ (.int .i64 E)) :=
  ⟨h.c1, h.z1, (h.set1 z).c2, (h.set1 z).z2, (h.set1 z).set2 E, fun _ _ hb hN => (hb.setCell (p := ⟨b, 0, none⟩) hN _).setCell (p := ⟨b + 1, 0, none⟩) (Nat.le_succ_of_le hN) _⟩
/-- A list is not touched by the two results being stored, if the error is as it was. -/
theorem NV.rd (h : NV w b (.slice none 0 0) y) {A : Option Addr} {l : List Int} (hr : RdI w A l) (z : Value) : RdI ((w.setCell ⟨b, 0, none⟩ z).setCell ⟨b + 1, 0, none⟩ (.int .i64 y)) A l := by
  refine ⟨hr.1, fun h0 => ?_⟩
  obtain ⟨B, off, e, hb, hc⟩ := hr.2 h0
  refine ⟨B, off, e, by simpa using hb, fun j hj => ?_⟩
  have h1 := hc j hj
  have ne : (⟨b, 0, none⟩ : Addr) ≠ ⟨B, off + j, none⟩ := by
    intro e2
    rw [← e2, h.c1] at h1
    cases h1
  have h2 : (w.setCell ⟨b, 0, none⟩ z).cell? ⟨B, off + j, none⟩ = some (.int .i64 (l.getD j 0)) := (World.cell?_setCell_other _ _ _ _ ne).trans h1
  by_cases e2 : (⟨b + 1, 0, none⟩ : Addr) = ⟨B, off + j, none⟩
  · have h3 := (h.set1 z).c2
    rw [e2] at h3
    rw [h3] at h2
    have h4 := ((h.set1 z).set2 y).c2
    rw [e2] at h4
    rw [← h2]
    rw [e2]
    exact h4
  · exact (World.cell?_setCell_other _ _ _ _ e2).trans h2
end
theorem nxt_results {w : World} {b : Nat} {v : Value} {y : Int} (h : NV w b v y) {tmps : Array Value} (h4 : tmps.getD 6 undef = .pointer (some ⟨b, 0, none⟩)) (h5 : tmps.getD 7 undef = .pointer (some ⟨b + 1, 0, none⟩)) :
    (results Tryd.f18 tmps).run Tryd.prog w = .ok (.tuple #[v, .int .i64 y]) w := by
  have e1 := h.c1
  have e2 := h.c2
  have g4 : tmps[6]?.getD undef = .pointer (some ⟨b, 0, none⟩) := by rw [← h4]; simp
  have g5 : tmps[7]?.getD undef = .pointer (some ⟨b + 1, 0, none⟩) := by rw [← h5]; simp
  simp [results, Tryd.results18, go_sem, loadVar, isAgg, g4, g5, e1, e2]
/-- The world while Next looks for the place. -/
structure XW (w : World) (R n Q D m : Nat) (L F : Nat → Nat) (o : Value) (ds : List Deferred) (wr : World) : Prop where
  nv : NV wr (w.heap.size + 1 + 1) (.slice none 0 0) 0
  rows : SBo wr R n L
  dones : SBo wr D m F
  obox : wr.heap[w.heap.size + 1]? = some (.cells #[o] 26 (0, 0))
  rbox : wr.heap[Q]? = some (.cells #[.slice (some ⟨R, 0, none⟩) n n] 52 (0, 0))
  marks : Marks (D + 1) wr ds
  below : Below w.heap.size w wr
  lo : w.heap.size + 4 ≤ D
  lq : Q < D
  lr : R < D
  lq2 : w.heap.size + 4 ≤ Q
  lr2 : w.heap.size + 4 ≤ R
section
variable {w wr W : World} {R n Q D m : Nat} {L F : Nat → Nat} {o : Value} {ds : List Deferred}
theorem XW.kp {C : Nat → Prop} (h : XW w R n Q D m L F o ds wr) (hk : Kp C wr W) (hC : ∀ i, C i → D + 1 ≤ i ∧ wr.heap[i]? ≠ some (.deferred (some []))) : XW w R n Q D m L F o ds W := by
  have h1 := h.lo
  have h2 := h.lq
  have h3 := h.lr
  have h4 := WBo.lt h.dones
  have hs : ∀ i, i < D + 1 → W.heap[i]? = wr.heap[i]? := fun i hi => hk.same i (by omega) (fun c => by have := (hC i c).1; omega)
  refine ⟨h.nv.same (hs _ (by omega)) (hs _ (by omega)), (hs _ (by omega)).trans h.rows, (hs _ (by omega)).trans h.dones, (hs _ (by omega)).trans h.obox, (hs _ (by omega)).trans h.rbox, ?_, hk.under h.below (fun i c => by have := (hC i c).1; omega), h1, h2, h3, h.lq2, h.lr2⟩
  exact h.marks.later fun i hi hd => hk.same i (lt_of_block hd) fun c => (hC i c).2 hd
/-- One more mark. -/
theorem XW.more (h : XW w R n Q D m L F o ds wr) (hk : Kp (fun i => i = w.heap.size + 1 + 1 ∨ i = w.heap.size + 1 + 1 + 1) wr W) (hn : NV W (w.heap.size + 1 + 1) (.slice none 0 0) 0) {r : Nat} (hr : wr.heap.size ≤ r) (hd : W.heap[r]? = some (.deferred (some []))) :
    XW w R n Q D m L F o ({ target := .collected r, args := #[] } :: ds) W := by
  have h1 := h.lo
  have h2 := h.lq
  have h3 := h.lr
  have h4 := WBo.lt h.dones
  have h5 := h.lq2
  have h6 := h.lr2
  have hs : ∀ i, i < wr.heap.size → i ≠ w.heap.size + 1 + 1 → i ≠ w.heap.size + 1 + 1 + 1 → W.heap[i]? = wr.heap[i]? := fun i hi n1 n2 => hk.same i hi (fun c => by omega)
  refine ⟨hn, (hs _ (by omega) (by omega) (by omega)).trans h.rows, (hs _ (by omega) (by omega) (by omega)).trans h.dones, (hs _ (by omega) (by omega) (by omega)).trans h.obox, (hs _ (by omega) (by omega) (by omega)).trans h.rbox, ?_, hk.under h.below (fun i c => by omega), h1, h2, h3, h5, h6⟩
  exact h.marks.more hr (by omega) (fun i hi _ hB => hs i hi (by omega) (by omega)) hd
end
/-- A part is left on its way, or by a return. -/
def BlkPostR (Qn Qr : Act → World → Prop) : Exit → Act → World → Prop
  | .normal, a, w => Qn a w
  | .ret, a, w => Qr a w
  | _, _, _ => False
theorem at_seq_ret {f : FuncId} {P : Program} {x y : Code} {Q : Exit → Act → World → Prop} {a : Act} {w : World} (Qn Qr : Act → World → Prop)
    (h : CodeAt f P x (BlkPostR Qn Qr) a w) (hy : ∀ a w, Qn a w → CodeAt f P y Q a w) (hr : ∀ a w, Qr a w → Q .ret a w) : CodeAt f P (Code.seq x y) Q a w := by
  refine at_seq (at_mono h ?_)
  intro e a w h
  cases e with
  | normal => exact hy a w h
  | ret => exact hr a w h
  | panic ch => exact h.elim
  | exit id => exact h.elim
  | goto id => exact h.elim
  | outgrown => exact h.elim
end Go.Proofs.YtlpfecjkkgccgaaDoor
/- One round of Next's range over the ways. -/
namespace Go.Proofs.YtlpfecjkkgccgaaDoor
open Go.RowKit
attribute [local go_sem] Oper.semAt_some

theorem RecO.cell {n : Nat} {A B : World} (h : RecO n A B) {b o : Nat} {v : Value} (hc : A.cell? ⟨b, o, none⟩ = some v) : B.cell? ⟨b, o, none⟩ = some v := by
  rw [← hc]
  refine World.cell?_of_block ?_
  unfold World.cell? at hc
  dsimp only at hc
  cases hA : A.heap[b]? with
  | none => rw [hA] at hc; simp at hc
  | some ob =>
    cases ob with
    | cells cs T z => rw [← hA]; exact h.cells b cs T z hA
    | _ => rw [hA] at hc; simp at hc
theorem RecO.rdV {n : Nat} {A B : World} (h : RecO n A B) {v : Value} {l : List Int} (hr : RdV A v l) : RdV B v l := by
  obtain ⟨Ad, c, rfl, h1, h2⟩ := hr
  refine ⟨Ad, c, rfl, h1, fun h0 => ?_⟩
  obtain ⟨b, off, e, hb, hc⟩ := h2 h0
  exact ⟨b, off, e, Nat.lt_of_lt_of_le hb h.below.size, fun j hj => h.cell (hc j hj)⟩
/-- A list is not touched by marks that are shut. -/
theorem Shut.rdV {n : Nat} {w w' : World} (hs : Shut n w w') {v : Value} {l : List Int} (hr : RdV w v l) : RdV w' v l := by
  obtain ⟨Ad, c, rfl, h1, h2⟩ := hr
  refine ⟨Ad, c, rfl, h1, fun h0 => ?_⟩
  obtain ⟨b, off, e, hb, hc⟩ := h2 h0
  refine ⟨b, off, e, by rw [hs.size]; exact hb, fun j hj => ?_⟩
  rw [← hc j hj]
  refine World.cell?_of_block (hs.same b (.inr ?_))
  intro hd
  have := hc j hj
  unfold World.cell? at this
  rw [hd] at this
  simp at this
theorem opwp_appI_Tryd {o : Oper} {a : Act} {K : Act → World → Prop} {Q : Exit → Act → World → Prop} {w : World} (s x : Operand)
    (ho : o.op = .call { callee := .builtin .append, args := #[s, x], argTypes := #[26, 26] })
    (base : Nat) (v : Value) (xs : List Int) (hs : a.eval s = v) (hown : w.ownsRow base 3 1 v xs.length (ints xs)) (A : Option Addr) (c : Nat) (l : List Int) (hx : a.eval x = .slice A l.length c) (hrd : RdI w A l)
    (hn : xs.length + l.length ≤ 1000000) (hbase : base ≤ w.heap.size)
    (h : ∀ v' w', w'.ownsRow base 3 1 v' (xs ++ l).length (ints (xs ++ l)) → w.grownBy w' v.ownBlock → (v'.ownBlock = v.ownBlock ∨ v'.ownBlock = some w.heap.size) → K (a.put o.dst v') w') :
    o.wp Tryd.prog a w K Q := by
  obtain ⟨v', w', hr, h2, h3, h4⟩ := run_appI_Tryd w base v xs hown A c l hrd hn hbase o.type
  unfold Oper.wp execOp
  simp only [ho, resolve, invoke, builtin, Sem.run_bind, Sem.run_pure, Result.andThen_ok, List.map_toArray, List.map_cons, List.map_nil, hs, hx, hr]
  exact h v' w' h2 h3 h4
/-- All that has run is a work. -/
theorem run_mem {n : Nat} {L : Nat → Nat} : ∀ {l : List Int} {S T : Nat}, pRun n L S l = some T → ∀ y ∈ l, ∃ k : Nat, y = k ∧ k < n
  | [], _, _, _, _, h => by cases h
  | x :: l, S, T, h, y, hy => by
    obtain ⟨k, rfl, hk, hf, _⟩ := pRun_cons (by rw [h]; rfl)
    rw [pRun_nat hk hf] at h
    rcases List.mem_cons.1 hy with rfl | hy
    · exact ⟨k, rfl, hk⟩
    · exact run_mem h y hy
/-- What has run, at each place. -/
def dnF (n : Nat) (L : Nat → Nat) (l : List Int) (k j : Nat) : Nat := if j ≤ k then (pRun n L 0 (l.take j)).getD 0 else 0

/-- The body of the first range over a function. -/
def rfBody : Code → Option Code
  | .rangeFunc _ _ _ b => some b
  | .loop c => rfBody c
  | .block _ c => rfBody c
  | .scope c => rfBody c
  | .seq a b => match rfBody a with
    | some c => some c
    | none => rfBody b
  | .cond _ a b => match rfBody a with
    | some c => some c
    | none => rfBody b
  | _ => none
set_option maxRecDepth 100000 in
set_option maxHeartbeats 8000000 in
/-- A round that finds the greater work. -/
theorem nxtB_ (cd : Code) (hcd : Tryd.f18.body.bind rfBody = some cd) (b Q Z x x' k R n len oc bl ol l' : Nat) (L : Nat → Nat) (q0 rl : List Int) (f : Nat → Value) (W : World) (C : Nat → Prop) (I : World → Prop) (Ix : Code → World → Prop)
    (hgt : x < x') (d1 : W.cell? ⟨b + 1, 0, none⟩ = some (.slice (some ⟨bl, ol, none⟩) len oc)) (d2 : W.cell? ⟨Z, 0, none⟩ = some (.int .i64 (k : Int))) (d3 : W.cell? ⟨bl, ol + k, none⟩ = some (.int .i64 (x : Int))) (d4 : W.cell? ⟨Q, 0, none⟩ = some (.slice (some ⟨R, 0, none⟩) n n))
    (hk : k < len) (hlen : len ≤ 2000) (hoc : len ≤ oc) (hkn : k < n) (hn : n ≤ 400) (hx' : x' < n) (hR : SBo W R n L) (hLn : ∀ b, b < n → ∀ a, (L b).testBit a = true → a < n) (hq0 : q0.length = k) (hrdk : RdI W (some ⟨bl, ol, none⟩) q0) (hin0 : ∀ y ∈ q0, 0 ≤ y ∧ y < (n : Int))
    (hrl : goO n L (n - (k + 1)) (setL (q0 ++ [(x' : Int)])) = some rl) (hnv : NV W (b + 1 + 1) (.slice none 0 0) 0)
    (hIx : ∀ v W', NV W' (b + 1 + 1) v 0 → RdV W' v (q0 ++ (x' : Int) :: rl) → capOk v → Kp (fun i => i = b + 1 + 1 ∨ i = b + 1 + 1 + 1) W W' → Kp C W W' ∧ Ix .ret W') :
    cd.wpIn (Fence.wide.inRound l') 1 Tryd.prog (iterPostS C I Ix (fun _ _ => False) W) { tmps := #[f 0, f 1, f 2, f 3, f 4, .pointer (some ⟨b + 1, 0, none⟩), .pointer (some ⟨b + 1 + 1, 0, none⟩), .pointer (some ⟨b + 1 + 1 + 1, 0, none⟩), .pointer (some ⟨Q, 0, none⟩), f 9, f 10, f 11, f 12, .pointer (some ⟨Z, 0, none⟩), .int .i64 (x' : Int), f 15, f 16, f 17, f 18, f 19, f 20, f 21, f 22, f 23, f 24, f 25, f 26, f 27, f 28, f 29, f 30, f 31, f 32, f 33, f 34, f 35, f 36, f 37, f 38, f 39, f 40, f 41, f 42, f 43, f 44, f 45, f 46, f 47, f 48, f 49, f 50, f 51, f 52, f 53, f 54, f 55, f 56, f 57, f 58, f 59, f 60, f 61, f 62, f 63, f 64, f 65, f 66, f 67, f 68, f 69, f 70, f 71, f 72, f 73, f 74, f 75, f 76, f 77, f 78, f 79, f 80, f 81, f 82, f 83, f 84, f 85, f 86, f 87, f 88, f 89, f 90, f 91, f 92, f 93, f 94, f 95, f 96, f 97, f 98, f 99, f 100, f 101, f 102, f 103, f 104, f 105, f 106, f 107, f 108, f 109, f 110, f 111, f 112, f 113, f 114], defers := [] } W := by
  obtain rfl := Option.some.inj (hcd.symm.trans (rfl : _ = some _))
  clear hcd
  have g1 : decide (x < x') = true := by simpa using hgt
  have g2 : (x : Int) < (x' : Int) := by omega
  have g3 : (k : Int) ≤ (oc : Int) := by omega
  have m3 : (k : Int) < (len : Int) := by omega
  have hmx : Tryd.prog.follows .mixedOrders = true := by kernel_rfl
  have l1 := World.block_lt_of_cell? W _ d1
  have l2 := World.block_lt_of_cell? W _ d2
  have l4 := World.block_lt_of_cell? W _ d4
  have l5 := hR.lt
  dsimp only at l1 l2 l4
  have HR := Lib.hid hR; have HLN := Lib.hid hLn; have HRDK := Lib.hid hrdk; have HIN0 := Lib.hid hin0; have HRL := Lib.hid hrl; have HNV := Lib.hid hnv; have HIX := Lib.hid hIx; have HQ0 := Lib.hid hq0; clear hR hLn hrdk hin0 hrl hnv hIx hq0
  gi_wp2
  refine wpIn_region_held (S := fun W' => W'.cell? ⟨Q, 0, none⟩ = some (.slice (some ⟨R, 0, none⟩) n n) ∧ W'.cell? ⟨b + 1, 0, none⟩ = some (.slice (some ⟨bl, ol, none⟩) len oc) ∧ W'.cell? ⟨Z, 0, none⟩ = some (.int .i64 (k : Int))) (by kernel_rfl) (by kernel_rfl) ?_ ⟨d4, d1, d2⟩ (fun hHeld => ?_)
  · rintro ⟨a, w, h⟩
    exact h
  refine takeH (i := 0) (v := ?nbv0) rfl rfl (by kernel_rfl) (by kernel_rfl) (by kernel_rfl) (fun _ _ _ _ => ⟨fun h _ => h, fun h => h #[]⟩) (by rfl) hHeld ?nby0 ?nbr0
  case nby0 =>
    intro W' hSw
    obtain ⟨s1, s2, s3⟩ := hSw
    go_simp
    try with_reducible rfl
  simp only [List.setIfInBounds_toArray, List.set_cons_zero, List.set_cons_succ]
  refine takeH (i := 1) (v := ?nbv1) rfl rfl (by kernel_rfl) (by kernel_rfl) (by kernel_rfl) (fun _ _ _ _ => ⟨fun h _ => h, fun h => h #[]⟩) (by rfl) hHeld ?nby1 ?nbr1
  case nby1 =>
    intro W' hSw
    obtain ⟨s1, s2, s3⟩ := hSw
    go_simp
    try with_reducible rfl
  simp only [List.setIfInBounds_toArray, List.set_cons_zero, List.set_cons_succ]
  refine takeH (i := 2) (v := ?nbv2) rfl rfl (by kernel_rfl) (by kernel_rfl) (by kernel_rfl) (fun _ _ _ _ => ⟨fun h _ => h, fun h => h #[]⟩) (by rfl) hHeld ?nby2 ?nbr2
  case nby2 =>
    intro W' hSw
    obtain ⟨s1, s2, s3⟩ := hSw
    go_simp
    try with_reducible rfl
  simp only [List.setIfInBounds_toArray, List.set_cons_zero, List.set_cons_succ]
  refine takeH (i := 3) (v := ?nbv3) rfl rfl (by kernel_rfl) (by kernel_rfl) (by kernel_rfl) (fun _ _ _ _ => ⟨fun h _ => h, fun h => h #[]⟩) (by rfl) hHeld ?nby3 ?nbr3
  case nby3 =>
    intro W' hSw
    obtain ⟨s1, s2, s3⟩ := hSw
    go_simp
    try with_reducible rfl
  simp only [List.setIfInBounds_toArray, List.set_cons_zero, List.set_cons_succ]
  refine takeH (i := 5) (v := ?nbv5) rfl rfl (by kernel_rfl) (by kernel_rfl) (by kernel_rfl) (fun _ _ _ _ => ⟨fun h _ => h, fun h => h #[]⟩) (by rfl) hHeld ?nby5 ?nbr5
  case nby5 =>
    intro W' hSw
    obtain ⟨s1, s2, s3⟩ := hSw
    go_simp
    try with_reducible rfl
  simp only [List.setIfInBounds_toArray, List.set_cons_zero, List.set_cons_succ]
  have hb0 : Below W.heap.size W W.drew := (Below.refl W.heap.size W).drew
  have hS : ∀ W', Below W.heap.size W W' → W'.cell? ⟨Q, 0, none⟩ = some (.slice (some ⟨R, 0, none⟩) n n) ∧ W'.cell? ⟨b + 1, 0, none⟩ = some (.slice (some ⟨bl, ol, none⟩) len oc) ∧ W'.cell? ⟨Z, 0, none⟩ = some (.int .i64 (k : Int)) := fun W' hb => ⟨(hb.cell (p := ⟨Q, 0, none⟩) l4).trans d4, (hb.cell (p := ⟨b + 1, 0, none⟩) l1).trans d1, (hb.cell (p := ⟨Z, 0, none⟩) l2).trans d2⟩
  have HB0 := Lib.hid hb0; clear hb0
  refine wpAnyH_ready (rs := [4, 6]) (by kernel_rfl) (by simp) ?_
  refine AllReadyH.cons rfl (fun K hK => ?_) (AllReadyH.cons rfl (fun K hK => ?_) AllReadyH.nil)
  · skip
    rw [if_pos (by rfl)]
    refine opwp_appI_Tryd _ _ rfl W.heap.size (.slice none 0 0) [] rfl (World.ownsRow_nil _ _ _ _) (some ⟨bl, ol, none⟩) oc q0 (by show Value.slice _ k oc = .slice _ q0.length oc; rw [HQ0.out]) (HRDK.out.later HB0.out (Nat.le_refl _)) (by rw [HQ0.out]; simp; omega) HB0.out.size ?_
    intro v3 W3 hown3 hgrow3 hat3
    rw [List.nil_append] at hown3
    have hb30 := HB0.out.grown hgrow3 HB0.out.size (fun k hk => by simp [Value.ownBlock] at hk)
    refine hK.out _ _ (hS W3 hb30) (fun hHeld => ?_)
    clear hK K
    refine wpAnyH_ready (rs := [6]) (by kernel_rfl) (by simp) ?_
    refine AllReadyH.cons rfl (fun K hK => ?_) AllReadyH.nil
    go_simp
    have hb5 := hb30.alloc hb30.size (.cells #[.int .i64 (x' : Int)] 3)
    refine hK.out _ _ (hS _ hb5) (fun hHeld => ?_)
    clear hK K
    have hown5 := hown3.alloc (.cells #[.int .i64 (x' : Int)] 3)
    have hrd5 : RdI (W3.alloc (.cells #[.int .i64 (x' : Int)] 3)) (some ⟨W3.heap.size, 0, none⟩) [(x' : Int)] := ⟨by simp, own_rd (own_one (heap_alloc_new W3 (.cells #[.int .i64 (x' : Int)] 3)))⟩
    obtain ⟨g5, hg5⟩ : ∃ g5, W3.heap.size = g5 := ⟨_, rfl⟩
    rw [hg5] at hrd5 ⊢
    generalize W3.alloc (.cells #[.int .i64 (x' : Int)] 3) = W5 at *
    refine wpAnyH_ready (rs := [7]) (by kernel_rfl) (by simp) ?_
    refine AllReadyH.cons rfl (fun K hK => ?_) AllReadyH.nil
    rw [if_pos (by rfl)]
    refine opwp_appI_Tryd _ _ rfl W.heap.size v3 q0 rfl hown5 (some ⟨g5, 0, none⟩) 1 [(x' : Int)] rfl hrd5 (by rw [HQ0.out]; simp; omega) hb5.size ?_
    intro v6 W6 hown6 hgrow6 hat6
    have hb6 : Below W.heap.size W W6 := hb5.grown hgrow6 hb5.size (fun k hk => by have := (hown5.lt _ hk).1; omega)
    obtain ⟨VA, VC, rfl⟩ := own_slice1 hown6
    have hcap6 := capOk_own hown6
    have hlenl : (q0 ++ [(x' : Int)]).length = k + 1 := by rw [List.length_append, HQ0.out]; rfl
    have hrd6 : RdI W6 VA (q0 ++ [(x' : Int)]) := ⟨by rw [hlenl]; omega, own_rd hown6⟩
    have hin : ∀ y ∈ q0 ++ [(x' : Int)], 0 ≤ y ∧ y < (n : Int) := fun y hy => by
      rcases List.mem_append.1 hy with h | h
      · exact HIN0.out y h
      · rw [List.mem_singleton] at h; omega
    have hrl2 := HRL.out
    have hfin : q0 ++ [(x' : Int)] ++ rl = q0 ++ (x' : Int) :: rl := by simp
    generalize q0 ++ [(x' : Int)] = q at *
    clear hown6 hgrow6 hat6 hown5 hrd5
    refine hK.out _ _ (hS W6 hb6) (fun hHeld => ?_)
    clear hK K
    have hR6 : SBo W6 R n L := (hb6.block R l5).trans HR.out
    have hgoP := goOn_ R n n VC L VA q W6 hn HLN.out hR6 hrd6 (by omega) hin
    rw [show n - q.length = n - (k + 1) by omega, hrl2, hlenl] at hgoP
    have HGOP := Lib.hid hgoP; have HR6 := Lib.hid hR6; have HRD6 := Lib.hid hrd6; have HCAP6 := Lib.hid hcap6; have HIN := Lib.hid hin; have HRL2 := Lib.hid hrl2; have HFIN := Lib.hid hfin; clear hgoP hR6 hrd6 hcap6 hin hrl2 hfin
    refine wpAnyH_ready (rs := [8]) (by kernel_rfl) (by simp) ?_
    refine AllReadyH.cons rfl (fun K hK => ?_) AllReadyH.nil
    go_simp
    refine HGOP.out.mono ?_
    rintro e W8 ⟨hg1, _, hb8⟩
    obtain ⟨v, rfl, hrv, hcv⟩ := hg1 _ rfl
    have hb9 := hb6.trans (hb8.mono hb6.size)
    refine hK.out _ _ (hS W8 hb9) (fun hHeld => ?_)
    clear hK K
    refine takeH (i := 9) (v := ?ncv9) rfl rfl (by kernel_rfl) (by kernel_rfl) (by kernel_rfl) (fun _ _ _ _ => ⟨fun h _ => h, fun h => h #[]⟩) (by rfl) hHeld ?ncy9 ?ncr9
    case ncy9 =>
      intro W' hSw
      go_simp
      try with_reducible rfl
    simp only [List.setIfInBounds_toArray, List.set_cons_zero, List.set_cons_succ]
    refine takeH (i := 10) (v := ?ncv10) rfl rfl (by kernel_rfl) (by kernel_rfl) (by kernel_rfl) (fun _ _ _ _ => ⟨fun h _ => h, fun h => h #[]⟩) (by rfl) hHeld ?ncy10 ?ncr10
    case ncy10 =>
      intro W' hSw
      go_simp
      try with_reducible rfl
    simp only [List.setIfInBounds_toArray, List.set_cons_zero, List.set_cons_succ]
    refine takeH (i := 11) (v := ?ncv11) rfl rfl (by kernel_rfl) (by kernel_rfl) (by kernel_rfl) (fun _ _ _ _ => ⟨fun h _ => h, fun h => h #[]⟩) (by rfl) hHeld ?ncy11 ?ncr11
    case ncy11 =>
      intro W' hSw
      go_simp
      try with_reducible rfl
    simp only [List.setIfInBounds_toArray, List.set_cons_zero, List.set_cons_succ]
    refine takeH (i := 12) (v := ?ncv12) rfl rfl (by kernel_rfl) (by kernel_rfl) (by kernel_rfl) (fun _ _ _ _ => ⟨fun h _ => h, fun h => h #[]⟩) (by rfl) hHeld ?ncy12 ?ncr12
    case ncy12 =>
      intro W' hSw
      go_simp
      try with_reducible rfl
    simp only [List.setIfInBounds_toArray, List.set_cons_zero, List.set_cons_succ]
    refine takeH (i := 13) (v := ?ncv13) rfl rfl (by kernel_rfl) (by kernel_rfl) (by kernel_rfl) (fun _ _ _ _ => ⟨fun h _ => h, fun h => h #[]⟩) (by rfl) hHeld ?ncy13 ?ncr13
    case ncy13 =>
      intro W' hSw
      go_simp
      try with_reducible rfl
    simp only [List.setIfInBounds_toArray, List.set_cons_zero, List.set_cons_succ]
    refine wpAnyH_done (by kernel_rfl) ?_ _
    replace hrv : RdV W8 v (q ++ rl) := hrv
    rw [HFIN.out] at hrv
    obtain ⟨A9, c9, rfl, r9⟩ := hrv
    have hN9 := HNV.out.later hb9 (by have := HNV.out.lt; omega)
    obtain ⟨a1, a2, b1, b2, hN10, _⟩ := hN9.fin (.slice A9 (q0 ++ (x' : Int) :: rl).length c9) 0
    have hk9 := (Kp.of_below (fun i => i = b + 1 + 1 ∨ i = b + 1 + 1 + 1) hb9)
    have hr10 : RdV ((W8.setCell ⟨b + 1 + 1, 0, none⟩ (.slice A9 (q0 ++ (x' : Int) :: rl).length c9)).setCell ⟨b + 1 + 1 + 1, 0, none⟩ (.int .i64 0)) (.slice A9 (q0 ++ (x' : Int) :: rl).length c9) (q0 ++ (x' : Int) :: rl) := ⟨A9, c9, rfl, hN9.rd r9 _⟩
    have hk10 := (hk9.setCell (p := ⟨b + 1 + 1, 0, none⟩) (.inl (.inl rfl)) (.slice A9 (q0 ++ (x' : Int) :: rl).length c9)).setCell (p := ⟨b + 1 + 1 + 1, 0, none⟩) (.inl (.inr rfl)) (.int .i64 0)
    have hfinal := HIX.out _ _ hN10 hr10 hcv hk10
    clear hr10 hk10 hk9 hN10
    generalize (q0 ++ (x' : Int) :: rl).length = ql at *
    have HFINAL := Lib.hid hfinal; have HCV := Lib.hid hcv; have HN9 := Lib.hid hN9; have R9 := Lib.hid r9; have HB9 := Lib.hid hb9; have HB8 := Lib.hid hb8; clear hfinal hcv hN9 r9 hb9 hb8
    gi_wp2
    exact HFINAL.out
  · skip
    go_simp
    have hb1 : Below W.heap.size W (W.alloc (.cells #[.int .i64 (x' : Int)] 3)).drew := ((Below.refl _ W).alloc (Nat.le_refl _) _).drew
    have hrd1 : RdI (W.alloc (.cells #[.int .i64 (x' : Int)] 3)).drew (some ⟨W.heap.size, 0, none⟩) [(x' : Int)] := ⟨by simp, own_rd (own_one (heap_alloc_new W (.cells #[.int .i64 (x' : Int)] 3)))⟩
    refine hK.out _ _ (hS _ hb1) (fun hHeld => ?_)
    clear hK K
    generalize (W.alloc (.cells #[.int .i64 (x' : Int)] 3)).drew = W3 at *
    refine wpAnyH_ready (rs := [4]) (by kernel_rfl) (by simp) ?_
    refine AllReadyH.cons rfl (fun K hK => ?_) AllReadyH.nil
    rw [if_pos (by rfl)]
    refine opwp_appI_Tryd _ _ rfl W.heap.size (.slice none 0 0) [] rfl (World.ownsRow_nil _ _ _ _) (some ⟨bl, ol, none⟩) oc q0 (by show Value.slice _ k oc = .slice _ q0.length oc; rw [HQ0.out]) (HRDK.out.later hb1 (Nat.le_refl _)) (by rw [HQ0.out]; simp; omega) hb1.size ?_
    intro v3 W4 hown4 hgrow3 hat3
    rw [List.nil_append] at hown4
    have hb4 := hb1.grown hgrow3 hb1.size (fun k hk => by simp [Value.ownBlock] at hk)
    have hrd4 := hrd1.later ((Below.refl W3.heap.size W3).grown hgrow3 (Nat.le_refl _) (fun k hk => by simp [Value.ownBlock] at hk)) (Nat.le_refl _)
    refine hK.out _ _ (hS W4 hb4) (fun hHeld => ?_)
    clear hK K hrd1 hgrow3 hat3
    refine wpAnyH_ready (rs := [7]) (by kernel_rfl) (by simp) ?_
    refine AllReadyH.cons rfl (fun K hK => ?_) AllReadyH.nil
    rw [if_pos (by rfl)]
    refine opwp_appI_Tryd _ _ rfl W.heap.size v3 q0 rfl hown4 (some ⟨W.heap.size, 0, none⟩) 1 [(x' : Int)] rfl hrd4 (by rw [HQ0.out]; simp; omega) hb4.size ?_
    intro v6 W6 hown6 hgrow6 hat6
    have hb6 : Below W.heap.size W W6 := hb4.grown hgrow6 hb4.size (fun k hk => by have := (hown4.lt _ hk).1; omega)
    obtain ⟨VA, VC, rfl⟩ := own_slice1 hown6
    have hcap6 := capOk_own hown6
    have hlenl : (q0 ++ [(x' : Int)]).length = k + 1 := by rw [List.length_append, HQ0.out]; rfl
    have hrd6 : RdI W6 VA (q0 ++ [(x' : Int)]) := ⟨by rw [hlenl]; omega, own_rd hown6⟩
    have hin : ∀ y ∈ q0 ++ [(x' : Int)], 0 ≤ y ∧ y < (n : Int) := fun y hy => by
      rcases List.mem_append.1 hy with h | h
      · exact HIN0.out y h
      · rw [List.mem_singleton] at h; omega
    have hrl2 := HRL.out
    have hfin : q0 ++ [(x' : Int)] ++ rl = q0 ++ (x' : Int) :: rl := by simp
    generalize q0 ++ [(x' : Int)] = q at *
    clear hown6 hgrow6 hat6 hown4 hrd4
    refine hK.out _ _ (hS W6 hb6) (fun hHeld => ?_)
    clear hK K
    have hR6 : SBo W6 R n L := (hb6.block R l5).trans HR.out
    have hgoP := goOn_ R n n VC L VA q W6 hn HLN.out hR6 hrd6 (by omega) hin
    rw [show n - q.length = n - (k + 1) by omega, hrl2, hlenl] at hgoP
    have HGOP := Lib.hid hgoP; have HR6 := Lib.hid hR6; have HRD6 := Lib.hid hrd6; have HCAP6 := Lib.hid hcap6; have HIN := Lib.hid hin; have HRL2 := Lib.hid hrl2; have HFIN := Lib.hid hfin; clear hgoP hR6 hrd6 hcap6 hin hrl2 hfin
    refine wpAnyH_ready (rs := [8]) (by kernel_rfl) (by simp) ?_
    refine AllReadyH.cons rfl (fun K hK => ?_) AllReadyH.nil
    go_simp
    refine HGOP.out.mono ?_
    rintro e W8 ⟨hg1, _, hb8⟩
    obtain ⟨v, rfl, hrv, hcv⟩ := hg1 _ rfl
    have hb9 := hb6.trans (hb8.mono hb6.size)
    refine hK.out _ _ (hS W8 hb9) (fun hHeld => ?_)
    clear hK K
    refine takeH (i := 9) (v := ?ndv9) rfl rfl (by kernel_rfl) (by kernel_rfl) (by kernel_rfl) (fun _ _ _ _ => ⟨fun h _ => h, fun h => h #[]⟩) (by rfl) hHeld ?ndy9 ?ndr9
    case ndy9 =>
      intro W' hSw
      go_simp
      try with_reducible rfl
    simp only [List.setIfInBounds_toArray, List.set_cons_zero, List.set_cons_succ]
    refine takeH (i := 10) (v := ?ndv10) rfl rfl (by kernel_rfl) (by kernel_rfl) (by kernel_rfl) (fun _ _ _ _ => ⟨fun h _ => h, fun h => h #[]⟩) (by rfl) hHeld ?ndy10 ?ndr10
    case ndy10 =>
      intro W' hSw
      go_simp
      try with_reducible rfl
    simp only [List.setIfInBounds_toArray, List.set_cons_zero, List.set_cons_succ]
    refine takeH (i := 11) (v := ?ndv11) rfl rfl (by kernel_rfl) (by kernel_rfl) (by kernel_rfl) (fun _ _ _ _ => ⟨fun h _ => h, fun h => h #[]⟩) (by rfl) hHeld ?ndy11 ?ndr11
    case ndy11 =>
      intro W' hSw
      go_simp
      try with_reducible rfl
    simp only [List.setIfInBounds_toArray, List.set_cons_zero, List.set_cons_succ]
    refine takeH (i := 12) (v := ?ndv12) rfl rfl (by kernel_rfl) (by kernel_rfl) (by kernel_rfl) (fun _ _ _ _ => ⟨fun h _ => h, fun h => h #[]⟩) (by rfl) hHeld ?ndy12 ?ndr12
    case ndy12 =>
      intro W' hSw
      go_simp
      try with_reducible rfl
    simp only [List.setIfInBounds_toArray, List.set_cons_zero, List.set_cons_succ]
    refine takeH (i := 13) (v := ?ndv13) rfl rfl (by kernel_rfl) (by kernel_rfl) (by kernel_rfl) (fun _ _ _ _ => ⟨fun h _ => h, fun h => h #[]⟩) (by rfl) hHeld ?ndy13 ?ndr13
    case ndy13 =>
      intro W' hSw
      go_simp
      try with_reducible rfl
    simp only [List.setIfInBounds_toArray, List.set_cons_zero, List.set_cons_succ]
    refine wpAnyH_done (by kernel_rfl) ?_ _
    replace hrv : RdV W8 v (q ++ rl) := hrv
    rw [HFIN.out] at hrv
    obtain ⟨A9, c9, rfl, r9⟩ := hrv
    have hN9 := HNV.out.later hb9 (by have := HNV.out.lt; omega)
    obtain ⟨a1, a2, b1, b2, hN10, _⟩ := hN9.fin (.slice A9 (q0 ++ (x' : Int) :: rl).length c9) 0
    have hk9 := (Kp.of_below (fun i => i = b + 1 + 1 ∨ i = b + 1 + 1 + 1) hb9)
    have hr10 : RdV ((W8.setCell ⟨b + 1 + 1, 0, none⟩ (.slice A9 (q0 ++ (x' : Int) :: rl).length c9)).setCell ⟨b + 1 + 1 + 1, 0, none⟩ (.int .i64 0)) (.slice A9 (q0 ++ (x' : Int) :: rl).length c9) (q0 ++ (x' : Int) :: rl) := ⟨A9, c9, rfl, hN9.rd r9 _⟩
    have hk10 := (hk9.setCell (p := ⟨b + 1 + 1, 0, none⟩) (.inl (.inl rfl)) (.slice A9 (q0 ++ (x' : Int) :: rl).length c9)).setCell (p := ⟨b + 1 + 1 + 1, 0, none⟩) (.inl (.inr rfl)) (.int .i64 0)
    have hfinal := HIX.out _ _ hN10 hr10 hcv hk10
    clear hr10 hk10 hk9 hN10
    generalize (q0 ++ (x' : Int) :: rl).length = ql at *
    have HFINAL := Lib.hid hfinal; have HCV := Lib.hid hcv; have HN9 := Lib.hid hN9; have R9 := Lib.hid r9; have HB9 := Lib.hid hb9; have HB8 := Lib.hid hb8; clear hfinal hcv hN9 r9 hb9 hb8
    gi_wp2
    exact HFINAL.out
end Go.Proofs.YtlpfecjkkgccgaaDoor
/- The program's Next. -/
namespace Go.Proofs.YtlpfecjkkgccgaaDoor
open Go.RowKit
attribute [local go_sem] Oper.semAt_some

set_option maxRecDepth 100000 in
set_option maxHeartbeats 8000000 in
theorem oNext_ (p : Int) (A Wa B : Option Addr) (c wc oc : Nat) (ws : List GW) (wl : List (Int × Int)) (l : List Int) (w : World) (ha : ShIn w p A ws) (hl : RdP w Wa wl) (ho : RdI w B l) (hol : l.length ≤ 2000) (hoc : l.length ≤ oc) :
    Calls Tryd.prog 18 #[.agg #[.int .i64 p, .slice A ws.length c], .slice Wa wl.length wc, .slice B l.length oc] w (ListPostC (nxtL p ws wl l) (nxtX p ws wl l) w) := by
  have hb2 : Below w.heap.size w (w.alloc (.cells #[.int .i64 p, .slice A ws.length c] 24)) := (Below.refl _ _).alloc (Nat.le_refl _) _
  have Y0 := Lib.hid hb2; clear hb2
  have X0 := Lib.hid (Box1.made w p A c ws.length 24)
  have HA := Lib.hid ha; have HL := Lib.hid hl; have HO := Lib.hid ho; clear ha hl ho
  refine (callsIn_wide (n := 3)).1 ?_
  refine callsIn_of_at Tryd.func18 rfl ?_
  simp only [Tryd.ntmps18, List.size_toArray, List.length_cons, List.length_nil, Nat.reduceAdd, Nat.reduceSub, Array.replicate_succ, Array.replicate_zero, List.push_toArray, List.append_toArray, List.nil_append, List.cons_append]
  refine at_seq (at_of_wp ?_)
  go_wp2_with fail
  obtain ⟨w3, hw3⟩ : ∃ w3, w3 = (((w.alloc (.cells #[.int .i64 p, .slice A ws.length c] 24)).alloc (.cells #[.slice B l.length oc] 26)).alloc (.cells #[.slice none 0 0] 26)).alloc (.cells #[.int .i64 0] 31) := ⟨_, rfl⟩
  have hb3 : Below (w.alloc (.cells #[.int .i64 p, .slice A ws.length c] 24)).heap.size (w.alloc (.cells #[.int .i64 p, .slice A ws.length c] 24)) w3 := by rw [hw3]; exact (((Below.refl _ _).alloc (Nat.le_refl _) _).alloc (by simp) _).alloc (by simp) _
  have hO3 : w3.heap[w.heap.size + 1]? = some (.cells #[.slice B l.length oc] 26 (0, 0)) := by
    have h1 := heap_alloc2_new w (.cells #[.int .i64 p, .slice A ws.length c] 24) (.cells #[.slice B l.length oc] 26)
    rw [hw3]
    exact (Below.heap_alloc _ _ _ (by simp)).trans ((Below.heap_alloc _ _ _ (by simp)).trans h1)
  have hN3 : NV w3 (w.heap.size + 1 + 1) (.slice none 0 0) 0 := by
    have h2 := heap_alloc_new ((w.alloc (.cells #[.int .i64 p, .slice A ws.length c] 24)).alloc (.cells #[.slice B l.length oc] 26)) (.cells #[.slice none 0 0] 26)
    have h3 := heap_alloc_new (((w.alloc (.cells #[.int .i64 p, .slice A ws.length c] 24)).alloc (.cells #[.slice B l.length oc] 26)).alloc (.cells #[.slice none 0 0] 26)) (.cells #[.int .i64 0] 31)
    rw [World.size_alloc, World.size_alloc] at h2
    rw [World.size_alloc, World.size_alloc, World.size_alloc] at h3
    rw [hw3]
    exact ⟨(Below.heap_alloc _ _ _ (by simp)).trans h2, h3⟩
  rw [← hw3]
  have X1 := Lib.hid (X0.out.later hb3)
  have Y1 := Lib.hid (Y0.out.trans (hb3.mono Y0.out.size))
  have hs3 : w.heap.size + 4 ≤ w3.heap.size := by have := hN3.lt; omega
  clear hb3 hw3 X0 Y0
  obtain ⟨c1, c2, s1⟩ := X1.out
  have HN3 := Lib.hid hN3; have HO3 := Lib.hid hO3; clear hN3 hO3
  refine at_seq (at_of_wp ?_)
  go_wp2_with fail
  refine (before_ p A Wa c wc ws wl _ (HA.out.later Y1.out (Nat.le_refl _)) (HL.out.later Y1.out (Nat.le_refl _))).mono ?_
  rintro e w4 ⟨hz, hn, hb4⟩
  have hN4 := HN3.out.later hb4 (by omega)
  have hO4 := (hb4.block _ (lt_of_block HO3.out)).trans HO3.out
  have hs4 := hb4.size
  have Y2 := Lib.hid (Y1.out.trans (hb4.mono Y1.out.size))
  clear hb4 c1 c2 X1 Y1 HN3 HO3
  have hm5 : ∀ v : Value, Below w4.heap.size w4 (w4.alloc (.cells #[v] 52)) := fun v => (Below.refl _ _).alloc (Nat.le_refl _) _
  by_cases he : errO p ws wl = 0
  rotate_left
  · obtain rfl := hn he
    have hx : nxtX p ws wl l = errO p ws wl := by unfold nxtX; rw [if_neg he]
    have hv : nxtL p ws wl l = [] := by unfold nxtL; rw [if_neg he]
    have heb : (errO p ws wl != 0) = true := by simpa using he
    clear hz hn
    generalize errO p ws wl = E at *
    have hN5 := hN4.later (hm5 (.slice none 0 0)) (by omega)
    have hb5 := Y2.out.trans ((hm5 (.slice none 0 0)).mono Y2.out.size)
    obtain ⟨a1, a2, b1, b2, hN7, hb7⟩ := hN5.fin (.slice none 0 0) E
    have hb7 := hb7 _ _ hb5 (by omega)
    have HE := Lib.hid he; have HX := Lib.hid hx; have HV := Lib.hid hv; have HN4 := Lib.hid hN4; have HN5 := Lib.hid hN5; have HB5 := Lib.hid hb5; have HN7 := Lib.hid hN7; have HB7 := Lib.hid hb7; have HO4 := Lib.hid hO4; clear he hx hv hN4 hN5 hb5 hN7 hb7 hO4
    go_wp2
    refine at_seq (at_of_wp ?_)
    go_wp2
    exact ⟨_, nxt_results HN7.out rfl rfl, .slice none 0 0, by rw [HX.out], by rw [HV.out]; exact RdV.nil _, (Nat.le_refl 0 : capOk (.slice none 0 0)), HB7.out⟩
  obtain ⟨R, rfl, hR, hRl⟩ := hz he
  have hx : nxtX p ws wl l = if ordB ws.length (LO ws wl) l = true then (if (nxtO ws wl l).isSome = true then 0 else 9) else 4 := by unfold nxtX; rw [if_pos he]
  have hv : nxtL p ws wl l = if ordB ws.length (LO ws wl) l = true then (nxtO ws wl l).getD [] else [] := by unfold nxtL; rw [if_pos he]
  have hn4 : ws.length ≤ 400 := by have := (okAll (errO_zero he).1).2.2.1; omega
  clear hz hn
  have hb5 := Y2.out.trans ((hm5 (.slice (some ⟨R, 0, none⟩) ws.length ws.length)).mono Y2.out.size)
  have hN5 := hN4.later (hm5 (.slice (some ⟨R, 0, none⟩) ws.length ws.length)) (by omega)
  have hR5 : SBo (w4.alloc (.cells #[.slice (some ⟨R, 0, none⟩) ws.length ws.length] 52)) R ws.length (LO ws wl) := ((hm5 _).block _ hR.lt).trans hR
  have hO5 := ((hm5 (.slice (some ⟨R, 0, none⟩) ws.length ws.length)).block _ (lt_of_block hO4)).trans hO4
  have hQ5 := heap_alloc_new w4 (.cells #[.slice (some ⟨R, 0, none⟩) ws.length ws.length] 52)
  have hRR := hR.lt
  clear hm5 Y2 hR
  have HE := Lib.hid he; have HX := Lib.hid hx; have HV := Lib.hid hv; have HN4 := Lib.hid hN4; have HO4 := Lib.hid hO4; clear he hx hv hN4 hO4
  go_wp2
  have s5 : (w4.alloc (.cells #[.slice (some ⟨R, 0, none⟩) ws.length ws.length] 52)).heap.size ≥ w4.heap.size + 1 := by simp
  generalize w4.alloc (.cells #[.slice (some ⟨R, 0, none⟩) ws.length ws.length] 52) = w5 at *
  refine at_seq (at_of_wp ?_)
  go_wp2
  -- the row of what is done
  obtain ⟨m, hm⟩ : ∃ m, m = l.length + 1 := ⟨_, rfl⟩
  have hmk := run_makeO_Tryd m (by omega)
  have e1 := cell_of_row _ _ 0 _ _ _ hO5
  have q1 : IntKind.i64.wrap ((l.length : Int) + 1) = (m : Int) := (IntWalk.i64_in _ (by omega)).trans (by omega)
  have HM := Lib.hid hm; clear hm
  refine at_seq (at_of_wp ?_)
  go_wp2
  have hD6 := sbo_made w5 m
  have hb6 : Below w5.heap.size w5 (w5.alloc (.cells (madeCells z7 (m * 7)) 68)) := (Below.refl _ _).alloc (Nat.le_refl _) _
  have s6 : (w5.alloc (.cells (madeCells z7 (m * 7)) 68)).heap.size ≥ w5.heap.size + 1 := by simp
  generalize w5.alloc (.cells (madeCells z7 (m * 7)) 68) = w6 at *
  have hN6 := hN5.later hb6 (by omega)
  have hR6 : SBo w6 R ws.length (LO ws wl) := (hb6.block R (by omega)).trans hR5
  have hO6 := (hb6.block _ (by omega)).trans hO5
  have hQ6 := (hb6.block _ (by omega)).trans hQ5
  have hbw6 := hb5.trans (hb6.mono hb5.size)
  clear hN5 hR5 hO5 hQ5 hb5 hb6 hmk e1 q1
  have e1 := cell_of_row _ _ 0 _ _ _ hO6
  have HN6 := Lib.hid hN6; have HR6 := Lib.hid hR6; have HO6 := Lib.hid hO6; have HQ6 := Lib.hid hQ6; have HBW6 := Lib.hid hbw6; have HD6 := Lib.hid hD6; clear hN6 hR6 hO6 hQ6 hbw6 hD6
  have hD0 : SBo w6 w5.heap.size m (dnF ws.length (LO ws wl) l 0) := WBo.congr HD6.out fun b k _ _ => by
    have : dnF ws.length (LO ws wl) l 0 b = 0 := by
      unfold dnF
      split
      · rename_i h; obtain rfl : b = 0 := by omega
        rfl
      · rfl
    rw [this]
  have hbd := Below.refl w5.heap.size w6
  have HD0 := Lib.hid hD0; have HBD := Lib.hid hbd; clear hD0 hbd
  refine at_seq (at_of_wp ?_)
  go_wp2
  go_loopw [32] (fun iv wr => ∃ (k S : Nat), iv = .int .i64 k ∧ k ≤ l.length ∧ pRun ws.length (LO ws wl) 0 (l.take k) = some S ∧ SBo wr w5.heap.size m (dnF ws.length (LO ws wl) l k) ∧ Below w5.heap.size w6 wr) (fun iv _ => l.length - (intOf iv).toNat)
  case atStart => exact ⟨0, 0, rfl, Nat.zero_le _, rfl, HD0.out, HBD.out⟩
  case round =>
    obtain ⟨k, S, rfl, hk, hrun, hD, hbr⟩ := hrel
    have hbw := HBW6.out.trans (hbr.mono (by have := HN6.out.lt; omega))
    have hN := HN6.out.later hbr (by omega)
    have hR : SBo wr R ws.length (LO ws wl) := (hbr.block R (by omega)).trans HR6.out
    have hO := (hbr.block _ (by omega)).trans HO6.out
    have hQ := (hbr.block _ (by omega)).trans HQ6.out
    clear e1
    by_cases hlt : k < l.length
    · obtain ⟨bl, ol, rfl, hbl, l1⟩ := (HO.out.later hbw (Nat.le_refl _)).at_ hlt
      have f1 : wr.cell? ⟨w4.heap.size, 0, none⟩ = some (.slice (some ⟨R, 0, none⟩) ws.length ws.length) := cell_of_row _ _ 0 _ _ _ hQ
      have x1 : (0 : Int) ≤ (k : Int) := by omega
      have x2 : (k : Int) < (l.length : Int) := by omega
      have x3 : (k : Int) < (m : Int) := by have := HM.out; omega
      have hbad : pStep ws.length (LO ws wl) S l[k] = none → nxtX p ws wl l = 4 ∧ nxtL p ws wl l = [] := fun h => by
        have h1 : ordB ws.length (LO ws wl) l = false := by
          unfold ordB
          rw [run_stop hlt hrun h, Bool.and_false]
        rw [HX.out, HV.out, h1]
        exact ⟨rfl, rfl⟩
      have hgood := fun T => run_on (T := T) hlt hrun
      have hSk : dnF ws.length (LO ws wl) l k k = S := by unfold dnF; rw [if_pos (Nat.le_refl _), hrun]; rfl
      generalize hxk : l[k] = x at *
      have hwrs := hbr.size
      have s8 : w4.heap.size < wr.heap.size := by omega
      by_cases c1 : x < 0
      · obtain ⟨hx2, hv2⟩ := hbad (by unfold pStep; rw [if_neg (by omega)])
        · clear hgood hbad hSk
          have HD := Lib.hid hD; have HBW := Lib.hid hbw; have HN := Lib.hid hN; have HR := Lib.hid hR; have HO := Lib.hid hO; have HQ := Lib.hid hQ; have HBR := Lib.hid hbr; have HRUN := Lib.hid hrun; have HX2 := Lib.hid hx2; have HV2 := Lib.hid hv2; clear hD hbw hN hR hO hQ hbr hrun hx2 hv2
          go_wp2
          have hbelc : ∀ (u : Bel wr.heap.size wr) b o, b < wr.heap.size → u.wd.cell? ⟨b, o, none⟩ = wr.cell? ⟨b, o, none⟩ := fun u b o h => u.h.cell (p := ⟨b, o, none⟩) h
          have hbeln : Nonempty (Bel wr.heap.size wr) := ⟨⟨wr, Below.refl _ _⟩⟩
          refine wp_region_bel wr.heap.size (by kernel_rfl) (by kernel_rfl) ?_
          repeat (go_big_quiet_step ((fail)))
          refine wpQuiet_nil ?_
          intro wB hB0; obtain ⟨uB, hu⟩ := hB0; have hbB0 := uB.h; rw [← hu] at hbB0; clear hu uB hbelc hbeln
          obtain ⟨hbB, hcB, hsB⟩ := bcell2 hbB0; clear hbB0
          have hN2 := HN.out.later hbB (by omega)
          obtain ⟨a1, a2, b1, b2, hN7, hb7⟩ := hN2.fin (.slice none 0 0) 4
          have hb7 := hb7 _ _ (HBW.out.trans (hbB.mono HBW.out.size)) (by omega)
          clear hbB hcB hsB
          have HN7 := Lib.hid hN7; have HB7 := Lib.hid hb7; have HN2 := Lib.hid hN2; clear hN7 hb7 hN2
          go_wp2
          exact ⟨_, nxt_results HN7.out rfl rfl, .slice none 0 0, by rw [HX2.out], by rw [HV2.out]; exact RdV.nil _, (Nat.le_refl 0 : capOk (.slice none 0 0)), HB7.out⟩
      by_cases c2 : (ws.length : Int) ≤ x
      · obtain ⟨hx2, hv2⟩ := hbad (by unfold pStep; rw [if_neg (by omega)])
        · have c1b : decide (x < 0) = false := by simpa using c1
          clear hgood hbad hSk
          have HD := Lib.hid hD; have HBW := Lib.hid hbw; have HN := Lib.hid hN; have HR := Lib.hid hR; have HO := Lib.hid hO; have HQ := Lib.hid hQ; have HBR := Lib.hid hbr; have HRUN := Lib.hid hrun; have HX2 := Lib.hid hx2; have HV2 := Lib.hid hv2; clear hD hbw hN hR hO hQ hbr hrun hx2 hv2
          go_wp2
          have hbelc : ∀ (u : Bel wr.heap.size wr) b o, b < wr.heap.size → u.wd.cell? ⟨b, o, none⟩ = wr.cell? ⟨b, o, none⟩ := fun u b o h => u.h.cell (p := ⟨b, o, none⟩) h
          have hbeln : Nonempty (Bel wr.heap.size wr) := ⟨⟨wr, Below.refl _ _⟩⟩
          refine wp_region_bel wr.heap.size (by kernel_rfl) (by kernel_rfl) ?_
          repeat (go_big_quiet_step ((fail)))
          refine wpQuiet_nil ?_
          intro wB hB0; obtain ⟨uB, hu⟩ := hB0; have hbB0 := uB.h; rw [← hu] at hbB0; clear hu uB hbelc hbeln
          obtain ⟨hbB, hcB, hsB⟩ := bcell2 hbB0; clear hbB0
          have hN2 := HN.out.later hbB (by omega)
          obtain ⟨a1, a2, b1, b2, hN7, hb7⟩ := hN2.fin (.slice none 0 0) 4
          have hb7 := hb7 _ _ (HBW.out.trans (hbB.mono HBW.out.size)) (by omega)
          clear hbB hcB hsB
          have HN7 := Lib.hid hN7; have HB7 := Lib.hid hb7; have HN2 := Lib.hid hN2; clear hN7 hb7 hN2
          go_wp2
          exact ⟨_, nxt_results HN7.out rfl rfl, .slice none 0 0, by rw [HX2.out], by rw [HV2.out]; exact RdV.nil _, (Nat.le_refl 0 : capOk (.slice none 0 0)), HB7.out⟩
      obtain ⟨i, rfl⟩ := Int.eq_ofNat_of_zero_le (show 0 ≤ x by omega)
      have hin : i < ws.length := by omega
      have c1b : decide ((i : Int) < 0) = false := by simp
      have c2b : decide ((ws.length : Int) ≤ (i : Int)) = false := by simp; omega
      have c2c : decide (ws.length ≤ i) = false := by simp; omega
      have c3b : (0 : Int) ≤ (i : Int) := by omega
      have c4b : (i : Int) < (ws.length : Int) := by omega
      have hat : SetAt wr w5.heap.size (k * 7) S := by
        have := SBo.at_ hD (show k < m by have := HM.out; omega)
        rwa [hSk] at this
      have hRa := SBo.at_ hR hin
      have hwin := win_free (F := LO ws wl i) (S := S) fun a ha => by have := LO_all (wl := wl) i hin a ha; omega
      have hhas : ∀ u : Bel wr.heap.size wr, Calls Tryd.prog 40 #[.pointer (some ⟨w5.heap.size, k * 7, none⟩), .int .i64 (i : Int)] u.wd fun e w' => e = .returned (.bool (S.testBit i)) ∧ u.wd = w' := fun u => owHas_ w5.heap.size (k * 7) S i u.wd (by omega) (hat.kept (u.h.block _ hat.lt))
      have hwi : ∀ u : Bel wr.heap.size wr, Calls Tryd.prog 41 #[.pointer (some ⟨R, i * 7, none⟩), .pointer (some ⟨w5.heap.size, k * 7, none⟩)] u.wd fun e w' => e = .returned (.bool (winN (LO ws wl i) S 7)) ∧ Below u.wd.heap.size u.wd w' := fun u => owWithin_ R (i * 7) w5.heap.size (k * 7) (LO ws wl i) S u.wd (hRa.kept (u.h.block R (WBo.lt hR))) (hat.kept (u.h.block _ hat.lt))
      have hstp : freeB (LO ws wl) S i = (!S.testBit i && winN (LO ws wl i) S 7) := by unfold freeB; rw [hwin]
      cases hb : S.testBit i with
      | true =>
        obtain ⟨hx2, hv2⟩ := hbad (by unfold pStep; rw [if_neg]; rintro ⟨_, _, h⟩; rw [Int.toNat_natCast, hstp, hb] at h; cases h)
        rw [hb] at hhas
        clear hgood hbad hwin hstp
        have HD := Lib.hid hD; have HBW := Lib.hid hbw; have HN := Lib.hid hN; have HR := Lib.hid hR; have HO := Lib.hid hO; have HQ := Lib.hid hQ; have HBR := Lib.hid hbr; have HRUN := Lib.hid hrun; have HX2 := Lib.hid hx2; have HV2 := Lib.hid hv2; have HHAS := Lib.hid hhas; have HWI := Lib.hid hwi; have HSK := Lib.hid hSk; have HAT := Lib.hid hat; have HRA := Lib.hid hRa; clear hD hbw hN hR hO hQ hbr hrun hx2 hv2 hhas hwi hSk hat hRa
        go_wp2
        have hbelc : ∀ (u : Bel wr.heap.size wr) b o, b < wr.heap.size → u.wd.cell? ⟨b, o, none⟩ = wr.cell? ⟨b, o, none⟩ := fun u b o h => u.h.cell (p := ⟨b, o, none⟩) h
        have hbeln : Nonempty (Bel wr.heap.size wr) := ⟨⟨wr, Below.refl _ _⟩⟩
        refine wp_region_bel wr.heap.size (by kernel_rfl) (by kernel_rfl) ?_
        repeat (go_big_quiet_step ((first | (go_at_call 40; exact quiet_bel_same (HHAS.out _)) | (go_at_call 41; exact quiet_bel (Nat.le_refl _) (HWI.out _)))))
        refine wpQuiet_nil ?_
        intro wB hB0; obtain ⟨uB, hu⟩ := hB0; have hbB0 := uB.h; rw [← hu] at hbB0; clear hu uB hbelc hbeln
        obtain ⟨hbB, hcB, hsB⟩ := bcell2 hbB0; clear hbB0
        have hN2 := HN.out.later hbB (by omega)
        obtain ⟨a1, a2, b1, b2, hN7, hb7⟩ := hN2.fin (.slice none 0 0) 4
        have hb7 := hb7 _ _ (HBW.out.trans (hbB.mono HBW.out.size)) (by omega)
        clear hbB hcB hsB
        have HN7 := Lib.hid hN7; have HB7 := Lib.hid hb7; have HN2 := Lib.hid hN2; clear hN7 hb7 hN2
        go_wp2
        exact ⟨_, nxt_results HN7.out rfl rfl, .slice none 0 0, by rw [HX2.out], by rw [HV2.out]; exact RdV.nil _, (Nat.le_refl 0 : capOk (.slice none 0 0)), HB7.out⟩
      | false =>
        rw [hb] at hhas
        cases hw : winN (LO ws wl i) S 7 with
        | false =>
          obtain ⟨hx2, hv2⟩ := hbad (by unfold pStep; rw [if_neg]; rintro ⟨_, _, h⟩; rw [Int.toNat_natCast, hstp, hb, hw] at h; cases h)
          rw [hw] at hwi
          clear hgood hbad hwin hstp
          have HD := Lib.hid hD; have HBW := Lib.hid hbw; have HN := Lib.hid hN; have HR := Lib.hid hR; have HO := Lib.hid hO; have HQ := Lib.hid hQ; have HBR := Lib.hid hbr; have HRUN := Lib.hid hrun; have HX2 := Lib.hid hx2; have HV2 := Lib.hid hv2; have HHAS := Lib.hid hhas; have HWI := Lib.hid hwi; have HSK := Lib.hid hSk; have HAT := Lib.hid hat; have HRA := Lib.hid hRa; clear hD hbw hN hR hO hQ hbr hrun hx2 hv2 hhas hwi hSk hat hRa
          go_wp2
          have hbelc : ∀ (u : Bel wr.heap.size wr) b o, b < wr.heap.size → u.wd.cell? ⟨b, o, none⟩ = wr.cell? ⟨b, o, none⟩ := fun u b o h => u.h.cell (p := ⟨b, o, none⟩) h
          have hbeln : Nonempty (Bel wr.heap.size wr) := ⟨⟨wr, Below.refl _ _⟩⟩
          refine wp_region_bel wr.heap.size (by kernel_rfl) (by kernel_rfl) ?_
          repeat (go_big_quiet_step ((first | (go_at_call 40; exact quiet_bel_same (HHAS.out _)) | (go_at_call 41; exact quiet_bel (Nat.le_refl _) (HWI.out _)))))
          refine wpQuiet_nil ?_
          intro wB hB0; obtain ⟨uB, hu⟩ := hB0; have hbB0 := uB.h; rw [← hu] at hbB0; clear hu uB hbelc hbeln
          obtain ⟨hbB, hcB, hsB⟩ := bcell2 hbB0; clear hbB0
          have hN2 := HN.out.later hbB (by omega)
          obtain ⟨a1, a2, b1, b2, hN7, hb7⟩ := hN2.fin (.slice none 0 0) 4
          have hb7 := hb7 _ _ (HBW.out.trans (hbB.mono HBW.out.size)) (by omega)
          clear hbB hcB hsB
          have HN7 := Lib.hid hN7; have HB7 := Lib.hid hb7; have HN2 := Lib.hid hN2; clear hN7 hb7 hN2
          go_wp2
          exact ⟨_, nxt_results HN7.out rfl rfl, .slice none 0 0, by rw [HX2.out], by rw [HV2.out]; exact RdV.nil _, (Nat.le_refl 0 : capOk (.slice none 0 0)), HB7.out⟩
        | true =>
          rw [hw] at hwi
          have hfr : freeB (LO ws wl) S i = true := by rw [hstp, hb, hw]; rfl
          have hrun2 := hgood _ (pStep_nat hin hfr)
          clear hgood hbad hwin hstp
          have HD := Lib.hid hD; have HBW := Lib.hid hbw; have HN := Lib.hid hN; have HR := Lib.hid hR; have HO := Lib.hid hO; have HQ := Lib.hid hQ; have HBR := Lib.hid hbr; have HRUN := Lib.hid hrun; have HHAS := Lib.hid hhas; have HWI := Lib.hid hwi; have HSK := Lib.hid hSk; have HAT := Lib.hid hat; have HRA := Lib.hid hRa; have HRUN2 := Lib.hid hrun2; have HFR := Lib.hid hfr; clear hD hbw hN hR hO hQ hbr hrun hhas hwi hSk hat hRa hrun2 hfr
          go_wp2
          have hbelc : ∀ (u : Bel wr.heap.size wr) b o, b < wr.heap.size → u.wd.cell? ⟨b, o, none⟩ = wr.cell? ⟨b, o, none⟩ := fun u b o h => u.h.cell (p := ⟨b, o, none⟩) h
          have hbeln : Nonempty (Bel wr.heap.size wr) := ⟨⟨wr, Below.refl _ _⟩⟩
          refine wp_region_bel wr.heap.size (by kernel_rfl) (by kernel_rfl) ?_
          repeat (go_big_quiet_step ((first | (go_at_call 40; exact quiet_bel_same (HHAS.out _)) | (go_at_call 41; exact quiet_bel (Nat.le_refl _) (HWI.out _)))))
          refine wpQuiet_nil ?_
          intro wB hB0; obtain ⟨uB, hu⟩ := hB0; have hbB0 := uB.h; rw [← hu] at hbB0; clear hu uB hbelc hbeln
          obtain ⟨hbB, hcB, hsB⟩ := bcell2 hbB0; clear hbB0
          have hDB : SBo wB w5.heap.size m (dnF ws.length (LO ws wl) l k) := (hbB.block _ (WBo.lt HD.out)).trans HD.out
          have haB := HAT.out.kept (hbB.block _ HAT.out.lt)
          obtain ⟨g0, _⟩ := haB 0 (by omega)
          obtain ⟨g1, _⟩ := haB 1 (by omega)
          obtain ⟨g2, _⟩ := haB 2 (by omega)
          obtain ⟨g3, _⟩ := haB 3 (by omega)
          obtain ⟨g4, _⟩ := haB 4 (by omega)
          obtain ⟨g5, _⟩ := haB 5 (by omega)
          obtain ⟨g6, _⟩ := haB 6 (by omega)
          rw [Nat.add_zero] at g0
          have x4 : (0 : Int) ≤ (k : Int) + 1 := by omega
          have x5 : (k : Int) + 1 < (m : Int) := by have := HM.out; omega
          have x6 : ((k : Int) + 1).toNat = k + 1 := by omega
          have q5 : IntKind.i64.wrap ((k : Int) + 1) = (k : Int) + 1 := IntWalk.i64_in _ (by omega)
          clear f1 hcB
          have HBB := Lib.hid hbB; have HDB := Lib.hid hDB; have HAB := Lib.hid haB; clear hbB hDB haB
          obtain ⟨p0, r0, p1, r1, p2, r2, p3, r3, p4, r4, p5, r5, p6, r6, hW7⟩ := WBo.row7 HDB.out (show k + 1 < m by have := HM.out; omega) (fun j => wd S j)
          have hS7 := SBo.at_ (F := updS (dnF ws.length (LO ws wl) l k) (k + 1) S) (WBo.congr hW7 fun x y _ _ => by unfold updS; by_cases h : x = k + 1 <;> simp [h]) (show k + 1 < m by have := HM.out; omega)
          have hb7 : Below w5.heap.size w6 (((((((wB.setCell ⟨w5.heap.size, (k + 1) * 7, none⟩ (.int .u64 (wd S 0 : Nat))).setCell ⟨w5.heap.size, (k + 1) * 7 + 1, none⟩ (.int .u64 (wd S 1 : Nat))).setCell ⟨w5.heap.size, (k + 1) * 7 + 2, none⟩ (.int .u64 (wd S 2 : Nat))).setCell ⟨w5.heap.size, (k + 1) * 7 + 3, none⟩ (.int .u64 (wd S 3 : Nat))).setCell ⟨w5.heap.size, (k + 1) * 7 + 4, none⟩ (.int .u64 (wd S 4 : Nat))).setCell ⟨w5.heap.size, (k + 1) * 7 + 5, none⟩ (.int .u64 (wd S 5 : Nat))).setCell ⟨w5.heap.size, (k + 1) * 7 + 6, none⟩ (.int .u64 (wd S 6 : Nat))) := ((((((((HBR.out.trans (HBB.out.mono (by omega))).setCell (p := ⟨w5.heap.size, (k + 1) * 7, none⟩) (Nat.le_refl _) _).setCell (p := ⟨w5.heap.size, (k + 1) * 7 + 1, none⟩) (Nat.le_refl _) _).setCell (p := ⟨w5.heap.size, (k + 1) * 7 + 2, none⟩) (Nat.le_refl _) _).setCell (p := ⟨w5.heap.size, (k + 1) * 7 + 3, none⟩) (Nat.le_refl _) _).setCell (p := ⟨w5.heap.size, (k + 1) * 7 + 4, none⟩) (Nat.le_refl _) _).setCell (p := ⟨w5.heap.size, (k + 1) * 7 + 5, none⟩) (Nat.le_refl _) _).setCell (p := ⟨w5.heap.size, (k + 1) * 7 + 6, none⟩) (Nat.le_refl _) _)
          have hS7 := hS7.ext (w' := (((((((wB.setCell ⟨w5.heap.size, (k + 1) * 7, none⟩ (.int .u64 (wd S 0 : Nat))).setCell ⟨w5.heap.size, (k + 1) * 7 + 1, none⟩ (.int .u64 (wd S 1 : Nat))).setCell ⟨w5.heap.size, (k + 1) * 7 + 2, none⟩ (.int .u64 (wd S 2 : Nat))).setCell ⟨w5.heap.size, (k + 1) * 7 + 3, none⟩ (.int .u64 (wd S 3 : Nat))).setCell ⟨w5.heap.size, (k + 1) * 7 + 4, none⟩ (.int .u64 (wd S 4 : Nat))).setCell ⟨w5.heap.size, (k + 1) * 7 + 5, none⟩ (.int .u64 (wd S 5 : Nat))).setCell ⟨w5.heap.size, (k + 1) * 7 + 6, none⟩ (.int .u64 (wd S 6 : Nat)))) (fun _ => rfl) (fun _ => rfl)
          have HW7 := Lib.hid hW7; have HS7 := Lib.hid hS7; have HB7 := Lib.hid hb7; clear hW7 hS7 hb7
          go_wp2_with fail
          clear p0 r0 p1 r1 p2 r2 p3 r3 p4 r4 p5 r5 p6 r6 g0 g1 g2 g3 g4 g5 g6
          generalize (((((((wB.setCell ⟨w5.heap.size, (k + 1) * 7, none⟩ (.int .u64 (wd S 0 : Nat))).setCell ⟨w5.heap.size, (k + 1) * 7 + 1, none⟩ (.int .u64 (wd S 1 : Nat))).setCell ⟨w5.heap.size, (k + 1) * 7 + 2, none⟩ (.int .u64 (wd S 2 : Nat))).setCell ⟨w5.heap.size, (k + 1) * 7 + 3, none⟩ (.int .u64 (wd S 3 : Nat))).setCell ⟨w5.heap.size, (k + 1) * 7 + 4, none⟩ (.int .u64 (wd S 4 : Nat))).setCell ⟨w5.heap.size, (k + 1) * 7 + 5, none⟩ (.int .u64 (wd S 5 : Nat))).setCell ⟨w5.heap.size, (k + 1) * 7 + 6, none⟩ (.int .u64 (wd S 6 : Nat))) = wE at *
          refine (owPut_ w5.heap.size ((k + 1) * 7) (updS (dnF ws.length (LO ws wl) l k) (k + 1) S (k + 1)) i wE (by omega) HS7.out).mono ?_
          rintro e w9 ⟨⟨v, rfl⟩, hw9⟩
          have hb9 : Below w5.heap.size w6 w9 := by rw [hw9]; exact (HB7.out.setCell (p := ⟨w5.heap.size, (k + 1) * 7 + i / 64, none⟩) (Nat.le_refl _) _).drew
          have hD9 : SBo w9 w5.heap.size m (dnF ws.length (LO ws wl) l (k + 1)) := by
            rw [hw9]
            have h1 := SBo.put (b := k + 1) (i := i) (F := updS (dnF ws.length (LO ws wl) l k) (k + 1) S) (WBo.congr HW7.out fun x y _ _ => by unfold updS; by_cases h : x = k + 1 <;> simp [h]) (by omega)
            refine WBo.congr h1 fun x y _ _ => ?_
            congr 1
            unfold updS dnF
            by_cases hx : x = k + 1
            · subst hx
              rw [if_pos rfl, if_pos rfl, if_pos (Nat.le_refl _), HRUN2.out]; rfl
            · rw [if_neg hx, if_neg hx]
              by_cases hxk : x ≤ k
              · rw [if_pos hxk, if_pos (by omega)]
              · rw [if_neg hxk, if_neg (by omega)]
          clear hw9
          have HB9 := Lib.hid hb9; have HD9 := Lib.hid hD9; clear hb9 hD9
          go_wp2
          go_roundw
          case rel => exact ⟨k + 1, _, by go_num, by omega, HRUN2.out, HD9.out, HB9.out⟩
          case measure => simp [intOf]; omega
    · obtain rfl : k = l.length := by omega
      rw [List.take_length] at hrun
      have e1 := cell_of_row _ _ 0 _ _ _ hO
      have e2 : wr.cell? ⟨w4.heap.size, 0, none⟩ = some (.slice (some ⟨R, 0, none⟩) ws.length ws.length) := cell_of_row _ _ 0 _ _ _ hQ
      have hwrs := hbr.size
      have lR := WBo.lt hR
      by_cases hlen : l.length = ws.length
      rotate_left
      · have hx2 : nxtX p ws wl l = 4 := by rw [HX.out, if_neg]; unfold ordB; simp [hlen]
        have hv2 : nxtL p ws wl l = [] := by rw [HV.out, if_neg]; unfold ordB; simp [hlen]
        have z1 : ((l.length : Int) != (ws.length : Int)) = true := by simp; omega
        obtain ⟨a1, a2, b1, b2, hN7, hb7⟩ := hN.fin (.slice none 0 0) 4
        have hb7 := hb7 _ _ hbw (by omega)
        have HD := Lib.hid hD; have HBW := Lib.hid hbw; have HN := Lib.hid hN; have HR := Lib.hid hR; have HO := Lib.hid hO; have HQ := Lib.hid hQ; have HBR := Lib.hid hbr; have HRUN := Lib.hid hrun; have HX2 := Lib.hid hx2; have HV2 := Lib.hid hv2; have HN7 := Lib.hid hN7; have HB7 := Lib.hid hb7; clear hD hbw hN hR hO hQ hbr hrun hx2 hv2 hN7 hb7
        go_wp2
        refine at_seq (at_of_wp ?_)
        go_wp2
        exact ⟨_, nxt_results HN7.out rfl rfl, .slice none 0 0, by rw [HX2.out], by rw [HV2.out]; exact RdV.nil _, (Nat.le_refl 0 : capOk (.slice none 0 0)), HB7.out⟩
      have hord : OrdL ws.length (LO ws wl) l := ⟨hlen, by rw [hrun]; rfl⟩
      have hx2 : nxtX p ws wl l = if (nxtO ws wl l).isSome = true then 0 else 9 := by rw [HX.out, if_pos (ordB_iff.2 hord)]
      have hv2 : nxtL p ws wl l = (nxtO ws wl l).getD [] := by rw [HV.out, if_pos (ordB_iff.2 hord)]
      have hC0 : XW w R ws.length w4.heap.size w5.heap.size m (LO ws wl) (dnF ws.length (LO ws wl) l l.length) (.slice B l.length oc) [] wr := ⟨hN, hR, hD, hO, hQ, trivial, hbw, by omega, by omega, by omega, by omega, by omega⟩
      have z1 : ((l.length : Int) != (ws.length : Int)) = false := by simp [hlen]
      have HD := Lib.hid hD; have HBW := Lib.hid hbw; have HN := Lib.hid hN; have HR := Lib.hid hR; have HO := Lib.hid hO; have HQ := Lib.hid hQ; have HBR := Lib.hid hbr; have HRUN := Lib.hid hrun; have HX2 := Lib.hid hx2; have HV2 := Lib.hid hv2; have HC0 := Lib.hid hC0; have HORD := Lib.hid hord; clear hD hbw hN hR hO hQ hbr hrun hx2 hv2 hC0 hord
      go_wp2
      refine at_seq (at_of_wp ?_)
      go_wp2
      refine at_seq (at_seq (at_of_wp ?_))
      go_wp2
      have hk7 : Kp (fun _ => False) wr (wr.alloc (.cells #[.int .i64 ((ws.length : Int) - 1)] 3)) := (Kp.refl _ wr).alloc _
      have hZ7 := heap_alloc_new wr (.cells #[.int .i64 ((ws.length : Int) - 1)] 3)
      have hC7 := HC0.out.kp hk7 (fun i h => h.elim)
      have lD := WBo.lt HD.out
      generalize wr.alloc (.cells #[.int .i64 ((ws.length : Int) - 1)] 3) = w7 at *
      refine at_block ?_
      refine at_loop (fun a' wr => ∃ (d : Int) (Z : Nat) (ds : List Deferred), CN w.heap.size w4.heap.size w5.heap.size m Z ds a' ∧ -1 ≤ d ∧ d ≤ (ws.length : Int) - 1 ∧ wr.heap[Z]? = some (.cells #[.int .i64 d] 3 (0, 0)) ∧ w5.heap.size + 1 ≤ Z ∧ nxtO ws wl l = nxK ws.length (LO ws wl) l (d + 1).toNat ∧ XW w R ws.length w4.heap.size w5.heap.size m (LO ws wl) (dnF ws.length (LO ws wl) l l.length) (.slice B l.length oc) ds wr) (fun a' wr => boxI wr (a'.tmps.getD 13 undef)) ?nxstart ?nxround
      case nxstart => exact ⟨(ws.length : Int) - 1, wr.heap.size, [], ⟨rfl, rfl, rfl, rfl, rfl, rfl, rfl, rfl⟩, by omega, by omega, hZ7, by omega, by unfold nxtO; congr 1; omega, hC7⟩
      case nxround =>
        clear hZ7 hC7 hk7 w7 e1 e2 HC0 HD HBW HN HR HO HQ HBR HN6 HR6 HO6 HQ6 HBW6 HD6 HD0 HBD
        rintro a' wr ⟨d, Z, ds, hA, hd1, hd2, hZ, hZl, hnx, hC⟩
        obtain ⟨f, rfl⟩ := hA.opn
        clear hA
        have e1 := cell_of_row _ Z 0 _ _ _ hZ
        have hboxI := boxI_is hZ
        have lZ := lt_of_block hZ
        by_cases hd0 : 0 ≤ d
        · obtain ⟨k, rfl⟩ := Int.eq_ofNat_of_zero_le hd0
          have hk : k < ws.length := by omega
          have e2 := cell_of_row _ _ 0 _ _ _ hC.rbox
          have HZ := Lib.hid hZ; have HC := Lib.hid hC; have HBOXI := Lib.hid hboxI; have HNX := Lib.hid hnx; clear hZ hC hboxI hnx
          refine at_seq (at_of_wp ?_)
          go_wp2
          refine at_seq_ret (fun a' W => ∃ ds : List Deferred, CN w.heap.size w4.heap.size w5.heap.size m Z ds a' ∧ W.heap[Z]? = some (.cells #[.int .i64 (k : Int)] 3 (0, 0)) ∧ nxtO ws wl l = nxK ws.length (LO ws wl) l k ∧ XW w R ws.length w4.heap.size w5.heap.size m (LO ws wl) (dnF ws.length (LO ws wl) l l.length) (.slice B l.length oc) ds W)
            (fun a' W => LeavesInM Fence.wide 3 Tryd.prog Tryd.f18 a'.tmps (ListPostC (nxtL p ws wl l) (nxtX p ws wl l) w) a'.defers .returning W) ?nxblk ?nxtl (fun a' W h => h)
          case nxtl =>
            clear e1 e2 HZ HC HNX
            rintro a' W ⟨ds, hA, hZ, hnx, hC⟩
            obtain ⟨f, rfl⟩ := hA.opn
            clear hA
            have e1 := cell_of_row _ Z 0 _ _ _ hZ
            have q4 : IntKind.i64.wrap ((k : Int) - 1) = (k : Int) - 1 := IntWalk.i64_in _ (by omega)
            have lM := WBo.lt hC.dones
            have hZ1 := heap_alloc_new W (.cells #[.int .i64 (k : Int)] 3)
            have hk1 : Kp (fun _ => False) W (W.alloc (.cells #[.int .i64 (k : Int)] 3)) := (Kp.refl _ W).alloc _
            have hC1 := hC.kp hk1 (fun i h => h.elim)
            have HZ := Lib.hid hZ; have HC := Lib.hid hC; have HZ1 := Lib.hid hZ1; have HC1 := Lib.hid hC1; have HK1 := Lib.hid hk1; have HNX := Lib.hid hnx; clear hZ hC hZ1 hC1 hk1 hnx
            refine at_seq (at_seq (at_of_wp ?_))
            go_wp2
            refine at_of_wp ?_
            go_wp2
            generalize W.alloc (.cells #[.int .i64 (k : Int)] 3) = W1 at *
            clear e1
            have e1 := cell_of_row _ _ 0 _ _ _ HZ1.out
            have e2 := frozen_of_row _ _ 0 _ _ HZ1.out
            have hZ2 : (W1.setCell ⟨W.heap.size, 0, none⟩ (.int .i64 ((k : Int) - 1))).heap[W.heap.size]? = some (.cells #[.int .i64 ((k : Int) - 1)] 3 (0, 0)) := one_setCell HZ1.out
            have hk2 : Kp (fun i => i = W.heap.size) W1 (W1.setCell ⟨W.heap.size, 0, none⟩ (.int .i64 ((k : Int) - 1))) := Kp.setCell (C := fun i => i = W.heap.size) (p := ⟨W.heap.size, 0, none⟩) (Kp.refl (fun i => i = W.heap.size) W1) (.inl rfl) _
            have hC2 := HC1.out.kp hk2 (fun i h => by subst h; exact ⟨by omega, by rw [HZ1.out]; simp⟩)
            have hms := boxI_is hZ2
            have HZ2 := Lib.hid hZ2; have HC2 := Lib.hid hC2; have HMS := Lib.hid hms; clear hZ2 hC2 hms
            refine at_of_wp ?_
            go_wp2
            refine ⟨⟨(k : Int) - 1, W.heap.size, ds, ⟨rfl, rfl, rfl, rfl, rfl, rfl, rfl, rfl⟩, by omega, by omega, HZ2.out, by omega, by rw [HNX.out]; congr 1; omega, HC2.out⟩, ?_⟩
            show boxI _ (.pointer (some ⟨W.heap.size, 0, none⟩)) < boxI wr (.pointer (some ⟨Z, 0, none⟩))
            rw [HMS.out, HBOXI.out]
            omega
          case nxblk =>
            have hmlt : k < m := by have := HM.out; omega
            have m1 : (0 : Int) ≤ (k : Int) := by omega
            have m2 : (k : Int) < (m : Int) := by omega
            refine at_block (at_seq (at_of_wp ?_))
            refine wp_region_held_drew (S := fun W' => W'.cell? ⟨w4.heap.size, 0, none⟩ = some (.slice (some ⟨R, 0, none⟩) ws.length ws.length) ∧ W'.cell? ⟨Z, 0, none⟩ = some (.int .i64 (k : Int))) (by kernel_rfl) ⟨e2, e1⟩ (fun hHeld => ?_)
            refine takeH (i := 0) (v := ?nav0) rfl rfl (by kernel_rfl) (by kernel_rfl) (by kernel_rfl) (fun _ _ _ _ => ⟨fun h _ => h, fun h => h #[]⟩) (by rfl) hHeld ?nay0 ?nar0
            case nay0 =>
              intro W' hSw
              obtain ⟨s1, s2⟩ := hSw
              go_simp
              try with_reducible rfl
            simp only [List.setIfInBounds_toArray, List.set_cons_zero, List.set_cons_succ]
            refine takeH (i := 1) (v := ?nav1) rfl rfl (by kernel_rfl) (by kernel_rfl) (by kernel_rfl) (fun _ _ _ _ => ⟨fun h _ => h, fun h => h #[]⟩) (by rfl) hHeld ?nay1 ?nar1
            case nay1 =>
              intro W' hSw
              obtain ⟨s1, s2⟩ := hSw
              go_simp
              try with_reducible rfl
            simp only [List.setIfInBounds_toArray, List.set_cons_zero, List.set_cons_succ]
            refine takeH (i := 2) (v := ?nav2) rfl rfl (by kernel_rfl) (by kernel_rfl) (by kernel_rfl) (fun _ _ _ _ => ⟨fun h _ => h, fun h => h #[]⟩) (by rfl) hHeld ?nay2 ?nar2
            case nay2 =>
              intro W' hSw
              obtain ⟨s1, s2⟩ := hSw
              go_simp
              try with_reducible rfl
            simp only [List.setIfInBounds_toArray, List.set_cons_zero, List.set_cons_succ]
            refine takeH (i := 3) (v := ?nav3) rfl rfl (by kernel_rfl) (by kernel_rfl) (by kernel_rfl) (fun _ _ _ _ => ⟨fun h _ => h, fun h => h #[]⟩) (by rfl) hHeld ?nay3 ?nar3
            case nay3 =>
              intro W' hSw
              obtain ⟨s1, s2⟩ := hSw
              go_simp
              try with_reducible rfl
            simp only [List.setIfInBounds_toArray, List.set_cons_zero, List.set_cons_succ]
            have hb11 : Below wr.heap.size wr ((wr.alloc (.cells #[.slice (some ⟨R, 0, none⟩) ws.length ws.length] 52)).alloc (.cells #[.pointer (some ⟨w5.heap.size, k * 7, none⟩)] 74)).drew := (((Below.refl wr.heap.size wr).alloc (Nat.le_refl _) _).alloc (by simp) _).drew
            have hlq := HC.out.lq
            refine wpAnyH_ready (rs := [4]) (by kernel_rfl) (by simp) ?_
            refine AllReadyH.cons rfl (fun K hK => ?_) AllReadyH.nil
            go_simp
            go_wp2_with (go_at_call 37; refine (ways_ _ _ _ _ _).mono ?_; rintro e w11 ⟨rfl, rfl⟩)
            refine hK.out _ _ ⟨(hb11.cell (p := ⟨w4.heap.size, 0, none⟩) (by show w4.heap.size < wr.heap.size; omega)).trans e2, (hb11.cell (p := ⟨Z, 0, none⟩) lZ).trans e1⟩ (fun _ => ?_)
            clear hK K
            refine wpAnyH_done (by kernel_rfl) ?_ _
            obtain ⟨w11, hw11⟩ : ∃ w11, w11 = ((wr.alloc (.cells #[.slice (some ⟨R, 0, none⟩) ws.length ws.length] 52)).alloc (.cells #[.pointer (some ⟨w5.heap.size, k * 7, none⟩)] 74)).drew := ⟨_, rfl⟩
            have h14 : w11.heap[wr.heap.size]? = some (.cells #[.slice (some ⟨R, 0, none⟩) ws.length ws.length] 52 (0, 0)) := by
              rw [hw11]; exact (Below.heap_alloc _ _ _ (by simp)).trans (heap_alloc_new wr _)
            have h24 : w11.heap[wr.heap.size + 1]? = some (.cells #[.pointer (some ⟨w5.heap.size, k * 7, none⟩)] 74 (0, 0)) := by
              rw [hw11]; exact heap_alloc2_new wr _ _
            rw [← hw11] at hb11
            have hs11 := hb11.size
            have hC11 := HC.out.kp (Kp.of_below (fun _ => False) hb11) (fun i h => h.elim)
            have hZ11 := (hb11.block _ lZ).trans HZ.out
            have l14 := lt_of_block h24
            obtain ⟨Sk, hSk⟩ := take_some HORD.out.2 k
            have hF : dnF ws.length (LO ws wl) l l.length k = Sk := by unfold dnF; rw [if_pos (by omega), hSk]; rfl
            have hA11 : SetAt w11 w5.heap.size (k * 7) Sk := by
              have := SBo.at_ hC11.dones hmlt
              rwa [hF] at this
            have hlo := hC11.lo
            have hlr := hC11.lr
            have hlq2 := hC11.lq2
            have hlr2 := hC11.lr2
            have hld := WBo.lt HC.out.dones
            have hseq := ways1_ wr.heap.size (wr.heap.size + 1) R ws.length w5.heap.size (k * 7) ws.length Sk (LO ws wl) w11 (fun i => i = w.heap.size + 1 + 1 ∨ i = w.heap.size + 1 + 1 + 1) hn4 LO_all h14 h24 hC11.rows hA11 (fun i h => by omega)
            obtain ⟨x, hx, hxn, hxf, _, _, _⟩ := take_run (show k < l.length by omega) HORD.out.2 hSk
            obtain ⟨bl, ol, rfl, hbl, l1⟩ := HO.out.at_ (show k < l.length by omega)
            rw [show l[k] = (x : Int) by rw [← hx, List.getD_eq_getElem?_getD, List.getElem?_eq_getElem (by omega)]; rfl] at l1
            clear h14 h24 hA11
            have hkp0 := Kp.refl (fun i => i = w.heap.size + 1 + 1 ∨ i = w.heap.size + 1 + 1 + 1) w11
            have hgo := fun b hb hf => over_go (b := b) HORD.out (show k < ws.length by omega) hSk hb hf
            have hset := setL_run hSk
            have hstep : nxK ws.length (LO ws wl) l (k + 1) = if overF ws.length (LO ws wl) Sk x < ws.length then some (l.take k ++ ((overF ws.length (LO ws wl) Sk x : Nat) : Int) :: ((goO ws.length (LO ws wl) (ws.length - (k + 1)) (Sk ||| 2 ^ overF ws.length (LO ws wl) Sk x)).getD [])) else nxK ws.length (LO ws wl) l k := by
              rw [nxK, hSk]
              simp only [hx, Int.toNat_natCast]
            have hnx2 : nxtO ws wl l = nxK ws.length (LO ws wl) l (k + 1) := by rw [HNX.out]; congr 1
            have HC11 := Lib.hid hC11; have HZ11 := Lib.hid hZ11; have HKP0 := Lib.hid hkp0; have HGO := Lib.hid hgo; have HSET := Lib.hid hset; have HSTEP := Lib.hid hstep; have HNX2 := Lib.hid hnx2; have HSK := Lib.hid hSk; have HF := Lib.hid hF; clear hC11 hZ11 hkp0 hgo hset hstep hnx2 hSk hF
            clear hHeld
            refine at_block (at_rangeFunc ?_)
            rw [← hw11]
            refine iter_core (α := Nat) (gf := 55) (lb := #[.pointer (some ⟨wr.heap.size, 0, none⟩), .pointer (some ⟨wr.heap.size + 1, 0, none⟩)]) rfl (enters_of Tryd.func55 (by kernel_rfl) rfl) (encs := fun b : Nat => #[.int .i64 (b : Int)]) (wysL (LO ws wl) Sk ws.length) (fun i => i = w.heap.size + 1 + 1 ∨ i = w.heap.size + 1 + 1 + 1) (fun i h => by omega) (fun _ => rfl) hseq
              (fun pre W => (∀ a ∈ pre, a ≤ x) ∧ NV W (w.heap.size + 1 + 1) (.slice none 0 0) 0 ∧ Kp (fun i => i = w.heap.size + 1 + 1 ∨ i = w.heap.size + 1 + 1 + 1) w11 W)
              (fun cd q W => cd = .ret ∧ ∃ (pre : List Nat) (b : Nat) (v : Value), q = pre ++ [b] ∧ x < b ∧ (∀ a ∈ pre, a ≤ x) ∧ NV W (w.heap.size + 1 + 1) v 0 ∧ RdV W v (l.take k ++ (b : Int) :: ((goO ws.length (LO ws wl) (ws.length - (k + 1)) (Sk ||| 2 ^ b)).getD [])) ∧ capOk v ∧ Kp (fun i => i = w.heap.size + 1 + 1 ∨ i = w.heap.size + 1 + 1 + 1) w11 W)
              (fun _ _ _ => False)
              (fun pre A' B' hi hs hb => ⟨hi.1, hi.2.1.later hb (by omega), hi.2.2.below hb⟩)
              (fun cd q A' B' hi hs hb => by
                obtain ⟨h1, pre, b, v, h2, h3, h4, h5, h6, h7, h8⟩ := hi
                exact ⟨h1, pre, b, v, h2, h3, h4, h5.later hb.below (by omega), hb.rdV h6, h7, h8.below hb.below⟩)
              ⟨(fun a h => by cases h), HC11.out.nv, HKP0.out⟩
              (fun x' a' _ => CNR w.heap.size w4.heap.size Z x' a')
              (fun x' a' W W' l r hx hl hs hsame => hx) ?nasg ?nbody ?ndone ?nstop (fun _ _ _ _ _ h => h.elim) 18 (.inl fun _ _ _ h => h)
            case nasg =>
              intro l' pre x' W K hp hi hs hK
              refine CN0.wp (b := w.heap.size) (Q := w4.heap.size) (Z := Z) (x := x') ?_ fun f => ?_
              · refine ⟨?_, rfl, ?_, ?_, ?_, ?_, ?_, ?_⟩ <;> simp
              gi_wp2
              refine hK _ _ ?_ (Below.refl _ _)
              exact ⟨rfl, rfl, rfl, rfl, rfl, rfl, rfl, rfl⟩
            case nbody =>
              rintro l' pre x' a' W hp ⟨hpre, hnv, hkw⟩ hx' hs
              obtain ⟨f, rfl⟩ := hx'.opn
              clear hx' hseq
              obtain ⟨hxn', hxf'⟩ := wysL_mem (hp.subset (List.mem_append_right _ (List.mem_singleton.2 rfl)) : x' ∈ _)
              have hbW := hkw.under HC11.out.below (fun i h => by omega)
              have d1 : W.cell? ⟨w.heap.size + 1, 0, none⟩ = some (.slice (some ⟨bl, ol, none⟩) l.length oc) := cell_of_row _ _ 0 _ _ _ ((hkw.same _ (by omega) (by omega)).trans HC11.out.obox)
              have d2 : W.cell? ⟨Z, 0, none⟩ = some (.int .i64 (k : Int)) := cell_of_row _ _ 0 _ _ _ ((hkw.same _ (by omega) (by omega)).trans HZ11.out)
              have d3 : W.cell? ⟨bl, ol + k, none⟩ = some (.int .i64 (x : Int)) := (hbW.cell (p := ⟨bl, ol + k, none⟩) hbl).trans l1
              have d4 : W.cell? ⟨w4.heap.size, 0, none⟩ = some (.slice (some ⟨R, 0, none⟩) ws.length ws.length) := cell_of_row _ _ 0 _ _ _ ((hkw.same _ (by omega) (by omega)).trans HC11.out.rbox)
              have m3 : (k : Int) < (l.length : Int) := by omega
              by_cases hgt : x < x'
              · have htk : (l.take k).length = k := by rw [List.length_take]; omega
                have hrdk : RdI W (some ⟨bl, ol, none⟩) (l.take k) := by
                  obtain ⟨r1, r2⟩ := HO.out.later hbW (Nat.le_refl _)
                  refine ⟨by omega, fun h0 => ?_⟩
                  obtain ⟨b', off', e, hb', hc'⟩ := r2 (by omega)
                  refine ⟨b', off', e, hb', fun j hj => ?_⟩
                  rw [hc' j (by omega)]
                  congr 2
                  simp only [List.getD_eq_getElem?_getD]
                  rw [List.getElem?_take, if_pos (by omega)]
                obtain ⟨rl, hrl⟩ := Option.isSome_iff_exists.1 (HGO.out x' hxn' hxf')
                have hRW : SBo W R ws.length (LO ws wl) := (hkw.same R (WBo.lt HC11.out.rows) (by omega)).trans HC11.out.rows
                have hin : ∀ y ∈ l.take k, 0 ≤ y ∧ y < (ws.length : Int) := fun y hy => by
                  obtain ⟨y', hy1, hy2⟩ := run_mem HSK.out y hy
                  omega
                have hset2 : setL (l.take k ++ [(x' : Int)]) = Sk ||| 2 ^ x' := by
                  unfold setL
                  rw [List.foldl_append, HSET.out]
                  rfl
                refine nxtB_ _ rfl w.heap.size w4.heap.size Z x x' k R ws.length l.length oc bl ol _ (LO ws wl) (l.take k) rl f W _ _ _ hgt d1 d2 d3 d4 (by omega) hol hoc hk hn4 hxn' hRW LO_all htk hrdk hin (by rw [hset2]; exact hrl) hnv fun v W' h1 h2 h3 h4 => ?_
                exact ⟨h4, rfl, pre, x', v, rfl, hgt, hpre, h1, by rw [hrl]; exact h2, h3, hkw.trans h4⟩
              · have g1 : decide (x < x') = false := by simpa using hgt
                have g2 : decide ((x : Int) < (x' : Int)) = false := by simp; omega
                have hpre2 : ∀ a ∈ pre ++ [x'], a ≤ x := fun a ha => by
                  rcases List.mem_append.1 ha with h | h
                  · exact hpre a h
                  · rw [List.mem_singleton] at h; omega
                have HPRE := Lib.hid hpre; have HNV := Lib.hid hnv; have HKW := Lib.hid hkw; have HBW := Lib.hid hbW; have HPRE2 := Lib.hid hpre2; have HP := Lib.hid hp; clear hpre hnv hkw hbW hpre2 hp
                gi_wp2
                exact ⟨Kp.refl _ W, HPRE2.out, HNV.out, HKW.out⟩
            case ndone =>
              rintro W ⟨hpre, hnv, hkw⟩ hd hlt'
              refine ⟨{ target := .collected w11.heap.size, args := #[] } :: ds, ⟨rfl, rfl, rfl, rfl, rfl, rfl, rfl, rfl⟩, (hkw.same Z (lt_of_block HZ11.out) (by omega)).trans HZ11.out, ?_, HC11.out.more hkw hnv (Nat.le_refl _) hd⟩
              rw [HNX2.out, HSTEP.out, over_no hpre, if_neg (Nat.lt_irrefl _)]
            case nstop =>
              rintro cd pre x' W hp ⟨rfl, pre', b, v, hq, hxb, hpre, hnv, hrd, hcap, hkw⟩ hd hlt'
              have hov : overF ws.length (LO ws wl) Sk x = b := over_is (by rw [hq] at hp; exact hp) hxb hpre
              have hbn : b < ws.length := (wysL_mem (hp.subset (by rw [hq]; simp) : b ∈ _)).1
              have hout : nxtO ws wl l = some (l.take k ++ (b : Int) :: ((goO ws.length (LO ws wl) (ws.length - (k + 1)) (Sk ||| 2 ^ b)).getD [])) := by
                rw [HNX2.out, HSTEP.out, hov, if_pos hbn]
              have hx3 : nxtX p ws wl l = 0 := by rw [HX2.out, hout]; rfl
              have hv3 : nxtL p ws wl l = l.take k ++ (b : Int) :: ((goO ws.length (LO ws wl) (ws.length - (k + 1)) (Sk ||| 2 ^ b)).getD []) := by rw [HV2.out, hout]; rfl
              have hbW := hkw.under HC11.out.below (fun i h => by omega)
              have hM : Marks (w5.heap.size + 1) W ({ target := .collected w11.heap.size, args := #[] } :: ds) := HC11.out.marks.more (Nat.le_refl _) (by omega) (fun i hi _ hB => hkw.same i hi (by omega)) hd
              have HNV := Lib.hid hnv; have HRD := Lib.hid hrd; have HCAP := Lib.hid hcap; have HKW := Lib.hid hkw; have HBW := Lib.hid hbW; have HM := Lib.hid hM; have HX3 := Lib.hid hx3; have HV3 := Lib.hid hv3; have HOUT := Lib.hid hout; have HOV := Lib.hid hov; clear hnv hrd hcap hkw hbW hM hx3 hv3 hout hov
              refine wpIn_wide.2 ?_
              go_wp2
              trace_state
              refine leaves_marks (B := w5.heap.size + 1) HM.out fun w' hs => ⟨_, nxt_results (HNV.out.same (hs.same _ (.inl (by omega))) (hs.same _ (.inl (by omega)))) rfl rfl, v, by rw [HX3.out], by rw [HV3.out]; exact hs.rdV HRD.out, HCAP.out, hs.below HBW.out (by omega)⟩
        · obtain rfl : d = -1 := by omega
          have hno : nxtO ws wl l = none := hnx
          have hx3 : nxtX p ws wl l = 9 := by rw [HX2.out, hno]; rfl
          have hv3 : nxtL p ws wl l = [] := by rw [HV2.out, hno]; rfl
          obtain ⟨a1, a2, b1, b2, hN7, hb7⟩ := hC.nv.fin (.slice none 0 0) 9
          have hb7 := hb7 _ _ hC.below (by omega)
          have hlo := hC.lo
          have hM7 : Marks (w5.heap.size + 1) ((wr.setCell ⟨w.heap.size + 1 + 1, 0, none⟩ (.slice none 0 0)).setCell ⟨w.heap.size + 1 + 1 + 1, 0, none⟩ (.int .i64 9)) ds := hC.marks.later fun i hi _ => (heap_setCell_other _ _ _ _ (by show i ≠ w.heap.size + 1 + 1 + 1; omega)).trans (heap_setCell_other _ _ _ _ (by show i ≠ w.heap.size + 1 + 1; omega))
          have HZ := Lib.hid hZ; have HC := Lib.hid hC; have HBOXI := Lib.hid hboxI; have HNX := Lib.hid hnx; have HN7 := Lib.hid hN7; have HB7 := Lib.hid hb7; have HM7 := Lib.hid hM7; have HX3 := Lib.hid hx3; have HV3 := Lib.hid hv3; clear hZ hC hboxI hnx hN7 hb7 hM7 hx3 hv3
          refine at_seq (at_of_wp ?_)
          go_wp2
          refine at_seq (at_of_wp ?_)
          go_wp2
          refine at_of_wp ?_
          go_wp2
          refine leaves_marks (B := w5.heap.size + 1) HM7.out fun w' hs => ⟨_, nxt_results (HN7.out.same (hs.same _ (.inl (by omega))) (hs.same _ (.inl (by omega)))) rfl rfl, .slice none 0 0, by rw [HX3.out], by rw [HV3.out]; exact RdV.nil _, (Nat.le_refl 0 : capOk (.slice none 0 0)), hs.below HB7.out (by omega)⟩
end Go.Proofs.YtlpfecjkkgccgaaDoor
/- The reference's Wishes, Directly. -/
namespace Go.Proofs.YtlpfecjkkgccgaaDoor
open Go.RowKit

set_option maxRecDepth 100000 in
set_option maxHeartbeats 4000000 in
theorem rWishes_ (p : Int) (A Wa : Option Addr) (c wc : Nat) (ws : List GW) (wl : List (Int × Int)) (w : World) (ha : ShIn w p A ws) (hl : RdP w Wa wl) :
    Calls Tryd.prog 20 #[.agg #[.int .i64 p, .slice A ws.length c], .slice Wa wl.length wc] w fun e w' => e = .returned (.int .i64 (errO p ws wl)) ∧ Below w.heap.size w w' := by
  have hb2 : Below w.heap.size w (w.alloc (.cells #[.int .i64 p, .slice A ws.length c] 24)) := (Below.refl _ _).alloc (Nat.le_refl _) _
  have Y0 := Lib.hid hb2; clear hb2
  have X0 := Lib.hid (Box1.made w p A c ws.length 24)
  have hwl := hl.1
  have hwn := ha.rd.1
  have HA := Lib.hid ha; have HL := Lib.hid hl; clear ha hl
  go_enter Tryd.func20, Tryd.ntmps20
  go_wp2_with fail
  refine (rCheck_ _ _ _ _ _ HA.out.lo HA.out.hi (HA.out.rd.later Y0.out (Nat.le_refl _))).mono ?_
  rintro e w1 ⟨rfl, hb1⟩
  have X1 := Lib.hid (X0.out.later hb1); have Y1 := Lib.hid (Y0.out.trans (hb1.mono Y0.out.size)); clear hb1
  by_cases he : errSheet p ws = 0
  rotate_left
  · have herr : errO p ws wl = errSheet p ws := by unfold errO; rw [if_neg he]
    have heb : (errSheet p ws != 0) = true := by simpa using he
    have HE := Lib.hid he; have HERR := Lib.hid herr; clear he herr
    go_wp2
    go_ret
    exact ⟨by rw [HERR.out]; rfl, Y1.out⟩
  have hE := Lib.hid he
  rw [he]
  clear he
  by_cases h2 : 200 < (wl.length : Int)
  · have herr : errO p ws wl = 3 := by unfold errO; rw [if_pos hE.out, if_pos (by omega)]
    have HERR := Lib.hid herr; clear herr
    go_wp2
    go_ret
    exact ⟨by rw [HERR.out]; rfl, Y1.out⟩
  have h2b : decide (200 < (wl.length : Int)) = false := by simpa using h2
  have h2n : wl.length ≤ 200 := by omega
  clear h2
  have hb0 := Below.refl w1.heap.size w1
  have HB0 := Lib.hid hb0; clear hb0
  go_wp2
  go_loopw [6, 7, 8] (fun iv _ _ wr => ∃ j : Nat, iv = .int .i64 j ∧ j ≤ wl.length ∧ (∀ x ∈ wl.take j, badO ws.length x = false) ∧ Below w1.heap.size w1 wr) (fun iv _ _ _ => wl.length - (intOf iv).toNat)
  case atStart => exact ⟨0, rfl, Nat.zero_le _, (fun x hx => by cases hx), HB0.out⟩
  case round =>
    obtain ⟨j, rfl, hj, hok, hbw⟩ := hrel
    obtain ⟨c1, c2, s1⟩ := X1.out.later hbw
    have hXW := Y1.out.trans (hbw.mono Y1.out.size)
    by_cases hlt : j < wl.length
    · obtain ⟨bl, ol, rfl, hbl, l1, l2⟩ := (HL.out.later hXW (Nat.le_refl _)).at_ hlt
      have hmem := List.getElem_mem hlt
      have hbadv : ∀ x : Int × Int, badO ws.length x = true → x ∈ wl → errO p ws wl = 2 := fun x hx hm => by
        unfold errO; rw [if_pos hE.out, if_neg (by omega), if_pos (List.any_eq_true.2 ⟨x, hm, hx⟩)]
      have htk : wl.take (j + 1) = wl.take j ++ [wl[j]] := List.take_succ_eq_append_getElem hlt
      have x1 : (0 : Int) ≤ (j : Int) := by omega
      have x2 : (j : Int) < (wl.length : Int) := by omega
      have hok2 : badO ws.length wl[j] = false → ∀ x ∈ wl.take (j + 1), badO ws.length x = false := fun h x hx => by
        rw [htk] at hx
        rcases List.mem_append.1 hx with h1 | h1
        · exact hok x h1
        · rw [List.mem_singleton] at h1; rw [h1]; exact h
      have hbv := fun (h : badO ws.length wl[j] = true) => hbadv wl[j] h hmem
      generalize wl[j] = y at *
      obtain ⟨y1, y2⟩ := y
      have hbd : badO ws.length (y1, y2) = decide (y1 < 0 ∨ y2 < 0 ∨ (ws.length : Int) ≤ y1 ∨ (ws.length : Int) ≤ y2 ∨ y1 = y2) := rfl
      simp only at l1 l2
      clear hbadv hmem htk hok
      have yd : ∀ x y : Int, ¬ x < y → decide (x < y) = false := fun x y h => by simpa using h
      have yt : ∀ x y : Int, x < y → decide (x < y) = true := fun x y h => by simpa using h
      have yl : ∀ x y : Int, x ≤ y → decide (x ≤ y) = true := fun x y h => by simpa using h
      have ym : ∀ x y : Int, ¬ x ≤ y → decide (x ≤ y) = false := fun x y h => by simpa using h
      by_cases hbad : y1 < 0 ∨ y2 < 0 ∨ (ws.length : Int) ≤ y1 ∨ (ws.length : Int) ≤ y2 ∨ y1 = y2
      · have herr := hbv (by rw [hbd]; exact decide_eq_true hbad)
        clear hbv hok2 hbd
        have HBW := Lib.hid hbw; have HXW := Lib.hid hXW; have HERR := Lib.hid herr; clear hbw hXW herr
        by_cases n1 : y1 < 0
        · have f1 := yt _ _ n1
          clear yd yt yl ym hbad
          go_wp2
          have hbelc : ∀ (u : Bel wr.heap.size wr) b o, b < wr.heap.size → u.wd.cell? ⟨b, o, none⟩ = wr.cell? ⟨b, o, none⟩ := fun u b o h => u.h.cell (p := ⟨b, o, none⟩) h
          have hbeln : Nonempty (Bel wr.heap.size wr) := ⟨⟨wr, Below.refl _ _⟩⟩
          refine wp_region_bel wr.heap.size (by kernel_rfl) (by kernel_rfl) ?_
          repeat (go_big_quiet_step ((fail)))
          refine wpQuiet_nil ?_
          intro wB hB0; obtain ⟨uB, hu⟩ := hB0; have hbB0 := uB.h; rw [← hu] at hbB0; clear hu uB hbelc hbeln
          obtain ⟨hbB, hcB, hsB⟩ := bcell2 hbB0; clear hbB0
          have hc1 := (hcB _ _ s1).trans c2
          have HBB := Lib.hid hbB; have HCB := Lib.hid hcB; clear hbB hcB
          go_wp2
          go_ret
          exact ⟨by rw [HERR.out]; rfl, HXW.out.trans (HBB.out.mono HXW.out.size)⟩
        have f1 := yd _ _ n1
        by_cases n2 : y2 < 0
        · have f2 := yt _ _ n2
          clear yd yt yl ym hbad
          go_wp2
          have hbelc : ∀ (u : Bel wr.heap.size wr) b o, b < wr.heap.size → u.wd.cell? ⟨b, o, none⟩ = wr.cell? ⟨b, o, none⟩ := fun u b o h => u.h.cell (p := ⟨b, o, none⟩) h
          have hbeln : Nonempty (Bel wr.heap.size wr) := ⟨⟨wr, Below.refl _ _⟩⟩
          refine wp_region_bel wr.heap.size (by kernel_rfl) (by kernel_rfl) ?_
          repeat (go_big_quiet_step ((fail)))
          refine wpQuiet_nil ?_
          intro wB hB0; obtain ⟨uB, hu⟩ := hB0; have hbB0 := uB.h; rw [← hu] at hbB0; clear hu uB hbelc hbeln
          obtain ⟨hbB, hcB, hsB⟩ := bcell2 hbB0; clear hbB0
          have hc1 := (hcB _ _ s1).trans c2
          have HBB := Lib.hid hbB; have HCB := Lib.hid hcB; clear hbB hcB
          go_wp2
          go_ret
          exact ⟨by rw [HERR.out]; rfl, HXW.out.trans (HBB.out.mono HXW.out.size)⟩
        have f2 := yd _ _ n2
        by_cases n3 : (ws.length : Int) ≤ y1
        · have f3 := yl _ _ n3
          clear yd yt yl ym hbad
          go_wp2
          have hbelc : ∀ (u : Bel wr.heap.size wr) b o, b < wr.heap.size → u.wd.cell? ⟨b, o, none⟩ = wr.cell? ⟨b, o, none⟩ := fun u b o h => u.h.cell (p := ⟨b, o, none⟩) h
          have hbeln : Nonempty (Bel wr.heap.size wr) := ⟨⟨wr, Below.refl _ _⟩⟩
          refine wp_region_bel wr.heap.size (by kernel_rfl) (by kernel_rfl) ?_
          repeat (go_big_quiet_step ((fail)))
          refine wpQuiet_nil ?_
          intro wB hB0; obtain ⟨uB, hu⟩ := hB0; have hbB0 := uB.h; rw [← hu] at hbB0; clear hu uB hbelc hbeln
          obtain ⟨hbB, hcB, hsB⟩ := bcell2 hbB0; clear hbB0
          have hc1 := (hcB _ _ s1).trans c2
          have HBB := Lib.hid hbB; have HCB := Lib.hid hcB; clear hbB hcB
          go_wp2
          go_ret
          exact ⟨by rw [HERR.out]; rfl, HXW.out.trans (HBB.out.mono HXW.out.size)⟩
        have f3 := ym _ _ n3
        by_cases n4 : (ws.length : Int) ≤ y2
        · have f4 := yl _ _ n4
          clear yd yt yl ym hbad
          go_wp2
          have hbelc : ∀ (u : Bel wr.heap.size wr) b o, b < wr.heap.size → u.wd.cell? ⟨b, o, none⟩ = wr.cell? ⟨b, o, none⟩ := fun u b o h => u.h.cell (p := ⟨b, o, none⟩) h
          have hbeln : Nonempty (Bel wr.heap.size wr) := ⟨⟨wr, Below.refl _ _⟩⟩
          refine wp_region_bel wr.heap.size (by kernel_rfl) (by kernel_rfl) ?_
          repeat (go_big_quiet_step ((fail)))
          refine wpQuiet_nil ?_
          intro wB hB0; obtain ⟨uB, hu⟩ := hB0; have hbB0 := uB.h; rw [← hu] at hbB0; clear hu uB hbelc hbeln
          obtain ⟨hbB, hcB, hsB⟩ := bcell2 hbB0; clear hbB0
          have hc1 := (hcB _ _ s1).trans c2
          have HBB := Lib.hid hbB; have HCB := Lib.hid hcB; clear hbB hcB
          go_wp2
          go_ret
          exact ⟨by rw [HERR.out]; rfl, HXW.out.trans (HBB.out.mono HXW.out.size)⟩
        have f4 := ym _ _ n4
        obtain rfl : y1 = y2 := by omega
        clear yd yt yl ym hbad
        go_wp2
        have hbelc : ∀ (u : Bel wr.heap.size wr) b o, b < wr.heap.size → u.wd.cell? ⟨b, o, none⟩ = wr.cell? ⟨b, o, none⟩ := fun u b o h => u.h.cell (p := ⟨b, o, none⟩) h
        have hbeln : Nonempty (Bel wr.heap.size wr) := ⟨⟨wr, Below.refl _ _⟩⟩
        refine wp_region_bel wr.heap.size (by kernel_rfl) (by kernel_rfl) ?_
        repeat (go_big_quiet_step ((fail)))
        refine wpQuiet_nil ?_
        intro wB hB0; obtain ⟨uB, hu⟩ := hB0; have hbB0 := uB.h; rw [← hu] at hbB0; clear hu uB hbelc hbeln
        obtain ⟨hbB, hcB, hsB⟩ := bcell2 hbB0; clear hbB0
        have hc1 := (hcB _ _ s1).trans c2
        have HBB := Lib.hid hbB; have HCB := Lib.hid hcB; clear hbB hcB
        go_wp2
        go_ret
        exact ⟨by rw [HERR.out]; rfl, HXW.out.trans (HBB.out.mono HXW.out.size)⟩
      · have hok3 := hok2 (by rw [hbd]; exact decide_eq_false hbad)
        have f1 := yd y1 0 (by omega)
        have f2 := yd y2 0 (by omega)
        have f3 := ym (ws.length : Int) y1 (by omega)
        have f4 := ym (ws.length : Int) y2 (by omega)
        have f5 : (y1 == y2) = false := by simp; omega
        clear yd yt yl ym hok2 hbd hbv
        have HBW := Lib.hid hbw; have HXW := Lib.hid hXW; have HOK3 := Lib.hid hok3; have HBAD := Lib.hid hbad; clear hbw hXW hok3 hbad
        go_wp2
        have hbelc : ∀ (u : Bel wr.heap.size wr) b o, b < wr.heap.size → u.wd.cell? ⟨b, o, none⟩ = wr.cell? ⟨b, o, none⟩ := fun u b o h => u.h.cell (p := ⟨b, o, none⟩) h
        have hbeln : Nonempty (Bel wr.heap.size wr) := ⟨⟨wr, Below.refl _ _⟩⟩
        refine wp_region_bel wr.heap.size (by kernel_rfl) (by kernel_rfl) ?_
        repeat (go_big_quiet_step ((fail)))
        refine wpQuiet_nil ?_
        intro wB hB0; obtain ⟨uB, hu⟩ := hB0; have hbB0 := uB.h; rw [← hu] at hbB0; clear hu uB hbelc hbeln
        obtain ⟨hbB, hcB, hsB⟩ := bcell2 hbB0; clear hbB0
        have hc1 := (hcB _ _ s1).trans c2
        have HBB := Lib.hid hbB; have HCB := Lib.hid hcB; clear hbB hcB
        go_wp2
        go_roundw
        case rel => exact ⟨j + 1, by go_num, by omega, HOK3.out, HBW.out.trans (HBB.out.mono HBW.out.size)⟩
        case measure => simp [intOf]; omega
    · obtain rfl : j = wl.length := by omega
      have herr : errO p ws wl = 0 := by
        unfold errO
        rw [if_pos hE.out, if_neg (by omega), if_neg]
        intro h
        obtain ⟨x, hx, hx2⟩ := List.any_eq_true.1 h
        rw [hok x (by rw [List.take_length]; exact hx)] at hx2
        cases hx2
      have HOK := Lib.hid hok; have HBW := Lib.hid hbw; have HXW := Lib.hid hXW; have HERR := Lib.hid herr; clear hok hbw hXW herr
      go_wp2
      go_ret
      exact ⟨by rw [HERR.out]; rfl, HXW.out⟩
def FDI (Wa : Option Addr) (n wc x y : Nat) (a : Act) : Prop := a.tmps.size = 48 ∧ a.defers = [] ∧ a.tmps.getD 1 undef = .slice Wa n wc ∧ a.tmps.getD 2 undef = .int .i64 (x : Int) ∧ a.tmps.getD 3 undef = .int .i64 (y : Int)
theorem FDI.opn {Wa : Option Addr} {n wc x y : Nat} {a : Act} (h : FDI Wa n wc x y a) : ∃ f : Nat → Value, a = { tmps := #[f 0, .slice Wa n wc, .int .i64 (x : Int), .int .i64 (y : Int), f 4, f 5, f 6, f 7, f 8, f 9, f 10, f 11, f 12, f 13, f 14, f 15, f 16, f 17, f 18, f 19, f 20, f 21, f 22, f 23, f 24, f 25, f 26, f 27, f 28, f 29, f 30, f 31, f 32, f 33, f 34, f 35, f 36, f 37, f 38, f 39, f 40, f 41, f 42, f 43, f 44, f 45, f 46, f 47], defers := [] } := by
  obtain ⟨hs, hd, g1, g2, g3⟩ := h
  obtain ⟨t, d⟩ := a
  dsimp only at *
  have e := arr_range t 48 hs
  generalize hf : (fun i => t.getD i undef) = f at e
  have k : ∀ i, t.getD i undef = f i := fun i => congrFun hf i
  rw [k] at g1 g2 g3
  refine ⟨f, ?_⟩
  rw [hd, e]
  congr 1
  show #[f 0, f 1, f 2, f 3, f 4, f 5, f 6, f 7, f 8, f 9, f 10, f 11, f 12, f 13, f 14, f 15, f 16, f 17, f 18, f 19, f 20, f 21, f 22, f 23, f 24, f 25, f 26, f 27, f 28, f 29, f 30, f 31, f 32, f 33, f 34, f 35, f 36, f 37, f 38, f 39, f 40, f 41, f 42, f 43, f 44, f 45, f 46, f 47] = _
  rw [g1, g2, g3]
/-- What comes behind two statements. -/
def tl2 : Code → Option Code
  | .seq _ (.seq _ c) => some c
  | _ => none
set_option maxRecDepth 100000 in
set_option maxHeartbeats 4000000 in
theorem rDirL_ (cd : Code) (hcd : Tryd.f45.body.bind tl2 = some cd) (Wa : Option Addr) (wc a b : Nat) (wl : List (Int × Int)) (a' : Act) (w0 W : World) (ha : FDI Wa wl.length wc a b a') (hl : RdP W Wa wl) (hR : Below w0.heap.size w0 W) :
    cd.wp Tryd.prog (bodyPost Tryd.prog Tryd.f45 fun e w' => e = .returned (.bool (wisB wl a b)) ∧ Below w0.heap.size w0 w') a' W := by
  obtain rfl := Option.some.inj (hcd.symm.trans (rfl : _ = some _))
  clear hcd
  obtain ⟨f, rfl⟩ := ha.opn
  clear ha
  dsimp only
  have hb0 := Below.refl W.heap.size W
  have hwl := hl.1
  have HL := Lib.hid hl; have HR := Lib.hid hR; have HB0 := Lib.hid hb0; clear hl hR hb0
  go_wp2
  go_loopw [9] (fun iv wr => ∃ j : Nat, iv = .int .i64 j ∧ j ≤ wl.length ∧ wisB (wl.take j) a b = false ∧ Below W.heap.size W wr) (fun iv _ => wl.length - (intOf iv).toNat)
  case atStart => exact ⟨0, rfl, Nat.zero_le _, rfl, HB0.out⟩
  case round =>
    obtain ⟨j, rfl, hj, hno, hbw⟩ := hrel
    by_cases hlt : j < wl.length
    · obtain ⟨bl, ol, rfl, hbl, l1, l2⟩ := (HL.out.later hbw (Nat.le_refl _)).at_ hlt
      have hwt := wis_take hlt a b
      rw [hno, Bool.false_or] at hwt
      have hyes : wisB (wl.take (j + 1)) a b = true → wisB wl a b = true := fun h => by
        unfold wisB at h ⊢
        rw [List.any_eq_true] at h ⊢
        obtain ⟨x, hx, hx2⟩ := h
        exact ⟨x, List.mem_of_mem_take hx, hx2⟩
      have x1 : (0 : Int) ≤ (j : Int) := by omega
      have x2 : (j : Int) < (wl.length : Int) := by omega
      generalize wl[j] = y at *
      obtain ⟨y1, y2⟩ := y
      simp only at l1 l2 hwt
      by_cases h1 : y1 = (a : Int)
      · have f1 : (y1 == (a : Int)) = true := by simpa using h1
        by_cases h2 : y2 = (b : Int)
        · have f2 : (y2 == (b : Int)) = true := by simpa using h2
          have hw : wisB wl a b = true := hyes (by rw [hwt, decide_eq_true h1, decide_eq_true h2]; rfl)
          clear hwt hyes h1 h2
          have HNO := Lib.hid hno; have HBW := Lib.hid hbw; have HW := Lib.hid hw; clear hno hbw hw
          go_wp2
          go_ret
          exact ⟨by rw [HW.out]; rfl, HR.out.trans (HBW.out.mono HR.out.size)⟩
        · have f2 : (y2 == (b : Int)) = false := by simpa using h2
          have hno2 : wisB (wl.take (j + 1)) a b = false := by rw [hwt, decide_eq_false h2, Bool.and_false]
          clear hwt hyes h1 h2
          have HNO := Lib.hid hno; have HBW := Lib.hid hbw; have HNO2 := Lib.hid hno2; clear hno hbw hno2
          go_wp2
          go_roundw
          case rel => exact ⟨j + 1, by go_num, by omega, HNO2.out, HBW.out⟩
          case measure => simp [intOf]; omega
      · have f1 : (y1 == (a : Int)) = false := by simpa using h1
        have hno2 : wisB (wl.take (j + 1)) a b = false := by rw [hwt, decide_eq_false h1, Bool.false_and]
        clear hwt hyes h1
        have HNO := Lib.hid hno; have HBW := Lib.hid hbw; have HNO2 := Lib.hid hno2; clear hno hbw hno2
        go_wp2
        go_roundw
        case rel => exact ⟨j + 1, by go_num, by omega, HNO2.out, HBW.out⟩
        case measure => simp [intOf]; omega
    · obtain rfl : j = wl.length := by omega
      rw [List.take_length] at hno
      have HNO := Lib.hid hno; have HBW := Lib.hid hbw; clear hno hbw
      go_wp2
      go_ret
      exact ⟨by rw [HNO.out]; rfl, HR.out.trans (HBW.out.mono HR.out.size)⟩
set_option maxRecDepth 100000 in
set_option maxHeartbeats 4000000 in
theorem rDirectly_ (p : Int) (A Wa : Option Addr) (c wc a b : Nat) (ws : List GW) (wl : List (Int × Int)) (w : World) (hrd : RdW w A ws) (hpl : ∀ x ∈ ws, 0 ≤ x.pl ∧ x.pl ≤ 22) (hl : RdP w Wa wl) (ha : a < ws.length) (hb : b < ws.length) :
    Calls Tryd.prog 45 #[.agg #[.int .i64 p, .slice A ws.length c], .slice Wa wl.length wc, .int .i64 (a : Int), .int .i64 (b : Int)] w fun e w' => e = .returned (.bool (dirB ws wl a b)) ∧ Below w.heap.size w w' := by
  have hb2 : Below w.heap.size w (w.alloc (.cells #[.int .i64 p, .slice A ws.length c] 24)) := (Below.refl _ _).alloc (Nat.le_refl _) _
  have X0 := Box1.made w p A c ws.length 24
  have hwl := hl.1
  have hwn := hrd.1
  have HX0 := Lib.hid X0; clear X0
  have HL := Lib.hid hl; have HB2 := Lib.hid hb2; have HRD := Lib.hid hrd; have HPL := Lib.hid hpl; clear hl hb2 hrd hpl
  go_enter Tryd.func45, Tryd.ntmps45
  refine wp_seq_k fun K1 hK1 => ?_
  have HK1 := Lib.hid hK1; clear hK1
  go_wp2_with fail
  refine HK1.out _ _ ?_
  clear HK1
  have hrd1 := HRD.out.later HB2.out (Nat.le_refl _)
  have hl1 := HL.out.later HB2.out (Nat.le_refl _)
  obtain ⟨c1, c2, s1⟩ := HX0.out
  clear HX0
  generalize w.alloc (.cells #[.int .i64 p, .slice A ws.length c] 24) = w1 at *
  obtain ⟨bb, off, rfl, hbL, k1, k2, k3⟩ := hrd1.at_ ha
  obtain ⟨b', off', hAe, _, j1, j2, j3⟩ := hrd1.at_ hb
  injection hAe with hAe; injection hAe with hA1 hA2; subst hA1; subst hA2
  have p1 := HPL.out _ (List.getElem_mem ha)
  have p2 := HPL.out _ (List.getElem_mem hb)
  have htc : tcO ws a b = touchB ws[a].pl ws[b].pl := by unfold tcO plO; simp [List.getD_eq_getElem?_getD, ha, hb]
  have hd : dirB ws wl a b = ((decide (a < b) && tcO ws a b) || wisB wl a b) := rfl
  generalize ws[b].kind = yk at *
  generalize ws[b].pl = yp at *
  generalize ws[b].word = yw at *
  generalize ws[a].kind = zk at *
  generalize ws[a].pl = zp at *
  generalize ws[a].word = zw at *
  have hcall := fun W => (touch_ zk zp yk yp zw yw W (by omega) (by omega) (by omega) (by omega))
  rw [← htc] at hcall
  have g4 : 0 ≤ (b : Int) := by omega
  have g5 : (b : Int) < (ws.length : Int) := by omega
  have g6 : 0 ≤ (a : Int) := by omega
  have g7 : (a : Int) < (ws.length : Int) := by omega
  by_cases hab : a < b
  · have g1 : decide ((a : Int) < (b : Int)) = true := by simp; omega
    have g2 : (a : Int) < (b : Int) := by omega
    cases ht : tcO ws a b with
    | true =>
      have hd1 : dirB ws wl a b = true := by rw [hd, ht, decide_eq_true hab]; rfl
      rw [ht] at hcall
      rw [hd1]
      clear htc hd
      have HCALL := Lib.hid hcall; have HRD1 := Lib.hid hrd1; have HL1 := Lib.hid hl1; have HT := Lib.hid ht; have HD1 := Lib.hid hd1; clear hcall hrd1 hl1 ht hd1
      refine wp_seq_k fun K1 hK1 => ?_
      refine wp_seq_k fun K2 hK2 => ?_
      have HK1 := Lib.hid hK1; have HK2 := Lib.hid hK2; clear hK1 hK2
      have hbelc : ∀ (u : Bel w1.heap.size w1) b o, b < w1.heap.size → u.wd.cell? ⟨b, o, none⟩ = w1.cell? ⟨b, o, none⟩ := fun u b o h => u.h.cell (p := ⟨b, o, none⟩) h
      have hbeln : Nonempty (Bel w1.heap.size w1) := ⟨⟨w1, Below.refl _ _⟩⟩
      refine wp_region_bel w1.heap.size (by kernel_rfl) (by kernel_rfl) ?_
      repeat (go_big_quiet_step ((go_at_call 57; exact quiet_bel (Nat.le_refl _) (HCALL.out _))))
      refine wpQuiet_nil ?_
      intro wB hB0; obtain ⟨uB, hu⟩ := hB0; have hbB0 := uB.h; rw [← hu] at hbB0; clear hu uB hbelc hbeln
      obtain ⟨hbB, hcB, hsB⟩ := bcell2 hbB0; clear hbB0
      refine HK2.out _ _ ?_
      clear HK1 HK2
      have HBB := Lib.hid hbB; have HCB := Lib.hid hcB; clear hbB hcB
      go_wp2
      go_ret
      exact ⟨rfl, HB2.out.trans (HBB.out.mono HB2.out.size)⟩
    | false =>
      have hd1 : dirB ws wl a b = wisB wl a b := by rw [hd, ht, Bool.and_false, Bool.false_or]
      rw [ht] at hcall
      rw [hd1]
      clear htc hd
      have HCALL := Lib.hid hcall; have HRD1 := Lib.hid hrd1; have HL1 := Lib.hid hl1; have HT := Lib.hid ht; have HD1 := Lib.hid hd1; clear hcall hrd1 hl1 ht hd1
      refine wp_seq_k fun K1 hK1 => ?_
      refine wp_seq_k fun K2 hK2 => ?_
      have HK1 := Lib.hid hK1; have HK2 := Lib.hid hK2; clear hK1 hK2
      have hbelc : ∀ (u : Bel w1.heap.size w1) b o, b < w1.heap.size → u.wd.cell? ⟨b, o, none⟩ = w1.cell? ⟨b, o, none⟩ := fun u b o h => u.h.cell (p := ⟨b, o, none⟩) h
      have hbeln : Nonempty (Bel w1.heap.size w1) := ⟨⟨w1, Below.refl _ _⟩⟩
      refine wp_region_bel w1.heap.size (by kernel_rfl) (by kernel_rfl) ?_
      repeat (go_big_quiet_step ((go_at_call 57; exact quiet_bel (Nat.le_refl _) (HCALL.out _))))
      refine wpQuiet_nil ?_
      intro wB hB0; obtain ⟨uB, hu⟩ := hB0; have hbB0 := uB.h; rw [← hu] at hbB0; clear hu uB hbelc hbeln
      obtain ⟨hbB, hcB, hsB⟩ := bcell2 hbB0; clear hbB0
      refine HK2.out _ _ ?_
      have HBB := Lib.hid hbB; have HCB := Lib.hid hcB; clear hbB hcB
      go_wp2
      refine HK1.out _ _ (rDirL_ _ rfl Wa wc a b wl _ _ _ ⟨rfl, rfl, rfl, rfl, rfl⟩ (HL1.out.later HBB.out (Nat.le_refl _)) (HB2.out.trans (HBB.out.mono HB2.out.size)))
  · have hd1 : dirB ws wl a b = wisB wl a b := by rw [hd, decide_eq_false hab, Bool.false_and, Bool.false_or]
    have g1 : decide ((a : Int) < (b : Int)) = false := by simp; omega
    have g2 : ¬ (a : Int) < (b : Int) := by omega
    rw [hd1]
    clear htc hd
    have HCALL := Lib.hid hcall; have HRD1 := Lib.hid hrd1; have HL1 := Lib.hid hl1; have HD1 := Lib.hid hd1; clear hcall hrd1 hl1 hd1
    refine wp_seq_k fun K1 hK1 => ?_
    refine wp_seq_k fun K2 hK2 => ?_
    have HK1 := Lib.hid hK1; have HK2 := Lib.hid hK2; clear hK1 hK2
    have hbelc : ∀ (u : Bel w1.heap.size w1) b o, b < w1.heap.size → u.wd.cell? ⟨b, o, none⟩ = w1.cell? ⟨b, o, none⟩ := fun u b o h => u.h.cell (p := ⟨b, o, none⟩) h
    have hbeln : Nonempty (Bel w1.heap.size w1) := ⟨⟨w1, Below.refl _ _⟩⟩
    refine wp_region_bel w1.heap.size (by kernel_rfl) (by kernel_rfl) ?_
    repeat (go_big_quiet_step ((fail)))
    refine wpQuiet_nil ?_
    intro wB hB0; obtain ⟨uB, hu⟩ := hB0; have hbB0 := uB.h; rw [← hu] at hbB0; clear hu uB hbelc hbeln
    obtain ⟨hbB, hcB, hsB⟩ := bcell2 hbB0; clear hbB0
    refine HK2.out _ _ ?_
    have HBB := Lib.hid hbB; have HCB := Lib.hid hcB; clear hbB hcB
    go_wp2
    refine HK1.out _ _ (rDirL_ _ rfl Wa wc a b wl _ _ _ ⟨rfl, rfl, rfl, rfl, rfl⟩ (HL1.out.later HBB.out (Nat.le_refl _)) (HB2.out.trans (HBB.out.mono HB2.out.size)))
end Go.Proofs.YtlpfecjkkgccgaaDoor
