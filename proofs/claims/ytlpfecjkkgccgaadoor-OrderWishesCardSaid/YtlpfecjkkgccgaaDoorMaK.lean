/- Texts of this claim, laid together: Edges1. -/
import Derived.Test.YtlpfecjkkgccgaaDoorMaA
import Derived.Test.YtlpfecjkkgccgaaDoorMaI
import Derived.BigRegion
import Derived.Deep.DeepCutAuto
import Derived.Deep.OwnRows
/- The program's edges: what it yields. -/
namespace Go.Proofs.YtlpfecjkkgccgaaDoor
open Go.RowKit

theorem infoE_Tryd : (Tryd.prog.info? 118).map (fun i => (i.zero, i.size, i.bytes)) = some (some (.agg #[.int .i64 0, .int .i64 0, .int .i64 0, .int .i64 0]), 4, 32) := by kernel_rfl
theorem infoI_Tryd : (Tryd.prog.info? 3).map (fun i => (i.zero, i.size, i.bytes)) = some (some (.int .i64 0), 1, 8) := by kernel_rfl
/-- make([]ShEdge, m). -/
theorem run_makeE_Tryd (m : Nat) (hm : m ≤ 1000) (w : World) : (Instr.makeSlice 124 (.int .i64 (m : Int)) (.int .i64 (m : Int))).run Tryd.prog w =
    .ok (.slice (some ⟨w.heap.size, 0, none⟩) m m) (w.alloc (.cells (madeCells #[.int .i64 0, .int .i64 0, .int .i64 0, .int .i64 0] (m * 4)) 118)) := by
  obtain ⟨i, hi, hzz⟩ := Option.map_eq_some_iff.1 infoE_Tryd
  simp only [Prod.mk.injEq] at hzz
  obtain ⟨hz, hs, hb⟩ := hzz
  have hr := run_make (P := Tryd.prog) w 124 118 i _ Tryd.underlying124 hi hz .i64 .i64 m m (by omega) (Int.le_refl _) (by rw [hb]; omega) (by omega)
  simp only [Int.toNat_natCast, hs] at hr
  exact hr
/-- A work. -/
abbrev gwE : GW := ⟨0, 0, ByteArray.empty⟩
def plsOf (ws : List GW) (k : Nat) : Nat := (ws.getD k gwE).pl.toNat
def El.enc (x : El) : Array Value := #[.int .i64 x.idx, .agg #[.int .i64 x.fr, .int .i64 x.out, .int .i64 x.to, .int .i64 x.inn]]
/-- Block R holds m ints. -/
def IdB (w : World) (R m : Nat) (g : Nat → Int) : Prop := w.heap[R]? = some (.cells ((List.range m).map fun p => Value.int .i64 (g p)).toArray 3 (0, 0))
theorem IdB.at_ {w : World} {R m : Nat} {g : Nat → Int} (h : IdB w R m g) {p : Nat} (hp : p < m) : w.cell? ⟨R, p, none⟩ = some (.int .i64 (g p)) := by
  rw [cell_of_row w R p _ _ _ h]; simp [hp]
theorem IdB.free {w : World} {R m : Nat} {g : Nat → Int} (h : IdB w R m g) (p : Nat) : w.frozen? ⟨R, p, none⟩ = false := frozen_of_row _ _ p _ _ h
theorem IdB.put {w : World} {R m : Nat} {g : Nat → Int} (h : IdB w R m g) (p : Nat) (z : Int) : IdB (w.setCell ⟨R, p, none⟩ (.int .i64 z)) R m (updF g p z) := by
  have h1 := heap_setCell_same w R p _ _ (.int .i64 z) h
  refine Eq.trans h1 ?_
  congr 2
  apply Array.ext'
  apply List.ext_getElem
  · simp
  · intro j h1 h2
    simp only [Array.toList_setIfInBounds, List.getElem_set, List.getElem_map, List.getElem_range]
    unfold updF
    by_cases c : p = j
    · subst c; simp
    · rw [if_neg c, if_neg (Ne.symm c)]
theorem idCells_zero (m : Nat) : madeCells #[Value.int .i64 0] m = ((List.range m).map fun _ => Value.int .i64 0).toArray := by
  apply Array.ext'
  rw [toList_madeCells_one]
  apply List.ext_getElem
  · simp
  · intro j h1 h2; simp

/-- What the iterator's own blocks hold. -/
structure EdM (N0 l P : Nat) (wr : World) (s : Ln) : Prop where
  y : wr.heap[N0]? = some (.cells #[.func (.yield l) #[] #[]] 123 (0, 0))
  r1 : EdB wr (N0 + 1) P s.fr s.out
  b1 : wr.heap[N0 + 2]? = some (.cells #[.slice (some ⟨N0 + 1, 0, none⟩) P P] 124 (0, 0))
  r2 : IdB wr (N0 + 3) P s.idx
  b2 : wr.heap[N0 + 4]? = some (.cells #[.slice (some ⟨N0 + 3, 0, none⟩) P P] 26 (0, 0))
section
variable {N0 l P : Nat} {w w' : World} {s : Ln}
theorem EdM.sz (h : EdM N0 l P w s) : N0 + 4 < w.heap.size := lt_of_block h.b2
theorem EdM.of_heap (h : EdM N0 l P w s) (hb : ∀ i, N0 ≤ i → i < N0 + 5 → w'.heap[i]? = w.heap[i]?) : EdM N0 l P w' s :=
  ⟨(hb _ (by omega) (by omega)).trans h.y, (hb _ (by omega) (by omega)).trans h.r1, (hb _ (by omega) (by omega)).trans h.b1, (hb _ (by omega) (by omega)).trans h.r2, (hb _ (by omega) (by omega)).trans h.b2⟩
theorem EdM.kept (h : EdM N0 l P w s) {C : Nat → Prop} (hk : Kp C w w') (hC : ∀ i, C i → i < N0) : EdM N0 l P w' s := by
  have := h.sz
  exact h.of_heap fun i h1 h2 => hk.same i (by omega) (fun hc => by have := hC i hc; omega)
theorem EdM.below (h : EdM N0 l P w s) (hb : Below w.heap.size w w') : EdM N0 l P w' s := by
  have := h.sz
  exact h.of_heap fun i h1 h2 => hb.block i (by omega)
theorem EdM.cells (h : EdM N0 l P w s) : w.cell? ⟨N0, 0, none⟩ = some (.func (.yield l) #[] #[]) ∧ w.cell? ⟨N0 + 2, 0, none⟩ = some (.slice (some ⟨N0 + 1, 0, none⟩) P P) ∧ w.cell? ⟨N0 + 4, 0, none⟩ = some (.slice (some ⟨N0 + 3, 0, none⟩) P P) :=
  ⟨cell_of_row _ _ 0 _ _ _ h.y, cell_of_row _ _ 0 _ _ _ h.b1, cell_of_row _ _ 0 _ _ _ h.b2⟩
/-- An edge and its number are stored. -/
theorem EdM.put (h : EdM N0 l P w s) (p : Nat) (a b z : Int) :
    EdM N0 l P (((((w.setCell ⟨N0 + 1, p * 4, none⟩ (.int .i64 a)).setCell ⟨N0 + 1, p * 4 + 1, none⟩ (.int .i64 b)).setCell ⟨N0 + 1, p * 4 + 2, none⟩ (.int .i64 0)).setCell ⟨N0 + 1, p * 4 + 3, none⟩ (.int .i64 0)).setCell ⟨N0 + 3, p, none⟩ (.int .i64 z)) (s.put p a b z) := by
  have far : ∀ (v : World) (i j : Nat) (x : Value), i ≠ j → ∀ o, (v.setCell ⟨j, o, none⟩ x).heap[i]? = v.heap[i]? := fun v i j x hij o => heap_setCell_other v ⟨j, o, none⟩ i x hij
  have e1 := h.r1.put p a b
  refine ⟨?_, ?_, ?_, ?_, ?_⟩
  · rw [far _ _ _ _ (by omega), far _ _ _ _ (by omega), far _ _ _ _ (by omega), far _ _ _ _ (by omega), far _ _ _ _ (by omega)]; exact h.y
  · unfold EdB; rw [far _ _ _ _ (by omega)]; exact e1
  · rw [far _ _ _ _ (by omega), far _ _ _ _ (by omega), far _ _ _ _ (by omega), far _ _ _ _ (by omega), far _ _ _ _ (by omega)]; exact h.b1
  · refine IdB.put (g := s.idx) ?_ p z
    unfold IdB
    rw [far _ _ _ _ (by omega), far _ _ _ _ (by omega), far _ _ _ _ (by omega), far _ _ _ _ (by omega)]; exact h.r2
  · rw [far _ _ _ _ (by omega), far _ _ _ _ (by omega), far _ _ _ _ (by omega), far _ _ _ _ (by omega), far _ _ _ _ (by omega)]; exact h.b2
/-- The five stores leave what lies below. -/
theorem five_below {N1 : Nat} {W : World} (hb : Below N1 W w) (h1 : N1 ≤ N0) (p : Nat) (a b z : Int) : Below N1 W (((((w.setCell ⟨N0 + 1, p * 4, none⟩ (.int .i64 a)).setCell ⟨N0 + 1, p * 4 + 1, none⟩ (.int .i64 b)).setCell ⟨N0 + 1, p * 4 + 2, none⟩ (.int .i64 0)).setCell ⟨N0 + 1, p * 4 + 3, none⟩ (.int .i64 0)).setCell ⟨N0 + 3, p, none⟩ (.int .i64 z)) :=
  ((((hb.setCell (by show N1 ≤ N0 + 1; omega) _).setCell (by show N1 ≤ N0 + 1; omega) _).setCell (by show N1 ≤ N0 + 1; omega) _).setCell (by show N1 ≤ N0 + 1; omega) _).setCell (by show N1 ≤ N0 + 3; omega) _
theorem five_kp {C : Nat → Prop} {W : World} (hk : Kp C W w) (h1 : W.heap.size ≤ N0) (p : Nat) (a b z : Int) : Kp C W (((((w.setCell ⟨N0 + 1, p * 4, none⟩ (.int .i64 a)).setCell ⟨N0 + 1, p * 4 + 1, none⟩ (.int .i64 b)).setCell ⟨N0 + 1, p * 4 + 2, none⟩ (.int .i64 0)).setCell ⟨N0 + 1, p * 4 + 3, none⟩ (.int .i64 0)).setCell ⟨N0 + 3, p, none⟩ (.int .i64 z)) :=
  ((((hk.setCell (.inr (by show W.heap.size ≤ N0 + 1; omega)) _).setCell (.inr (by show W.heap.size ≤ N0 + 1; omega)) _).setCell (.inr (by show W.heap.size ≤ N0 + 1; omega)) _).setCell (.inr (by show W.heap.size ≤ N0 + 1; omega)) _).setCell (.inr (by show W.heap.size ≤ N0 + 3; omega)) _
theorem EdM.drew (h : EdM N0 l P w s) : EdM N0 l P w.drew s := ⟨h.y, h.r1, h.b1, h.r2, h.b2⟩
theorem EdM.congr {s' : Ln} (h : EdM N0 l P w s) (he : ∀ p, p < P → s.fr p = s'.fr p ∧ s.out p = s'.out p ∧ s.idx p = s'.idx p) : EdM N0 l P w s' := by
  refine ⟨h.y, ?_, h.b1, ?_, h.b2⟩
  · have := h.r1
    unfold EdB at this ⊢
    have e : eCells P s.fr s.out = eCells P s'.fr s'.out := by
      unfold eCells
      refine congrArg List.toArray (List.map_congr_left fun j hj => ?_)
      have hj2 := List.mem_range.1 hj
      obtain ⟨e1, e2, _⟩ := he (j / 4) (by omega)
      unfold eCell
      rw [e1, e2]
    rw [this, e]
  · have := h.r2
    unfold IdB at this ⊢
    have e : ((List.range P).map fun p => Value.int .i64 (s.idx p)) = (List.range P).map fun p => Value.int .i64 (s'.idx p) := List.map_congr_left fun p hp => by rw [(he p (List.mem_range.1 hp)).2.2]
    rw [this, e]
end
theorem five_heap (W : World) (a b c d e : Obj) :
    ((((((W.alloc a).alloc b).alloc c).alloc d).alloc e).heap[W.heap.size]? = some a ∧ (((((W.alloc a).alloc b).alloc c).alloc d).alloc e).heap[W.heap.size + 1]? = some b ∧ (((((W.alloc a).alloc b).alloc c).alloc d).alloc e).heap[W.heap.size + 2]? = some c ∧
    (((((W.alloc a).alloc b).alloc c).alloc d).alloc e).heap[W.heap.size + 3]? = some d ∧ (((((W.alloc a).alloc b).alloc c).alloc d).alloc e).heap[W.heap.size + 4]? = some e) := by
  have n1 := World.alloc_heap_new W a
  have n2 := World.alloc_heap_new (W.alloc a) b
  have n3 := World.alloc_heap_new ((W.alloc a).alloc b) c
  have n4 := World.alloc_heap_new (((W.alloc a).alloc b).alloc c) d
  have n5 := World.alloc_heap_new ((((W.alloc a).alloc b).alloc c).alloc d) e
  simp only [World.size_alloc] at n2 n3 n4 n5
  refine ⟨?_, ?_, ?_, ?_, n5⟩
  · rw [Below.heap_alloc _ _ _ (by first | (simp; done) | (simp; omega)), Below.heap_alloc _ _ _ (by first | (simp; done) | (simp; omega)), Below.heap_alloc _ _ _ (by first | (simp; done) | (simp; omega)), Below.heap_alloc _ _ _ (by simp)]; exact n1
  · rw [Below.heap_alloc _ _ _ (by first | (simp; done) | (simp; omega)), Below.heap_alloc _ _ _ (by first | (simp; done) | (simp; omega)), Below.heap_alloc _ _ _ (by simp)]; exact n2
  · rw [Below.heap_alloc _ _ _ (by first | (simp; done) | (simp; omega)), Below.heap_alloc _ _ _ (by simp)]; exact n3
  · rw [Below.heap_alloc _ _ _ (by simp)]; exact n4
/-- While the line is laid: the places before k. -/
def lnK (k : Nat) : Ln := ⟨fun p => if p < k then -1 else 0, fun p => if p < k then (p : Int) else 0, fun p => if p < k then (p : Int) else 0⟩
theorem lnK_put (k : Nat) : (lnK k).put k (-1) k k = lnK (k + 1) := by
  have e : ∀ (f : Nat → Int), updF (fun p => if p < k then f p else 0) k (f k) = fun p => if p < k + 1 then f p else 0 := fun f => by
    funext p
    unfold updF
    by_cases h : p = k
    · subst h; simp
    · rw [if_neg h]
      show (if p < k then f p else 0) = _
      by_cases h2 : p < k
      · rw [if_pos h2, if_pos (by omega)]
      · rw [if_neg h2, if_neg (by omega)]
  unfold lnK Ln.put
  rw [e (fun _ => -1), e (fun p => (p : Int))]

theorem lnK_full (P : Nat) : ∀ p, p < P → (lnK P).fr p = ln0.fr p ∧ (lnK P).out p = ln0.out p ∧ (lnK P).idx p = ln0.idx p := fun p hp => by
  unfold lnK ln0
  simp [hp]
theorem edm_start (W : World) (l P : Nat) : EdM W.heap.size l P (((((W.alloc (.cells #[.func (.yield l) #[] #[]] 123)).alloc (.cells (madeCells #[.int .i64 0, .int .i64 0, .int .i64 0, .int .i64 0] (P * 4)) 118)).alloc
    (.cells #[.slice (some ⟨W.heap.size + 1, 0, none⟩) P P] 124)).alloc (.cells (madeCells #[.int .i64 0] P) 3)).alloc (.cells #[.slice (some ⟨W.heap.size + 1 + 1 + 1, 0, none⟩) P P] 26)) (lnK 0) := by
  obtain ⟨h1, h2, h3, h4, h5⟩ := five_heap W (.cells #[.func (.yield l) #[] #[]] 123) (.cells (madeCells #[.int .i64 0, .int .i64 0, .int .i64 0, .int .i64 0] (P * 4)) 118) (.cells #[.slice (some ⟨W.heap.size + 1, 0, none⟩) P P] 124)
    (.cells (madeCells #[.int .i64 0] P) 3) (.cells #[.slice (some ⟨W.heap.size + 1 + 1 + 1, 0, none⟩) P P] 26)
  have h : EdM W.heap.size l P _ ⟨fun _ => 0, fun _ => 0, fun _ => 0⟩ := ⟨h1, by unfold EdB; rw [h2, eCells_zero], h3, by unfold IdB; rw [h4, idCells_zero], h5⟩
  exact h.congr fun p _ => by simp [lnK]
set_option maxRecDepth 100000 in
set_option maxHeartbeats 4000000 in
theorem edges1_ (Bs P c : Nat) (A : Option Addr) (ws : List GW) (w : World) (C : Nat → Prop) (hp2 : 2 ≤ P) (hp24 : P ≤ 24) (hn : ws.length ≤ 400) (hpl : ∀ x ∈ ws, 0 ≤ x.pl ∧ x.pl ≤ (P : Int) - 2)
    (hbox : w.heap[Bs]? = some (.cells #[.int .i64 (P : Int), .slice A ws.length c] 24 (0, 0))) (ha : RdW w A ws)
    (hC : ∀ i, C i → i < w.heap.size) (hCB : ¬ C Bs) (hCA : 0 < ws.length → ∀ b off, A = some ⟨b, off, none⟩ → ¬ C b) :
    IterOK Tryd.prog 72 #[.pointer (some ⟨Bs, 0, none⟩)] El.enc (eAll P (plsOf ws) ws.length) C w := by
  intro l J W hW hl1 hl2 hJ hY h0
  have hBs := lt_of_block hbox
  have hWs := hW.size
  have hC2 : ∀ i, (C i ∨ i = l) → i < W.heap.size := fun i h => by
    rcases h with h | h
    · have := hC i h; omega
    · omega
  have hkB : ∀ w1 : World, Kp (fun i => C i ∨ i = l) W w1 → w1.heap[Bs]? = some (.cells #[.int .i64 (P : Int), .slice A ws.length c] 24 (0, 0)) := fun w1 hk =>
    (hk.same Bs (by omega) (fun h => by rcases h with h | h; exact hCB h; omega)).trans ((hW.block Bs hBs).trans hbox)
  have hkA : ∀ w1 : World, Kp (fun i => C i ∨ i = l) W w1 → RdW w1 A ws := fun w1 hk => by
    refine ⟨ha.1, ha.2.1, fun h0 => ?_⟩
    obtain ⟨b, off, e, hlt, hc⟩ := ha.2.2 h0
    have hn0 : 0 < ws.length := by omega
    exact ⟨b, off, e, by have := hk.size; omega, fun j hj => by
      rw [World.cell?_of_block (hk.same b (by omega) (fun h => by rcases h with h | h; exact hCA hn0 b off e h; omega)), World.cell?_of_block (hW.block b hlt)]
      exact hc j hj⟩
  -- one call of over
  have hover : ∀ (pre : List El) (s : Ln) (p : Nat) (tt inn : Int) (w1 : World), p < P → pre ++ [s.el p tt inn] <+: eAll P (plsOf ws) ws.length → EdM W.heap.size l P w1 s → J pre w1 → Kp (fun i => C i ∨ i = l) W w1 →
      Calls Tryd.prog 73 #[.int .i64 (p : Int), .int .i64 tt, .int .i64 inn, .pointer (some ⟨W.heap.size + 2, 0, none⟩), .pointer (some ⟨W.heap.size, 0, none⟩), .pointer (some ⟨W.heap.size + 4, 0, none⟩)] w1
        fun e w2 => e = .returned (.bool true) ∧ (EdM W.heap.size l P w2 s ∧ J (pre ++ [s.el p tt inn]) w2 ∧ Kp (fun i => C i ∨ i = l) w1 w2) := fun pre s p tt inn w1 hp hpre hM hj hk => by
    have hsz := hM.sz
    obtain ⟨y0, y1, y2⟩ := hM.cells
    obtain ⟨e0, e1, e2, e3⟩ := hM.r1.at_ hp
    have e4 := hM.r2.at_ hp
    refine over_ l W.heap.size (W.heap.size + 2) (W.heap.size + 1) (W.heap.size + 4) (W.heap.size + 3) P p (s.fr p) (s.out p) (s.idx p) tt inn w1 _ hp y1 y2 y0 e0 e1 e2 e3 e4 (by omega) (by omega) (by omega) fun W1 hb1 => ?_
    have hks := hk.size
    refine (hY pre (s.el p tt inn) W1 hpre (hJ pre w1 W1 hj (by omega) (hb1.mono (by omega))) (by have := hb1.size; omega)).mono ?_
    rintro e w2 ⟨rfl, hj2, hk2⟩
    refine ⟨rfl, (hM.below hb1).kept hk2 hC2, hj2, (Kp.of_below _ hb1).trans hk2⟩
  have hmk1 := run_makeE_Tryd P (by omega)
  have hmk2 := run_make_row' (P := Tryd.prog) 26 3 (.int .i64 0) 8 Tryd.underlying26 infoI_Tryd rfl .i64 .i64 P (by omega) (by omega)
  have b0 : W.cell? ⟨Bs, 0, none⟩ = some (.int .i64 (P : Int)) := cell_of_row W _ 0 _ _ _ (hkB W (Kp.refl _ W))
  have b1 : W.cell? ⟨Bs, 1, none⟩ = some (.slice A ws.length c) := cell_of_row W _ 1 _ _ _ (hkB W (Kp.refl _ W))
  have hBsW : Bs < W.heap.size := by omega
  have hBs1 : Bs < W.heap.size + 1 := by omega
  have hBs2 : Bs < W.heap.size + 1 + 1 := by omega
  have hBs3 : Bs < W.heap.size + 1 + 1 + 1 := by omega
  have HKB := Lib.hid hkB; have HKA := Lib.hid hkA; have HOV := Lib.hid hover; have HJC := Lib.hid hJ; have HPL := Lib.hid hpl; have HC2 := Lib.hid hC2; have H0 := Lib.hid h0
  clear hkB hkA hover hJ hpl hC2 h0 hY hCA hCB hC ha hbox hW hWs hl1 hBs
  go_enter Tryd.func72, Tryd.ntmps72
  go_wp2
  clear hmk1 hmk2 b0 b1 hBs1 hBs2 hBs3
  obtain ⟨w0, hw0⟩ : ∃ w0, w0 = (((((W.alloc (.cells #[.func (.yield l) #[] #[]] 123)).alloc (.cells (madeCells #[.int .i64 0, .int .i64 0, .int .i64 0, .int .i64 0] (P * 4)) 118)).alloc
    (.cells #[.slice (some ⟨W.heap.size + 1, 0, none⟩) P P] 124)).alloc (.cells (madeCells #[.int .i64 0] P) 3)).alloc (.cells #[.slice (some ⟨W.heap.size + 1 + 1 + 1, 0, none⟩) P P] 26)) := ⟨_, rfl⟩
  have M0 : Hid (EdM W.heap.size l P w0 (lnK 0)) := Lib.hid (by rw [hw0]; exact edm_start W l P)
  have B0 : Hid (Below W.heap.size W w0) := Lib.hid (by rw [hw0]; exact (((((Below.refl _ _).alloc (Nat.le_refl _) _).alloc (by simp) _).alloc (by simp; omega) _).alloc (by simp; omega) _).alloc (by simp; omega) _)
  rw [← hw0]
  clear hw0
  go_loopw [20] (fun v wr => ∃ k : Nat, v = .int .i64 k ∧ k ≤ P ∧ EdM W.heap.size l P wr (lnK k) ∧ J [] wr ∧ Kp (fun i => C i ∨ i = l) W wr) (fun v _ => P - (intOf v).toNat)
  case atStart => exact ⟨0, rfl, Nat.zero_le _, M0.out, HJC.out [] W w0 H0.out (Nat.le_refl _) B0.out, Kp.of_below _ B0.out⟩
  case round =>
    obtain ⟨k, rfl, hk, hM, hj, hkp⟩ := hrel
    have y1 : wr.cell? ⟨W.heap.size + 1 + 1, 0, none⟩ = some (.slice (some ⟨W.heap.size + 1, 0, none⟩) P P) := hM.cells.2.1
    have y2 : wr.cell? ⟨W.heap.size + 1 + 1 + 1 + 1, 0, none⟩ = some (.slice (some ⟨W.heap.size + 1 + 1 + 1, 0, none⟩) P P) := hM.cells.2.2
    by_cases hlt : k < P
    · have x1 : (0 : Int) ≤ (k : Int) := by omega
      have x2 : (k : Int) < (P : Int) := by omega
      obtain ⟨e0, e1, e2, e3⟩ := hM.r1.at_ hlt
      have e4 : wr.cell? ⟨W.heap.size + 1 + 1 + 1, k, none⟩ = some (.int .i64 ((lnK k).idx k)) := hM.r2.at_ hlt
      have f0 := hM.r1.free (k * 4)
      have f1 := hM.r1.free (k * 4 + 1)
      have f2 := hM.r1.free (k * 4 + 2)
      have f3 := hM.r1.free (k * 4 + 3)
      have f4 : wr.frozen? ⟨W.heap.size + 1 + 1 + 1, k, none⟩ = false := hM.r2.free k
      have hn := hM.put k (-1) k k
      rw [lnK_put] at hn
      generalize (lnK k).fr k = z1 at *
      generalize (lnK k).out k = z2 at *
      generalize (lnK k).idx k = z3 at *
      have s4 := hM.sz
      have s5 : W.heap.size + 1 < wr.heap.size := by omega
      have s6 : W.heap.size + 1 + 1 + 1 < wr.heap.size := by omega
      have hj2 := HJC.out [] wr _ hj hkp.size (five_below (Below.refl W.heap.size wr) (Nat.le_refl _) k (-1) k k).drew
      have hk2 := (five_kp hkp (Nat.le_refl _) k (-1) k k).drew
      have hn2 := hn.drew
      have HM := Lib.hid hM; have HJ := Lib.hid hj; have HKP := Lib.hid hkp; have HN := Lib.hid hn; have HJ2 := Lib.hid hj2; have HK2 := Lib.hid hk2; have HN2 := Lib.hid hn2; clear hM hj hkp hn hj2 hk2 hn2
      go_wp2
      go_region
      go_wp2
      go_roundw
      case rel => exact ⟨k + 1, by go_num, by omega, HN2.out, HJ2.out, HK2.out⟩
      case measure => simp [intOf]; omega
    · have hkP : k = P := by omega
      rw [hkP] at hM
      have hM2 := hM.congr (lnK_full P)
      have hb0 := HKB.out wr hkp
      have c1 : wr.cell? ⟨Bs, 1, none⟩ = some (.slice A ws.length c) := cell_of_row wr _ 1 _ _ _ hb0
      clear hb0 hM hkP
      have HM2 := Lib.hid hM2; have HJp := Lib.hid hj; have HKP := Lib.hid hkp; clear hM2 hj hkp
      go_wp2
      go_loopw [37] (fun v wr => ∃ k : Nat, v = .int .i64 k ∧ k ≤ ws.length ∧ EdM W.heap.size l P wr (eWork P (plsOf ws) k) ∧ J (eList P (plsOf ws) k) wr ∧ Kp (fun i => C i ∨ i = l) W wr) (fun v _ => ws.length - (intOf v).toNat)
      case atStart => exact ⟨0, rfl, Nat.zero_le _, HM2.out, HJp.out, HKP.out⟩
      case round =>
        clear HM2 HJp HKP
        obtain ⟨k, rfl, hk, hM, hj, hkp⟩ := hrel
        by_cases hlt : k < ws.length
        · obtain ⟨b, off, rfl, hbA, g1, g2, g3⟩ := (HKA.out wr hkp).at_ hlt
          obtain ⟨hx1, hx2⟩ := HPL.out ws[k] (List.getElem_mem hlt)
          obtain ⟨pl, hplk⟩ := Int.eq_ofNat_of_zero_le hx1
          have hplE : plsOf ws k = pl := by
            unfold plsOf
            rw [show ws.getD k gwE = ws[k] by simp [List.getD_eq_getElem?_getD, hlt], hplk]; rfl
          rw [hplk] at g2 hx2
          have hpl2 : pl + 2 ≤ P := by omega
          have hpref : ∀ sd, sd < 2 → sdL P pl k (eWork P (plsOf ws) k) (eList P (plsOf ws) k) sd ++ [(sdS P pl k (eWork P (plsOf ws) k) sd).el (pl + sd) k sd] <+: eAll P (plsOf ws) ws.length := fun sd hsd => by
            have := eAll_side P (plsOf ws) hlt hsd
            rwa [hplE] at this
          have hnx1 : eWork P (plsOf ws) (k + 1) = sdS P pl k (eWork P (plsOf ws) k) 2 := by rw [eWork, hplE]
          have hnx2 : eList P (plsOf ws) (k + 1) = sdL P pl k (eWork P (plsOf ws) k) (eList P (plsOf ws) k) 2 := by rw [eList, hplE]
          generalize eWork P (plsOf ws) k = s at *
          generalize eList P (plsOf ws) k = L at *
          generalize ws[k].kind = zk at *
          generalize ws[k].word = zw at *
          have x1 : (0 : Int) ≤ (k : Int) := by omega
          have x2 : (k : Int) < (ws.length : Int) := by omega
          have hMb := hM.below ((Below.refl wr.heap.size wr).alloc (Nat.le_refl _) (.cells #[.int .i64 zk, .int .i64 (pl : Int), .string zw] 50))
          have hjb := HJC.out L wr _ hj hkp.size (((Below.refl wr.heap.size wr).alloc (Nat.le_refl _) (.cells #[.int .i64 zk, .int .i64 (pl : Int), .string zw] 50)).mono hkp.size)
          have hkb := hkp.alloc (.cells #[.int .i64 zk, .int .i64 (pl : Int), .string zw] 50)
          have hbx := heap_alloc_new wr (.cells #[.int .i64 zk, .int .i64 (pl : Int), .string zw] 50)
          have hwos : W.heap.size + 4 < wr.heap.size := hM.sz
          clear hplk hx1 hx2 hplE
          have HMA := Lib.hid hMb; have HJB := Lib.hid hjb; have HKBp := Lib.hid hkb; have HBX := Lib.hid hbx; have HPRE := Lib.hid hpref; have HNX1 := Lib.hid hnx1; have HNX2 := Lib.hid hnx2; clear hM hj hkp hMb hjb hkb hbx hpref hnx1 hnx2
          obtain ⟨wo, hwo⟩ : ∃ wo : World, wo = wr := ⟨_, rfl⟩
          rw [← hwo] at HMA HJB HKBp HBX g1 g2 g3 hbA hwos ⊢
          clear hwo
          go_wp2
          go_loopw [42] (fun v wr => ∃ sd : Nat, v = .int .i64 sd ∧ sd ≤ 2 ∧ EdM W.heap.size l P wr (sdS P pl k s sd) ∧ J (sdL P pl k s L sd) wr ∧ Kp (fun i => C i ∨ i = l) W wr ∧ wr.heap[wo.heap.size]? = some (.cells #[.int .i64 zk, .int .i64 (pl : Int), .string zw] 50 (0, 0))) (fun v _ => 2 - (intOf v).toNat)
          case atStart => exact ⟨0, rfl, by omega, HMA.out, HJB.out, HKBp.out, HBX.out⟩
          case round =>
            obtain ⟨sd, rfl, hsd, hM, hj, hkp, hbw⟩ := hrel
            by_cases hlt2 : sd < 2
            · have h1 : wr.cell? ⟨wo.heap.size, 1, none⟩ = some (.int .i64 (pl : Int)) := cell_of_row wr _ 1 _ _ _ hbw
              obtain ⟨Q, hQ⟩ : ∃ Q : Nat, Q = pl + sd := ⟨_, rfl⟩
              have hQP : Q < P := by omega
              have q1 : (pl : Int) + (sd : Int) = (Q : Int) := by omega
              have hpr := HPRE.out sd hlt2
              rw [← hQ] at hpr
              have hn1 : sdS P pl k s (sd + 1) = (sdS P pl k s sd).put Q k sd ((P : Int) + 2 * (k : Int) + (sd : Int)) := by rw [hQ]; rfl
              have hn2 : sdL P pl k s L (sd + 1) = sdL P pl k s L sd ++ [(sdS P pl k s sd).el Q k sd] := by rw [hQ]; rfl
              generalize sdS P pl k s sd = T at *
              generalize sdL P pl k s L sd = X at *
              have hov := HOV.out X T Q (k : Int) (sd : Int) wr hQP hpr hM hj hkp
              have hsz := hM.sz
              have x3 : (sd : Int) < 2 := by omega
              have HOVp := Lib.hid hov; clear hov
              have HM := Lib.hid hM; have HJ := Lib.hid hj; have HKP := Lib.hid hkp; have HBW := Lib.hid hbw; have HQ := Lib.hid hQ; have HN1 := Lib.hid hn1; have HN2 := Lib.hid hn2; have HPR := Lib.hid hpr; clear hM hj hkp hbw hQ hn1 hn2 hpr
              go_wp2_with fail
              refine HOVp.out.mono ?_
              rintro e w2 ⟨rfl, hM2, hj2, hk2⟩
              have hkw : Kp (fun i => C i ∨ i = l) W w2 := HKP.out.trans hk2
              have hbw2 : w2.heap[wo.heap.size]? = some (.cells #[.int .i64 zk, .int .i64 (pl : Int), .string zw] 50 (0, 0)) := (hk2.same _ (lt_of_block HBW.out) (fun h => by have := HC2.out _ h; omega)).trans HBW.out
              have hb0 := HKB.out w2 hkw
              have b0 : w2.cell? ⟨Bs, 0, none⟩ = some (.int .i64 (P : Int)) := cell_of_row w2 _ 0 _ _ _ hb0
              have y1 : w2.cell? ⟨W.heap.size + 1 + 1, 0, none⟩ = some (.slice (some ⟨W.heap.size + 1, 0, none⟩) P P) := hM2.cells.2.1
              have y2 : w2.cell? ⟨W.heap.size + 1 + 1 + 1 + 1, 0, none⟩ = some (.slice (some ⟨W.heap.size + 1 + 1 + 1, 0, none⟩) P P) := hM2.cells.2.2
              have x4 : (0 : Int) ≤ (Q : Int) := by omega
              have x5 : (Q : Int) < (P : Int) := by omega
              obtain ⟨e0, e1, e2, e3⟩ := hM2.r1.at_ hQP
              have e4 : w2.cell? ⟨W.heap.size + 1 + 1 + 1, Q, none⟩ = some (.int .i64 (T.idx Q)) := hM2.r2.at_ hQP
              have f0 := hM2.r1.free (Q * 4)
              have f1 := hM2.r1.free (Q * 4 + 1)
              have f2 := hM2.r1.free (Q * 4 + 2)
              have f3 := hM2.r1.free (Q * 4 + 3)
              have f4 : w2.frozen? ⟨W.heap.size + 1 + 1 + 1, Q, none⟩ = false := hM2.r2.free Q
              have HNM := Lib.hid (hM2.put Q k sd ((P : Int) + 2 * (k : Int) + (sd : Int))).drew
              have HNJ := Lib.hid (HJC.out _ w2 _ hj2 hkw.size (five_below (Below.refl W.heap.size w2) (Nat.le_refl _) Q k sd ((P : Int) + 2 * (k : Int) + (sd : Int))).drew)
              have HNK := Lib.hid (five_kp hkw (Nat.le_refl _) Q k sd ((P : Int) + 2 * (k : Int) + (sd : Int))).drew
              have HNB : Hid ((((((w2.setCell ⟨W.heap.size + 1, Q * 4, none⟩ (.int .i64 k)).setCell ⟨W.heap.size + 1, Q * 4 + 1, none⟩ (.int .i64 sd)).setCell ⟨W.heap.size + 1, Q * 4 + 2, none⟩ (.int .i64 0)).setCell ⟨W.heap.size + 1, Q * 4 + 3, none⟩ (.int .i64 0)).setCell ⟨W.heap.size + 3, Q, none⟩ (.int .i64 ((P : Int) + 2 * (k : Int) + (sd : Int)))).drew.heap[wo.heap.size]? = some (.cells #[.int .i64 zk, .int .i64 (pl : Int), .string zw] 50 (0, 0))) := Lib.hid (by
                rw [show ∀ v : World, v.drew.heap = v.heap from fun _ => rfl, heap_setCell_other _ _ _ _ (by show wo.heap.size ≠ W.heap.size + 3; omega), heap_setCell_other _ _ _ _ (by show wo.heap.size ≠ W.heap.size + 1; omega), heap_setCell_other _ _ _ _ (by show wo.heap.size ≠ W.heap.size + 1; omega),
                  heap_setCell_other _ _ _ _ (by show wo.heap.size ≠ W.heap.size + 1; omega), heap_setCell_other _ _ _ _ (by show wo.heap.size ≠ W.heap.size + 1; omega)]
                exact hbw2)
              generalize T.fr Q = z1 at *
              generalize T.out Q = z2 at *
              generalize T.idx Q = z3 at *
              have s4 := hM2.sz
              have s5 : W.heap.size + 1 < w2.heap.size := by omega
              have s6 : W.heap.size + 1 + 1 + 1 < w2.heap.size := by omega
              have u1 : IntKind.i64.wrap (2 * (k : Int)) = 2 * (k : Int) := IntWalk.i64_in _ (by omega)
              have u2 : IntKind.i64.wrap ((P : Int) + 2 * (k : Int)) = (P : Int) + 2 * (k : Int) := IntWalk.i64_in _ (by omega)
              have u3 : IntKind.i64.wrap ((P : Int) + 2 * (k : Int) + (sd : Int)) = (P : Int) + 2 * (k : Int) + (sd : Int) := IntWalk.i64_in _ (by omega)
              clear hM2 hj2 hk2 hb0 hkw hbw2 h1
              go_wp2
              go_region
              go_wp2
              go_roundw
              case rel => exact ⟨sd + 1, by go_num, by omega, by rw [HN1.out]; exact HNM.out, by rw [HN2.out]; exact HNJ.out, HNK.out, HNB.out⟩
              case measure => simp [intOf]; omega
            · obtain rfl : sd = 2 := by omega
              have HM2 := Lib.hid hM; have HJ2 := Lib.hid hj; have HK2 := Lib.hid hkp; clear hM hj hkp hbw
              go_wp2
              go_roundw
              case rel => exact ⟨k + 1, by go_num, by omega, by rw [HNX1.out]; exact HM2.out, by rw [HNX2.out]; exact HJ2.out, HK2.out⟩
              case measure => simp [intOf]; omega
        · have hkn : k = ws.length := by omega
          rw [hkn] at hM hj
          clear hkn
          have y1 : wr.cell? ⟨W.heap.size + 1 + 1, 0, none⟩ = some (.slice (some ⟨W.heap.size + 1, 0, none⟩) P P) := hM.cells.2.1
          have HM2 := Lib.hid hM; have HJ2 := Lib.hid hj; have HK2 := Lib.hid hkp; clear hM hj hkp
          obtain ⟨wo, hwo⟩ : ∃ wo : World, wo = wr := ⟨_, rfl⟩
          rw [← hwo] at HM2 HJ2 HK2 y1 ⊢
          clear hwo
          go_wp2
          clear y1
          go_loopw [75] (fun v wr => ∃ j : Nat, v = .int .i64 j ∧ j ≤ P ∧ EdM W.heap.size l P wr (eWork P (plsOf ws) ws.length) ∧ J (eList P (plsOf ws) ws.length ++ eEnds (eWork P (plsOf ws) ws.length) j) wr ∧ Kp (fun i => C i ∨ i = l) W wr) (fun v _ => P - (intOf v).toNat)
          case atStart => exact ⟨0, rfl, Nat.zero_le _, HM2.out, by simpa [eEnds] using HJ2.out, HK2.out⟩
          case round =>
            obtain ⟨j, rfl, hj0, hM, hj, hkp⟩ := hrel
            by_cases hlt3 : j < P
            · have hov := HOV.out _ _ j (-1) (j : Int) wr hlt3 (eAll_end P (plsOf ws) ws.length hlt3) hM hj hkp
              rw [List.append_assoc, ← eEnds_succ] at hov
              have HOVp := Lib.hid hov; have HK3 := Lib.hid hkp; clear hov hM hj hkp
              have x3 : (j : Int) < (P : Int) := by omega
              go_wp2_with fail
              refine HOVp.out.mono ?_
              rintro e w2 ⟨rfl, hM2, hj2, hk2⟩
              have HM4 := Lib.hid hM2; have HJ4 := Lib.hid hj2; have HK4 := Lib.hid (HK3.out.trans hk2); clear hM2 hj2 hk2
              go_wp2
              go_roundw
              case rel => exact ⟨j + 1, by go_num, by omega, HM4.out, HJ4.out, HK4.out⟩
              case measure => simp [intOf]; omega
            · have hjP : j = P := by omega
              rw [hjP] at hj
              have HJ5 := Lib.hid hj; clear hM hj hkp hjP
              go_wp2
              go_end0
              exact ⟨⟨_, rfl⟩, HJ5.out⟩
end Go.Proofs.YtlpfecjkkgccgaaDoor
