/- Texts of this claim, laid together: Iter. -/
import Derived.Test.YtnplcephmidjbaaDoorMaA
import Derived.LoopIn
import Derived.LoopNIn
import Derived.OwnWalkIn
import Derived.RangeFuncBound
import Derived.RangeFuncCalls
import Derived.RangeFuncLeaves
import Derived.RangeFuncNested
import Derived.Shelf.Abstract
import Derived.Shelf.RegionOpen
import Derived.TacticsInMore
import Derived.WalkKit
/- A range over a function whose iterator keeps state of its own: the law of such a loop, where each round goes on. Over any program. -/
namespace Go.Proofs.YtnplcephmidjbaaDoor
open Go Go.RowKit

/-- What a round keeps: every block but those of C. -/
structure Kp (C : Nat → Prop) (W W' : World) : Prop where
  os : W'.os = W.os
  tape : W'.tape = W.tape
  output : W'.output = W.output
  size : W.heap.size ≤ W'.heap.size
  same : ∀ i, i < W.heap.size → ¬ C i → W'.heap[i]? = W.heap[i]?
section
variable {C : Nat → Prop} {A W W' : World}
theorem Kp.refl (C : Nat → Prop) (W : World) : Kp C W W := ⟨rfl, rfl, rfl, Nat.le_refl _, fun _ _ _ => rfl⟩
theorem Kp.trans (h : Kp C A W) (k : Kp C W W') : Kp C A W' :=
  ⟨k.os.trans h.os, k.tape.trans h.tape, k.output.trans h.output, Nat.le_trans h.size k.size, fun i hi hc => (k.same i (Nat.lt_of_lt_of_le hi h.size) hc).trans (h.same i hi hc)⟩
theorem Kp.of_below (C : Nat → Prop) (h : Below W.heap.size W W') : Kp C W W' := ⟨h.os, h.tape, h.output, h.size, fun i hi _ => h.block i hi⟩
theorem Kp.setCell (h : Kp C A W) {p : Addr} (hp : C p.block ∨ A.heap.size ≤ p.block) (u : Value) : Kp C A (W.setCell p u) :=
  ⟨h.os, h.tape, h.output, by simpa [World.setCell] using h.size, fun i hi hc => (Below.heap_setCell W p u i (by
    rintro rfl
    rcases hp with hp | hp
    · exact hc hp
    · omega)).trans (h.same i hi hc)⟩
theorem Kp.alloc (h : Kp C A W) (o : Obj) : Kp C A (W.alloc o) :=
  ⟨h.os, h.tape, h.output, Nat.le_trans h.size (by simp), fun i hi hc => (Below.heap_alloc W o i (Nat.lt_of_lt_of_le hi h.size)).trans (h.same i hi hc)⟩
theorem Kp.drew (h : Kp C A W) : Kp C A W.drew := ⟨h.os, h.tape, h.output, h.size, h.same⟩
theorem Kp.mono {C' : Nat → Prop} (h : Kp C W W') (hc : ∀ i, C i → C' i) : Kp C' W W' := ⟨h.os, h.tape, h.output, h.size, fun i hi hn => h.same i hi fun hci => hn (hc i hci)⟩
end

/-- What an iterator's value promises: it yields S, one after the other, whatever the rounds do with the blocks of C. -/
def IterOK {α : Type} (P : Program) (gf : Nat) (lb : Array Value) (encs : α → Array Value) (S : List α) (C : Nat → Prop) (w : World) : Prop :=
  ∀ (l : Nat) (J : List α → World → Prop) (W : World), Below w.heap.size w W → w.heap.size ≤ l → l < W.heap.size →
    (∀ pre A B, J pre A → W.heap.size ≤ A.heap.size → Below W.heap.size A B → J pre B) →
    (∀ pre x W1, pre ++ [x] <+: S → J pre W1 → W.heap.size ≤ W1.heap.size → YieldAt Fence.wide 1 P l (encs x) W1 fun e W' => e = .returned (.bool true) ∧ J (pre ++ [x]) W' ∧ Kp (fun i => C i ∨ i = l) W1 W') →
    J [] W → Calls P gf (#[.func (.yield l) #[] #[]] ++ lb) W fun e W' => (∃ v, e = .returned v) ∧ J S W'

/-- How a round is left: it goes on. -/
def iterPost (C : Nat → Prop) (I : World → Prop) (W : World) : Exit → Act → World → Prop
  | .normal, _, W' => Kp C W W' ∧ I W'
  | _, _, _ => False

theorem below_putObj {n₀ : Nat} {W : World} {l : Nat} (o' : Obj) (hl : n₀ ≤ l) : Below n₀ W (W.putObj l o') :=
  ⟨rfl, rfl, rfl, by simp, fun k hk => World.putObj_heap_other (by omega)⟩

theorem wp_iter {α : Type} {P : Program} {g : Operand} {ps : Array Tmp} {assign body : Code} {Q : Exit → Act → World → Prop} {a : Act} {w : World}
    {gf : Nat} {lb : Array Value} (hg : a.eval g = .func (.func gf) #[] lb) (eg : ∀ args w, (callFunc gf args).run P w = .ok (.enter gf args) w)
    {encs : α → Array Value} (S : List α) (C : Nat → Prop) (hC : ∀ i, C i → i < w.heap.size) (hps : ∀ x, (encs x).size = ps.size) (hseq : IterOK P gf lb encs S C w)
    (I : List α → World → Prop) (hI : ∀ pre A B, I pre A → w.heap.size ≤ A.heap.size → Below w.heap.size A B → I pre B) (h0 : I [] w)
    (Ax : α → Act → World → Prop) (hAx : ∀ (x : α) (a' : Act) (W W' : World) (l : Nat) (r : Loop), Ax x a' W → W.heap[l]? = some (.loop r) → W.heap.size ≤ W'.heap.size → (∀ i, i ≠ l → W'.heap[i]? = W.heap[i]?) → Ax x a' W')
    (hassign : ∀ (l : Nat) (pre : List α) (x : α) (W : World) (K : Act → World → Prop), pre ++ [x] <+: S → I pre W → w.heap.size ≤ W.heap.size → (∀ a' W', Ax x a' W' → Below W.heap.size W W' → K a' W') →
      assign.wpIn (Fence.wide.inRound l) 1 P (Exit.then K (fun _ _ _ => False)) { tmps := (ps.zip (encs x)).foldl (fun t (p, v) => t.setIfInBounds p v) a.tmps, defers := [] } W)
    (hbody : ∀ (l : Nat) (pre : List α) (x : α) (a' : Act) (W : World), pre ++ [x] <+: S → I pre W → Ax x a' W → w.heap.size ≤ W.heap.size → body.wpIn (Fence.wide.inRound l) 1 P (iterPost C (I (pre ++ [x])) W) a' W)
    (hdone : ∀ W, I S W → W.heap[w.heap.size]? = some (.deferred (some [])) → w.heap.size < W.heap.size → Q .normal { a with defers := { target := .collected w.heap.size, args := #[] } :: a.defers } W) :
    (Code.rangeFunc g ps assign body).wpIn Fence.wide 3 P Q a w := by
  refine wpIn_rangeFunc ?_
  intro fn hfn
  rw [Fence.wide_round]
  obtain ⟨rec, hrec⟩ : ∃ rec : LoopState → Option Code → Loop, rec = fun st pe => { state := st, pending := pe, fn, tmps := a.tmps, params := ps, assign, body, defers := w.heap.size } := ⟨_, rfl⟩
  obtain ⟨W1, hW1⟩ : ∃ W1, (w.alloc (.deferred (some []))).alloc (.loop (rec .ready none)) = W1 := ⟨_, rfl⟩
  have hs1 : W1.heap.size = w.heap.size + 2 := by rw [← hW1]; simp
  have hL1 : W1.heap[w.heap.size + 1]? = some (.loop (rec .ready none)) := by
    rw [← hW1]; have := World.alloc_heap_new (w.alloc (.deferred (some []))) (.loop (rec .ready none)); rwa [World.size_alloc] at this
  have hK1 : W1.heap[w.heap.size]? = some (.deferred (some [])) := by
    rw [← hW1]; exact (Below.heap_alloc _ _ _ (by simp)).trans (World.alloc_heap_new w _)
  have hb1 : Below w.heap.size w W1 := by
    rw [← hW1]; exact ((Below.refl _ w).alloc (Nat.le_refl _) _).alloc (by simp) _
  refine ⟨w.heap.size + 1, [{ target := .collected w.heap.size, args := #[] }], W1, { target := .fn (.func gf) lb, args := #[.func (.yield (w.heap.size + 1)) #[] #[]] }, W1, gf,
    #[.func (.yield (w.heap.size + 1)) #[] #[]] ++ lb, W1, ?_, ?_, ?_, ?_, fun _ => by omega, ?_⟩
  · rw [← hW1, hrec]; exact run_enterLoop_outer _ _ _ _ _
  · simp only [resolve, hg]
    simp [go_sem]
  · intro f' _; trivial
  · simp [invoke, go_sem, eg]
  · refine (callsIn_wide.2 (hseq (w.heap.size + 1)
      (fun pre W => I pre W ∧ W.heap[w.heap.size + 1]? = some (.loop (rec .ready none)) ∧ W.heap[w.heap.size]? = some (.deferred (some [])))
      W1 hb1 (by omega) (by omega)
      (fun pre A B hj hs hb => ⟨hI pre A B hj.1 (by omega) (hb.mono (by omega)), (hb.block _ (by omega)).trans hj.2.1, (hb.block _ (by omega)).trans hj.2.2⟩)
      ?_ ⟨hI [] w W1 h0 (Nat.le_refl _) hb1, hL1, hK1⟩)).mono ?_
    · rintro pre x W hpre ⟨hi, hl, hk⟩ hsz
      have hy := run_yield (P := P) (args := encs x) hl (by rw [hrec]; exact hps x)
      rw [hrec] at hy
      refine ⟨fn, _, assign, body, hy, roundIn_of_wpIn hfn (hassign _ pre x W _ hpre hi (by omega) fun a' W' hax hbel => ?_)⟩
      have hl' : W'.heap[w.heap.size + 1]? = some (.loop (rec .ready none)) := (hbel.block _ (by omega)).trans hl
      have hlt' : w.heap.size + 1 < W'.heap.size := (Array.getElem?_eq_some_iff.1 hl').1
      refine ⟨_, run_beginRound hl' (by rw [hrec]), ?_⟩
      have hl2 : (W'.putObj (w.heap.size + 1) (.loop { rec .ready none with state := .busy })).heap[w.heap.size + 1]? = some (.loop { rec .ready none with state := .busy }) := World.putObj_heap_same hlt'
      have hb2 : Below w.heap.size W (W'.putObj (w.heap.size + 1) (.loop { rec .ready none with state := .busy })) :=
        (hbel.mono (by omega)).trans (below_putObj _ (by omega))
      have hax2 := hAx x a' W' (W'.putObj (w.heap.size + 1) (.loop { rec .ready none with state := .busy })) _ _ hax hl' (by simp) (fun i hi => World.putObj_heap_other hi)
      refine wpIn_mono (hbody _ pre x a' _ hpre (hI pre W _ hi (by omega) hb2) hax2 (by simp; omega)) ?_
      rintro e a3 W3 hp
      cases e with
      | normal =>
        obtain ⟨hkp, hi3⟩ := hp
        have hsz2 := hkp.size
        rw [World.putObj_size] at hsz2
        have hl3 : W3.heap[w.heap.size + 1]? = some (.loop { rec .ready none with state := .busy }) := (hkp.same _ (by rw [World.putObj_size]; exact hlt') (fun hc => by have := hC _ hc; omega)).trans hl2
        have hk3 : W3.heap[w.heap.size]? = some (.deferred (some [])) :=
          (hkp.same _ (by rw [World.putObj_size]; omega) (fun hc => by have := hC _ hc; omega)).trans ((World.putObj_heap_other (by omega)).trans ((hbel.block _ (by omega)).trans hk))
        have hend := run_endRound (P := P) none hl3
        have hrr : ({ { rec .ready none with state := .busy } with state := if (none : Option Code).isNone then .ready else .done, pending := none } : Loop) = rec .ready none := by rw [hrec]; rfl
        rw [hrr] at hend
        refine ⟨_, _, hend, rfl, ⟨hI _ W3 _ hi3 (by omega) (below_putObj _ (by omega)), World.putObj_heap_same (Array.getElem?_eq_some_iff.1 hl3).1, (World.putObj_heap_other (by omega)).trans hk3⟩, ?_⟩
        refine ⟨hkp.os.trans hbel.os, hkp.tape.trans hbel.tape, hkp.output.trans hbel.output, by rw [World.putObj_size]; have := hbel.size; omega, fun i hi hc => ?_⟩
        have hne : i ≠ w.heap.size + 1 := fun e => hc (.inr e)
        have hbs := hbel.size
        rw [World.putObj_heap_other hne, hkp.same i (by rw [World.putObj_size]; omega) (fun h => hc (.inl h)), World.putObj_heap_other hne]
        exact hbel.block i hi
      | ret => exact hp.elim
      | exit id => exact hp.elim
      | goto t => exact hp.elim
      | panic ch => exact hp.elim
      | outgrown => exact hp.elim
    · rintro e W2 ⟨⟨v, rfl⟩, hi, hl, hk⟩
      have hlt := (Array.getElem?_eq_some_iff.1 hl).1
      refine ⟨none, _, by have := run_endLoop (P := P) hl (by rw [hrec]; simp); rw [hrec] at this; exact this, hdone _ (hI S W2 _ hi (by omega) (below_putObj _ (by omega))) ((World.putObj_heap_other (by omega)).trans hk) (by simp; omega)⟩
end Go.Proofs.YtnplcephmidjbaaDoor
