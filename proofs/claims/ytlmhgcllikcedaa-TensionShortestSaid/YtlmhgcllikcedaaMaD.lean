/- Texts of this claim, laid together: Iter, IterS. -/
import Derived.Test.YtlmhgcllikcedaaMaA
import Derived.LoopIn
import Derived.LoopNIn
import Derived.OwnWalkIn
import Derived.RangeFuncBound
import Derived.RangeFuncCalls
import Derived.RangeFuncLeaves
import Derived.RangeFuncNested
import Derived.Shelf.Abstract
import Derived.Shelf.RegionOpen
import Derived.TacticsInMore
import Derived.WalkKit
/- A range over a function whose iterator keeps state of its own: the law of such a loop, where each round goes on. Over any program. -/
namespace Go.Proofs.Ytlmhgcllikcedaa
open Go Go.RowKit

/-- What a round keeps: every block but those of C. -/
structure Kp (C : Nat → Prop) (W W' : World) : Prop where
  os : W'.os = W.os
  tape : W'.tape = W.tape
  output : W'.output = W.output
  size : W.heap.size ≤ W'.heap.size
  same : ∀ i, i < W.heap.size → ¬ C i → W'.heap[i]? = W.heap[i]?
section
variable {C : Nat → Prop} {A W W' : World}
theorem Kp.refl (C : Nat → Prop) (W : World) : Kp C W W := ⟨rfl, rfl, rfl, Nat.le_refl _, fun _ _ _ => rfl⟩
theorem Kp.trans (h : Kp C A W) (k : Kp C W W') : Kp C A W' :=
  ⟨k.os.trans h.os, k.tape.trans h.tape, k.output.trans h.output, Nat.le_trans h.size k.size, fun i hi hc => (k.same i (Nat.lt_of_lt_of_le hi h.size) hc).trans (h.same i hi hc)⟩
theorem Kp.of_below (C : Nat → Prop) (h : Below W.heap.size W W') : Kp C W W' := ⟨h.os, h.tape, h.output, h.size, fun i hi _ => h.block i hi⟩
theorem Kp.setCell (h : Kp C A W) {p : Addr} (hp : C p.block ∨ A.heap.size ≤ p.block) (u : Value) : Kp C A (W.setCell p u) :=
  ⟨h.os, h.tape, h.output, by simpa [World.setCell] using h.size, fun i hi hc => (Below.heap_setCell W p u i (by
    rintro rfl
    rcases hp with hp | hp
    · exact hc hp
    · omega)).trans (h.same i hi hc)⟩
theorem Kp.alloc (h : Kp C A W) (o : Obj) : Kp C A (W.alloc o) :=
  ⟨h.os, h.tape, h.output, Nat.le_trans h.size (by simp), fun i hi hc => (Below.heap_alloc W o i (Nat.lt_of_lt_of_le hi h.size)).trans (h.same i hi hc)⟩
theorem Kp.drew (h : Kp C A W) : Kp C A W.drew := ⟨h.os, h.tape, h.output, h.size, h.same⟩
theorem Kp.mono {C' : Nat → Prop} (h : Kp C W W') (hc : ∀ i, C i → C' i) : Kp C' W W' := ⟨h.os, h.tape, h.output, h.size, fun i hi hn => h.same i hi fun hci => hn (hc i hci)⟩
end

/-- What an iterator's value promises: it yields S, one after the other, whatever the rounds do with the blocks of C. -/
def IterOK {α : Type} (P : Program) (gf : Nat) (lb : Array Value) (encs : α → Array Value) (S : List α) (C : Nat → Prop) (w : World) : Prop :=
  ∀ (l : Nat) (J : List α → World → Prop) (W : World), Below w.heap.size w W → w.heap.size ≤ l → l < W.heap.size →
    (∀ pre A B, J pre A → W.heap.size ≤ A.heap.size → Below W.heap.size A B → J pre B) →
    (∀ pre x W1, pre ++ [x] <+: S → J pre W1 → W.heap.size ≤ W1.heap.size → YieldAt Fence.wide 1 P l (encs x) W1 fun e W' => e = .returned (.bool true) ∧ J (pre ++ [x]) W' ∧ Kp (fun i => C i ∨ i = l) W1 W') →
    J [] W → Calls P gf (#[.func (.yield l) #[] #[]] ++ lb) W fun e W' => (∃ v, e = .returned v) ∧ J S W'

/-- How a round is left: it goes on. -/
def iterPost (C : Nat → Prop) (I : World → Prop) (W : World) : Exit → Act → World → Prop
  | .normal, _, W' => Kp C W W' ∧ I W'
  | _, _, _ => False

theorem below_putObj {n₀ : Nat} {W : World} {l : Nat} (o' : Obj) (hl : n₀ ≤ l) : Below n₀ W (W.putObj l o') :=
  ⟨rfl, rfl, rfl, by simp, fun k hk => World.putObj_heap_other (by omega)⟩

theorem wp_iter {α : Type} {P : Program} {g : Operand} {ps : Array Tmp} {assign body : Code} {Q : Exit → Act → World → Prop} {a : Act} {w : World}
    {gf : Nat} {lb : Array Value} (hg : a.eval g = .func (.func gf) #[] lb) (eg : ∀ args w, (callFunc gf args).run P w = .ok (.enter gf args) w)
    {encs : α → Array Value} (S : List α) (C : Nat → Prop) (hC : ∀ i, C i → i < w.heap.size) (hps : ∀ x, (encs x).size = ps.size) (hseq : IterOK P gf lb encs S C w)
    (I : List α → World → Prop) (hI : ∀ pre A B, I pre A → w.heap.size ≤ A.heap.size → Below w.heap.size A B → I pre B) (h0 : I [] w)
    (Ax : α → Act → World → Prop) (hAx : ∀ (x : α) (a' : Act) (W W' : World) (l : Nat) (r : Loop), Ax x a' W → W.heap[l]? = some (.loop r) → W.heap.size ≤ W'.heap.size → (∀ i, i ≠ l → W'.heap[i]? = W.heap[i]?) → Ax x a' W')
    (hassign : ∀ (l : Nat) (pre : List α) (x : α) (W : World) (K : Act → World → Prop), pre ++ [x] <+: S → I pre W → w.heap.size ≤ W.heap.size → (∀ a' W', Ax x a' W' → Below W.heap.size W W' → K a' W') →
      assign.wpIn (Fence.wide.inRound l) 1 P (Exit.then K (fun _ _ _ => False)) { tmps := (ps.zip (encs x)).foldl (fun t (p, v) => t.setIfInBounds p v) a.tmps, defers := [] } W)
    (hbody : ∀ (l : Nat) (pre : List α) (x : α) (a' : Act) (W : World), pre ++ [x] <+: S → I pre W → Ax x a' W → w.heap.size ≤ W.heap.size → body.wpIn (Fence.wide.inRound l) 1 P (iterPost C (I (pre ++ [x])) W) a' W)
    (hdone : ∀ W, I S W → W.heap[w.heap.size]? = some (.deferred (some [])) → w.heap.size < W.heap.size → Q .normal { a with defers := { target := .collected w.heap.size, args := #[] } :: a.defers } W) :
    (Code.rangeFunc g ps assign body).wpIn Fence.wide 3 P Q a w := by
  refine wpIn_rangeFunc ?_
  intro fn hfn
  rw [Fence.wide_round]
  obtain ⟨rec, hrec⟩ : ∃ rec : LoopState → Option Code → Loop, rec = fun st pe => { state := st, pending := pe, fn, tmps := a.tmps, params := ps, assign, body, defers := w.heap.size } := ⟨_, rfl⟩
  obtain ⟨W1, hW1⟩ : ∃ W1, (w.alloc (.deferred (some []))).alloc (.loop (rec .ready none)) = W1 := ⟨_, rfl⟩
  have hs1 : W1.heap.size = w.heap.size + 2 := by rw [← hW1]; simp
  have hL1 : W1.heap[w.heap.size + 1]? = some (.loop (rec .ready none)) := by
    rw [← hW1]; have := World.alloc_heap_new (w.alloc (.deferred (some []))) (.loop (rec .ready none)); rwa [World.size_alloc] at this
  have hK1 : W1.heap[w.heap.size]? = some (.deferred (some [])) := by
    rw [← hW1]; exact (Below.heap_alloc _ _ _ (by simp)).trans (World.alloc_heap_new w _)
  have hb1 : Below w.heap.size w W1 := by
    rw [← hW1]; exact ((Below.refl _ w).alloc (Nat.le_refl _) _).alloc (by simp) _
  refine ⟨w.heap.size + 1, [{ target := .collected w.heap.size, args := #[] }], W1, { target := .fn (.func gf) lb, args := #[.func (.yield (w.heap.size + 1)) #[] #[]] }, W1, gf,
    #[.func (.yield (w.heap.size + 1)) #[] #[]] ++ lb, W1, ?_, ?_, ?_, ?_, fun _ => by omega, ?_⟩
  · rw [← hW1, hrec]; exact run_enterLoop_outer _ _ _ _ _
  · simp only [resolve, hg]
    simp [go_sem]
  · intro f' _; trivial
  · simp [invoke, go_sem, eg]
  · refine (callsIn_wide.2 (hseq (w.heap.size + 1)
      (fun pre W => I pre W ∧ W.heap[w.heap.size + 1]? = some (.loop (rec .ready none)) ∧ W.heap[w.heap.size]? = some (.deferred (some [])))
      W1 hb1 (by omega) (by omega)
      (fun pre A B hj hs hb => ⟨hI pre A B hj.1 (by omega) (hb.mono (by omega)), (hb.block _ (by omega)).trans hj.2.1, (hb.block _ (by omega)).trans hj.2.2⟩)
      ?_ ⟨hI [] w W1 h0 (Nat.le_refl _) hb1, hL1, hK1⟩)).mono ?_
    · rintro pre x W hpre ⟨hi, hl, hk⟩ hsz
      have hy := run_yield (P := P) (args := encs x) hl (by rw [hrec]; exact hps x)
      rw [hrec] at hy
      refine ⟨fn, _, assign, body, hy, roundIn_of_wpIn hfn (hassign _ pre x W _ hpre hi (by omega) fun a' W' hax hbel => ?_)⟩
      have hl' : W'.heap[w.heap.size + 1]? = some (.loop (rec .ready none)) := (hbel.block _ (by omega)).trans hl
      have hlt' : w.heap.size + 1 < W'.heap.size := (Array.getElem?_eq_some_iff.1 hl').1
      refine ⟨_, run_beginRound hl' (by rw [hrec]), ?_⟩
      have hl2 : (W'.putObj (w.heap.size + 1) (.loop { rec .ready none with state := .busy })).heap[w.heap.size + 1]? = some (.loop { rec .ready none with state := .busy }) := World.putObj_heap_same hlt'
      have hb2 : Below w.heap.size W (W'.putObj (w.heap.size + 1) (.loop { rec .ready none with state := .busy })) :=
        (hbel.mono (by omega)).trans (below_putObj _ (by omega))
      have hax2 := hAx x a' W' (W'.putObj (w.heap.size + 1) (.loop { rec .ready none with state := .busy })) _ _ hax hl' (by simp) (fun i hi => World.putObj_heap_other hi)
      refine wpIn_mono (hbody _ pre x a' _ hpre (hI pre W _ hi (by omega) hb2) hax2 (by simp; omega)) ?_
      rintro e a3 W3 hp
      cases e with
      | normal =>
        obtain ⟨hkp, hi3⟩ := hp
        have hsz2 := hkp.size
        rw [World.putObj_size] at hsz2
        have hl3 : W3.heap[w.heap.size + 1]? = some (.loop { rec .ready none with state := .busy }) := (hkp.same _ (by rw [World.putObj_size]; exact hlt') (fun hc => by have := hC _ hc; omega)).trans hl2
        have hk3 : W3.heap[w.heap.size]? = some (.deferred (some [])) :=
          (hkp.same _ (by rw [World.putObj_size]; omega) (fun hc => by have := hC _ hc; omega)).trans ((World.putObj_heap_other (by omega)).trans ((hbel.block _ (by omega)).trans hk))
        have hend := run_endRound (P := P) none hl3
        have hrr : ({ { rec .ready none with state := .busy } with state := if (none : Option Code).isNone then .ready else .done, pending := none } : Loop) = rec .ready none := by rw [hrec]; rfl
        rw [hrr] at hend
        refine ⟨_, _, hend, rfl, ⟨hI _ W3 _ hi3 (by omega) (below_putObj _ (by omega)), World.putObj_heap_same (Array.getElem?_eq_some_iff.1 hl3).1, (World.putObj_heap_other (by omega)).trans hk3⟩, ?_⟩
        refine ⟨hkp.os.trans hbel.os, hkp.tape.trans hbel.tape, hkp.output.trans hbel.output, by rw [World.putObj_size]; have := hbel.size; omega, fun i hi hc => ?_⟩
        have hne : i ≠ w.heap.size + 1 := fun e => hc (.inr e)
        have hbs := hbel.size
        rw [World.putObj_heap_other hne, hkp.same i (by rw [World.putObj_size]; omega) (fun h => hc (.inl h)), World.putObj_heap_other hne]
        exact hbel.block i hi
      | ret => exact hp.elim
      | exit id => exact hp.elim
      | goto t => exact hp.elim
      | panic ch => exact hp.elim
      | outgrown => exact hp.elim
    · rintro e W2 ⟨⟨v, rfl⟩, hi, hl, hk⟩
      have hlt := (Array.getElem?_eq_some_iff.1 hl).1
      refine ⟨none, _, by have := run_endLoop (P := P) hl (by rw [hrec]; simp); rw [hrec] at this; exact this, hdone _ (hI S W2 _ hi (by omega) (below_putObj _ (by omega))) ((World.putObj_heap_other (by omega)).trans hk) (by simp; omega)⟩
end Go.Proofs.Ytlmhgcllikcedaa
/- A range over a function whose rounds may go on, leave or panic: the law of such a loop. Over any program. -/
namespace Go.Proofs.Ytlmhgcllikcedaa
open Go Go.RowKit

/-- Above n only the records of loops and of deferred calls are touched. -/
structure RecO (n : Nat) (A B : World) : Prop where
  below : Below n A B
  cells : ∀ (i : Nat) (cs : Array Value) (T : TypeId) (z : Nat × Nat), A.heap[i]? = some (.cells cs T z) → B.heap[i]? = A.heap[i]?
theorem RecO.mono {n m : Nat} {A B : World} (h : RecO n A B) (hm : m ≤ n) : RecO m A B := ⟨h.below.mono hm, h.cells⟩
theorem RecO.loop {n l : Nat} {W : World} {r r' : Loop} (hl : n ≤ l) (h : W.heap[l]? = some (.loop r)) : RecO n W (W.putObj l (.loop r')) :=
  ⟨⟨rfl, rfl, rfl, by simp, fun k hk => World.putObj_heap_other (by omega)⟩, fun i cs T z hi => World.putObj_heap_other (by rintro rfl; rw [h] at hi; cases hi)⟩
/-- What an iterator's value promises: it yields S, one after the other, as long as the rounds go on, whatever they do with the blocks of C; it hands on what a round that leaves has left, and a panic. -/
def IterS {α : Type} (P : Program) (gf : Nat) (lb : Array Value) (encs : α → Array Value) (S : List α) (C : Nat → Prop) (w : World) : Prop :=
  ∀ (l : Nat) (J Jx : List α → World → Prop) (Jp : List PanicEntry → List α → World → Prop) (W : World), Below w.heap.size w W → w.heap.size ≤ l → l < W.heap.size →
    (∀ pre A B, J pre A → W.heap.size ≤ A.heap.size → Below W.heap.size A B → J pre B) → (∀ pre A B, Jx pre A → W.heap.size ≤ A.heap.size → RecO W.heap.size A B → Jx pre B) →
    (∀ pre x W1, pre ++ [x] <+: S → J pre W1 → W.heap.size ≤ W1.heap.size → YieldAt Fence.wide 1 P l (encs x) W1 fun e W' =>
      (e = .returned (.bool true) ∧ J (pre ++ [x]) W' ∧ Kp (fun i => C i ∨ i = l) W1 W') ∨ (e = .returned (.bool false) ∧ Jx (pre ++ [x]) W' ∧ W1.heap.size ≤ W'.heap.size) ∨ ∃ ch, e = .panicked ch ∧ Jp ch (pre ++ [x]) W') →
    J [] W → Calls P gf (#[.func (.yield l) #[] #[]] ++ lb) W fun e W' =>
      (∃ v, e = .returned v ∧ (J S W' ∨ ∃ pre x, pre ++ [x] <+: S ∧ Jx (pre ++ [x]) W')) ∨ ∃ ch pre x, e = .panicked ch ∧ pre ++ [x] <+: S ∧ Jp ch (pre ++ [x]) W'

/-- How a round is left. -/
def iterPostS (C : Nat → Prop) (I : World → Prop) (Ix : Code → World → Prop) (Ip : List PanicEntry → World → Prop) (W : World) : Exit → Act → World → Prop
  | .normal, _, W' => Kp C W W' ∧ I W'
  | .ret, _, W' => Kp C W W' ∧ Ix .ret W'
  | .exit id, _, W' => Kp C W W' ∧ Ix (.exit id) W'
  | .panic ch, a, W' => a.defers = [] ∧ Kp C W W' ∧ Ip ch W'
  | _, _, _ => False
/-- A round's end, a panic taken in. -/
def roundPostP (P : Program) (l f : Nat) (R : Ending → World → Prop) : Exit → Act → World → Prop
  | .panic ch, a, w => (∃ g, P.funcs[f]? = some g) ∧ a.defers = [] ∧ R (.panicked ch) w
  | e, a, w => roundPost P l R e a w
theorem roundIn_of_wpInP {F : Fence} {n : Nat} {P : Program} {l : Nat} {f : FuncId} {tmps : Array Value} {assign body : Code} {w : World} {R : Ending → World → Prop} (hF : F.fn f)
    (h : assign.wpIn (F.inRound l) n P (Exit.then (fun a₁ w₁ => ∃ w₂, (Instr.beginRound l).run P w₁ = .ok () w₂ ∧ body.wpIn (F.inRound l) n P (roundPostP P l f R) a₁ w₂) (fun _ _ _ => False))
      { tmps := tmps, defers := [] } w) :
    RoundIn F n P l f tmps assign body w R := by
  refine ⟨hF, fun c cs hr => ?_⟩
  let b : Frame := { (default : Frame) with fn := f, kind := .normal, roundOf := some l }
  have hb0 : Frame.round l f tmps assign body .normal = b.atR { tmps := tmps, defers := [] } [.code assign, .beginRound, .code body] := by
    simp [Frame.round, Frame.atR, b]
  have hr' : (F.inRound l).room ((c :: cs).length + 1 + n) := hr
  have hF' : (F.inRound l).fn b.fn := hF
  obtain ⟨e, a₁, w₁, hq, harr⟩ := h b [.beginRound, .code body] (c :: cs) rfl hF' hr'
  rw [← hb0] at harr
  cases e with
  | normal =>
    obtain ⟨w₂, hbr, hbody⟩ := hq
    have s1 : StepsIn (Machine.fenced P (F.inRound l)) P (lone (b.atR a₁ [.beginRound, .code body]) (c :: cs) w₁) (lone (b.atR a₁ [.code body]) (c :: cs) w₂) :=
      .one (fenced_calm (fr := b.atR a₁ [.beginRound, .code body]) hF' hr' rfl) (stepR_beginRound rfl hbr)
    obtain ⟨e₂, a₂, w₃, hq₂, harr₂⟩ := hbody b [] (c :: cs) rfl hF' hr'
    cases e₂ with
    | normal =>
      obtain ⟨v, w₄, hend, hR⟩ := hq₂
      exact ⟨.returned v, w₄, hR, (StepsIn.trans harr s1).trans (StepsIn.trans harr₂ (.one (fenced_calm (fr := b.atR a₂ []) hF' hr' rfl) (stepR_round_end rfl rfl hend)))⟩
    | ret =>
      obtain ⟨v, w₄, hend, hR⟩ := hq₂
      obtain ⟨k₁, hs⟩ := harr₂.2 rfl
      exact ⟨.returned v, w₄, hR, (StepsIn.trans harr s1).trans (StepsIn.trans hs (.one (fenced_calm (fr := b.atR a₂ (.code .ret :: k₁)) hF' hr' rfl) (stepR_round_ret rfl rfl hend)))⟩
    | exit id =>
      obtain ⟨v, w₄, hend, hR⟩ := hq₂
      obtain ⟨k₁, hk, hs⟩ := harr₂.2 rfl rfl
      exact ⟨.returned v, w₄, hR, (StepsIn.trans harr s1).trans (StepsIn.trans hs (.one (fenced_calm (fr := b.atR a₂ (.code (.exit id) :: k₁)) hF' hr' rfl) (stepR_round_exit rfl rfl hk hend)))⟩
    | goto t =>
      obtain ⟨v, w₄, hend, hR⟩ := hq₂
      obtain ⟨k₁, hk, hs⟩ := harr₂.2 rfl rfl
      exact ⟨.returned v, w₄, hR, (StepsIn.trans harr s1).trans (StepsIn.trans hs (.one (fenced_calm (fr := b.atR a₂ (.code (.goto t) :: k₁)) hF' hr' rfl) (stepR_round_goto rfl rfl hk hend)))⟩
    | panic chain =>
      obtain ⟨⟨g, hg⟩, hd, hR⟩ := hq₂
      obtain ⟨todo, hs⟩ := harr₂
      have hleave : Frame.leaving P { b.atR a₂ todo with mode := .panicking chain } w₃ (.panicked chain) := ⟨rfl, hd, g, hg⟩
      exact ⟨.panicked chain, w₃, hR, (StepsIn.trans harr s1).trans (StepsIn.trans hs (.one (fenced_leaving (n := n) (F := F.inRound l) hF' hr' hleave) (step_leave_panicked hleave)))⟩
    | outgrown => exact hq₂.elim
  | exit id => exact hq.elim
  | goto t => exact hq.elim
  | ret => exact hq.elim
  | panic chain => exact hq.elim
  | outgrown => exact hq.elim

/-- A walk in the frame of one function. -/
def CodeAt (f : FuncId) (P : Program) (c : Code) (Q : Exit → Act → World → Prop) (a : Act) (w : World) : Prop :=
  ∀ (b : Frame) (k : List Item) (cs : List Frame), b.roundOf = none → b.fn = f → ∃ e a' w', Q e a' w' ∧ ArrivesIn (Machine.fenced P Fence.wide) P (lone (b.atR a (.code c :: k)) cs w) b k cs e a' w'
section
variable {f : FuncId} {P : Program} {Q : Exit → Act → World → Prop} {a : Act} {w : World}
theorem at_of_wpIn {c : Code} {n : Nat} (h : c.wpIn Fence.wide n P Q a w) : CodeAt f P c Q a w := fun b k cs hro _ => h b k cs hro trivial (room_wide _)
theorem at_of_wp {c : Code} (h : c.wp P Q a w) : CodeAt f P c Q a w := at_of_wpIn (n := 3) (wpIn_wide.2 h)
theorem at_mono {c : Code} {Q' : Exit → Act → World → Prop} (h : CodeAt f P c Q a w) (hq : ∀ e a w, Q e a w → Q' e a w) : CodeAt f P c Q' a w :=
  fun b k cs hro hb => let ⟨e, a', w', q, r⟩ := h b k cs hro hb; ⟨e, a', w', hq _ _ _ q, r⟩
theorem at_seq {x y : Code} (h : CodeAt f P x (Exit.then (CodeAt f P y Q) Q) a w) : CodeAt f P (Code.seq x y) Q a w := by
  intro b k cs hro hb
  have h0 : (lone (b.atR a (.code (.seq x y) :: k)) cs w).fenced P Fence.wide := fenced_calm (n := 0) trivial (room_wide _) rfl
  obtain ⟨e, a₁, w₁, hq, harr⟩ := h b (.code y :: k) cs hro hb
  cases e with
  | normal =>
    obtain ⟨e₂, a₂, w₂, hq₂, harr₂⟩ := hq b k cs hro hb
    exact ⟨e₂, a₂, w₂, hq₂, .of_steps (.head h0 stepR_seq harr) harr₂⟩
  | exit id => exact ⟨_, a₁, w₁, hq, .of_steps (.one h0 stepR_seq) (.pass (x := .code y) rfl (fun _ _ => .inl (by simp)) harr)⟩
  | goto l => exact ⟨_, a₁, w₁, hq, .of_steps (.one h0 stepR_seq) (.pass (x := .code y) rfl (fun _ _ => .inl (by simp)) harr)⟩
  | ret => exact ⟨_, a₁, w₁, hq, .of_steps (.one h0 stepR_seq) (.pass (x := .code y) rfl (fun _ _ => .inl (by simp)) harr)⟩
  | panic ch => exact ⟨_, a₁, w₁, hq, .of_steps (.one h0 stepR_seq) (.pass (x := .code y) rfl (fun _ _ => .inl (by simp)) harr)⟩
  | outgrown => exact ⟨_, a₁, w₁, hq, .of_steps (.one h0 stepR_seq) (.pass (x := .code y) rfl (fun _ _ => .inl (by simp)) harr)⟩
theorem at_cond {c : Operand} {x y : Code} {t : Bool} (hc : a.eval c = .bool t) (h : CodeAt f P (if t then x else y) Q a w) : CodeAt f P (Code.cond c x y) Q a w :=
  fun b k cs hro hb => let ⟨e, a', w', q, r⟩ := h b k cs hro hb; ⟨e, a', w', q, .of_steps (.one (fenced_calm (n := 0) trivial (room_wide _) rfl) (stepR_cond hc)) r⟩
theorem at_block {id : Nat} {c : Code} (h : CodeAt f P c (Exit.inBlock id Q) a w) : CodeAt f P (Code.block id c) Q a w := by
  intro b k cs hro hb
  have h0 : (lone (b.atR a (.code (.block id c) :: k)) cs w).fenced P Fence.wide := fenced_calm (n := 0) trivial (room_wide _) rfl
  obtain ⟨e, a₁, w₁, hq, harr⟩ := h b (.inBlock id :: k) cs hro hb
  cases e with
  | normal => exact ⟨.normal, a₁, w₁, hq, .head h0 stepR_block (StepsIn.trans harr (.one (fenced_calm (n := 0) trivial (room_wide _) rfl) stepR_inBlock))⟩
  | exit id' =>
    by_cases hid : id' = id
    · simp only [Exit.inBlock, hid, if_true] at hq
      exact ⟨.normal, a₁, w₁, hq, .head h0 stepR_block (harr.1 k (by simp [exitTo, hid]))⟩
    · simp only [Exit.inBlock, hid, if_false] at hq
      have this : (id == id') = false := by simp; exact fun h => hid h.symm
      have hx : exitTo id' (.inBlock id :: k) = exitTo id' k := by simp [exitTo, this]
      exact ⟨.exit id', a₁, w₁, hq, fun k' hk => .head h0 stepR_block (harr.1 k' (by rw [hx]; exact hk)),
        fun hr' hk => let ⟨k₁, h1, h2⟩ := harr.2 hr' (by rw [hx]; exact hk); ⟨k₁, h1, .head h0 stepR_block h2⟩⟩
  | goto l =>
    have hx : gotoIn l (.inBlock id :: k) = gotoIn l k := by simp [gotoIn]
    exact ⟨_, a₁, w₁, hq, fun k' hk => .head h0 stepR_block (harr.1 k' (by rw [hx]; exact hk)),
      fun hr' hk => let ⟨k₁, h1, h2⟩ := harr.2 hr' (by rw [hx]; exact hk); ⟨k₁, h1, .head h0 stepR_block h2⟩⟩
  | ret => exact ⟨_, a₁, w₁, hq, .of_steps (.one h0 stepR_block) harr⟩
  | panic ch => exact ⟨_, a₁, w₁, hq, .of_steps (.one h0 stepR_block) harr⟩
  | outgrown => exact ⟨_, a₁, w₁, hq, .of_steps (.one h0 stepR_block) harr⟩
theorem at_loop {c : Code} (I : Act → World → Prop) (μ : Act → World → Nat) (h₀ : I a w)
    (round : ∀ a w, I a w → CodeAt f P c (Exit.then (fun a' w' => I a' w' ∧ μ a' w' < μ a w) Q) a w) : CodeAt f P (Code.loop c) Q a w := by
  intro b k cs hro hb
  have key : ∀ n a w, μ a w = n → I a w →
      ∃ e a' w', Q e a' w' ∧ ArrivesIn (Machine.fenced P Fence.wide) P (lone (b.atR a (.code c :: .inLoop c :: k)) cs w) b k cs e a' w' := by
    intro n
    induction n using Nat.strongRecOn with
    | _ n ih =>
      intro a w hn hI
      obtain ⟨e, a₁, w₁, hq, harr⟩ := round a w hI b (.inLoop c :: k) cs hro hb
      cases e with
      | normal =>
        obtain ⟨hI₁, hlt⟩ := hq
        obtain ⟨e₂, a₂, w₂, hq₂, harr₂⟩ := ih (μ a₁ w₁) (hn ▸ hlt) a₁ w₁ rfl hI₁
        exact ⟨e₂, a₂, w₂, hq₂, .of_steps (StepsIn.trans harr (.one (fenced_calm (n := 0) trivial (room_wide _) rfl) stepR_inLoop)) harr₂⟩
      | exit id => exact ⟨_, a₁, w₁, hq, .pass (x := .inLoop c) rfl (fun _ _ => .inl (by simp)) harr⟩
      | goto l => exact ⟨_, a₁, w₁, hq, .pass (x := .inLoop c) rfl (fun _ _ => .inl (by simp)) harr⟩
      | ret => exact ⟨_, a₁, w₁, hq, .pass (x := .inLoop c) rfl (fun _ _ => .inl (by simp)) harr⟩
      | panic ch => exact ⟨_, a₁, w₁, hq, .pass (x := .inLoop c) rfl (fun _ _ => .inl (by simp)) harr⟩
      | outgrown => exact ⟨_, a₁, w₁, hq, .pass (x := .inLoop c) rfl (fun _ _ => .inl (by simp)) harr⟩
  obtain ⟨e, a', w', hq, harr⟩ := key _ a w rfl h₀
  exact ⟨e, a', w', hq, .of_steps (.one (fenced_calm (n := 0) trivial (room_wide _) rfl) stepR_loop) harr⟩
/-- A function's contract from its body, walked in its own frame. -/
theorem callsIn_of_at {fn : Func} {c : Code} {args : Array Value} {R : Ending → World → Prop}
    (hf : P.funcs[f]? = some fn) (hb : fn.body = some c)
    (h : CodeAt f P c (bodyPostM Fence.wide 3 P fn R) { tmps := args ++ Array.replicate (fn.ntmps - args.size) undef, defers := [] } w) : CallsIn Fence.wide 3 P f args w R := by
  refine ⟨trivial, fun cs hr => ?_⟩
  let b : Frame := { (default : Frame) with fn := f, kind := .normal, roundOf := none }
  have henter : Frame.enter P f args .normal =
      b.atR { tmps := args ++ Array.replicate (fn.ntmps - args.size) undef, defers := [] } [.code c] := by
    simp [Frame.enter, Frame.atR, hf, hb, b]
  obtain ⟨e, a', w', hq, harr⟩ := h b [] cs rfl rfl
  rw [← henter] at harr
  have hF : Fence.wide.fn f := trivial
  cases e with
  | normal =>
    obtain ⟨e', w'', fr', hR, hs, hfn, hl⟩ := leaves_stepsInM a'.defers .returning w' { b.atR a' [] with mode := .returning } cs rfl rfl rfl hf rfl hF hr hq
    exact ⟨e', w'', fr', hR, ComesIn.of_steps (StepsIn.trans harr (.one (fenced_calm (fr := b.atR a' []) hF hr rfl) (stepR_end rfl))) hs, hfn, hl⟩
  | ret =>
    obtain ⟨todo, hs₀⟩ := harr.1 rfl
    obtain ⟨e', w'', fr', hR, hs, hfn, hl⟩ := leaves_stepsInM a'.defers .returning w' { b.atR a' todo with mode := .returning } cs rfl rfl rfl hf rfl hF hr hq
    exact ⟨e', w'', fr', hR, ComesIn.of_steps hs₀ hs, hfn, hl⟩
  | panic chain =>
    obtain ⟨todo, hs₀⟩ := harr
    obtain ⟨e', w'', fr', hR, hs, hfn, hl⟩ := leaves_stepsInM a'.defers (.panicking chain) w' { b.atR a' todo with mode := .panicking chain } cs rfl rfl rfl hf rfl hF hr hq
    exact ⟨e', w'', fr', hR, ComesIn.of_steps hs₀ hs, hfn, hl⟩
  | exit id => exact hq.elim
  | goto l => exact hq.elim
  | outgrown => exact ⟨.outgrown, w', b, hq, harr.resolve_left (by simp [b]), rfl, trivial⟩
/-- The statement 'for .. := range g { .. }' in the frame of one function. -/
theorem at_rangeFunc {g : Operand} {ps : Array Tmp} {assign body : Code}
    (h : ∃ (l : Nat) (mark : List Deferred) (w₁ : World) (d : Deferred) (w₁' : World) (f' : FuncId) (args : Array Value) (w₂ : World),
      (Instr.enterLoop f a.tmps ps assign body none).run P w = .ok (l, mark) w₁ ∧ (resolve a.eval (rangeCall g l) 0).run P w₁ = .ok d w₁' ∧ (invoke d.target d.args).run P w₁' = .ok (.enter f' args) w₂ ∧
      CallsIn Fence.wide 2 P f' args w₂ (rangePost Fence.wide 3 P l Q { a with defers := mark ++ a.defers })) :
    CodeAt f P (Code.rangeFunc g ps assign body) Q a w := by
  intro b k cs hro hb
  obtain ⟨l, mark, w₁, d, w₁', f', args, w₂, he, hres, hinv, hF, hcall⟩ := h
  have he' : (Instr.enterLoop b.fn a.tmps ps assign body b.roundOf).run P w = .ok (l, mark) w₁ := by rw [hb, hro]; exact he
  have h0 : (lone (b.atR a (.code (.rangeFunc g ps assign body) :: k)) cs w).fenced P Fence.wide := fenced_lone (.inl trivial) (fun _ _ => trivial) (Fence.room_le (room_wide (cs.length + 1 + 3)) (by omega))
  have henter := stepR_rangeFunc (P := P) (b := b) (a := a) (k := k) (cs := cs) (w := w) he' hres hinv
  have hroom : Fence.wide.room ((b.atR { a with defers := mark ++ a.defers } (.inRangeFunc l :: k) :: cs).length + 1 + 2) := room_wide _
  obtain ⟨e, w₃, fr, hR, hsteps, hfn, hleave⟩ := hcall (b.atR { a with defers := mark ++ a.defers } (.inRangeFunc l :: k) :: cs) hroom
  cases e with
  | outgrown =>
    obtain ⟨a₀, w₀, hq⟩ := hR
    exact ⟨.outgrown, a₀, w₀, hq, .inr (Outgrown.of_steps (.one henter) hsteps)⟩
  | returned v =>
    have hl : (lone fr (b.atR { a with defers := mark ++ a.defers } (.inRangeFunc l :: k) :: cs) w₃).fenced P Fence.wide := fenced_leaving (hfn ▸ hF) hroom hleave
    obtain ⟨jump, w₄, hend, hj⟩ := hR
    have sback : StepsIn (Machine.fenced P Fence.wide) P (lone (b.atR a (.code (.rangeFunc g ps assign body) :: k)) cs w) (lone (b.atR { a with defers := mark ++ a.defers } ((jump.map Item.code).toList ++ k)) cs w₄) := by
      refine .head h0 henter (StepsIn.trans hsteps (.head hl ?_ (.one (fenced_calm (n := 0) (fr := b.atR { a with defers := mark ++ a.defers } (.endRangeFunc l :: k)) trivial (room_wide _) rfl) (stepR_endRangeFunc hend))))
      rw [← finish_atR_inRangeFunc l v]; exact step_leave_returned hleave
    cases jump with
    | none => exact ⟨.normal, _, w₄, hj, sback⟩
    | some c =>
      obtain ⟨e', a'', w₅, hq, harr⟩ := hj b k cs hro trivial (room_wide _)
      exact ⟨e', a'', w₅, hq, .of_steps sback harr⟩
  | panicked chain =>
    have hl : (lone fr (b.atR { a with defers := mark ++ a.defers } (.inRangeFunc l :: k) :: cs) w₃).fenced P Fence.wide := fenced_leaving (hfn ▸ hF) hroom hleave
    refine ⟨.panic chain, _, w₃, hR, .inRangeFunc l :: k, .head h0 henter (StepsIn.trans hsteps (.one hl ?_))⟩
    rw [← Frame.raise_atR]; exact step_leave_panicked hleave
end

/-- The one call of a range over an iterator, in the frame of function fn. -/
theorem iter_core {α : Type} {P : Program} {g : Operand} {ps : Array Tmp} {assign body : Code} {Q : Exit → Act → World → Prop} {a : Act} {w : World}
    {gf : Nat} {lb : Array Value} (hg : a.eval g = .func (.func gf) #[] lb) (eg : ∀ args w, (callFunc gf args).run P w = .ok (.enter gf args) w)
    {encs : α → Array Value} (S : List α) (C : Nat → Prop) (hC : ∀ i, C i → i < w.heap.size) (hps : ∀ x, (encs x).size = ps.size) (hseq : IterS P gf lb encs S C w)
    (I : List α → World → Prop) (Ix : Code → List α → World → Prop) (Ip : List PanicEntry → List α → World → Prop)
    (hI : ∀ pre A B, I pre A → w.heap.size ≤ A.heap.size → Below w.heap.size A B → I pre B) (hIx : ∀ c pre A B, Ix c pre A → w.heap.size ≤ A.heap.size → RecO w.heap.size A B → Ix c pre B) (h0 : I [] w)
    (Ax : α → Act → World → Prop) (hAx : ∀ (x : α) (a' : Act) (W W' : World) (l : Nat) (r : Loop), Ax x a' W → W.heap[l]? = some (.loop r) → W.heap.size ≤ W'.heap.size → (∀ i, i ≠ l → W'.heap[i]? = W.heap[i]?) → Ax x a' W')
    (hassign : ∀ (l : Nat) (pre : List α) (x : α) (W : World) (K : Act → World → Prop), pre ++ [x] <+: S → I pre W → w.heap.size ≤ W.heap.size → (∀ a' W', Ax x a' W' → Below W.heap.size W W' → K a' W') →
      assign.wpIn (Fence.wide.inRound l) 1 P (Exit.then K (fun _ _ _ => False)) { tmps := (ps.zip (encs x)).foldl (fun t (p, v) => t.setIfInBounds p v) a.tmps, defers := [] } W)
    (hbody : ∀ (l : Nat) (pre : List α) (x : α) (a' : Act) (W : World), pre ++ [x] <+: S → I pre W → Ax x a' W → w.heap.size ≤ W.heap.size → body.wpIn (Fence.wide.inRound l) 1 P (iterPostS C (I (pre ++ [x])) (fun c => Ix c (pre ++ [x])) (fun ch => Ip ch (pre ++ [x])) W) a' W)
    (hdone : ∀ W, I S W → W.heap[w.heap.size]? = some (.deferred (some [])) → w.heap.size < W.heap.size → Q .normal { a with defers := { target := .collected w.heap.size, args := #[] } :: a.defers } W)
    (hstop : ∀ c pre x W, pre ++ [x] <+: S → Ix c (pre ++ [x]) W → W.heap[w.heap.size]? = some (.deferred (some [])) → w.heap.size < W.heap.size → c.wpIn Fence.wide 3 P Q { a with defers := { target := .collected w.heap.size, args := #[] } :: a.defers } W)
    (hpanic : ∀ ch pre x W, pre ++ [x] <+: S → Ip ch (pre ++ [x]) W → W.heap[w.heap.size]? = some (.deferred (some [])) → w.heap.size < W.heap.size → Q (.panic ch) { a with defers := { target := .collected w.heap.size, args := #[] } :: a.defers } W)
    (fn : FuncId) (hfn : (∀ ch pre W, ¬ Ip ch pre W) ∨ ∃ g, P.funcs[fn]? = some g) :
    ∃ (l : Nat) (mark : List Deferred) (w₁ : World) (d : Deferred) (w₁' : World) (f : FuncId) (args : Array Value) (w₂ : World),
      (Instr.enterLoop fn a.tmps ps assign body none).run P w = .ok (l, mark) w₁ ∧ (resolve a.eval (rangeCall g l) 0).run P w₁ = .ok d w₁' ∧ (invoke d.target d.args).run P w₁' = .ok (.enter f args) w₂ ∧
      CallsIn Fence.wide 2 P f args w₂ (rangePost Fence.wide 3 P l Q { a with defers := mark ++ a.defers }) := by
  obtain ⟨rec, hrec⟩ : ∃ rec : LoopState → Option Code → Loop, rec = fun st pe => { state := st, pending := pe, fn, tmps := a.tmps, params := ps, assign, body, defers := w.heap.size } := ⟨_, rfl⟩
  obtain ⟨W1, hW1⟩ : ∃ W1, (w.alloc (.deferred (some []))).alloc (.loop (rec .ready none)) = W1 := ⟨_, rfl⟩
  have hs1 : W1.heap.size = w.heap.size + 2 := by rw [← hW1]; simp
  have hL1 : W1.heap[w.heap.size + 1]? = some (.loop (rec .ready none)) := by
    rw [← hW1]; have := World.alloc_heap_new (w.alloc (.deferred (some []))) (.loop (rec .ready none)); rwa [World.size_alloc] at this
  have hK1 : W1.heap[w.heap.size]? = some (.deferred (some [])) := by
    rw [← hW1]; exact (Below.heap_alloc _ _ _ (by simp)).trans (World.alloc_heap_new w _)
  have hb1 : Below w.heap.size w W1 := by
    rw [← hW1]; exact ((Below.refl _ w).alloc (Nat.le_refl _) _).alloc (by simp) _
  refine ⟨w.heap.size + 1, [{ target := .collected w.heap.size, args := #[] }], W1, { target := .fn (.func gf) lb, args := #[.func (.yield (w.heap.size + 1)) #[] #[]] }, W1, gf,
    #[.func (.yield (w.heap.size + 1)) #[] #[]] ++ lb, W1, ?_, ?_, ?_, ?_⟩
  · rw [← hW1, hrec]; exact run_enterLoop_outer _ _ _ _ _
  · simp only [resolve, hg]
    simp [go_sem]
  · simp [invoke, go_sem, eg]
  · refine (callsIn_wide.2 (hseq (w.heap.size + 1)
      (fun pre W => I pre W ∧ W.heap[w.heap.size + 1]? = some (.loop (rec .ready none)) ∧ W.heap[w.heap.size]? = some (.deferred (some [])))
      (fun pre W => ∃ c, Ix c pre W ∧ W.heap[w.heap.size + 1]? = some (.loop (rec .done (some c))) ∧ W.heap[w.heap.size]? = some (.deferred (some [])))
      (fun ch pre W => Ip ch pre W ∧ W.heap[w.heap.size]? = some (.deferred (some [])) ∧ w.heap.size < W.heap.size)
      W1 hb1 (by omega) (by omega)
      (fun pre A B hj hs hb => ⟨hI pre A B hj.1 (by omega) (hb.mono (by omega)), (hb.block _ (by omega)).trans hj.2.1, (hb.block _ (by omega)).trans hj.2.2⟩)
      (fun pre A B hj hs hb => by
        obtain ⟨c, h1, h2, h3⟩ := hj
        exact ⟨c, hIx c pre A B h1 (by omega) (hb.mono (by omega)), (hb.below.block _ (by omega)).trans h2, (hb.below.block _ (by omega)).trans h3⟩)
      ?_ ⟨hI [] w W1 h0 (Nat.le_refl _) hb1, hL1, hK1⟩)).mono ?_
    · rintro pre x W hpre ⟨hi, hl, hk⟩ hsz
      have hy := run_yield (P := P) (args := encs x) hl (by rw [hrec]; exact hps x)
      rw [hrec] at hy
      refine ⟨fn, _, assign, body, hy, roundIn_of_wpInP trivial (hassign _ pre x W _ hpre hi (by omega) fun a' W' hax hbel => ?_)⟩
      have hl' : W'.heap[w.heap.size + 1]? = some (.loop (rec .ready none)) := (hbel.block _ (by omega)).trans hl
      have hlt' : w.heap.size + 1 < W'.heap.size := (Array.getElem?_eq_some_iff.1 hl').1
      refine ⟨_, run_beginRound hl' (by rw [hrec]), ?_⟩
      have hl2 : (W'.putObj (w.heap.size + 1) (.loop { rec .ready none with state := .busy })).heap[w.heap.size + 1]? = some (.loop { rec .ready none with state := .busy }) := World.putObj_heap_same hlt'
      have hb2 : Below w.heap.size W (W'.putObj (w.heap.size + 1) (.loop { rec .ready none with state := .busy })) :=
        (hbel.mono (by omega)).trans (below_putObj _ (by omega))
      have hax2 := hAx x a' W' (W'.putObj (w.heap.size + 1) (.loop { rec .ready none with state := .busy })) _ _ hax hl' (by simp) (fun i hi => World.putObj_heap_other hi)
      refine wpIn_mono (hbody _ pre x a' _ hpre (hI pre W _ hi (by omega) hb2) hax2 (by simp; omega)) ?_
      have key : ∀ W3, Kp C (W'.putObj (w.heap.size + 1) (.loop { rec .ready none with state := .busy })) W3 → W'.heap.size ≤ W3.heap.size ∧ W3.heap[w.heap.size + 1]? = some (.loop { rec .ready none with state := .busy }) ∧ W3.heap[w.heap.size]? = some (.deferred (some [])) := fun W3 hkp => by
        have hsz2 := hkp.size
        rw [World.putObj_size] at hsz2
        exact ⟨hsz2, (hkp.same _ (by rw [World.putObj_size]; exact hlt') (fun hc => by have := hC _ hc; omega)).trans hl2,
          (hkp.same _ (by rw [World.putObj_size]; omega) (fun hc => by have := hC _ hc; omega)).trans ((World.putObj_heap_other (by omega)).trans ((hbel.block _ (by omega)).trans hk))⟩
      have out : ∀ (c : Code) (W3 : World), Kp C (W'.putObj (w.heap.size + 1) (.loop { rec .ready none with state := .busy })) W3 → Ix c (pre ++ [x]) W3 →
          ∃ v W4, (Instr.endRound (w.heap.size + 1) (some c)).run P W3 = .ok v W4 ∧ ((Ending.returned v = .returned (.bool true) ∧ (I (pre ++ [x]) W4 ∧ W4.heap[w.heap.size + 1]? = some (.loop (rec .ready none)) ∧ W4.heap[w.heap.size]? = some (.deferred (some []))) ∧ Kp (fun i => C i ∨ i = w.heap.size + 1) W W4) ∨
            (Ending.returned v = .returned (.bool false) ∧ (∃ c, Ix c (pre ++ [x]) W4 ∧ W4.heap[w.heap.size + 1]? = some (.loop (rec .done (some c))) ∧ W4.heap[w.heap.size]? = some (.deferred (some []))) ∧ W.heap.size ≤ W4.heap.size) ∨ ∃ ch, Ending.returned v = .panicked ch ∧ Ip ch (pre ++ [x]) W4 ∧ W4.heap[w.heap.size]? = some (.deferred (some [])) ∧ w.heap.size < W4.heap.size) := fun c W3 hkp hx => by
        obtain ⟨hsz2, hl3, hk3⟩ := key W3 hkp
        have hend := run_endRound (P := P) (some c) hl3
        have hrr : ({ { rec .ready none with state := .busy } with state := if (some c).isNone then .ready else .done, pending := some c } : Loop) = rec .done (some c) := by rw [hrec]; rfl
        rw [hrr] at hend
        exact ⟨_, _, hend, .inr (.inl ⟨rfl, ⟨c, hIx c _ W3 _ hx (by omega) (RecO.loop (by omega) hl3), World.putObj_heap_same (Array.getElem?_eq_some_iff.1 hl3).1, (World.putObj_heap_other (by omega)).trans hk3⟩, by rw [World.putObj_size]; have := hbel.size; omega⟩)⟩
      rintro e a3 W3 hp
      cases e with
      | normal =>
        obtain ⟨hkp, hi3⟩ := hp
        obtain ⟨hsz2, hl3, hk3⟩ := key W3 hkp
        have hend := run_endRound (P := P) none hl3
        have hrr : ({ { rec .ready none with state := .busy } with state := if (none : Option Code).isNone then .ready else .done, pending := none } : Loop) = rec .ready none := by rw [hrec]; rfl
        rw [hrr] at hend
        refine ⟨_, _, hend, .inl ⟨rfl, ⟨hI _ W3 _ hi3 (by omega) (below_putObj _ (by omega)), World.putObj_heap_same (Array.getElem?_eq_some_iff.1 hl3).1, (World.putObj_heap_other (by omega)).trans hk3⟩, ?_⟩⟩
        refine ⟨hkp.os.trans hbel.os, hkp.tape.trans hbel.tape, hkp.output.trans hbel.output, by rw [World.putObj_size]; have := hbel.size; omega, fun i hi hc => ?_⟩
        have hne : i ≠ w.heap.size + 1 := fun e => hc (.inr e)
        have hbs := hbel.size
        rw [World.putObj_heap_other hne, hkp.same i (by rw [World.putObj_size]; omega) (fun h => hc (.inl h)), World.putObj_heap_other hne]
        exact hbel.block i hi
      | ret => exact out _ W3 hp.1 hp.2
      | exit id => exact out _ W3 hp.1 hp.2
      | goto t => exact hp.elim
      | panic ch =>
        obtain ⟨hd, hkp, hip⟩ := hp
        obtain ⟨hsz2, hl3, hk3⟩ := key W3 hkp
        rcases hfn with hfn | hfn
        · exact absurd hip (hfn _ _ _)
        · exact ⟨hfn, hd, .inr (.inr ⟨ch, rfl, hip, hk3, by omega⟩)⟩
      | outgrown => exact hp.elim
    · rintro e W2 (⟨v, rfl, ⟨hi, hl, hk⟩ | ⟨pre, x, hpre, c, hi, hl, hk⟩⟩ | ⟨ch, pre, x, rfl, hpre, hip, hk, hlt⟩)
      · have hlt := (Array.getElem?_eq_some_iff.1 hl).1
        exact ⟨none, _, by have := run_endLoop (P := P) hl (by rw [hrec]; simp); rw [hrec] at this; exact this, hdone _ (hI S W2 _ hi (by omega) (below_putObj _ (by omega))) ((World.putObj_heap_other (by omega)).trans hk) (by simp; omega)⟩
      · have hlt := (Array.getElem?_eq_some_iff.1 hl).1
        exact ⟨some c, _, by have := run_endLoop (P := P) hl (by rw [hrec]; simp); rw [hrec] at this; exact this, hstop c pre x _ hpre (hIx c _ W2 _ hi (by omega) (RecO.loop (by omega) hl)) ((World.putObj_heap_other (by omega)).trans hk) (by simp; omega)⟩
      · exact hpanic ch pre x W2 hpre hip hk hlt
end Go.Proofs.Ytlmhgcllikcedaa
