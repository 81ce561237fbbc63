/- Texts of this claim, laid together: Round, RoundAny, RoundBel, OrMarks. -/
import Derived.Test.YtlpfecjkkgccgaaDoorMaB
import Derived.Test.YtlpfecjkkgccgaaDoorMaH
import Derived.Deep.RegionHeld3
import Derived.Maps.AppendAt
import Derived.StillTailTactics
/- A region that draws its order, within a round of a range over a function: reads, then one call. Over any program. -/
namespace Go.Proofs.YtlpfecjkkgccgaaDoor
open Go Go.RowKit

theorem wpOp_round {P : Program} {ops : Array Oper} {Q : Exit → Act → World → Prop} {K K' : Act → World → Prop} {i l n : Nat} {a : Act} {w : World} (hno : ∀ (j : Nat) (o : Oper) (c : Call), ops[j]? = some o → o.op ≠ Op.defer c) (hQ : ¬ LetsOut Q) (hK : ∀ a w, K a w → K' a w)
    (h : wpOp P ops Q i K a w) : wpOpIn (Fence.wide.inRound l) n P ops Q i K' a w := by
  unfold wpOp at h
  unfold wpOpIn
  split
  · rename_i ho
    rw [ho] at h
    exact hK _ _ h
  · rename_i o ho
    rw [ho] at h
    simp only at h
    split
    · rename_i hw
      rw [if_pos hw] at h
      rcases h with h | h
      · refine ⟨fun f _ => trivial, ?_⟩
        rw [Oper.semAt_plain _ _ _ (fun c => hno i o c ho)]
        unfold Oper.wp at h
        generalize (execOp a.eval o).run P w = r at *
        cases r with
        | ok x w' =>
          cases x <;> simp only [Oper.upon] at h <;> simp only [Oper.uponIn]
          case value => exact hK _ _ h
          case skip => exact hK _ _ h
          case defer => exact hK _ _ h
          case enter f args =>
            refine ⟨fun h => by simp [Fence.wide, Fence.inRound] at h, CallsIn.inRound l (callsIn_wide.2 (h.mono fun e w'' he => ?_))⟩
            cases e with
            | returned v => exact hK _ _ he
            | panicked ch => exact he
            | outgrown => exact he
          case row row args =>
            refine ⟨fun h => by simp [Fence.wide, Fence.inRound] at h, fun c cs _ => ?_⟩
            obtain ⟨v, w'', hr, hs⟩ := h c cs
            exact ⟨v, w'', hK _ _ hr, stepsIn_wide.2 hs⟩
        | halt x w' =>
          cases x <;> simp only [Oper.upon] at h <;> simp only [Oper.uponIn]
          all_goals exact h
      · exact absurd h.2 hQ
    · rename_i hw
      rw [if_neg hw] at h
      exact ⟨fun f _ => trivial, hK _ _ h⟩
theorem wpAny_round {P : Program} {md : Region.Mode} {ops : Array Oper} {Q : Exit → Act → World → Prop} {l n : Nat} (hno : ∀ (j : Nat) (o : Oper) (c : Call), ops[j]? = some o → o.op ≠ Op.defer c) (hQ : ¬ LetsOut Q) :
    ∀ (fuel : Nat) (listed : Array Bool) (a : Act) (w : World), wpAny P md ops Q fuel listed a w → wpAnyIn (Fence.wide.inRound l) n P md ops Q fuel listed a w
  | 0, _, _, _, h => h
  | fuel + 1, _, _, _, h => ⟨h.1, fun i hi => wpOp_round hno hQ (fun a w => wpAny_round hno hQ fuel _ a w) (h.2 i hi)⟩
theorem round_still_tail {P : Program} {id lr m : Nat} {Q : Exit → Act → World → Prop} {a : Act} {w : World} {l : List Oper} (n : Nat) (hm : P.follows .mixedOrders = true) (hB : Region.lexTailB .any l.toArray n = true)
    (hno : (l.all fun o => match o.op with | .defer _ => false | _ => true) = true) (hQ : ¬ LetsOut Q)
    (h : wpStill P l.toArray { w with drawn := w.drawn + 1 } (fun a' => wpList P l.toArray Q (l.drop n) a' { w with drawn := w.drawn + 1 }) (l.take n) a) : (Code.region id l.toArray true).wpIn (Fence.wide.inRound lr) m P Q a w := by
  simp only [Region.lexTailB, Bool.and_eq_true, decide_eq_true_eq] at hB
  obtain ⟨⟨⟨⟨hsel, hn⟩, hs⟩, hc⟩, hlex⟩ := hB
  have hn' : n < l.length := by simpa using hn
  have htl : (l.take n).length = n := by simp; omega
  have hdl : (l.drop n).length = l.toArray.size - n := by simp
  have inv0 : HeadInv .any l.toArray n (Array.replicate l.toArray.size false) :=
    ⟨by simp, fun j oj _ hl => (by rw [getD_replicate_false] at hl; cases hl), fun t _ ht => getD_in (by simpa using ht) (getD_replicate_false _ _)⟩
  have H := wpAnyL_lex (md := .any) (g := l.toArray.size - n) hsel hs hc hn (l.take n) 0 _ a (fun j hj => by
    have hj' : j < n := by rw [htl] at hj; exact hj
    simp [hj']) (by simpa using htl) inv0 (by rw [htl]; exact hlex) h
  have H2 := wpAny_of_head (Q' := Q) (g := l.toArray.size - n) (fun listed a' hL => by
    have := wpAny_of_seq (md := .any) (Q' := Q) (l.drop n) n listed a' { w with drawn := w.drawn + 1 } (fun j => by simp [List.getElem?_drop]) (by rw [hdl]; exact hL.1) hL.2
    rwa [hdl] at this) _ _ _ H
  rw [htl, show n + (l.toArray.size - n) = l.toArray.size by omega] at H2
  refine wpIn_region_any hm (wpAny_round (fun j o c ho hc => ?_) hQ _ _ _ _ H2)
  have hmem : o ∈ l := by
    have := List.mem_of_getElem? (show l[j]? = some o by simpa using ho)
    exact this
  have := List.all_eq_true.1 hno o hmem
  rw [hc] at this
  cases this
end Go.Proofs.YtlpfecjkkgccgaaDoor
/- A region that draws its order, in a round of a range over a function: walked as in a frame of its own. Over any program. -/
namespace Go.Proofs.YtlpfecjkkgccgaaDoor
open Go Go.RowKit

def noDefer (ops : Array Oper) : Bool := ops.all fun o => match o.op with | .defer _ => false | _ => true
theorem noDefer_spec {ops : Array Oper} (h : noDefer ops = true) (i : Nat) (o : Oper) (ho : ops[i]? = some o) (c : Call) : o.op ≠ .defer c := by
  unfold noDefer at h
  rw [Array.all_eq_true] at h
  obtain ⟨hi, rfl⟩ := Array.getElem?_eq_some_iff.1 ho
  have := h i hi
  intro e
  rw [e] at this
  cases this
section
variable {P : Program} {ops : Array Oper} {Q : Exit → Act → World → Prop} {md : Region.Mode} {l n : Nat}
theorem wpOp_inRound {i : Nat} {K K' : Act → World → Prop} {a : Act} {w : World} (hd : noDefer ops = true) (hL : ¬ LetsOut Q) (hK : ∀ a w, K a w → K' a w) (h : wpOp P ops Q i K a w) : wpOpIn (Fence.wide.inRound l) n P ops Q i K' a w := by
  unfold wpOp at h
  unfold wpOpIn
  cases ho : ops[i]? with
  | none => rw [ho] at h; exact hK _ _ h
  | some o =>
    rw [ho] at h
    dsimp only at h ⊢
    by_cases hw : Region.wanted o (yielded ops a.tmps) = true
    · rw [if_pos hw] at h ⊢
      have h := h.resolve_right fun h2 => hL h2.2
      refine ⟨fun _ _ => trivial, ?_⟩
      rw [Fence.inRound_round, Oper.semAt_some l _ _ (noDefer_spec hd i o ho)]
      unfold Oper.wp at h
      generalize (execOp a.eval o).run P w = r at h ⊢
      cases r with
      | ok nx w' =>
        cases nx with
        | value v => exact hK _ _ h
        | skip => exact hK _ _ h
        | defer d => exact hK _ _ h
        | enter f args =>
          refine ⟨fun hx => absurd hx (by simp [Fence.wide]), CallsIn.inRound l (callsIn_wide.2 ?_)⟩
          refine Calls.mono h ?_
          intro e w'' he
          cases e with
          | returned v => exact hK _ _ he
          | panicked ch => exact he
          | outgrown => exact he
        | row row args =>
          refine ⟨fun hx => absurd hx (by simp [Fence.wide]), fun c cs _ => ?_⟩
          obtain ⟨v, w'', r, s⟩ := h c cs
          exact ⟨v, w'', hK _ _ r, stepsIn_wide.2 s⟩
        | _ => exact h.elim
      | halt hh w' =>
        cases hh with
        | panic v => exact h
        | _ => exact h.elim
    · rw [if_neg hw] at h ⊢
      exact ⟨fun _ _ => trivial, hK _ _ h⟩
theorem wpAny_inRound (hd : noDefer ops = true) (hL : ¬ LetsOut Q) : ∀ (fuel : Nat) (listed : Array Bool) (a : Act) (w : World), wpAny P md ops Q fuel listed a w → wpAnyIn (Fence.wide.inRound l) n P md ops Q fuel listed a w
  | 0, _, _, _, h => h
  | fuel + 1, _, _, _, h => ⟨h.1, fun i hi => wpOp_inRound hd hL (fun a w h => wpAny_inRound hd hL fuel _ a w h) (h.2 i hi)⟩
/-- One operation that yields wherever S holds is taken first. -/
theorem takeH {i d : Nat} {oi : Oper} {v : Value} {S : World → Prop} {fuel : Nat} {listed : Array Bool} {t : Array Value} {ds : List Deferred} {w : World} (hi : ops[i]? = some oi) (hd : oi.dst = some d)
    (hs : Region.noSelect ops = true) (hf : Region.free md ops listed i = true) (hr : (Region.ready md ops listed).contains i = true)
    (hQ : ∀ c t ds w, Q (.panic c) { tmps := t, defers := ds } w ↔ ∀ t', Q (.panic c) { tmps := t', defers := ds } w)
    (hwa : Region.wanted oi (yielded ops t) = true) (hS : S w) (hy : ∀ w, S w → (execOp ({ tmps := t, defers := ds } : Act).eval oi).run P w = .ok (.value v) w)
    (h : wpAnyH P md ops Q S fuel (listed.setIfInBounds i true) { tmps := t.setIfInBounds d v, defers := ds } w) : wpAnyH P md ops Q S (fuel + 1) listed { tmps := t, defers := ds } w :=
  have e : ∀ a : Act, a.put oi.dst v = { tmps := a.tmps.setIfInBounds d v, defers := a.defers } := fun a => by rw [hd]; rfl
  wpAnyH_take (v := v) hi hs hf hr (fun c a w hq => by
    rw [e] at hq
    exact (hQ c _ _ w).1 hq a.tmps) (.inl ⟨hwa, hy⟩) hS (by rw [e]; exact h)
/-- The beginning of the walk. -/
theorem wpIn_region_held {id : Nat} {a : Act} {w : World} (S : World → Prop) (hm : P.follows .mixedOrders = true) (hd : noDefer ops = true) (hL : ¬ LetsOut Q) (hS : S w.drew)
    (h : S w.drew → wpAnyH P .any ops Q S ops.size (Array.replicate ops.size false) a w.drew) : (Code.region id ops true).wpIn (Fence.wide.inRound l) n P Q a w :=
  wpIn_region_any hm (wpAny_inRound hd hL _ _ _ _ (wpAny_of_held _ _ _ _ (h hS)))
end
end Go.Proofs.YtlpfecjkkgccgaaDoor
/- A region of reads and calls that only make memory, inside a round. Over any program. -/
namespace Go.Proofs.YtlpfecjkkgccgaaDoor
open Go Go.RowKit

theorem wpIn_region_bel {P : Program} (B : Nat) {id k n : Nat} {Q : Exit → Act → World → Prop} {a : Act} {w : World} {l : List Oper} (hm : P.follows .mixedOrders = true) (hB : Region.lexB .any l.toArray = true) (hd : noDefer l.toArray = true) (hL : ¬ LetsOut Q)
    (h : wpQuiet P l.toArray (fun w' => ∃ u : Bel B w, w' = u.wd) (fun a' => ∀ w', (∃ u : Bel B w, w' = u.wd) → Q .normal a' w') l a) : (Code.region id l.toArray true).wpIn (Fence.wide.inRound k) n P Q a w := by
  refine wpIn_region_any hm (wpAny_inRound hd hL _ _ _ _ ?_)
  simp only [Region.lexB, Bool.and_eq_true] at hB
  refine wpAny_of_quiet (C := fun w' => ∃ u : Bel B w, w' = u.wd) (Q := fun a' => ∀ w', (∃ u : Bel B w, w' = u.wd) → Q .normal a' w') (fun _ w' hw' h => h w' hw') _ _ _ _ ⟨⟨w.drew, (Below.refl B w).drew⟩, rfl⟩ ?_
  have := wpAnyQ_lex (C := fun w' => ∃ u : Bel B w, w' = u.wd) (md := .any) hB.1 l.toArray.toList 0 (Array.replicate l.toArray.size false) a (by simp) (by simpa using hB.2) (by simpa using h)
  simpa using this
end Go.Proofs.YtlpfecjkkgccgaaDoor
/- A frame that leaves with marks of ranges over functions: none of them hands a call over. Over any program. And a whole list of ints appended. -/
namespace Go.Proofs.YtlpfecjkkgccgaaDoor
open Go Go.RowKit

/-- The law of a range over an iterator whose rounds go on or leave. -/
theorem wp_iterS {α : Type} {P : Program} {g : Operand} {ps : Array Tmp} {assign body : Code} {Q : Exit → Act → World → Prop} {a : Act} {w : World}
    {gf : Nat} {lb : Array Value} (hg : a.eval g = .func (.func gf) #[] lb) (eg : ∀ args w, (callFunc gf args).run P w = .ok (.enter gf args) w)
    {encs : α → Array Value} (S : List α) (C : Nat → Prop) (hC : ∀ i, C i → i < w.heap.size) (hps : ∀ x, (encs x).size = ps.size) (hseq : IterS P gf lb encs S C w)
    (I : List α → World → Prop) (Ix : Code → List α → World → Prop)
    (hI : ∀ pre A B, I pre A → w.heap.size ≤ A.heap.size → Below w.heap.size A B → I pre B) (hIx : ∀ c pre A B, Ix c pre A → w.heap.size ≤ A.heap.size → RecO w.heap.size A B → Ix c pre B) (h0 : I [] w)
    (Ax : α → Act → World → Prop) (hAx : ∀ (x : α) (a' : Act) (W W' : World) (l : Nat) (r : Loop), Ax x a' W → W.heap[l]? = some (.loop r) → W.heap.size ≤ W'.heap.size → (∀ i, i ≠ l → W'.heap[i]? = W.heap[i]?) → Ax x a' W')
    (hassign : ∀ (l : Nat) (pre : List α) (x : α) (W : World) (K : Act → World → Prop), pre ++ [x] <+: S → I pre W → w.heap.size ≤ W.heap.size → (∀ a' W', Ax x a' W' → Below W.heap.size W W' → K a' W') →
      assign.wpIn (Fence.wide.inRound l) 1 P (Exit.then K (fun _ _ _ => False)) { tmps := (ps.zip (encs x)).foldl (fun t (p, v) => t.setIfInBounds p v) a.tmps, defers := [] } W)
    (hbody : ∀ (l : Nat) (pre : List α) (x : α) (a' : Act) (W : World), pre ++ [x] <+: S → I pre W → Ax x a' W → w.heap.size ≤ W.heap.size → body.wpIn (Fence.wide.inRound l) 1 P (iterPostS C (I (pre ++ [x])) (fun c => Ix c (pre ++ [x])) (fun _ _ => False) W) a' W)
    (hdone : ∀ W, I S W → W.heap[w.heap.size]? = some (.deferred (some [])) → w.heap.size < W.heap.size → Q .normal { a with defers := { target := .collected w.heap.size, args := #[] } :: a.defers } W)
    (hstop : ∀ c pre x W, pre ++ [x] <+: S → Ix c (pre ++ [x]) W → W.heap[w.heap.size]? = some (.deferred (some [])) → w.heap.size < W.heap.size → c.wpIn Fence.wide 3 P Q { a with defers := { target := .collected w.heap.size, args := #[] } :: a.defers } W) :
    (Code.rangeFunc g ps assign body).wpIn Fence.wide 3 P Q a w := by
  refine wpIn_rangeFunc fun fn _ => ?_
  obtain ⟨l, mark, w₁, d, w₁', f, args, w₂, h1, h2, h3, h4⟩ := iter_core hg eg S C hC hps hseq I Ix (fun _ _ _ => False) hI hIx h0 Ax hAx hassign hbody hdone hstop (fun _ _ _ _ _ h => h.elim) fn (.inl fun _ _ _ h => h)
  exact ⟨l, mark, w₁, d, w₁', f, args, w₂, h1, h2, fun _ _ => trivial, h3, fun _ => by omega, h4⟩
/-- As w, but for blocks from B on that held no deferred call and are shut. -/
structure Shut (B : Nat) (w w' : World) : Prop where
  os : w'.os = w.os
  tape : w'.tape = w.tape
  output : w'.output = w.output
  size : w'.heap.size = w.heap.size
  same : ∀ i, (i < B ∨ w.heap[i]? ≠ some (.deferred (some []))) → w'.heap[i]? = w.heap[i]?
section
variable {B : Nat} {w w' w1 : World}
theorem Shut.refl (B : Nat) (w : World) : Shut B w w := ⟨rfl, rfl, rfl, rfl, fun _ _ => rfl⟩
theorem Shut.put {r : Nat} (hr : B ≤ r) (h : w.heap[r]? = some (.deferred (some []))) : Shut B w (w.putObj r (.deferred none)) :=
  ⟨rfl, rfl, rfl, by simp, fun i hi => World.putObj_heap_other (by rintro rfl; rcases hi with hi | hi; omega; exact hi h)⟩
theorem Shut.trans (h : Shut B w w1) (k : Shut B w1 w') : Shut B w w' :=
  ⟨k.os.trans h.os, k.tape.trans h.tape, k.output.trans h.output, k.size.trans h.size, fun i hi => (k.same i (by
    rcases hi with hi | hi
    · exact .inl hi
    · right; rw [h.same i (.inr hi)]; exact hi)).trans (h.same i hi)⟩
theorem Shut.below {w0 : World} {B0 : Nat} (h : Shut B w w') (hb : Below B0 w0 w) (hB : B0 ≤ B) : Below B0 w0 w' :=
  ⟨h.os.trans hb.os, h.tape.trans hb.tape, h.output.trans hb.output, by rw [h.size]; exact hb.size, fun i hi => (h.same i (.inl (by omega))).trans (hb.block i hi)⟩
theorem Shut.cells {r : Nat} {cs : Array Value} {T : TypeId} {z : Nat × Nat} (h : Shut B w w') (hc : w.heap[r]? = some (.cells cs T z)) : w'.heap[r]? = some (.cells cs T z) := (h.same r (.inr (by rw [hc]; simp))).trans hc
/-- The marks of a frame. -/
def Marks (B : Nat) (w : World) : List Deferred → Prop
  | [] => True
  | d :: ds => (∃ r, d = { target := .collected r, args := #[] } ∧ B ≤ r ∧ w.heap[r]? = some (.deferred (some [])) ∧ ∀ d' ∈ ds, d'.target ≠ .collected r) ∧ Marks B w ds
theorem Marks.later : ∀ {ds}, Marks B w ds → (∀ i, B ≤ i → w.heap[i]? = some (.deferred (some [])) → w'.heap[i]? = w.heap[i]?) → Marks B w' ds
  | [], _, _ => trivial
  | _ :: _, ⟨⟨r, h1, h2, h3, h4⟩, h5⟩, hs => ⟨⟨r, h1, h2, (hs r h2 h3).trans h3, h4⟩, h5.later hs⟩
theorem Marks.lt : ∀ {ds}, Marks B w ds → ∀ d ∈ ds, ∃ r, d.target = .collected r ∧ r < w.heap.size
  | [], _, _, h => by cases h
  | d :: ds, ⟨⟨r, h1, h2, h3, h4⟩, h5⟩, d', h => by
    rcases List.mem_cons.1 h with rfl | h
    · exact ⟨r, by rw [h1], (Array.getElem?_eq_some_iff.1 h3).1⟩
    · exact h5.lt d' h
/-- One more mark: of a block that is new. -/
theorem Marks.more {r : Nat} {ds : List Deferred} (h : Marks B w ds) (hr : w.heap.size ≤ r) (hB : B ≤ w.heap.size) (hw : ∀ i, i < w.heap.size → w.heap[i]? = some (.deferred (some [])) → B ≤ i → w'.heap[i]? = w.heap[i]?) (hn : w'.heap[r]? = some (.deferred (some []))) :
    Marks B w' ({ target := .collected r, args := #[] } :: ds) :=
  ⟨⟨r, rfl, by omega, hn, fun d hd e => by
    obtain ⟨s, h1, h2⟩ := h.lt d hd
    rw [h1] at e
    injection e with e
    omega⟩, h.later fun i hi hd => hw i (Array.getElem?_eq_some_iff.1 hd).1 hd hi⟩
theorem leaves_marks {F : Fence} {n : Nat} {P : Program} {fn : Func} {tmps : Array Value} {R : Ending → World → Prop} : ∀ {ds : List Deferred} {w : World}, Marks B w ds →
    (∀ w', Shut B w w' → ∃ v, (results fn tmps).run P w' = .ok v w' ∧ R (.returned v) w') → LeavesInM F n P fn tmps R ds .returning w
  | [], w, _, hR => hR w (Shut.refl B w)
  | d :: ds, w, ⟨⟨r, h1, h2, h3, h4⟩, h5⟩, hR => by
    refine ⟨by simp, .inl ⟨r, _, by rw [h1], run_takeDeferred h3, ?_⟩⟩
    have hs := Shut.put h2 h3
    refine leaves_marks ?_ fun w' hw => hR w' (hs.trans hw)
    have key : ∀ {es : List Deferred}, Marks B w es → (∀ d' ∈ es, d'.target ≠ .collected r) → Marks B (w.putObj r (.deferred none)) es := by
      intro es
      induction es with
      | nil => intro _ _; trivial
      | cons e es ih =>
        rintro ⟨⟨s, g1, g2, g3, g4⟩, g5⟩ hne
        refine ⟨⟨s, g1, g2, (World.putObj_heap_other ?_).trans g3, g4⟩, ih g5 fun d' hd => hne d' (List.mem_cons_of_mem _ hd)⟩
        rintro rfl
        exact hne e List.mem_cons_self (by rw [g1])
    exact key h5 h4
end
theorem rdI_nil_of_none {w : World} {xs : List Int} (h : RdI w none xs) : xs = [] := by
  rcases Nat.eq_zero_or_pos xs.length with h0 | h0
  · exact List.eq_nil_of_length_eq_zero h0
  · obtain ⟨b, off, e, _⟩ := h.2 (by omega)
    cases e
/-- A whole list of ints appended to a row of the call's own. -/
theorem run_appI_Tryd (w : World) (base : Nat) (v : Value) (xs : List Int) (hown : w.ownsRow base 3 1 v xs.length (ints xs)) (A : Option Addr) (c : Nat) (l : List Int) (hrd : RdI w A l)
    (hn : xs.length + l.length ≤ 1000000) (hbase : base ≤ w.heap.size) (ty : TypeId) :
    ∃ v' w', (Builtin.append_ #[26, 26] ty #[v, .slice A l.length c]).run Tryd.prog w = .ok v' w' ∧ w'.ownsRow base 3 1 v' (xs ++ l).length (ints (xs ++ l)) ∧ w.grownBy w' v.ownBlock ∧
      (v'.ownBlock = v.ownBlock ∨ v'.ownBlock = some w.heap.size) := by
  obtain ⟨i0, hi, hz0, hz1, hz2⟩ := info_parts info_int_Tryd
  cases A with
  | none =>
    obtain rfl := rdI_nil_of_none hrd
    refine ⟨v, w, ?_, by simpa using hown, World.grownBy.refl w _, .inl rfl⟩
    rcases hown.2 with ⟨rfl, _⟩ | ⟨g, cap, cur, rfl, _, _, hnc, _⟩
    · simp [Builtin.append_, run_underlying Tryd.underlying26, sizeOf, typeInfo, hi, Builtin.lenOf, Builtin.firstCells]
    · simp [Builtin.append_, run_underlying Tryd.underlying26, sizeOf, typeInfo, hi, Builtin.lenOf, Builtin.firstCells, hnc, storeCells]
  | some ad =>
    have hnews : ∀ j u, (ints l)[j]? = some u → w.cell? (ad.add j) = some u := fun j u hu => by
      have hj : j < l.length := by
        have := (List.getElem?_eq_some_iff.1 hu).1
        simpa [ints] using this
      obtain ⟨b, off, e, _, hc⟩ := hrd.at_ hj
      obtain rfl : ad = ⟨b, off, none⟩ := Option.some.inj e
      have e2 : u = .int .i64 l[j] := by
        unfold ints at hu
        rw [List.getElem?_map, List.getElem?_eq_getElem hj] at hu
        exact (Option.some.inj hu).symm
      rw [e2, ← hc]
      by_cases h0 : j = 0
      · subst h0; simp [Addr.add]
      · simp [Addr.add, h0]
    obtain ⟨v', w', hr, h2, h3, _, h5⟩ := run_append_own_at (P := Tryd.prog) w base 26 ty 3 i0 _ 1 8 Tryd.underlying26 hi hz0 hz1 hz2 rfl (by omega) v xs.length (ints xs) hown ad l.length c (ints l) (by simp [ints]) hnews (ints_one l)
      (by unfold maxLen; omega) (by omega) hbase
    refine ⟨v', w', hr, ?_, h3, h5⟩
    rw [List.length_append]
    simpa [ints] using h2
theorem wpList_appI_Tryd {ops : Array Oper} {rest : List Oper} {o : Oper} {a : Act} {Q : Exit → Act → World → Prop} {w : World} (hgd : o.guard = none) (s x : Operand)
    (ho : o.op = .call { callee := .builtin .append, args := #[s, x], argTypes := #[26, 26] })
    (base : Nat) (v : Value) (xs : List Int) (hs : a.eval s = v) (hown : w.ownsRow base 3 1 v xs.length (ints xs)) (A : Option Addr) (c : Nat) (l : List Int) (hx : a.eval x = .slice A l.length c) (hrd : RdI w A l)
    (hn : xs.length + l.length ≤ 1000000) (hbase : base ≤ w.heap.size)
    (h : ∀ v' w', w'.ownsRow base 3 1 v' (xs ++ l).length (ints (xs ++ l)) → w.grownBy w' v.ownBlock → (v'.ownBlock = v.ownBlock ∨ v'.ownBlock = some w.heap.size) → wpList Tryd.prog ops Q rest (a.put o.dst v') w') :
    wpList Tryd.prog ops Q (o :: rest) a w := by
  refine wpList_plain hgd fun _ hK => ?_
  obtain ⟨v', w', hr, h2, h3, h4⟩ := run_appI_Tryd w base v xs hown A c l hrd hn hbase o.type
  unfold Oper.wp execOp
  simp only [ho, resolve, invoke, builtin, Sem.run_bind, Sem.run_pure, Result.andThen_ok, List.map_toArray, List.map_cons, List.map_nil, hs, hx, hr]
  exact hK _ _ (h v' w' h2 h3 h4)
end Go.Proofs.YtlpfecjkkgccgaaDoor
