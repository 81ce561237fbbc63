/- Texts of this claim, laid together: RoundAny, TnB, TnChk, TnChk2, TnBoth. -/
import Derived.Test.YtlmhgcllikcedaaMaB
import Derived.Test.YtlmhgcllikcedaaMaC
import Derived.Test.YtlmhgcllikcedaaMaD
import Derived.Deep.CutBlock
import Derived.Deep.RegionHeld3
/- A region that draws its order, in a round of a range over a function: walked as in a frame of its own. Over any program. -/
namespace Go.Proofs.Ytlmhgcllikcedaa
open Go Go.RowKit

def noDefer (ops : Array Oper) : Bool := ops.all fun o => match o.op with | .defer _ => false | _ => true
theorem noDefer_spec {ops : Array Oper} (h : noDefer ops = true) (i : Nat) (o : Oper) (ho : ops[i]? = some o) (c : Call) : o.op ≠ .defer c := by
  unfold noDefer at h
  rw [Array.all_eq_true] at h
  obtain ⟨hi, rfl⟩ := Array.getElem?_eq_some_iff.1 ho
  have := h i hi
  intro e
  rw [e] at this
  cases this
section
variable {P : Program} {ops : Array Oper} {Q : Exit → Act → World → Prop} {md : Region.Mode} {l n : Nat}
theorem wpOp_inRound {i : Nat} {K K' : Act → World → Prop} {a : Act} {w : World} (hd : noDefer ops = true) (hL : ¬ LetsOut Q) (hK : ∀ a w, K a w → K' a w) (h : wpOp P ops Q i K a w) : wpOpIn (Fence.wide.inRound l) n P ops Q i K' a w := by
  unfold wpOp at h
  unfold wpOpIn
  cases ho : ops[i]? with
  | none => rw [ho] at h; exact hK _ _ h
  | some o =>
    rw [ho] at h
    dsimp only at h ⊢
    by_cases hw : Region.wanted o (yielded ops a.tmps) = true
    · rw [if_pos hw] at h ⊢
      have h := h.resolve_right fun h2 => hL h2.2
      refine ⟨fun _ _ => trivial, ?_⟩
      rw [Fence.inRound_round, Oper.semAt_some l _ _ (noDefer_spec hd i o ho)]
      unfold Oper.wp at h
      generalize (execOp a.eval o).run P w = r at h ⊢
      cases r with
      | ok nx w' =>
        cases nx with
        | value v => exact hK _ _ h
        | skip => exact hK _ _ h
        | defer d => exact hK _ _ h
        | enter f args =>
          refine ⟨fun hx => absurd hx (by simp [Fence.wide]), CallsIn.inRound l (callsIn_wide.2 ?_)⟩
          refine Calls.mono h ?_
          intro e w'' he
          cases e with
          | returned v => exact hK _ _ he
          | panicked ch => exact he
          | outgrown => exact he
        | row row args =>
          refine ⟨fun hx => absurd hx (by simp [Fence.wide]), fun c cs _ => ?_⟩
          obtain ⟨v, w'', r, s⟩ := h c cs
          exact ⟨v, w'', hK _ _ r, stepsIn_wide.2 s⟩
        | _ => exact h.elim
      | halt hh w' =>
        cases hh with
        | panic v => exact h
        | _ => exact h.elim
    · rw [if_neg hw] at h ⊢
      exact ⟨fun _ _ => trivial, hK _ _ h⟩
theorem wpAny_inRound (hd : noDefer ops = true) (hL : ¬ LetsOut Q) : ∀ (fuel : Nat) (listed : Array Bool) (a : Act) (w : World), wpAny P md ops Q fuel listed a w → wpAnyIn (Fence.wide.inRound l) n P md ops Q fuel listed a w
  | 0, _, _, _, h => h
  | fuel + 1, _, _, _, h => ⟨h.1, fun i hi => wpOp_inRound hd hL (fun a w h => wpAny_inRound hd hL fuel _ a w h) (h.2 i hi)⟩
/-- One operation that yields wherever S holds is taken first. -/
theorem takeH {i d : Nat} {oi : Oper} {v : Value} {S : World → Prop} {fuel : Nat} {listed : Array Bool} {t : Array Value} {ds : List Deferred} {w : World} (hi : ops[i]? = some oi) (hd : oi.dst = some d)
    (hs : Region.noSelect ops = true) (hf : Region.free md ops listed i = true) (hr : (Region.ready md ops listed).contains i = true)
    (hQ : ∀ c t ds w, Q (.panic c) { tmps := t, defers := ds } w ↔ ∀ t', Q (.panic c) { tmps := t', defers := ds } w)
    (hwa : Region.wanted oi (yielded ops t) = true) (hS : S w) (hy : ∀ w, S w → (execOp ({ tmps := t, defers := ds } : Act).eval oi).run P w = .ok (.value v) w)
    (h : wpAnyH P md ops Q S fuel (listed.setIfInBounds i true) { tmps := t.setIfInBounds d v, defers := ds } w) : wpAnyH P md ops Q S (fuel + 1) listed { tmps := t, defers := ds } w :=
  have e : ∀ a : Act, a.put oi.dst v = { tmps := a.tmps.setIfInBounds d v, defers := a.defers } := fun a => by rw [hd]; rfl
  wpAnyH_take (v := v) hi hs hf hr (fun c a w hq => by
    rw [e] at hq
    exact (hQ c _ _ w).1 hq a.tmps) (.inl ⟨hwa, hy⟩) hS (by rw [e]; exact h)
/-- The beginning of the walk. -/
theorem wpIn_region_held {id : Nat} {a : Act} {w : World} (S : World → Prop) (hm : P.follows .mixedOrders = true) (hd : noDefer ops = true) (hL : ¬ LetsOut Q) (hS : S w.drew)
    (h : S w.drew → wpAnyH P .any ops Q S ops.size (Array.replicate ops.size false) a w.drew) : (Code.region id ops true).wpIn (Fence.wide.inRound l) n P Q a w :=
  wpIn_region_any hm (wpAny_inRound hd hL _ _ _ _ (wpAny_of_held _ _ _ _ (h hS)))
end
end Go.Proofs.Ytlmhgcllikcedaa
/- Bounds of a sum of roots. -/
namespace Go.Proofs.Ytlmhgcllikcedaa
open Go.RowKit

/-- The slice at A holds these roots: K and S. -/
def cellsR (xs : List (Int × Int)) (j : Nat) : Value := if j % 2 = 0 then .int .i64 (xs.getD (j / 2) (0, 0)).1 else .int .i64 (xs.getD (j / 2) (0, 0)).2
def RdR (w : World) (A : Option Addr) (xs : List (Int × Int)) : Prop := xs.length ≤ 281474976710656 ∧ Rd w A 2 xs.length (cellsR xs)
theorem RdR.at_ {w : World} {A : Option Addr} {xs : List (Int × Int)} (h : RdR w A xs) {k : Nat} (hk : k < xs.length) :
    ∃ b off, A = some ⟨b, off, none⟩ ∧ b < w.heap.size ∧ w.cell? ⟨b, off + k * 2, none⟩ = some (.int .i64 xs[k].1) ∧ w.cell? ⟨b, off + k * 2 + 1, none⟩ = some (.int .i64 xs[k].2) := by
  obtain ⟨b, off, e, hlt, hc⟩ := h.2 (by omega)
  have e0 := hc (k * 2) (by omega)
  have e1 := hc (k * 2 + 1) (by omega)
  have hx : xs.getD k (0, 0) = xs[k] := by simp [List.getD_eq_getElem?_getD, hk]
  refine ⟨b, off, e, hlt, ?_, ?_⟩
  · rw [e0]
    unfold cellsR
    rw [if_pos (by omega), show k * 2 / 2 = k by omega, hx]
  · rw [show off + k * 2 + 1 = off + (k * 2 + 1) by omega, e1]
    unfold cellsR
    rw [if_neg (by omega), show (k * 2 + 1) / 2 = k by omega, hx]
theorem RdR.later {w w' : World} {B : Nat} {A : Option Addr} {xs : List (Int × Int)} (h : RdR w A xs) (hb : Below B w w') (hB : w.heap.size ≤ B) : RdR w' A xs := ⟨h.1, h.2.later hb hB⟩
/-- Which side a root is added to. -/
def sdR (x : Int × Int) : Nat := if x.1 < 0 then 1 else 0
def rtN (s bits : Nat) : Nat := Nat.sqrt (s * 4 ^ bits)
def moN (s bits : Nat) : Nat := if 1 < s then rtN s bits + 1 else rtN s bits
def loS (sc bits sd : Nat) : List (Int × Int) → Nat
  | [] => 0
  | x :: l => (if sdR x = sd then x.1.natAbs * sc * rtN x.2.toNat bits else 0) + loS sc bits sd l
def hiS (sc bits sd : Nat) : List (Int × Int) → Nat
  | [] => 0
  | x :: l => (if sdR x = sd then x.1.natAbs * sc * moN x.2.toNat bits else 0) + hiS sc bits sd l
theorem loS_snoc (sc bits sd : Nat) (x : Int × Int) : ∀ l, loS sc bits sd (l ++ [x]) = loS sc bits sd l + (if sdR x = sd then x.1.natAbs * sc * rtN x.2.toNat bits else 0)
  | [] => by simp [loS]
  | y :: l => by rw [List.cons_append, loS, loS, loS_snoc sc bits sd x l, Nat.add_assoc]
theorem hiS_snoc (sc bits sd : Nat) (x : Int × Int) : ∀ l, hiS sc bits sd (l ++ [x]) = hiS sc bits sd l + (if sdR x = sd then x.1.natAbs * sc * moN x.2.toNat bits else 0)
  | [] => by simp [hiS]
  | y :: l => by rw [List.cons_append, hiS, hiS, hiS_snoc sc bits sd x l, Nat.add_assoc]
/-- What stands in the four cells. -/
def vF (sc bits : Nat) (l : List (Int × Int)) (j : Nat) : Nat := if j < 2 then loS sc bits j l else hiS sc bits (j - 2) l
/-- The roots are of moderate size. -/
def Mod (xs : List (Int × Int)) : Prop := xs.length ≤ 1000 ∧ ∀ x ∈ xs, -4611686018427387904 < x.1 ∧ x.1 < 4611686018427387904 ∧ 0 < x.2 ∧ x.2 < 4611686018427387904
theorem rt_lt {s bits : Nat} (h : s < 2 ^ 62) : rtN s bits < 2 ^ (31 + bits) := by
  refine (sqrt_bits (b := 31 + bits) ?_).1
  rw [show 2 * (31 + bits) = 62 + 2 * bits by omega, Nat.pow_add, show (4 : Nat) = 2 ^ 2 by decide, ← Nat.pow_mul]
  exact Nat.mul_lt_mul_of_pos_right h (Nat.two_pow_pos _)
theorem mo_le (s bits : Nat) (h : s < 2 ^ 62) : rtN s bits ≤ moN s bits ∧ moN s bits ≤ 2 ^ (31 + bits) := by
  have := rt_lt (bits := bits) h
  unfold moN
  split <;> omega
theorem term_le {k sc r b : Nat} (hk : k < 2 ^ 62) (hs : sc < 2 ^ 62) (hr : r ≤ 2 ^ b) : k * sc * r ≤ 2 ^ (124 + b) := by
  rw [show 124 + b = 62 + 62 + b by omega, Nat.pow_add, Nat.pow_add]
  exact Nat.mul_le_mul (Nat.mul_le_mul (Nat.le_of_lt hk) (Nat.le_of_lt hs)) hr
theorem hiS_le {sc bits : Nat} (hs : sc < 2 ^ 62) (sd : Nat) : ∀ {xs : List (Int × Int)}, (∀ x ∈ xs, -4611686018427387904 < x.1 ∧ x.1 < 4611686018427387904 ∧ 0 < x.2 ∧ x.2 < 4611686018427387904) → hiS sc bits sd xs ≤ xs.length * 2 ^ (155 + bits) ∧ loS sc bits sd xs ≤ hiS sc bits sd xs
  | [], _ => ⟨by simp [hiS], Nat.le_refl _⟩
  | x :: l, h => by
    obtain ⟨ih1, ih2⟩ := hiS_le hs sd (xs := l) fun y hy => h y (List.mem_cons_of_mem _ hy)
    obtain ⟨h1, h2, h3, h4⟩ := h x (List.mem_cons_self ..)
    have hsn : x.2.toNat < 2 ^ 62 := by omega
    have hkn : x.1.natAbs < 2 ^ 62 := by omega
    obtain ⟨m1, m2⟩ := mo_le x.2.toNat bits hsn
    have ht := term_le hkn hs m2
    rw [show 124 + (31 + bits) = 155 + bits by omega] at ht
    have hlo := Nat.mul_le_mul_left (x.1.natAbs * sc) m1
    rw [hiS, loS, List.length_cons, Nat.add_mul, Nat.one_mul]
    generalize x.1.natAbs * sc * moN x.2.toNat bits = X1 at *
    generalize x.1.natAbs * sc * rtN x.2.toNat bits = X2 at *
    generalize l.length * 2 ^ (155 + bits) = X3 at *
    generalize 2 ^ (155 + bits) = X4 at *
    by_cases hc : sdR x = sd
    · simp only [if_pos hc]; omega
    · simp only [if_neg hc]; omega
theorem vF_lt {sc bits : Nat} (hs : sc < 2 ^ 62) {xs : List (Int × Int)} (hm : Mod xs) (k j : Nat) : vF sc bits (xs.take k) j < 2 ^ (165 + bits) := by
  have hall : ∀ x ∈ xs.take k, -4611686018427387904 < x.1 ∧ x.1 < 4611686018427387904 ∧ 0 < x.2 ∧ x.2 < 4611686018427387904 := fun x hx => hm.2 x (List.mem_of_mem_take hx)
  have hl : (xs.take k).length ≤ 1000 := by rw [List.length_take]; have := hm.1; omega
  have e : 2 ^ (165 + bits) = 1024 * 2 ^ (155 + bits) := by rw [show 165 + bits = 10 + (155 + bits) by omega, Nat.pow_add]
  have hp := Nat.two_pow_pos (155 + bits)
  unfold vF
  rw [e]
  split
  · have h := hiS_le (bits := bits) hs j hall
    have h2 := Nat.mul_le_mul_right (2 ^ (155 + bits)) hl
    generalize 2 ^ (155 + bits) = X at *
    omega
  · have h := hiS_le (bits := bits) hs (j - 2) hall
    have h2 := Nat.mul_le_mul_right (2 ^ (155 + bits)) hl
    generalize 2 ^ (155 + bits) = X at *
    omega
/-- Four numbers in a value's cells. -/
structure VB (w : World) (V : Nat) (f : Nat → Nat) (VA : Nat → Option Addr) (VC : Nat → Nat) : Prop where
  bx : w.heap[V]? = some (.cells #[.slice (VA 0) (nl (f 0)) (VC 0), .slice (VA 1) (nl (f 1)) (VC 1), .slice (VA 2) (nl (f 2)) (VC 2), .slice (VA 3) (nl (f 3)) (VC 3)] 101 (0, 0))
  rd : ∀ j, j < 4 → RdN w (VA j) (f j)
  cp : ∀ j, j < 4 → nl (f j) ≤ VC j
section
variable {w w' : World} {V : Nat} {f : Nat → Nat} {VA : Nat → Option Addr} {VC : Nat → Nat}
theorem four {j : Nat} (h : j < 4) : j = 0 ∨ j = 1 ∨ j = 2 ∨ j = 3 := by omega
theorem VB.lt (h : VB w V f VA VC) : V < w.heap.size := lt_of_block h.bx
theorem VB.at_ (h : VB w V f VA VC) {j : Nat} (hj : j < 4) : w.cell? ⟨V, j, none⟩ = some (.slice (VA j) (nl (f j)) (VC j)) := by
  rw [cell_of_row w V j _ _ _ h.bx]
  rcases four hj with rfl | rfl | rfl | rfl <;> rfl
theorem VB.free (h : VB w V f VA VC) (j : Nat) : w.frozen? ⟨V, j, none⟩ = false := frozen_of_row _ _ j _ _ h.bx
theorem VB.later (h : VB w V f VA VC) (hb : Below w.heap.size w w') : VB w' V f VA VC := ⟨(hb.block _ h.lt).trans h.bx, fun j hj => (h.rd j hj).later hb (Nat.le_refl _), h.cp⟩
theorem VB.drew (h : VB w V f VA VC) : VB w.drew V f VA VC := ⟨h.bx, fun j hj => (h.rd j hj).later ((Below.refl _ w).drew) (Nat.le_refl _), h.cp⟩
theorem RdN.drew {A : Option Addr} {v : Nat} (h : RdN w A v) : RdN w.drew A v := h.later ((Below.refl _ w).drew) (Nat.le_refl _)
/-- A number does not lie in the value's own cells. -/
theorem VB.keep (h : VB w V f VA VC) {A : Option Addr} {v : Nat} (hr : RdN w A v) (j : Nat) (u : Value) : RdN (w.setCell ⟨V, j, none⟩ u) A v := fun h0 => by
  obtain ⟨b, off, e, hlt, hc⟩ := hr h0
  have hne : b ≠ V := fun eb => by
    subst eb
    have h1 := hc 0 h0
    rw [cell_of_row w b (off + 0) _ _ _ h.bx] at h1
    have h2 : off + 0 < 4 := by
      have := (Array.getElem?_eq_some_iff.1 h1).1
      simpa using this
    rcases four h2 with e | e | e | e <;> (rw [e] at h1; simp at h1)
  exact ⟨b, off, e, by simpa using hlt, fun i hi => (World.cell?_setCell_far _ _ _ _ (by show V ≠ b; exact fun e => hne e.symm)).trans (hc i hi)⟩
theorem VB.put (h : VB w V f VA VC) {j : Nat} (hj : j < 4) {A : Option Addr} {v c : Nat} (hr : RdN w A v) (hc : nl v ≤ c) : VB (w.setCell ⟨V, j, none⟩ (.slice A (nl v) c)) V (upD f j v) (upD VA j A) (upD VC j c) := by
  refine ⟨?_, fun i hi => ?_, fun i hi => ?_⟩
  · have h1 := heap_setCell_same w V j _ _ (.slice A (nl v) c) h.bx
    rw [h1]
    rcases four hj with rfl | rfl | rfl | rfl <;> rfl
  · by_cases e : i = j
    · subst e
      rw [upD_same, upD_same]
      exact h.keep hr _ _
    · rw [upD_other _ _ e, upD_other _ _ e]
      exact h.keep (h.rd i hi) _ _
  · by_cases e : i = j
    · subst e
      rw [upD_same, upD_same]; exact hc
    · rw [upD_other _ _ e, upD_other _ _ e]; exact h.cp i hi
theorem VB.eqv {f' : Nat → Nat} (h : VB w V f VA VC) (he : ∀ j, j < 4 → f j = f' j) : VB w V f' VA VC := by
  refine ⟨?_, fun j hj => by rw [← he j hj]; exact h.rd j hj, fun j hj => by rw [← he j hj]; exact h.cp j hj⟩
  rw [← he 0 (by decide), ← he 1 (by decide), ← he 2 (by decide), ← he 3 (by decide)]
  exact h.bx
end
/-- What between returns. -/
def BtPost (f : Nat → Nat) (w : World) (e : Ending) (w' : World) : Prop := ∃ (VA : Nat → Option Addr) (VC : Nat → Nat), e = .returned (.agg #[.slice (VA 0) (nl (f 0)) (VC 0), .slice (VA 1) (nl (f 1)) (VC 1), .slice (VA 2) (nl (f 2)) (VC 2), .slice (VA 3) (nl (f 3)) (VC 3)]) ∧ (∀ j, j < 4 → RdN w' (VA j) (f j) ∧ nl (f j) ≤ VC j) ∧ Below w.heap.size w w'
set_option maxRecDepth 100000 in
set_option maxHeartbeats 8000000 in
theorem tnBetween_ (A : Option Addr) (c sc bits : Nat) (xs : List (Int × Int)) (w : World) (hr : RdR w A xs) (hm : Mod xs) (hs : sc < 4611686018427387904) (hb : bits ≤ 281474976710656) :
    Calls Try.prog 56 #[.slice A xs.length c, .int .i64 (sc : Int), .int .u64 (bits : Int)] w (BtPost (vF sc bits xs) w) := by
  have hl := hm.1
  have HR := Lib.hid hr; have HM := Lib.hid hm; have HS := Lib.hid hs; have HB := Lib.hid hb; clear hr hm hs hb
  go_enter Try.func56, Try.ntmps56
  go_upto_region 2 with fail
  obtain ⟨w2, hw2⟩ : ∃ w2, w2 = (w.alloc (.cells #[.slice none 0 0, .slice none 0 0, .slice none 0 0, .slice none 0 0] 101)).alloc (.cells #[.slice none 0 0, .slice none 0 0, .slice none 0 0, .slice none 0 0] 101) := ⟨_, rfl⟩
  rw [← hw2]
  have hE : w2.heap[w.heap.size]? = some (.cells #[.slice none 0 0, .slice none 0 0, .slice none 0 0, .slice none 0 0] 101 (0, 0)) := by rw [hw2]; exact heap_alloc2_old _ _ _
  have hV : VB w2 (w.heap.size + 1) (vF sc bits (xs.take 0)) (fun _ => none) (fun _ => 0) := by
    have hz : ∀ j, vF sc bits (xs.take 0) j = 0 := fun j => by unfold vF; rw [List.take_zero]; split <;> rfl
    refine ⟨?_, fun j _ => by rw [hz]; exact rdN_zero _ _, fun j _ => by rw [hz, nl_zero]; exact Nat.le_refl 0⟩
    rw [hz, hz, hz, hz, nl_zero, hw2]
    exact heap_alloc2_new _ _ _
  have hbw : Below w.heap.size w w2 := by rw [hw2]; exact ((Below.refl _ _).alloc (Nat.le_refl _) _).alloc (by simp) _
  clear hw2
  obtain ⟨V, hVe⟩ : ∃ V, V = w.heap.size + 1 := ⟨_, rfl⟩
  rw [← hVe] at hV ⊢
  have HE := Lib.hid hE; have HV := Lib.hid hV; have HBW := Lib.hid hbw; have HVE := Lib.hid hVe; clear hE hV hbw hVe
  go_wp2
  go_loopw [9, 10, 11, 12, 13, 14, 17] (fun _ _ _ _ _ _ iv wr => ∃ (k : Nat) (VA : Nat → Option Addr) (VC : Nat → Nat), iv = .int .i64 (k : Int) ∧ k ≤ xs.length ∧ VB wr V (vF sc bits (xs.take k)) VA VC ∧ wr.heap[w.heap.size]? = some (.cells #[.slice none 0 0, .slice none 0 0, .slice none 0 0, .slice none 0 0] 101 (0, 0)) ∧ Below w.heap.size w wr) (fun _ _ _ _ _ _ iv _ => xs.length - (intOf iv).toNat)
  case atStart => exact ⟨0, _, _, rfl, Nat.zero_le _, HV.out, HE.out, HBW.out⟩
  case round =>
    clear HV HE HBW
    obtain ⟨k, VA, VC, rfl, hk, hV, hE, hbw⟩ := hrel
    by_cases hkl : k < xs.length
    · obtain ⟨bl, off, rfl, hbl, q1, q2⟩ := (HR.out.later hbw (Nat.le_refl _)).at_ hkl
      obtain ⟨m1, m2, m3, m4⟩ := HM.out.2 _ (List.getElem_mem hkl)
      have hsn := List.take_succ_eq_append_getElem hkl
      have hls := fun sd => loS_snoc sc bits sd xs[k] (xs.take k)
      have hhs := fun sd => hiS_snoc sc bits sd xs[k] (xs.take k)
      rw [← hsn] at hls hhs
      have hfb := fun j => vF_lt (bits := bits) HS.out HM.out k j
      obtain ⟨kk, hkk⟩ : ∃ kk, kk = xs[k].1.natAbs := ⟨_, rfl⟩
      obtain ⟨sd, hsd⟩ : ∃ sd, sd = sdR xs[k] := ⟨_, rfl⟩
      rw [← hsd, ← hkk] at hls hhs
      have hsd2 : sd = if xs[k].1 < 0 then 1 else 0 := hsd
      obtain ⟨s, hse⟩ : ∃ s, s = xs[k].2.toNat := ⟨_, rfl⟩
      rw [← hse] at hls hhs
      have hs2 : xs[k].2 = (s : Int) := by omega
      rw [hs2] at q2 m3 m4
      generalize xs[k].1 = K at *
      have x1 : (0 : Int) ≤ (k : Int) := by omega
      have x2 : (k : Int) < (xs.length : Int) := by omega
      have hVl := hV.lt
      clear hsd
      have HV := Lib.hid hV; have HE := Lib.hid hE; have HBW := Lib.hid hbw; have M1 := Lib.hid m1; have M2 := Lib.hid m2; have M3 := Lib.hid m3; have M4 := Lib.hid m4; have HSN := Lib.hid hsn; have HLS := Lib.hid hls; have HHS := Lib.hid hhs; have HFB := Lib.hid hfb; have HKK := Lib.hid hkk; have HSD2 := Lib.hid hsd2; have HSE := Lib.hid hse; have HS2 := Lib.hid hs2; clear hV hE hbw m1 m2 m3 m4 hsn hls hhs hfb hkk hsd2 hse hs2
      go_upto_region 5 with fail
      have hT := heap_alloc_new wr (.cells #[.int .i64 K, .int .i64 (s : Int)] 26)
      have hbT : Below wr.heap.size wr (wr.alloc (.cells #[.int .i64 K, .int .i64 (s : Int)] 26)) := (Below.refl _ _).alloc (Nat.le_refl _) _
      have hV5 := HV.out.later hbT
      have hE5 := (hbT.block _ (lt_of_block HE.out)).trans HE.out
      have hbw5 := HBW.out.trans (hbT.mono HBW.out.size)
      clear hbT
      generalize wr.alloc (.cells #[.int .i64 K, .int .i64 (s : Int)] 26) = w5 at *
      generalize wr.heap.size = T9 at *
      have t0 := cell_of_row _ _ 0 _ _ _ hT
      have t1 := cell_of_row _ _ 1 _ _ _ hT
      simp only [List.getElem?_toArray, List.getElem?_cons_zero, List.getElem?_cons_succ] at t0 t1
      have hTl := lt_of_block hT
      clear HV HE HBW q1 q2 hVl
      have HT := Lib.hid hT; have HV5 := Lib.hid hV5; have HE5 := Lib.hid hE5; have HBW5 := Lib.hid hbw5; clear hT hV5 hE5 hbw5
      go_quiet (fail)
      obtain ⟨w6, hw6⟩ : ∃ w6, w6 = w5.drewN nq := ⟨_, rfl⟩
      rw [← hw6]
      have hT6 : w6.heap[T9]? = some (.cells #[.int .i64 K, .int .i64 (s : Int)] 26 (0, 0)) := by rw [hw6]; exact HT.out
      have hV6 : VB w6 V (vF sc bits (xs.take k)) VA VC := by rw [hw6]; exact ⟨HV5.out.bx, fun j hj => RdD.drewN (HV5.out.rd j hj) _, HV5.out.cp⟩
      have hE6 : w6.heap[w.heap.size]? = some (.cells #[.slice none 0 0, .slice none 0 0, .slice none 0 0, .slice none 0 0] 101 (0, 0)) := by rw [hw6]; exact HE5.out
      have hbw6 : Below w.heap.size w w6 := by rw [hw6]; exact below_drewN HBW5.out _
      clear hw6 HT HV5 HE5 HBW5 t0 t1 hTl
      have HT6 := Lib.hid hT6; have HV6 := Lib.hid hV6; have HE6 := Lib.hid hE6; have HBW6 := Lib.hid hbw6; clear hT6 hV6 hE6 hbw6
      by_cases hneg : K < 0
      · have y2 : decide (K < 0) = true := decide_eq_true hneg
        have hkeq : -K = (kk : Int) := by have := HKK.out; omega
        have y3 : IntKind.i64.wrap (-K) = (kk : Int) := by rw [← hkeq]; exact IntWalk.i64_in _ (by have := M1.out; omega)
        have hsd1 : sd = 1 := by rw [HSD2.out, if_pos hneg]
        subst hsd1
        have hkl62 : kk < 4611686018427387904 := by have := HKK.out; have := M1.out; have := M2.out; omega
        clear HKK HSD2
        have HKEQ := Lib.hid hkeq; clear hkeq
        have r1 : IntKind.u64.wrap (kk : Int) = (kk : Int) := IntWalk.u64_in _ (by omega)
        have r2 : IntKind.u64.wrap (sc : Int) = (sc : Int) := IntWalk.u64_in _ (by have := HS.out; omega)
        have r3 : IntKind.u64.wrap (s : Int) = (s : Int) := IntWalk.u64_in _ (by have := M3.out; have := M4.out; omega)
        have lk : nl kk ≤ 2 := nl_le.2 (show kk < pw 2 from Nat.lt_trans hkl62 (by decide))
        have ls : nl sc ≤ 2 := nl_le.2 (show sc < pw 2 from Nat.lt_trans HS.out (by decide))
        have HKL62 := Lib.hid hkl62; have LK := Lib.hid lk; have LS := Lib.hid ls; clear hkl62 lk ls
        go_wp2_with fail
        refine (tOf_ kk w6 (by have := HKL62.out; omega)).mono ?_
        rintro e w7 ⟨A1, c1, rfl, h1, _, b1⟩
        have hT7 := (b1.block _ (lt_of_block HT6.out)).trans HT6.out
        have hV7 := HV6.out.later b1
        have hE7 := (b1.block _ (lt_of_block HE6.out)).trans HE6.out
        have hbw7 := HBW6.out.trans (b1.mono HBW6.out.size)
        clear HT6 HV6 HE6 HBW6 b1
        have HT7 := Lib.hid hT7; have HV7 := Lib.hid hV7; have HE7 := Lib.hid hE7; have HBW7 := Lib.hid hbw7; have H1 := Lib.hid h1; clear hT7 hV7 hE7 hbw7 h1
        go_wp2_with fail
        refine (tOf_ sc w7 (by have := HS.out; omega)).mono ?_
        rintro e w8 ⟨A2, c2, rfl, h2, _, b1⟩
        have hT8 := (b1.block _ (lt_of_block HT7.out)).trans HT7.out
        have hV8 := HV7.out.later b1
        have hE8 := (b1.block _ (lt_of_block HE7.out)).trans HE7.out
        have hbw8 := HBW7.out.trans (b1.mono HBW7.out.size)
        have h18 := H1.out.later b1 (Nat.le_refl _)
        clear HT7 HV7 HE7 HBW7 H1 b1
        have HT8 := Lib.hid hT8; have HV8 := Lib.hid hV8; have HE8 := Lib.hid hE8; have HBW8 := Lib.hid hbw8; have H18 := Lib.hid h18; have H2 := Lib.hid h2; clear hT8 hV8 hE8 hbw8 h18 h2
        go_wp2_with fail
        refine (natTimes_ A1 A2 c1 c2 kk sc w8 H18.out H2.out (by have := LK.out; omega) (by have := LS.out; omega)).mono ?_
        rintro e w9 ⟨An, cn, rfl, h3, _, b1⟩
        have hT9 := (b1.block _ (lt_of_block HT8.out)).trans HT8.out
        have hV9 := HV8.out.later b1
        have hE9 := (b1.block _ (lt_of_block HE8.out)).trans HE8.out
        have hbw9 := HBW8.out.trans (b1.mono HBW8.out.size)
        clear HT8 HV8 HE8 HBW8 H18 H2 b1
        have t1 := cell_of_row _ _ 1 _ _ _ hT9
        simp only [List.getElem?_toArray, List.getElem?_cons_zero, List.getElem?_cons_succ] at t1
        have hTl := lt_of_block hT9
        obtain ⟨nn, hnne⟩ : ∃ nn, nn = kk * sc := ⟨_, rfl⟩
        rw [← hnne] at h3 ⊢
        have HT9 := Lib.hid hT9; have HV9 := Lib.hid hV9; have HE9 := Lib.hid hE9; have HBW9 := Lib.hid hbw9; have H3 := Lib.hid h3; have HNNE := Lib.hid hnne; clear hT9 hV9 hE9 hbw9 h3 hnne
        go_wp2_with fail
        refine (tRoot_ s bits w9 (by have := M4.out; omega) (by have := HB.out; omega)).mono ?_
        rintro e w10 ⟨Ar, cr, rfl, h4, hc4, b1⟩
        have hT10 := (b1.block _ (lt_of_block HT9.out)).trans HT9.out
        have hV10 := HV9.out.later b1
        have hE10 := (b1.block _ (lt_of_block HE9.out)).trans HE9.out
        have hbw10 := HBW9.out.trans (b1.mono HBW9.out.size)
        have h310 := H3.out.later b1 (Nat.le_refl _)
        clear HT9 HV9 HE9 HBW9 H3 b1 t1 hTl
        obtain ⟨rr, hre⟩ : ∃ rr, rr = rtN s bits := ⟨_, rfl⟩
        obtain ⟨mm, hme⟩ : ∃ mm, mm = moN s bits := ⟨_, rfl⟩
        change RdN w10 Ar (rtN s bits) at h4
        change nl (rtN s bits) ≤ cr at hc4
        rw [show Nat.sqrt (s * 4 ^ bits) = rr from hre.symm]
        rw [← hre] at h4 hc4
        have hmm2 : mm = if 1 < s then rr + 1 else rr := by rw [hme, hre]; rfl
        have hs62 : s < 2 ^ 62 := by have := M4.out; omega
        have hrl := rt_lt (bits := bits) hs62
        obtain ⟨hml1, hml2⟩ := mo_le s bits hs62
        rw [← hre] at hrl hml1
        rw [← hme] at hml1 hml2
        have hrl2 : nl rr ≤ 8796093022250 := Nat.le_trans (nl_bits hrl) (by have := HB.out; omega)
        have hml : nl mm ≤ 8796093022250 := Nat.le_trans (nl_bits (Nat.lt_of_le_of_lt hml2 (Nat.pow_lt_pow_right (by decide) (show 31 + bits < 32 + bits by omega)))) (by have := HB.out; omega)
        have hkk62 := HKL62.out
        have hsc62 := HS.out
        have hnn124 : nn ≤ 2 ^ 124 := by
          rw [HNNE.out, show (124 : Nat) = 62 + 62 by decide, Nat.pow_add]
          exact Nat.mul_le_mul (Nat.le_of_lt hkk62) (Nat.le_of_lt hsc62)
        have hnl : nl nn ≤ 8796093022250 := Nat.le_trans (nl_bits (Nat.lt_of_le_of_lt hnn124 (show 2 ^ 124 < 2 ^ 125 by decide))) (by decide)
        have hnb1 := term_le hkk62 hsc62 (Nat.le_of_lt hrl)
        have hnb2 := term_le hkk62 hsc62 hml2
        rw [← HNNE.out] at hnb1 hnb2
        have hnb : nl (nn * rr) ≤ 8796093022250 ∧ nl (nn * mm) ≤ 8796093022250 := ⟨Nat.le_trans (nl_bits (Nat.lt_of_le_of_lt hnb1 (Nat.pow_lt_pow_right (by decide) (show 124 + (31 + bits) < 156 + bits by omega)))) (by have := HB.out; omega), Nat.le_trans (nl_bits (Nat.lt_of_le_of_lt hnb2 (Nat.pow_lt_pow_right (by decide) (show 124 + (31 + bits) < 156 + bits by omega)))) (by have := HB.out; omega)⟩
        have hfbn : ∀ j, nl (vF sc bits (xs.take k) j) ≤ 8796093022250 := fun j => Nat.le_trans (nl_bits (HFB.out j)) (by have := HB.out; omega)
        have hfbn2 : nl (vF sc bits (xs.take k) 1 + nn * rr) ≤ 8796093022250 ∧ True := ⟨by
          refine Nat.le_trans (nl_bits (b := 166 + bits) ?_) (by have := HB.out; omega)
          have h1 := HFB.out 1
          have h2 : 2 ^ (124 + (31 + bits)) ≤ 2 ^ (165 + bits) := Nat.pow_le_pow_right (by decide) (by omega)
          have h3 : 2 ^ (166 + bits) = 2 ^ (165 + bits) + 2 ^ (165 + bits) := by rw [show 166 + bits = (165 + bits) + 1 by omega, Nat.pow_succ]; omega
          omega, trivial⟩
        have t1 := cell_of_row _ _ 1 _ _ _ hT10
        simp only [List.getElem?_toArray, List.getElem?_cons_zero, List.getElem?_cons_succ] at t1
        have hTl := lt_of_block hT10
        clear hrl hml1 hml2 hkk62 hsc62 hnn124 hnb1 hnb2 hs62
        have HT10 := Lib.hid hT10; have HV10 := Lib.hid hV10; have HE10 := Lib.hid hE10; have HBW10 := Lib.hid hbw10; have H310 := Lib.hid h310; have H4 := Lib.hid h4; have HC4 := Lib.hid hc4; have HRE := Lib.hid hre; have HME := Lib.hid hme; have HMM2 := Lib.hid hmm2; have HRL2 := Lib.hid hrl2; have HML := Lib.hid hml; have HNL := Lib.hid hnl; have HNB := Lib.hid hnb; have HFBN := Lib.hid hfbn; have HFBN2 := Lib.hid hfbn2; clear hT10 hV10 hE10 hbw10 h310 h4 hc4 hre hme hmm2 hrl2 hml hnl hnb hfbn hfbn2
        by_cases hs1 : 1 < s
        · have z1 : (1 : Int) < (s : Int) := by omega
          have z2 : decide ((1 : Int) < (s : Int)) = true := decide_eq_true z1
          have hmr : mm = rr + 1 := by rw [HMM2.out, if_pos hs1]
          subst hmr
          clear HMM2 t1
          have ho := one_at (w := w10)
          have hb5 : Below w10.heap.size w10 (w10.alloc (.cells #[.int .u32 1] 104)) := (Below.refl _ _).alloc (Nat.le_refl _) _
          have h4b := H4.out.later hb5 (Nat.le_refl _)
          have h3b := H310.out.later hb5 (Nat.le_refl _)
          have hV11 := HV10.out.later hb5
          have hE11 := (hb5.block _ (lt_of_block HE10.out)).trans HE10.out
          have hbw11 := HBW10.out.trans (hb5.mono HBW10.out.size)
          have t1 := cell_of_row _ _ 1 _ _ _ HT10.out
          simp only [List.getElem?_toArray, List.getElem?_cons_zero, List.getElem?_cons_succ] at t1
          clear hb5 HT10 HV10 HE10 HBW10 H310 H4
          have HO := Lib.hid ho; have H4B := Lib.hid h4b; have H3B := Lib.hid h3b; have HV11 := Lib.hid hV11; have HE11 := Lib.hid hE11; have HBW11 := Lib.hid hbw11; clear ho h4b h3b hV11 hE11 hbw11
          go_wp2_with fail
          clear t1 hTl
          refine (natPlus1_ Ar cr rr w10.heap.size _ H4B.out HO.out (by have := HRL2.out; omega)).mono ?_
          rintro e w12 ⟨Am, cm, rfl, h5, hcm, b1⟩
          have hV12 := HV11.out.later b1
          have hE12 := (b1.block _ (lt_of_block HE11.out)).trans HE11.out
          have hbw12 := HBW11.out.trans (b1.mono HBW11.out.size)
          have hrr := H4B.out.later b1 (Nat.le_refl _)
          have hnn := H3B.out.later b1 (Nat.le_refl _)
          clear HV11 HE11 HBW11 H4B H3B HO b1
          obtain ⟨mm, hmm9⟩ : ∃ mm, mm = rr + 1 := ⟨_, rfl⟩
          rw [← hmm9] at h5 hcm ⊢
          have hmeq : mm = moN s bits := by rw [hmm9]; exact HME.out
          have hml9 : nl mm ≤ 8796093022250 := by rw [hmm9]; exact HML.out
          have hnb9 : nl (nn * rr) ≤ 8796093022250 ∧ nl (nn * mm) ≤ 8796093022250 := by rw [hmm9]; exact HNB.out
          clear HML HNB HME hmm9
          have HML := Lib.hid hml9
          have HNB := Lib.hid hnb9
          have HMEQ := Lib.hid hmeq
          clear hml9 hnb9 hmeq
          obtain ⟨f, hfe⟩ : ∃ f, f = vF sc bits (xs.take k) := ⟨_, rfl⟩
          have hfbd : ∀ j, nl (f j) ≤ 8796093022250 := by rw [hfe]; exact HFBN.out
          have hfs := HFBN2.out.1
          rw [← hfe] at hV12 hfs
          have hVD : VB w12.drew V f VA VC := hV12.drew
          have hED : w12.drew.heap[w.heap.size]? = some (.cells #[.slice none 0 0, .slice none 0 0, .slice none 0 0, .slice none 0 0] 101 (0, 0)) := hE12
          have hBD : Below w.heap.size w w12.drew := hbw12.drew
          have hVl := hV12.lt
          have hwl := hVD.lt
          have HNN := Lib.hid hnn
          have HRR := Lib.hid hrr
          have HMM := Lib.hid h5
          clear hnn hrr h5
          have g0 : w12.drew.cell? ⟨V, 1, none⟩ = some (.slice (VA 1) (nl (f 1)) (VC 1)) := hVD.at_ (by decide)
          have HFB := Lib.hid hfbd
          have HFBD := Lib.hid hfbd; have HV12 := Lib.hid hV12; have HE12 := Lib.hid hE12; have HBW12 := Lib.hid hbw12; have HVD := Lib.hid hVD; have HED := Lib.hid hED; have HBD := Lib.hid hBD; have HFE := Lib.hid hfe; have HFS := Lib.hid hfs; clear hfbd hV12 hE12 hbw12 hVD hED hBD hfe hfs
          go_upto_region 13 with fail
          have hsj : 1 < 4 := by decide
          go_cut [] (fun wx => ∃ (UA : Nat → Option Addr) (UC : Nat → Nat), VB wx V (upD f 1 (f 1 + nn * rr)) UA UC ∧ RdN wx An nn ∧ RdN wx Ar rr ∧ RdN wx Am mm ∧ wx.heap[w.heap.size]? = some (.cells #[.slice none 0 0, .slice none 0 0, .slice none 0 0, .slice none 0 0] 101 (0, 0)) ∧ Below w.heap.size w wx)
          case first =>
            refine wp_region_held_drew (S := fun _ => True) (by kernel_rfl) trivial (fun hHeld => ?_)
            refine takeH (i := 0) (v := ?dpav0) rfl rfl (by kernel_rfl) (by kernel_rfl) (by kernel_rfl) (fun _ _ _ _ => ⟨fun h _ => h, fun h => h #[]⟩) (by rfl) hHeld ?dpay0 ?dpar0
            case dpay0 =>
              intro W' hSw
              obtain _ := hSw
              go_simp
              try with_reducible rfl
            simp only [List.setIfInBounds_toArray, List.set_cons_zero, List.set_cons_succ]
            refine takeH (i := 1) (v := ?dpav1) rfl rfl (by kernel_rfl) (by kernel_rfl) (by kernel_rfl) (fun _ _ _ _ => ⟨fun h _ => h, fun h => h #[]⟩) (by rfl) hHeld ?dpay1 ?dpar1
            case dpay1 =>
              intro W' hSw
              obtain _ := hSw
              go_simp
              try with_reducible rfl
            simp only [List.setIfInBounds_toArray, List.set_cons_zero, List.set_cons_succ]
            refine takeH (i := 2) (v := ?dpav2) rfl rfl (by kernel_rfl) (by kernel_rfl) (by kernel_rfl) (fun _ _ _ _ => ⟨fun h _ => h, fun h => h #[]⟩) (by rfl) hHeld ?dpay2 ?dpar2
            case dpay2 =>
              intro W' hSw
              obtain _ := hSw
              go_simp
              try with_reducible rfl
            simp only [List.setIfInBounds_toArray, List.set_cons_zero, List.set_cons_succ]
            refine takeH (i := 3) (v := ?dpav3) rfl rfl (by kernel_rfl) (by kernel_rfl) (by kernel_rfl) (fun _ _ _ _ => ⟨fun h _ => h, fun h => h #[]⟩) (by rfl) hHeld ?dpay3 ?dpar3
            case dpay3 =>
              intro W' hSw
              obtain _ := hSw
              go_simp
              try with_reducible rfl
            simp only [List.setIfInBounds_toArray, List.set_cons_zero, List.set_cons_succ]
            refine takeH (i := 5) (v := ?dpav5) rfl rfl (by kernel_rfl) (by kernel_rfl) (by kernel_rfl) (fun _ _ _ _ => ⟨fun h _ => h, fun h => h #[]⟩) (by rfl) hHeld ?dpay5 ?dpar5
            case dpay5 =>
              intro W' hSw
              obtain _ := hSw
              go_simp
              try with_reducible rfl
            simp only [List.setIfInBounds_toArray, List.set_cons_zero, List.set_cons_succ]
            refine takeH (i := 6) (v := ?dpav6) rfl rfl (by kernel_rfl) (by kernel_rfl) (by kernel_rfl) (fun _ _ _ _ => ⟨fun h _ => h, fun h => h #[]⟩) (by rfl) hHeld ?dpay6 ?dpar6
            case dpay6 =>
              intro W' hSw
              obtain _ := hSw
              go_simp
              try with_reducible rfl
            simp only [List.setIfInBounds_toArray, List.set_cons_zero, List.set_cons_succ]
            refine takeH (i := 9) (v := ?dpav9) rfl rfl (by kernel_rfl) (by kernel_rfl) (by kernel_rfl) (fun _ _ _ _ => ⟨fun h _ => h, fun h => h #[]⟩) (by rfl) hHeld ?dpay9 ?dpar9
            case dpay9 =>
              intro W' hSw
              obtain _ := hSw
              go_simp
              try with_reducible rfl
            simp only [List.setIfInBounds_toArray, List.set_cons_zero, List.set_cons_succ]
            refine wpAnyH_ready (rs := [4, 7]) (by kernel_rfl) (by simp) ?_
            refine AllReadyH.cons rfl (fun K hK => ?_) (AllReadyH.cons rfl (fun K hK => ?_) AllReadyH.nil)
            · go_simp
              refine hK.out _ _ trivial (fun _ => ?_)
              clear hK K
              try simp only [Act.put, List.setIfInBounds_toArray, List.set_cons_zero, List.set_cons_succ]
              refine wpAnyH_ready (rs := [7]) (by kernel_rfl) (by simp) ?_
              refine AllReadyH.cons rfl (fun K hK => ?_) AllReadyH.nil
              go_simp
              refine (natTimes_ An Ar cn cr nn rr _ HNN.out.drew HRR.out.drew (by have := HNL.out; omega) (by have := HRL2.out; omega)).mono ?_
              rintro e v1 ⟨A1, c1, rfl, h1, hc1, b1⟩
              have hV1 := HVD.out.later b1
              have g1 := hV1.at_ hsj
              have hVl1 := hV1.lt
              refine hK.out _ _ trivial (fun _ => ?_)
              clear hK K
              try simp only [Act.put, List.setIfInBounds_toArray, List.set_cons_zero, List.set_cons_succ]
              refine wpAnyH_ready (rs := [8]) (by kernel_rfl) (by simp) ?_
              refine AllReadyH.cons rfl (fun K hK => ?_) AllReadyH.nil
              go_simp
              refine (natPlus_ (VA 1) A1 (VC 1) c1 (f 1) (nn * rr) v1 (hV1.rd 1 hsj) h1 (by have := HFB.out 1; omega) (by have := HNB.out; omega)).mono ?_
              rintro e v2 ⟨A2, c2, rfl, h2, hc2, b2⟩
              have hV2 := hV1.later b2
              have hbd := HBD.out
              have hb2 := hbd.trans (b1.mono hbd.size)
              have hb3 := hb2.trans (b2.mono hb2.size)
              refine hK.out _ _ trivial (fun _ => ?_)
              clear hK K
              try simp only [Act.put, List.setIfInBounds_toArray, List.set_cons_zero, List.set_cons_succ]
              refine takeH (i := 10) (v := ?dpbv10) rfl rfl (by kernel_rfl) (by kernel_rfl) (by kernel_rfl) (fun _ _ _ _ => ⟨fun h _ => h, fun h => h #[]⟩) (by rfl) hHeld ?dpby10 ?dpbr10
              case dpby10 =>
                intro W' hSw
                obtain _ := hSw
                go_simp
                try with_reducible rfl
              simp only [List.setIfInBounds_toArray, List.set_cons_zero, List.set_cons_succ]
              have g2 := hV2.at_ hsj
              have g3 := hV2.free 1
              have hVl2 := hV2.lt
              have hE1 := (b1.block _ (lt_of_block HED.out)).trans HED.out
              have hE2 := (b2.block _ (lt_of_block hE1)).trans hE1
              have hpn := hV2.put hsj h2 hc2
              refine wpAnyH_ready (rs := [11]) (by kernel_rfl) (by simp) ?_
              refine AllReadyH.cons rfl (fun K hK => ?_) AllReadyH.nil
              go_simp
              refine hK.out _ _ trivial (fun _ => ?_)
              clear hK K
              refine wpAnyH_done (by kernel_rfl) ?_ _
              go_wp2_with fail
              go_meet
              exact ⟨_, _, hpn, hV2.keep ((HNN.out.drew.later b1 (Nat.le_refl _)).later b2 (Nat.le_refl _)) _ _, hV2.keep ((HRR.out.drew.later b1 (Nat.le_refl _)).later b2 (Nat.le_refl _)) _ _, hV2.keep ((HMM.out.drew.later b1 (Nat.le_refl _)).later b2 (Nat.le_refl _)) _ _, (heap_setCell_other _ _ _ _ (by show w.heap.size ≠ V; have := HVE.out; omega)).trans hE2, hb3.setCell (p := ⟨V, 1, none⟩) (by show w.heap.size ≤ V; have := HVE.out; omega) _⟩
            · go_simp
              refine (natTimes_ An Ar cn cr nn rr _ HNN.out.drew HRR.out.drew (by have := HNL.out; omega) (by have := HRL2.out; omega)).mono ?_
              rintro e v1 ⟨A1, c1, rfl, h1, hc1, b1⟩
              have hV1 := HVD.out.later b1
              have g1 := hV1.at_ hsj
              have hVl1 := hV1.lt
              refine hK.out _ _ trivial (fun _ => ?_)
              clear hK K
              try simp only [Act.put, List.setIfInBounds_toArray, List.set_cons_zero, List.set_cons_succ]
              refine wpAnyH_ready (rs := [4]) (by kernel_rfl) (by simp) ?_
              refine AllReadyH.cons rfl (fun K hK => ?_) AllReadyH.nil
              go_simp
              refine hK.out _ _ trivial (fun _ => ?_)
              clear hK K
              try simp only [Act.put, List.setIfInBounds_toArray, List.set_cons_zero, List.set_cons_succ]
              refine wpAnyH_ready (rs := [8]) (by kernel_rfl) (by simp) ?_
              refine AllReadyH.cons rfl (fun K hK => ?_) AllReadyH.nil
              go_simp
              refine (natPlus_ (VA 1) A1 (VC 1) c1 (f 1) (nn * rr) v1 (hV1.rd 1 hsj) h1 (by have := HFB.out 1; omega) (by have := HNB.out; omega)).mono ?_
              rintro e v2 ⟨A2, c2, rfl, h2, hc2, b2⟩
              have hV2 := hV1.later b2
              have hbd := HBD.out
              have hb2 := hbd.trans (b1.mono hbd.size)
              have hb3 := hb2.trans (b2.mono hb2.size)
              refine hK.out _ _ trivial (fun _ => ?_)
              clear hK K
              try simp only [Act.put, List.setIfInBounds_toArray, List.set_cons_zero, List.set_cons_succ]
              refine takeH (i := 10) (v := ?dpcv10) rfl rfl (by kernel_rfl) (by kernel_rfl) (by kernel_rfl) (fun _ _ _ _ => ⟨fun h _ => h, fun h => h #[]⟩) (by rfl) hHeld ?dpcy10 ?dpcr10
              case dpcy10 =>
                intro W' hSw
                obtain _ := hSw
                go_simp
                try with_reducible rfl
              simp only [List.setIfInBounds_toArray, List.set_cons_zero, List.set_cons_succ]
              have g2 := hV2.at_ hsj
              have g3 := hV2.free 1
              have hVl2 := hV2.lt
              have hE1 := (b1.block _ (lt_of_block HED.out)).trans HED.out
              have hE2 := (b2.block _ (lt_of_block hE1)).trans hE1
              have hpn := hV2.put hsj h2 hc2
              refine wpAnyH_ready (rs := [11]) (by kernel_rfl) (by simp) ?_
              refine AllReadyH.cons rfl (fun K hK => ?_) AllReadyH.nil
              go_simp
              refine hK.out _ _ trivial (fun _ => ?_)
              clear hK K
              refine wpAnyH_done (by kernel_rfl) ?_ _
              go_wp2_with fail
              go_meet
              exact ⟨_, _, hpn, hV2.keep ((HNN.out.drew.later b1 (Nat.le_refl _)).later b2 (Nat.le_refl _)) _ _, hV2.keep ((HRR.out.drew.later b1 (Nat.le_refl _)).later b2 (Nat.le_refl _)) _ _, hV2.keep ((HMM.out.drew.later b1 (Nat.le_refl _)).later b2 (Nat.le_refl _)) _ _, (heap_setCell_other _ _ _ _ (by show w.heap.size ≠ V; have := HVE.out; omega)).trans hE2, hb3.setCell (p := ⟨V, 1, none⟩) (by show w.heap.size ≤ V; have := HVE.out; omega) _⟩
          case rest =>
            obtain ⟨UA, UC, hV13, hnn, hrr, hmm, hE13, hbw13⟩ := hcut
            clear g0 hVl hwl
            obtain ⟨f1, hf1⟩ : ∃ f1, f1 = upD f 1 (f 1 + nn * rr) := ⟨_, rfl⟩
            rw [← hf1] at hV13
            have hfb1 : ∀ j, nl (f1 j) ≤ 8796093022250 := fun j => by
              rw [hf1]
              by_cases e : j = 1
              · rw [e, upD_same]; exact HFS.out
              · rw [upD_other _ _ e]; exact HFB.out j
            obtain ⟨w13, rfl⟩ : ∃ w13 : World, w13 = wc := ⟨_, rfl⟩
            have hVDb : VB w13.drew V f1 UA UC := hV13.drew
            have hEDb : w13.drew.heap[w.heap.size]? = some (.cells #[.slice none 0 0, .slice none 0 0, .slice none 0 0, .slice none 0 0] 101 (0, 0)) := hE13
            have hBDb : Below w.heap.size w w13.drew := hbw13.drew
            have hVl := hV13.lt
            have hwl := hVDb.lt
            have HNNb := Lib.hid hnn
            have HRRb := Lib.hid hrr
            have HMMb := Lib.hid hmm
            have g0 : w13.drew.cell? ⟨V, 3, none⟩ = some (.slice (UA 3) (nl (f1 3)) (UC 3)) := hVDb.at_ (by decide)
            have HFBb := Lib.hid hfb1
            have HVDb := Lib.hid hVDb
            have HEDb := Lib.hid hEDb
            have HBDb := Lib.hid hBDb
            clear hnn hrr hmm hsj hfb1 hVDb hEDb hBDb
            have HV13 := Lib.hid hV13; have HE13 := Lib.hid hE13; have HBW13 := Lib.hid hbw13; have HF1 := Lib.hid hf1; clear hV13 hE13 hbw13 hf1
            go_upto_region 14 with fail
            have hsj : 3 < 4 := by decide
            refine wp_region_held_drew (S := fun _ => True) (by kernel_rfl) trivial (fun hHeld => ?_)
            refine takeH (i := 0) (v := ?dqav0) rfl rfl (by kernel_rfl) (by kernel_rfl) (by kernel_rfl) (fun _ _ _ _ => ⟨fun h _ => h, fun h => h #[]⟩) (by rfl) hHeld ?dqay0 ?dqar0
            case dqay0 =>
              intro W' hSw
              obtain _ := hSw
              go_simp
              try with_reducible rfl
            simp only [List.setIfInBounds_toArray, List.set_cons_zero, List.set_cons_succ]
            refine takeH (i := 1) (v := ?dqav1) rfl rfl (by kernel_rfl) (by kernel_rfl) (by kernel_rfl) (fun _ _ _ _ => ⟨fun h _ => h, fun h => h #[]⟩) (by rfl) hHeld ?dqay1 ?dqar1
            case dqay1 =>
              intro W' hSw
              obtain _ := hSw
              go_simp
              try with_reducible rfl
            simp only [List.setIfInBounds_toArray, List.set_cons_zero, List.set_cons_succ]
            refine takeH (i := 2) (v := ?dqav2) rfl rfl (by kernel_rfl) (by kernel_rfl) (by kernel_rfl) (fun _ _ _ _ => ⟨fun h _ => h, fun h => h #[]⟩) (by rfl) hHeld ?dqay2 ?dqar2
            case dqay2 =>
              intro W' hSw
              obtain _ := hSw
              go_simp
              try with_reducible rfl
            simp only [List.setIfInBounds_toArray, List.set_cons_zero, List.set_cons_succ]
            refine takeH (i := 3) (v := ?dqav3) rfl rfl (by kernel_rfl) (by kernel_rfl) (by kernel_rfl) (fun _ _ _ _ => ⟨fun h _ => h, fun h => h #[]⟩) (by rfl) hHeld ?dqay3 ?dqar3
            case dqay3 =>
              intro W' hSw
              obtain _ := hSw
              go_simp
              try with_reducible rfl
            simp only [List.setIfInBounds_toArray, List.set_cons_zero, List.set_cons_succ]
            refine takeH (i := 5) (v := ?dqav5) rfl rfl (by kernel_rfl) (by kernel_rfl) (by kernel_rfl) (fun _ _ _ _ => ⟨fun h _ => h, fun h => h #[]⟩) (by rfl) hHeld ?dqay5 ?dqar5
            case dqay5 =>
              intro W' hSw
              obtain _ := hSw
              go_simp
              try with_reducible rfl
            simp only [List.setIfInBounds_toArray, List.set_cons_zero, List.set_cons_succ]
            refine takeH (i := 6) (v := ?dqav6) rfl rfl (by kernel_rfl) (by kernel_rfl) (by kernel_rfl) (fun _ _ _ _ => ⟨fun h _ => h, fun h => h #[]⟩) (by rfl) hHeld ?dqay6 ?dqar6
            case dqay6 =>
              intro W' hSw
              obtain _ := hSw
              go_simp
              try with_reducible rfl
            simp only [List.setIfInBounds_toArray, List.set_cons_zero, List.set_cons_succ]
            refine takeH (i := 9) (v := ?dqav9) rfl rfl (by kernel_rfl) (by kernel_rfl) (by kernel_rfl) (fun _ _ _ _ => ⟨fun h _ => h, fun h => h #[]⟩) (by rfl) hHeld ?dqay9 ?dqar9
            case dqay9 =>
              intro W' hSw
              obtain _ := hSw
              go_simp
              try with_reducible rfl
            simp only [List.setIfInBounds_toArray, List.set_cons_zero, List.set_cons_succ]
            refine wpAnyH_ready (rs := [4, 7]) (by kernel_rfl) (by simp) ?_
            refine AllReadyH.cons rfl (fun K hK => ?_) (AllReadyH.cons rfl (fun K hK => ?_) AllReadyH.nil)
            · go_simp
              refine hK.out _ _ trivial (fun _ => ?_)
              clear hK K
              try simp only [Act.put, List.setIfInBounds_toArray, List.set_cons_zero, List.set_cons_succ]
              refine wpAnyH_ready (rs := [7]) (by kernel_rfl) (by simp) ?_
              refine AllReadyH.cons rfl (fun K hK => ?_) AllReadyH.nil
              go_simp
              refine (natTimes_ An Am cn cm nn mm _ HNNb.out.drew HMMb.out.drew (by have := HNL.out; omega) (by have := HML.out; omega)).mono ?_
              rintro e v1 ⟨A1, c1, rfl, h1, hc1, b1⟩
              have hV1 := HVDb.out.later b1
              have g1 := hV1.at_ hsj
              have hVl1 := hV1.lt
              refine hK.out _ _ trivial (fun _ => ?_)
              clear hK K
              try simp only [Act.put, List.setIfInBounds_toArray, List.set_cons_zero, List.set_cons_succ]
              refine wpAnyH_ready (rs := [8]) (by kernel_rfl) (by simp) ?_
              refine AllReadyH.cons rfl (fun K hK => ?_) AllReadyH.nil
              go_simp
              refine (natPlus_ (UA 3) A1 (UC 3) c1 (f1 3) (nn * mm) v1 (hV1.rd 3 hsj) h1 (by have := HFBb.out 3; omega) (by have := HNB.out; omega)).mono ?_
              rintro e v2 ⟨A2, c2, rfl, h2, hc2, b2⟩
              have hV2 := hV1.later b2
              have hbd := HBDb.out
              have hb2 := hbd.trans (b1.mono hbd.size)
              have hb3 := hb2.trans (b2.mono hb2.size)
              refine hK.out _ _ trivial (fun _ => ?_)
              clear hK K
              try simp only [Act.put, List.setIfInBounds_toArray, List.set_cons_zero, List.set_cons_succ]
              refine takeH (i := 10) (v := ?dqbv10) rfl rfl (by kernel_rfl) (by kernel_rfl) (by kernel_rfl) (fun _ _ _ _ => ⟨fun h _ => h, fun h => h #[]⟩) (by rfl) hHeld ?dqby10 ?dqbr10
              case dqby10 =>
                intro W' hSw
                obtain _ := hSw
                go_simp
                try with_reducible rfl
              simp only [List.setIfInBounds_toArray, List.set_cons_zero, List.set_cons_succ]
              have g2 := hV2.at_ hsj
              have g3 := hV2.free 3
              have hVl2 := hV2.lt
              have hE1 := (b1.block _ (lt_of_block HEDb.out)).trans HEDb.out
              have hE2 := (b2.block _ (lt_of_block hE1)).trans hE1
              have hpn := hV2.put hsj h2 hc2
              refine wpAnyH_ready (rs := [11]) (by kernel_rfl) (by simp) ?_
              refine AllReadyH.cons rfl (fun K hK => ?_) AllReadyH.nil
              go_simp
              refine hK.out _ _ trivial (fun _ => ?_)
              clear hK K
              refine wpAnyH_done (by kernel_rfl) ?_ _
              have hE14 := (heap_setCell_other v2 ⟨V, 3, none⟩ w.heap.size (.slice A2 (nl (f1 3 + nn * mm)) c2) (by show w.heap.size ≠ V; have := HVE.out; omega)).trans hE2
              have hbw14 := hb3.setCell (p := ⟨V, 3, none⟩) (by show w.heap.size ≤ V; have := HVE.out; omega) (.slice A2 (nl (f1 3 + nn * mm)) c2)
              have hVn := hpn.eqv (f' := vF sc bits (xs.take (k + 1))) fun j hj => by
                have l0 := HLS.out 0
                have l1 := HLS.out 1
                have h0 := HHS.out 0
                have h1 := HHS.out 1
                rw [HF1.out, HFE.out]
                have hq := HMEQ.out
                have hr9 := HRE.out
                rcases four hj with rfl | rfl | rfl | rfl <;> simp [upD, vF, l0, l1, h0, h1, HNNE.out, ← hq, ← hr9]
              clear hVl hwl hpn hE2 hE1 hV2 hV1 g1 g2 g3 hVl1 hVl2 hsj
              have HVN := Lib.hid hVn; have HE14 := Lib.hid hE14; have HBW14 := Lib.hid hbw14; clear hVn hE14 hbw14
              go_wp2
              go_roundw
              case rel => exact ⟨k + 1, _, _, by go_num, by omega, HVN.out, HE14.out, HBW14.out⟩
              case measure => simp [intOf]; omega
            · go_simp
              refine (natTimes_ An Am cn cm nn mm _ HNNb.out.drew HMMb.out.drew (by have := HNL.out; omega) (by have := HML.out; omega)).mono ?_
              rintro e v1 ⟨A1, c1, rfl, h1, hc1, b1⟩
              have hV1 := HVDb.out.later b1
              have g1 := hV1.at_ hsj
              have hVl1 := hV1.lt
              refine hK.out _ _ trivial (fun _ => ?_)
              clear hK K
              try simp only [Act.put, List.setIfInBounds_toArray, List.set_cons_zero, List.set_cons_succ]
              refine wpAnyH_ready (rs := [4]) (by kernel_rfl) (by simp) ?_
              refine AllReadyH.cons rfl (fun K hK => ?_) AllReadyH.nil
              go_simp
              refine hK.out _ _ trivial (fun _ => ?_)
              clear hK K
              try simp only [Act.put, List.setIfInBounds_toArray, List.set_cons_zero, List.set_cons_succ]
              refine wpAnyH_ready (rs := [8]) (by kernel_rfl) (by simp) ?_
              refine AllReadyH.cons rfl (fun K hK => ?_) AllReadyH.nil
              go_simp
              refine (natPlus_ (UA 3) A1 (UC 3) c1 (f1 3) (nn * mm) v1 (hV1.rd 3 hsj) h1 (by have := HFBb.out 3; omega) (by have := HNB.out; omega)).mono ?_
              rintro e v2 ⟨A2, c2, rfl, h2, hc2, b2⟩
              have hV2 := hV1.later b2
              have hbd := HBDb.out
              have hb2 := hbd.trans (b1.mono hbd.size)
              have hb3 := hb2.trans (b2.mono hb2.size)
              refine hK.out _ _ trivial (fun _ => ?_)
              clear hK K
              try simp only [Act.put, List.setIfInBounds_toArray, List.set_cons_zero, List.set_cons_succ]
              refine takeH (i := 10) (v := ?dqcv10) rfl rfl (by kernel_rfl) (by kernel_rfl) (by kernel_rfl) (fun _ _ _ _ => ⟨fun h _ => h, fun h => h #[]⟩) (by rfl) hHeld ?dqcy10 ?dqcr10
              case dqcy10 =>
                intro W' hSw
                obtain _ := hSw
                go_simp
                try with_reducible rfl
              simp only [List.setIfInBounds_toArray, List.set_cons_zero, List.set_cons_succ]
              have g2 := hV2.at_ hsj
              have g3 := hV2.free 3
              have hVl2 := hV2.lt
              have hE1 := (b1.block _ (lt_of_block HEDb.out)).trans HEDb.out
              have hE2 := (b2.block _ (lt_of_block hE1)).trans hE1
              have hpn := hV2.put hsj h2 hc2
              refine wpAnyH_ready (rs := [11]) (by kernel_rfl) (by simp) ?_
              refine AllReadyH.cons rfl (fun K hK => ?_) AllReadyH.nil
              go_simp
              refine hK.out _ _ trivial (fun _ => ?_)
              clear hK K
              refine wpAnyH_done (by kernel_rfl) ?_ _
              have hE14 := (heap_setCell_other v2 ⟨V, 3, none⟩ w.heap.size (.slice A2 (nl (f1 3 + nn * mm)) c2) (by show w.heap.size ≠ V; have := HVE.out; omega)).trans hE2
              have hbw14 := hb3.setCell (p := ⟨V, 3, none⟩) (by show w.heap.size ≤ V; have := HVE.out; omega) (.slice A2 (nl (f1 3 + nn * mm)) c2)
              have hVn := hpn.eqv (f' := vF sc bits (xs.take (k + 1))) fun j hj => by
                have l0 := HLS.out 0
                have l1 := HLS.out 1
                have h0 := HHS.out 0
                have h1 := HHS.out 1
                rw [HF1.out, HFE.out]
                have hq := HMEQ.out
                have hr9 := HRE.out
                rcases four hj with rfl | rfl | rfl | rfl <;> simp [upD, vF, l0, l1, h0, h1, HNNE.out, ← hq, ← hr9]
              clear hVl hwl hpn hE2 hE1 hV2 hV1 g1 g2 g3 hVl1 hVl2 hsj
              have HVN := Lib.hid hVn; have HE14 := Lib.hid hE14; have HBW14 := Lib.hid hbw14; clear hVn hE14 hbw14
              go_wp2
              go_roundw
              case rel => exact ⟨k + 1, _, _, by go_num, by omega, HVN.out, HE14.out, HBW14.out⟩
              case measure => simp [intOf]; omega
        · have z1 : ¬ (1 : Int) < (s : Int) := by omega
          have z2 : decide ((1 : Int) < (s : Int)) = false := decide_eq_false z1
          have hmr : mm = rr := by rw [HMM2.out, if_neg hs1]
          have hmeq : rr = moN s bits := by rw [← hmr]; exact HME.out
          have hnb9 : nl (nn * rr) ≤ 8796093022250 ∧ nl (nn * rr) ≤ 8796093022250 := ⟨HNB.out.1, HNB.out.1⟩
          clear HMM2 HML HNB HME
          have HMEQ := Lib.hid hmeq
          have HNB := Lib.hid hnb9
          have HML := HRL2
          clear hmeq hnb9 hmr
          have hV12 := HV10.out
          have hE12 := HE10.out
          have hbw12 := HBW10.out
          have hrr := H4.out
          have hnn := H310.out
          have h5 := H4.out
          clear H4 H310 HV10 HE10 HBW10 HT10
          obtain ⟨f, hfe⟩ : ∃ f, f = vF sc bits (xs.take k) := ⟨_, rfl⟩
          have hfbd : ∀ j, nl (f j) ≤ 8796093022250 := by rw [hfe]; exact HFBN.out
          have hfs := HFBN2.out.1
          rw [← hfe] at hV12 hfs
          have hVD : VB w10.drew V f VA VC := hV12.drew
          have hED : w10.drew.heap[w.heap.size]? = some (.cells #[.slice none 0 0, .slice none 0 0, .slice none 0 0, .slice none 0 0] 101 (0, 0)) := hE12
          have hBD : Below w.heap.size w w10.drew := hbw12.drew
          have hVl := hV12.lt
          have hwl := hVD.lt
          have HNN := Lib.hid hnn
          have HRR := Lib.hid hrr
          clear hnn hrr h5
          have g0 : w10.drew.cell? ⟨V, 1, none⟩ = some (.slice (VA 1) (nl (f 1)) (VC 1)) := hVD.at_ (by decide)
          have HFB := Lib.hid hfbd
          have HFBD := Lib.hid hfbd; have HV12 := Lib.hid hV12; have HE12 := Lib.hid hE12; have HBW12 := Lib.hid hbw12; have HVD := Lib.hid hVD; have HED := Lib.hid hED; have HBD := Lib.hid hBD; have HFE := Lib.hid hfe; have HFS := Lib.hid hfs; clear hfbd hV12 hE12 hbw12 hVD hED hBD hfe hfs
          go_upto_region 13 with fail
          have hsj : 1 < 4 := by decide
          go_cut [] (fun wx => ∃ (UA : Nat → Option Addr) (UC : Nat → Nat), VB wx V (upD f 1 (f 1 + nn * rr)) UA UC ∧ RdN wx An nn ∧ RdN wx Ar rr ∧ RdN wx Ar rr ∧ wx.heap[w.heap.size]? = some (.cells #[.slice none 0 0, .slice none 0 0, .slice none 0 0, .slice none 0 0] 101 (0, 0)) ∧ Below w.heap.size w wx)
          case first =>
            refine wp_region_held_drew (S := fun _ => True) (by kernel_rfl) trivial (fun hHeld => ?_)
            refine takeH (i := 0) (v := ?cpav0) rfl rfl (by kernel_rfl) (by kernel_rfl) (by kernel_rfl) (fun _ _ _ _ => ⟨fun h _ => h, fun h => h #[]⟩) (by rfl) hHeld ?cpay0 ?cpar0
            case cpay0 =>
              intro W' hSw
              obtain _ := hSw
              go_simp
              try with_reducible rfl
            simp only [List.setIfInBounds_toArray, List.set_cons_zero, List.set_cons_succ]
            refine takeH (i := 1) (v := ?cpav1) rfl rfl (by kernel_rfl) (by kernel_rfl) (by kernel_rfl) (fun _ _ _ _ => ⟨fun h _ => h, fun h => h #[]⟩) (by rfl) hHeld ?cpay1 ?cpar1
            case cpay1 =>
              intro W' hSw
              obtain _ := hSw
              go_simp
              try with_reducible rfl
            simp only [List.setIfInBounds_toArray, List.set_cons_zero, List.set_cons_succ]
            refine takeH (i := 2) (v := ?cpav2) rfl rfl (by kernel_rfl) (by kernel_rfl) (by kernel_rfl) (fun _ _ _ _ => ⟨fun h _ => h, fun h => h #[]⟩) (by rfl) hHeld ?cpay2 ?cpar2
            case cpay2 =>
              intro W' hSw
              obtain _ := hSw
              go_simp
              try with_reducible rfl
            simp only [List.setIfInBounds_toArray, List.set_cons_zero, List.set_cons_succ]
            refine takeH (i := 3) (v := ?cpav3) rfl rfl (by kernel_rfl) (by kernel_rfl) (by kernel_rfl) (fun _ _ _ _ => ⟨fun h _ => h, fun h => h #[]⟩) (by rfl) hHeld ?cpay3 ?cpar3
            case cpay3 =>
              intro W' hSw
              obtain _ := hSw
              go_simp
              try with_reducible rfl
            simp only [List.setIfInBounds_toArray, List.set_cons_zero, List.set_cons_succ]
            refine takeH (i := 5) (v := ?cpav5) rfl rfl (by kernel_rfl) (by kernel_rfl) (by kernel_rfl) (fun _ _ _ _ => ⟨fun h _ => h, fun h => h #[]⟩) (by rfl) hHeld ?cpay5 ?cpar5
            case cpay5 =>
              intro W' hSw
              obtain _ := hSw
              go_simp
              try with_reducible rfl
            simp only [List.setIfInBounds_toArray, List.set_cons_zero, List.set_cons_succ]
            refine takeH (i := 6) (v := ?cpav6) rfl rfl (by kernel_rfl) (by kernel_rfl) (by kernel_rfl) (fun _ _ _ _ => ⟨fun h _ => h, fun h => h #[]⟩) (by rfl) hHeld ?cpay6 ?cpar6
            case cpay6 =>
              intro W' hSw
              obtain _ := hSw
              go_simp
              try with_reducible rfl
            simp only [List.setIfInBounds_toArray, List.set_cons_zero, List.set_cons_succ]
            refine takeH (i := 9) (v := ?cpav9) rfl rfl (by kernel_rfl) (by kernel_rfl) (by kernel_rfl) (fun _ _ _ _ => ⟨fun h _ => h, fun h => h #[]⟩) (by rfl) hHeld ?cpay9 ?cpar9
            case cpay9 =>
              intro W' hSw
              obtain _ := hSw
              go_simp
              try with_reducible rfl
            simp only [List.setIfInBounds_toArray, List.set_cons_zero, List.set_cons_succ]
            refine wpAnyH_ready (rs := [4, 7]) (by kernel_rfl) (by simp) ?_
            refine AllReadyH.cons rfl (fun K hK => ?_) (AllReadyH.cons rfl (fun K hK => ?_) AllReadyH.nil)
            · go_simp
              refine hK.out _ _ trivial (fun _ => ?_)
              clear hK K
              try simp only [Act.put, List.setIfInBounds_toArray, List.set_cons_zero, List.set_cons_succ]
              refine wpAnyH_ready (rs := [7]) (by kernel_rfl) (by simp) ?_
              refine AllReadyH.cons rfl (fun K hK => ?_) AllReadyH.nil
              go_simp
              refine (natTimes_ An Ar cn cr nn rr _ HNN.out.drew HRR.out.drew (by have := HNL.out; omega) (by have := HRL2.out; omega)).mono ?_
              rintro e v1 ⟨A1, c1, rfl, h1, hc1, b1⟩
              have hV1 := HVD.out.later b1
              have g1 := hV1.at_ hsj
              have hVl1 := hV1.lt
              refine hK.out _ _ trivial (fun _ => ?_)
              clear hK K
              try simp only [Act.put, List.setIfInBounds_toArray, List.set_cons_zero, List.set_cons_succ]
              refine wpAnyH_ready (rs := [8]) (by kernel_rfl) (by simp) ?_
              refine AllReadyH.cons rfl (fun K hK => ?_) AllReadyH.nil
              go_simp
              refine (natPlus_ (VA 1) A1 (VC 1) c1 (f 1) (nn * rr) v1 (hV1.rd 1 hsj) h1 (by have := HFB.out 1; omega) (by have := HNB.out; omega)).mono ?_
              rintro e v2 ⟨A2, c2, rfl, h2, hc2, b2⟩
              have hV2 := hV1.later b2
              have hbd := HBD.out
              have hb2 := hbd.trans (b1.mono hbd.size)
              have hb3 := hb2.trans (b2.mono hb2.size)
              refine hK.out _ _ trivial (fun _ => ?_)
              clear hK K
              try simp only [Act.put, List.setIfInBounds_toArray, List.set_cons_zero, List.set_cons_succ]
              refine takeH (i := 10) (v := ?cpbv10) rfl rfl (by kernel_rfl) (by kernel_rfl) (by kernel_rfl) (fun _ _ _ _ => ⟨fun h _ => h, fun h => h #[]⟩) (by rfl) hHeld ?cpby10 ?cpbr10
              case cpby10 =>
                intro W' hSw
                obtain _ := hSw
                go_simp
                try with_reducible rfl
              simp only [List.setIfInBounds_toArray, List.set_cons_zero, List.set_cons_succ]
              have g2 := hV2.at_ hsj
              have g3 := hV2.free 1
              have hVl2 := hV2.lt
              have hE1 := (b1.block _ (lt_of_block HED.out)).trans HED.out
              have hE2 := (b2.block _ (lt_of_block hE1)).trans hE1
              have hpn := hV2.put hsj h2 hc2
              refine wpAnyH_ready (rs := [11]) (by kernel_rfl) (by simp) ?_
              refine AllReadyH.cons rfl (fun K hK => ?_) AllReadyH.nil
              go_simp
              refine hK.out _ _ trivial (fun _ => ?_)
              clear hK K
              refine wpAnyH_done (by kernel_rfl) ?_ _
              go_wp2_with fail
              go_meet
              exact ⟨_, _, hpn, hV2.keep ((HNN.out.drew.later b1 (Nat.le_refl _)).later b2 (Nat.le_refl _)) _ _, hV2.keep ((HRR.out.drew.later b1 (Nat.le_refl _)).later b2 (Nat.le_refl _)) _ _, hV2.keep ((HRR.out.drew.later b1 (Nat.le_refl _)).later b2 (Nat.le_refl _)) _ _, (heap_setCell_other _ _ _ _ (by show w.heap.size ≠ V; have := HVE.out; omega)).trans hE2, hb3.setCell (p := ⟨V, 1, none⟩) (by show w.heap.size ≤ V; have := HVE.out; omega) _⟩
            · go_simp
              refine (natTimes_ An Ar cn cr nn rr _ HNN.out.drew HRR.out.drew (by have := HNL.out; omega) (by have := HRL2.out; omega)).mono ?_
              rintro e v1 ⟨A1, c1, rfl, h1, hc1, b1⟩
              have hV1 := HVD.out.later b1
              have g1 := hV1.at_ hsj
              have hVl1 := hV1.lt
              refine hK.out _ _ trivial (fun _ => ?_)
              clear hK K
              try simp only [Act.put, List.setIfInBounds_toArray, List.set_cons_zero, List.set_cons_succ]
              refine wpAnyH_ready (rs := [4]) (by kernel_rfl) (by simp) ?_
              refine AllReadyH.cons rfl (fun K hK => ?_) AllReadyH.nil
              go_simp
              refine hK.out _ _ trivial (fun _ => ?_)
              clear hK K
              try simp only [Act.put, List.setIfInBounds_toArray, List.set_cons_zero, List.set_cons_succ]
              refine wpAnyH_ready (rs := [8]) (by kernel_rfl) (by simp) ?_
              refine AllReadyH.cons rfl (fun K hK => ?_) AllReadyH.nil
              go_simp
              refine (natPlus_ (VA 1) A1 (VC 1) c1 (f 1) (nn * rr) v1 (hV1.rd 1 hsj) h1 (by have := HFB.out 1; omega) (by have := HNB.out; omega)).mono ?_
              rintro e v2 ⟨A2, c2, rfl, h2, hc2, b2⟩
              have hV2 := hV1.later b2
              have hbd := HBD.out
              have hb2 := hbd.trans (b1.mono hbd.size)
              have hb3 := hb2.trans (b2.mono hb2.size)
              refine hK.out _ _ trivial (fun _ => ?_)
              clear hK K
              try simp only [Act.put, List.setIfInBounds_toArray, List.set_cons_zero, List.set_cons_succ]
              refine takeH (i := 10) (v := ?cpcv10) rfl rfl (by kernel_rfl) (by kernel_rfl) (by kernel_rfl) (fun _ _ _ _ => ⟨fun h _ => h, fun h => h #[]⟩) (by rfl) hHeld ?cpcy10 ?cpcr10
              case cpcy10 =>
                intro W' hSw
                obtain _ := hSw
                go_simp
                try with_reducible rfl
              simp only [List.setIfInBounds_toArray, List.set_cons_zero, List.set_cons_succ]
              have g2 := hV2.at_ hsj
              have g3 := hV2.free 1
              have hVl2 := hV2.lt
              have hE1 := (b1.block _ (lt_of_block HED.out)).trans HED.out
              have hE2 := (b2.block _ (lt_of_block hE1)).trans hE1
              have hpn := hV2.put hsj h2 hc2
              refine wpAnyH_ready (rs := [11]) (by kernel_rfl) (by simp) ?_
              refine AllReadyH.cons rfl (fun K hK => ?_) AllReadyH.nil
              go_simp
              refine hK.out _ _ trivial (fun _ => ?_)
              clear hK K
              refine wpAnyH_done (by kernel_rfl) ?_ _
              go_wp2_with fail
              go_meet
              exact ⟨_, _, hpn, hV2.keep ((HNN.out.drew.later b1 (Nat.le_refl _)).later b2 (Nat.le_refl _)) _ _, hV2.keep ((HRR.out.drew.later b1 (Nat.le_refl _)).later b2 (Nat.le_refl _)) _ _, hV2.keep ((HRR.out.drew.later b1 (Nat.le_refl _)).later b2 (Nat.le_refl _)) _ _, (heap_setCell_other _ _ _ _ (by show w.heap.size ≠ V; have := HVE.out; omega)).trans hE2, hb3.setCell (p := ⟨V, 1, none⟩) (by show w.heap.size ≤ V; have := HVE.out; omega) _⟩
          case rest =>
            obtain ⟨UA, UC, hV13, hnn, hrr, hmm, hE13, hbw13⟩ := hcut
            clear g0 hVl hwl
            obtain ⟨f1, hf1⟩ : ∃ f1, f1 = upD f 1 (f 1 + nn * rr) := ⟨_, rfl⟩
            rw [← hf1] at hV13
            have hfb1 : ∀ j, nl (f1 j) ≤ 8796093022250 := fun j => by
              rw [hf1]
              by_cases e : j = 1
              · rw [e, upD_same]; exact HFS.out
              · rw [upD_other _ _ e]; exact HFB.out j
            obtain ⟨w13, rfl⟩ : ∃ w13 : World, w13 = wc := ⟨_, rfl⟩
            have hVDb : VB w13.drew V f1 UA UC := hV13.drew
            have hEDb : w13.drew.heap[w.heap.size]? = some (.cells #[.slice none 0 0, .slice none 0 0, .slice none 0 0, .slice none 0 0] 101 (0, 0)) := hE13
            have hBDb : Below w.heap.size w w13.drew := hbw13.drew
            have hVl := hV13.lt
            have hwl := hVDb.lt
            have HNNb := Lib.hid hnn
            have HRRb := Lib.hid hrr
            have HMMb := Lib.hid hmm
            have g0 : w13.drew.cell? ⟨V, 3, none⟩ = some (.slice (UA 3) (nl (f1 3)) (UC 3)) := hVDb.at_ (by decide)
            have HFBb := Lib.hid hfb1
            have HVDb := Lib.hid hVDb
            have HEDb := Lib.hid hEDb
            have HBDb := Lib.hid hBDb
            clear hnn hrr hmm hsj hfb1 hVDb hEDb hBDb
            have HV13 := Lib.hid hV13; have HE13 := Lib.hid hE13; have HBW13 := Lib.hid hbw13; have HF1 := Lib.hid hf1; clear hV13 hE13 hbw13 hf1
            go_upto_region 14 with fail
            have hsj : 3 < 4 := by decide
            refine wp_region_held_drew (S := fun _ => True) (by kernel_rfl) trivial (fun hHeld => ?_)
            refine takeH (i := 0) (v := ?cqav0) rfl rfl (by kernel_rfl) (by kernel_rfl) (by kernel_rfl) (fun _ _ _ _ => ⟨fun h _ => h, fun h => h #[]⟩) (by rfl) hHeld ?cqay0 ?cqar0
            case cqay0 =>
              intro W' hSw
              obtain _ := hSw
              go_simp
              try with_reducible rfl
            simp only [List.setIfInBounds_toArray, List.set_cons_zero, List.set_cons_succ]
            refine takeH (i := 1) (v := ?cqav1) rfl rfl (by kernel_rfl) (by kernel_rfl) (by kernel_rfl) (fun _ _ _ _ => ⟨fun h _ => h, fun h => h #[]⟩) (by rfl) hHeld ?cqay1 ?cqar1
            case cqay1 =>
              intro W' hSw
              obtain _ := hSw
              go_simp
              try with_reducible rfl
            simp only [List.setIfInBounds_toArray, List.set_cons_zero, List.set_cons_succ]
            refine takeH (i := 2) (v := ?cqav2) rfl rfl (by kernel_rfl) (by kernel_rfl) (by kernel_rfl) (fun _ _ _ _ => ⟨fun h _ => h, fun h => h #[]⟩) (by rfl) hHeld ?cqay2 ?cqar2
            case cqay2 =>
              intro W' hSw
              obtain _ := hSw
              go_simp
              try with_reducible rfl
            simp only [List.setIfInBounds_toArray, List.set_cons_zero, List.set_cons_succ]
            refine takeH (i := 3) (v := ?cqav3) rfl rfl (by kernel_rfl) (by kernel_rfl) (by kernel_rfl) (fun _ _ _ _ => ⟨fun h _ => h, fun h => h #[]⟩) (by rfl) hHeld ?cqay3 ?cqar3
            case cqay3 =>
              intro W' hSw
              obtain _ := hSw
              go_simp
              try with_reducible rfl
            simp only [List.setIfInBounds_toArray, List.set_cons_zero, List.set_cons_succ]
            refine takeH (i := 5) (v := ?cqav5) rfl rfl (by kernel_rfl) (by kernel_rfl) (by kernel_rfl) (fun _ _ _ _ => ⟨fun h _ => h, fun h => h #[]⟩) (by rfl) hHeld ?cqay5 ?cqar5
            case cqay5 =>
              intro W' hSw
              obtain _ := hSw
              go_simp
              try with_reducible rfl
            simp only [List.setIfInBounds_toArray, List.set_cons_zero, List.set_cons_succ]
            refine takeH (i := 6) (v := ?cqav6) rfl rfl (by kernel_rfl) (by kernel_rfl) (by kernel_rfl) (fun _ _ _ _ => ⟨fun h _ => h, fun h => h #[]⟩) (by rfl) hHeld ?cqay6 ?cqar6
            case cqay6 =>
              intro W' hSw
              obtain _ := hSw
              go_simp
              try with_reducible rfl
            simp only [List.setIfInBounds_toArray, List.set_cons_zero, List.set_cons_succ]
            refine takeH (i := 9) (v := ?cqav9) rfl rfl (by kernel_rfl) (by kernel_rfl) (by kernel_rfl) (fun _ _ _ _ => ⟨fun h _ => h, fun h => h #[]⟩) (by rfl) hHeld ?cqay9 ?cqar9
            case cqay9 =>
              intro W' hSw
              obtain _ := hSw
              go_simp
              try with_reducible rfl
            simp only [List.setIfInBounds_toArray, List.set_cons_zero, List.set_cons_succ]
            refine wpAnyH_ready (rs := [4, 7]) (by kernel_rfl) (by simp) ?_
            refine AllReadyH.cons rfl (fun K hK => ?_) (AllReadyH.cons rfl (fun K hK => ?_) AllReadyH.nil)
            · go_simp
              refine hK.out _ _ trivial (fun _ => ?_)
              clear hK K
              try simp only [Act.put, List.setIfInBounds_toArray, List.set_cons_zero, List.set_cons_succ]
              refine wpAnyH_ready (rs := [7]) (by kernel_rfl) (by simp) ?_
              refine AllReadyH.cons rfl (fun K hK => ?_) AllReadyH.nil
              go_simp
              refine (natTimes_ An Ar cn cr nn rr _ HNNb.out.drew HRRb.out.drew (by have := HNL.out; omega) (by have := HRL2.out; omega)).mono ?_
              rintro e v1 ⟨A1, c1, rfl, h1, hc1, b1⟩
              have hV1 := HVDb.out.later b1
              have g1 := hV1.at_ hsj
              have hVl1 := hV1.lt
              refine hK.out _ _ trivial (fun _ => ?_)
              clear hK K
              try simp only [Act.put, List.setIfInBounds_toArray, List.set_cons_zero, List.set_cons_succ]
              refine wpAnyH_ready (rs := [8]) (by kernel_rfl) (by simp) ?_
              refine AllReadyH.cons rfl (fun K hK => ?_) AllReadyH.nil
              go_simp
              refine (natPlus_ (UA 3) A1 (UC 3) c1 (f1 3) (nn * rr) v1 (hV1.rd 3 hsj) h1 (by have := HFBb.out 3; omega) (by have := HNB.out; omega)).mono ?_
              rintro e v2 ⟨A2, c2, rfl, h2, hc2, b2⟩
              have hV2 := hV1.later b2
              have hbd := HBDb.out
              have hb2 := hbd.trans (b1.mono hbd.size)
              have hb3 := hb2.trans (b2.mono hb2.size)
              refine hK.out _ _ trivial (fun _ => ?_)
              clear hK K
              try simp only [Act.put, List.setIfInBounds_toArray, List.set_cons_zero, List.set_cons_succ]
              refine takeH (i := 10) (v := ?cqbv10) rfl rfl (by kernel_rfl) (by kernel_rfl) (by kernel_rfl) (fun _ _ _ _ => ⟨fun h _ => h, fun h => h #[]⟩) (by rfl) hHeld ?cqby10 ?cqbr10
              case cqby10 =>
                intro W' hSw
                obtain _ := hSw
                go_simp
                try with_reducible rfl
              simp only [List.setIfInBounds_toArray, List.set_cons_zero, List.set_cons_succ]
              have g2 := hV2.at_ hsj
              have g3 := hV2.free 3
              have hVl2 := hV2.lt
              have hE1 := (b1.block _ (lt_of_block HEDb.out)).trans HEDb.out
              have hE2 := (b2.block _ (lt_of_block hE1)).trans hE1
              have hpn := hV2.put hsj h2 hc2
              refine wpAnyH_ready (rs := [11]) (by kernel_rfl) (by simp) ?_
              refine AllReadyH.cons rfl (fun K hK => ?_) AllReadyH.nil
              go_simp
              refine hK.out _ _ trivial (fun _ => ?_)
              clear hK K
              refine wpAnyH_done (by kernel_rfl) ?_ _
              have hE14 := (heap_setCell_other v2 ⟨V, 3, none⟩ w.heap.size (.slice A2 (nl (f1 3 + nn * rr)) c2) (by show w.heap.size ≠ V; have := HVE.out; omega)).trans hE2
              have hbw14 := hb3.setCell (p := ⟨V, 3, none⟩) (by show w.heap.size ≤ V; have := HVE.out; omega) (.slice A2 (nl (f1 3 + nn * rr)) c2)
              have hVn := hpn.eqv (f' := vF sc bits (xs.take (k + 1))) fun j hj => by
                have l0 := HLS.out 0
                have l1 := HLS.out 1
                have h0 := HHS.out 0
                have h1 := HHS.out 1
                rw [HF1.out, HFE.out]
                have hq := HMEQ.out
                have hr9 := HRE.out
                rcases four hj with rfl | rfl | rfl | rfl <;> simp [upD, vF, l0, l1, h0, h1, HNNE.out, ← hq, ← hr9]
              clear hVl hwl hpn hE2 hE1 hV2 hV1 g1 g2 g3 hVl1 hVl2 hsj
              have HVN := Lib.hid hVn; have HE14 := Lib.hid hE14; have HBW14 := Lib.hid hbw14; clear hVn hE14 hbw14
              go_wp2
              go_roundw
              case rel => exact ⟨k + 1, _, _, by go_num, by omega, HVN.out, HE14.out, HBW14.out⟩
              case measure => simp [intOf]; omega
            · go_simp
              refine (natTimes_ An Ar cn cr nn rr _ HNNb.out.drew HRRb.out.drew (by have := HNL.out; omega) (by have := HRL2.out; omega)).mono ?_
              rintro e v1 ⟨A1, c1, rfl, h1, hc1, b1⟩
              have hV1 := HVDb.out.later b1
              have g1 := hV1.at_ hsj
              have hVl1 := hV1.lt
              refine hK.out _ _ trivial (fun _ => ?_)
              clear hK K
              try simp only [Act.put, List.setIfInBounds_toArray, List.set_cons_zero, List.set_cons_succ]
              refine wpAnyH_ready (rs := [4]) (by kernel_rfl) (by simp) ?_
              refine AllReadyH.cons rfl (fun K hK => ?_) AllReadyH.nil
              go_simp
              refine hK.out _ _ trivial (fun _ => ?_)
              clear hK K
              try simp only [Act.put, List.setIfInBounds_toArray, List.set_cons_zero, List.set_cons_succ]
              refine wpAnyH_ready (rs := [8]) (by kernel_rfl) (by simp) ?_
              refine AllReadyH.cons rfl (fun K hK => ?_) AllReadyH.nil
              go_simp
              refine (natPlus_ (UA 3) A1 (UC 3) c1 (f1 3) (nn * rr) v1 (hV1.rd 3 hsj) h1 (by have := HFBb.out 3; omega) (by have := HNB.out; omega)).mono ?_
              rintro e v2 ⟨A2, c2, rfl, h2, hc2, b2⟩
              have hV2 := hV1.later b2
              have hbd := HBDb.out
              have hb2 := hbd.trans (b1.mono hbd.size)
              have hb3 := hb2.trans (b2.mono hb2.size)
              refine hK.out _ _ trivial (fun _ => ?_)
              clear hK K
              try simp only [Act.put, List.setIfInBounds_toArray, List.set_cons_zero, List.set_cons_succ]
              refine takeH (i := 10) (v := ?cqcv10) rfl rfl (by kernel_rfl) (by kernel_rfl) (by kernel_rfl) (fun _ _ _ _ => ⟨fun h _ => h, fun h => h #[]⟩) (by rfl) hHeld ?cqcy10 ?cqcr10
              case cqcy10 =>
                intro W' hSw
                obtain _ := hSw
                go_simp
                try with_reducible rfl
              simp only [List.setIfInBounds_toArray, List.set_cons_zero, List.set_cons_succ]
              have g2 := hV2.at_ hsj
              have g3 := hV2.free 3
              have hVl2 := hV2.lt
              have hE1 := (b1.block _ (lt_of_block HEDb.out)).trans HEDb.out
              have hE2 := (b2.block _ (lt_of_block hE1)).trans hE1
              have hpn := hV2.put hsj h2 hc2
              refine wpAnyH_ready (rs := [11]) (by kernel_rfl) (by simp) ?_
              refine AllReadyH.cons rfl (fun K hK => ?_) AllReadyH.nil
              go_simp
              refine hK.out _ _ trivial (fun _ => ?_)
              clear hK K
              refine wpAnyH_done (by kernel_rfl) ?_ _
              have hE14 := (heap_setCell_other v2 ⟨V, 3, none⟩ w.heap.size (.slice A2 (nl (f1 3 + nn * rr)) c2) (by show w.heap.size ≠ V; have := HVE.out; omega)).trans hE2
              have hbw14 := hb3.setCell (p := ⟨V, 3, none⟩) (by show w.heap.size ≤ V; have := HVE.out; omega) (.slice A2 (nl (f1 3 + nn * rr)) c2)
              have hVn := hpn.eqv (f' := vF sc bits (xs.take (k + 1))) fun j hj => by
                have l0 := HLS.out 0
                have l1 := HLS.out 1
                have h0 := HHS.out 0
                have h1 := HHS.out 1
                rw [HF1.out, HFE.out]
                have hq := HMEQ.out
                have hr9 := HRE.out
                rcases four hj with rfl | rfl | rfl | rfl <;> simp [upD, vF, l0, l1, h0, h1, HNNE.out, ← hq, ← hr9]
              clear hVl hwl hpn hE2 hE1 hV2 hV1 g1 g2 g3 hVl1 hVl2 hsj
              have HVN := Lib.hid hVn; have HE14 := Lib.hid hE14; have HBW14 := Lib.hid hbw14; clear hVn hE14 hbw14
              go_wp2
              go_roundw
              case rel => exact ⟨k + 1, _, _, by go_num, by omega, HVN.out, HE14.out, HBW14.out⟩
              case measure => simp [intOf]; omega
      · have y2 : decide (K < 0) = false := decide_eq_false hneg
        have hkeq : K = (kk : Int) := by have := HKK.out; omega
        have hsd1 : sd = 0 := by rw [HSD2.out, if_neg hneg]
        subst hsd1
        have hkl62 : kk < 4611686018427387904 := by have := HKK.out; have := M1.out; have := M2.out; omega
        clear HKK HSD2
        subst hkeq
        clear hneg y2
        have y2 : decide ((kk : Int) < 0) = false := by simp
        have r1 : IntKind.u64.wrap (kk : Int) = (kk : Int) := IntWalk.u64_in _ (by omega)
        have r2 : IntKind.u64.wrap (sc : Int) = (sc : Int) := IntWalk.u64_in _ (by have := HS.out; omega)
        have r3 : IntKind.u64.wrap (s : Int) = (s : Int) := IntWalk.u64_in _ (by have := M3.out; have := M4.out; omega)
        have lk : nl kk ≤ 2 := nl_le.2 (show kk < pw 2 from Nat.lt_trans hkl62 (by decide))
        have ls : nl sc ≤ 2 := nl_le.2 (show sc < pw 2 from Nat.lt_trans HS.out (by decide))
        have HKL62 := Lib.hid hkl62; have LK := Lib.hid lk; have LS := Lib.hid ls; clear hkl62 lk ls
        go_wp2_with fail
        refine (tOf_ kk w6 (by have := HKL62.out; omega)).mono ?_
        rintro e w7 ⟨A1, c1, rfl, h1, _, b1⟩
        have hT7 := (b1.block _ (lt_of_block HT6.out)).trans HT6.out
        have hV7 := HV6.out.later b1
        have hE7 := (b1.block _ (lt_of_block HE6.out)).trans HE6.out
        have hbw7 := HBW6.out.trans (b1.mono HBW6.out.size)
        clear HT6 HV6 HE6 HBW6 b1
        have HT7 := Lib.hid hT7; have HV7 := Lib.hid hV7; have HE7 := Lib.hid hE7; have HBW7 := Lib.hid hbw7; have H1 := Lib.hid h1; clear hT7 hV7 hE7 hbw7 h1
        go_wp2_with fail
        refine (tOf_ sc w7 (by have := HS.out; omega)).mono ?_
        rintro e w8 ⟨A2, c2, rfl, h2, _, b1⟩
        have hT8 := (b1.block _ (lt_of_block HT7.out)).trans HT7.out
        have hV8 := HV7.out.later b1
        have hE8 := (b1.block _ (lt_of_block HE7.out)).trans HE7.out
        have hbw8 := HBW7.out.trans (b1.mono HBW7.out.size)
        have h18 := H1.out.later b1 (Nat.le_refl _)
        clear HT7 HV7 HE7 HBW7 H1 b1
        have HT8 := Lib.hid hT8; have HV8 := Lib.hid hV8; have HE8 := Lib.hid hE8; have HBW8 := Lib.hid hbw8; have H18 := Lib.hid h18; have H2 := Lib.hid h2; clear hT8 hV8 hE8 hbw8 h18 h2
        go_wp2_with fail
        refine (natTimes_ A1 A2 c1 c2 kk sc w8 H18.out H2.out (by have := LK.out; omega) (by have := LS.out; omega)).mono ?_
        rintro e w9 ⟨An, cn, rfl, h3, _, b1⟩
        have hT9 := (b1.block _ (lt_of_block HT8.out)).trans HT8.out
        have hV9 := HV8.out.later b1
        have hE9 := (b1.block _ (lt_of_block HE8.out)).trans HE8.out
        have hbw9 := HBW8.out.trans (b1.mono HBW8.out.size)
        clear HT8 HV8 HE8 HBW8 H18 H2 b1
        have t1 := cell_of_row _ _ 1 _ _ _ hT9
        simp only [List.getElem?_toArray, List.getElem?_cons_zero, List.getElem?_cons_succ] at t1
        have hTl := lt_of_block hT9
        obtain ⟨nn, hnne⟩ : ∃ nn, nn = kk * sc := ⟨_, rfl⟩
        rw [← hnne] at h3 ⊢
        have HT9 := Lib.hid hT9; have HV9 := Lib.hid hV9; have HE9 := Lib.hid hE9; have HBW9 := Lib.hid hbw9; have H3 := Lib.hid h3; have HNNE := Lib.hid hnne; clear hT9 hV9 hE9 hbw9 h3 hnne
        go_wp2_with fail
        refine (tRoot_ s bits w9 (by have := M4.out; omega) (by have := HB.out; omega)).mono ?_
        rintro e w10 ⟨Ar, cr, rfl, h4, hc4, b1⟩
        have hT10 := (b1.block _ (lt_of_block HT9.out)).trans HT9.out
        have hV10 := HV9.out.later b1
        have hE10 := (b1.block _ (lt_of_block HE9.out)).trans HE9.out
        have hbw10 := HBW9.out.trans (b1.mono HBW9.out.size)
        have h310 := H3.out.later b1 (Nat.le_refl _)
        clear HT9 HV9 HE9 HBW9 H3 b1 t1 hTl
        obtain ⟨rr, hre⟩ : ∃ rr, rr = rtN s bits := ⟨_, rfl⟩
        obtain ⟨mm, hme⟩ : ∃ mm, mm = moN s bits := ⟨_, rfl⟩
        change RdN w10 Ar (rtN s bits) at h4
        change nl (rtN s bits) ≤ cr at hc4
        rw [show Nat.sqrt (s * 4 ^ bits) = rr from hre.symm]
        rw [← hre] at h4 hc4
        have hmm2 : mm = if 1 < s then rr + 1 else rr := by rw [hme, hre]; rfl
        have hs62 : s < 2 ^ 62 := by have := M4.out; omega
        have hrl := rt_lt (bits := bits) hs62
        obtain ⟨hml1, hml2⟩ := mo_le s bits hs62
        rw [← hre] at hrl hml1
        rw [← hme] at hml1 hml2
        have hrl2 : nl rr ≤ 8796093022250 := Nat.le_trans (nl_bits hrl) (by have := HB.out; omega)
        have hml : nl mm ≤ 8796093022250 := Nat.le_trans (nl_bits (Nat.lt_of_le_of_lt hml2 (Nat.pow_lt_pow_right (by decide) (show 31 + bits < 32 + bits by omega)))) (by have := HB.out; omega)
        have hkk62 := HKL62.out
        have hsc62 := HS.out
        have hnn124 : nn ≤ 2 ^ 124 := by
          rw [HNNE.out, show (124 : Nat) = 62 + 62 by decide, Nat.pow_add]
          exact Nat.mul_le_mul (Nat.le_of_lt hkk62) (Nat.le_of_lt hsc62)
        have hnl : nl nn ≤ 8796093022250 := Nat.le_trans (nl_bits (Nat.lt_of_le_of_lt hnn124 (show 2 ^ 124 < 2 ^ 125 by decide))) (by decide)
        have hnb1 := term_le hkk62 hsc62 (Nat.le_of_lt hrl)
        have hnb2 := term_le hkk62 hsc62 hml2
        rw [← HNNE.out] at hnb1 hnb2
        have hnb : nl (nn * rr) ≤ 8796093022250 ∧ nl (nn * mm) ≤ 8796093022250 := ⟨Nat.le_trans (nl_bits (Nat.lt_of_le_of_lt hnb1 (Nat.pow_lt_pow_right (by decide) (show 124 + (31 + bits) < 156 + bits by omega)))) (by have := HB.out; omega), Nat.le_trans (nl_bits (Nat.lt_of_le_of_lt hnb2 (Nat.pow_lt_pow_right (by decide) (show 124 + (31 + bits) < 156 + bits by omega)))) (by have := HB.out; omega)⟩
        have hfbn : ∀ j, nl (vF sc bits (xs.take k) j) ≤ 8796093022250 := fun j => Nat.le_trans (nl_bits (HFB.out j)) (by have := HB.out; omega)
        have hfbn2 : nl (vF sc bits (xs.take k) 0 + nn * rr) ≤ 8796093022250 ∧ True := ⟨by
          refine Nat.le_trans (nl_bits (b := 166 + bits) ?_) (by have := HB.out; omega)
          have h1 := HFB.out 0
          have h2 : 2 ^ (124 + (31 + bits)) ≤ 2 ^ (165 + bits) := Nat.pow_le_pow_right (by decide) (by omega)
          have h3 : 2 ^ (166 + bits) = 2 ^ (165 + bits) + 2 ^ (165 + bits) := by rw [show 166 + bits = (165 + bits) + 1 by omega, Nat.pow_succ]; omega
          omega, trivial⟩
        have t1 := cell_of_row _ _ 1 _ _ _ hT10
        simp only [List.getElem?_toArray, List.getElem?_cons_zero, List.getElem?_cons_succ] at t1
        have hTl := lt_of_block hT10
        clear hrl hml1 hml2 hkk62 hsc62 hnn124 hnb1 hnb2 hs62
        have HT10 := Lib.hid hT10; have HV10 := Lib.hid hV10; have HE10 := Lib.hid hE10; have HBW10 := Lib.hid hbw10; have H310 := Lib.hid h310; have H4 := Lib.hid h4; have HC4 := Lib.hid hc4; have HRE := Lib.hid hre; have HME := Lib.hid hme; have HMM2 := Lib.hid hmm2; have HRL2 := Lib.hid hrl2; have HML := Lib.hid hml; have HNL := Lib.hid hnl; have HNB := Lib.hid hnb; have HFBN := Lib.hid hfbn; have HFBN2 := Lib.hid hfbn2; clear hT10 hV10 hE10 hbw10 h310 h4 hc4 hre hme hmm2 hrl2 hml hnl hnb hfbn hfbn2
        by_cases hs1 : 1 < s
        · have z1 : (1 : Int) < (s : Int) := by omega
          have z2 : decide ((1 : Int) < (s : Int)) = true := decide_eq_true z1
          have hmr : mm = rr + 1 := by rw [HMM2.out, if_pos hs1]
          subst hmr
          clear HMM2 t1
          have ho := one_at (w := w10)
          have hb5 : Below w10.heap.size w10 (w10.alloc (.cells #[.int .u32 1] 104)) := (Below.refl _ _).alloc (Nat.le_refl _) _
          have h4b := H4.out.later hb5 (Nat.le_refl _)
          have h3b := H310.out.later hb5 (Nat.le_refl _)
          have hV11 := HV10.out.later hb5
          have hE11 := (hb5.block _ (lt_of_block HE10.out)).trans HE10.out
          have hbw11 := HBW10.out.trans (hb5.mono HBW10.out.size)
          have t1 := cell_of_row _ _ 1 _ _ _ HT10.out
          simp only [List.getElem?_toArray, List.getElem?_cons_zero, List.getElem?_cons_succ] at t1
          clear hb5 HT10 HV10 HE10 HBW10 H310 H4
          have HO := Lib.hid ho; have H4B := Lib.hid h4b; have H3B := Lib.hid h3b; have HV11 := Lib.hid hV11; have HE11 := Lib.hid hE11; have HBW11 := Lib.hid hbw11; clear ho h4b h3b hV11 hE11 hbw11
          go_wp2_with fail
          clear t1 hTl
          refine (natPlus1_ Ar cr rr w10.heap.size _ H4B.out HO.out (by have := HRL2.out; omega)).mono ?_
          rintro e w12 ⟨Am, cm, rfl, h5, hcm, b1⟩
          have hV12 := HV11.out.later b1
          have hE12 := (b1.block _ (lt_of_block HE11.out)).trans HE11.out
          have hbw12 := HBW11.out.trans (b1.mono HBW11.out.size)
          have hrr := H4B.out.later b1 (Nat.le_refl _)
          have hnn := H3B.out.later b1 (Nat.le_refl _)
          clear HV11 HE11 HBW11 H4B H3B HO b1
          obtain ⟨mm, hmm9⟩ : ∃ mm, mm = rr + 1 := ⟨_, rfl⟩
          rw [← hmm9] at h5 hcm ⊢
          have hmeq : mm = moN s bits := by rw [hmm9]; exact HME.out
          have hml9 : nl mm ≤ 8796093022250 := by rw [hmm9]; exact HML.out
          have hnb9 : nl (nn * rr) ≤ 8796093022250 ∧ nl (nn * mm) ≤ 8796093022250 := by rw [hmm9]; exact HNB.out
          clear HML HNB HME hmm9
          have HML := Lib.hid hml9
          have HNB := Lib.hid hnb9
          have HMEQ := Lib.hid hmeq
          clear hml9 hnb9 hmeq
          obtain ⟨f, hfe⟩ : ∃ f, f = vF sc bits (xs.take k) := ⟨_, rfl⟩
          have hfbd : ∀ j, nl (f j) ≤ 8796093022250 := by rw [hfe]; exact HFBN.out
          have hfs := HFBN2.out.1
          rw [← hfe] at hV12 hfs
          have hVD : VB w12.drew V f VA VC := hV12.drew
          have hED : w12.drew.heap[w.heap.size]? = some (.cells #[.slice none 0 0, .slice none 0 0, .slice none 0 0, .slice none 0 0] 101 (0, 0)) := hE12
          have hBD : Below w.heap.size w w12.drew := hbw12.drew
          have hVl := hV12.lt
          have hwl := hVD.lt
          have HNN := Lib.hid hnn
          have HRR := Lib.hid hrr
          have HMM := Lib.hid h5
          clear hnn hrr h5
          have g0 : w12.drew.cell? ⟨V, 0, none⟩ = some (.slice (VA 0) (nl (f 0)) (VC 0)) := hVD.at_ (by decide)
          have HFB := Lib.hid hfbd
          have HFBD := Lib.hid hfbd; have HV12 := Lib.hid hV12; have HE12 := Lib.hid hE12; have HBW12 := Lib.hid hbw12; have HVD := Lib.hid hVD; have HED := Lib.hid hED; have HBD := Lib.hid hBD; have HFE := Lib.hid hfe; have HFS := Lib.hid hfs; clear hfbd hV12 hE12 hbw12 hVD hED hBD hfe hfs
          go_upto_region 13 with fail
          have hsj : 0 < 4 := by decide
          go_cut [] (fun wx => ∃ (UA : Nat → Option Addr) (UC : Nat → Nat), VB wx V (upD f 0 (f 0 + nn * rr)) UA UC ∧ RdN wx An nn ∧ RdN wx Ar rr ∧ RdN wx Am mm ∧ wx.heap[w.heap.size]? = some (.cells #[.slice none 0 0, .slice none 0 0, .slice none 0 0, .slice none 0 0] 101 (0, 0)) ∧ Below w.heap.size w wx)
          case first =>
            refine wp_region_held_drew (S := fun _ => True) (by kernel_rfl) trivial (fun hHeld => ?_)
            refine takeH (i := 0) (v := ?bpav0) rfl rfl (by kernel_rfl) (by kernel_rfl) (by kernel_rfl) (fun _ _ _ _ => ⟨fun h _ => h, fun h => h #[]⟩) (by rfl) hHeld ?bpay0 ?bpar0
            case bpay0 =>
              intro W' hSw
              obtain _ := hSw
              go_simp
              try with_reducible rfl
            simp only [List.setIfInBounds_toArray, List.set_cons_zero, List.set_cons_succ]
            refine takeH (i := 1) (v := ?bpav1) rfl rfl (by kernel_rfl) (by kernel_rfl) (by kernel_rfl) (fun _ _ _ _ => ⟨fun h _ => h, fun h => h #[]⟩) (by rfl) hHeld ?bpay1 ?bpar1
            case bpay1 =>
              intro W' hSw
              obtain _ := hSw
              go_simp
              try with_reducible rfl
            simp only [List.setIfInBounds_toArray, List.set_cons_zero, List.set_cons_succ]
            refine takeH (i := 2) (v := ?bpav2) rfl rfl (by kernel_rfl) (by kernel_rfl) (by kernel_rfl) (fun _ _ _ _ => ⟨fun h _ => h, fun h => h #[]⟩) (by rfl) hHeld ?bpay2 ?bpar2
            case bpay2 =>
              intro W' hSw
              obtain _ := hSw
              go_simp
              try with_reducible rfl
            simp only [List.setIfInBounds_toArray, List.set_cons_zero, List.set_cons_succ]
            refine takeH (i := 3) (v := ?bpav3) rfl rfl (by kernel_rfl) (by kernel_rfl) (by kernel_rfl) (fun _ _ _ _ => ⟨fun h _ => h, fun h => h #[]⟩) (by rfl) hHeld ?bpay3 ?bpar3
            case bpay3 =>
              intro W' hSw
              obtain _ := hSw
              go_simp
              try with_reducible rfl
            simp only [List.setIfInBounds_toArray, List.set_cons_zero, List.set_cons_succ]
            refine takeH (i := 5) (v := ?bpav5) rfl rfl (by kernel_rfl) (by kernel_rfl) (by kernel_rfl) (fun _ _ _ _ => ⟨fun h _ => h, fun h => h #[]⟩) (by rfl) hHeld ?bpay5 ?bpar5
            case bpay5 =>
              intro W' hSw
              obtain _ := hSw
              go_simp
              try with_reducible rfl
            simp only [List.setIfInBounds_toArray, List.set_cons_zero, List.set_cons_succ]
            refine takeH (i := 6) (v := ?bpav6) rfl rfl (by kernel_rfl) (by kernel_rfl) (by kernel_rfl) (fun _ _ _ _ => ⟨fun h _ => h, fun h => h #[]⟩) (by rfl) hHeld ?bpay6 ?bpar6
            case bpay6 =>
              intro W' hSw
              obtain _ := hSw
              go_simp
              try with_reducible rfl
            simp only [List.setIfInBounds_toArray, List.set_cons_zero, List.set_cons_succ]
            refine takeH (i := 9) (v := ?bpav9) rfl rfl (by kernel_rfl) (by kernel_rfl) (by kernel_rfl) (fun _ _ _ _ => ⟨fun h _ => h, fun h => h #[]⟩) (by rfl) hHeld ?bpay9 ?bpar9
            case bpay9 =>
              intro W' hSw
              obtain _ := hSw
              go_simp
              try with_reducible rfl
            simp only [List.setIfInBounds_toArray, List.set_cons_zero, List.set_cons_succ]
            refine wpAnyH_ready (rs := [4, 7]) (by kernel_rfl) (by simp) ?_
            refine AllReadyH.cons rfl (fun K hK => ?_) (AllReadyH.cons rfl (fun K hK => ?_) AllReadyH.nil)
            · go_simp
              refine hK.out _ _ trivial (fun _ => ?_)
              clear hK K
              try simp only [Act.put, List.setIfInBounds_toArray, List.set_cons_zero, List.set_cons_succ]
              refine wpAnyH_ready (rs := [7]) (by kernel_rfl) (by simp) ?_
              refine AllReadyH.cons rfl (fun K hK => ?_) AllReadyH.nil
              go_simp
              refine (natTimes_ An Ar cn cr nn rr _ HNN.out.drew HRR.out.drew (by have := HNL.out; omega) (by have := HRL2.out; omega)).mono ?_
              rintro e v1 ⟨A1, c1, rfl, h1, hc1, b1⟩
              have hV1 := HVD.out.later b1
              have g1 := hV1.at_ hsj
              have hVl1 := hV1.lt
              refine hK.out _ _ trivial (fun _ => ?_)
              clear hK K
              try simp only [Act.put, List.setIfInBounds_toArray, List.set_cons_zero, List.set_cons_succ]
              refine wpAnyH_ready (rs := [8]) (by kernel_rfl) (by simp) ?_
              refine AllReadyH.cons rfl (fun K hK => ?_) AllReadyH.nil
              go_simp
              refine (natPlus_ (VA 0) A1 (VC 0) c1 (f 0) (nn * rr) v1 (hV1.rd 0 hsj) h1 (by have := HFB.out 0; omega) (by have := HNB.out; omega)).mono ?_
              rintro e v2 ⟨A2, c2, rfl, h2, hc2, b2⟩
              have hV2 := hV1.later b2
              have hbd := HBD.out
              have hb2 := hbd.trans (b1.mono hbd.size)
              have hb3 := hb2.trans (b2.mono hb2.size)
              refine hK.out _ _ trivial (fun _ => ?_)
              clear hK K
              try simp only [Act.put, List.setIfInBounds_toArray, List.set_cons_zero, List.set_cons_succ]
              refine takeH (i := 10) (v := ?bpbv10) rfl rfl (by kernel_rfl) (by kernel_rfl) (by kernel_rfl) (fun _ _ _ _ => ⟨fun h _ => h, fun h => h #[]⟩) (by rfl) hHeld ?bpby10 ?bpbr10
              case bpby10 =>
                intro W' hSw
                obtain _ := hSw
                go_simp
                try with_reducible rfl
              simp only [List.setIfInBounds_toArray, List.set_cons_zero, List.set_cons_succ]
              have g2 := hV2.at_ hsj
              have g3 := hV2.free 0
              have hVl2 := hV2.lt
              have hE1 := (b1.block _ (lt_of_block HED.out)).trans HED.out
              have hE2 := (b2.block _ (lt_of_block hE1)).trans hE1
              have hpn := hV2.put hsj h2 hc2
              refine wpAnyH_ready (rs := [11]) (by kernel_rfl) (by simp) ?_
              refine AllReadyH.cons rfl (fun K hK => ?_) AllReadyH.nil
              go_simp
              refine hK.out _ _ trivial (fun _ => ?_)
              clear hK K
              refine wpAnyH_done (by kernel_rfl) ?_ _
              go_wp2_with fail
              go_meet
              exact ⟨_, _, hpn, hV2.keep ((HNN.out.drew.later b1 (Nat.le_refl _)).later b2 (Nat.le_refl _)) _ _, hV2.keep ((HRR.out.drew.later b1 (Nat.le_refl _)).later b2 (Nat.le_refl _)) _ _, hV2.keep ((HMM.out.drew.later b1 (Nat.le_refl _)).later b2 (Nat.le_refl _)) _ _, (heap_setCell_other _ _ _ _ (by show w.heap.size ≠ V; have := HVE.out; omega)).trans hE2, hb3.setCell (p := ⟨V, 0, none⟩) (by show w.heap.size ≤ V; have := HVE.out; omega) _⟩
            · go_simp
              refine (natTimes_ An Ar cn cr nn rr _ HNN.out.drew HRR.out.drew (by have := HNL.out; omega) (by have := HRL2.out; omega)).mono ?_
              rintro e v1 ⟨A1, c1, rfl, h1, hc1, b1⟩
              have hV1 := HVD.out.later b1
              have g1 := hV1.at_ hsj
              have hVl1 := hV1.lt
              refine hK.out _ _ trivial (fun _ => ?_)
              clear hK K
              try simp only [Act.put, List.setIfInBounds_toArray, List.set_cons_zero, List.set_cons_succ]
              refine wpAnyH_ready (rs := [4]) (by kernel_rfl) (by simp) ?_
              refine AllReadyH.cons rfl (fun K hK => ?_) AllReadyH.nil
              go_simp
              refine hK.out _ _ trivial (fun _ => ?_)
              clear hK K
              try simp only [Act.put, List.setIfInBounds_toArray, List.set_cons_zero, List.set_cons_succ]
              refine wpAnyH_ready (rs := [8]) (by kernel_rfl) (by simp) ?_
              refine AllReadyH.cons rfl (fun K hK => ?_) AllReadyH.nil
              go_simp
              refine (natPlus_ (VA 0) A1 (VC 0) c1 (f 0) (nn * rr) v1 (hV1.rd 0 hsj) h1 (by have := HFB.out 0; omega) (by have := HNB.out; omega)).mono ?_
              rintro e v2 ⟨A2, c2, rfl, h2, hc2, b2⟩
              have hV2 := hV1.later b2
              have hbd := HBD.out
              have hb2 := hbd.trans (b1.mono hbd.size)
              have hb3 := hb2.trans (b2.mono hb2.size)
              refine hK.out _ _ trivial (fun _ => ?_)
              clear hK K
              try simp only [Act.put, List.setIfInBounds_toArray, List.set_cons_zero, List.set_cons_succ]
              refine takeH (i := 10) (v := ?bpcv10) rfl rfl (by kernel_rfl) (by kernel_rfl) (by kernel_rfl) (fun _ _ _ _ => ⟨fun h _ => h, fun h => h #[]⟩) (by rfl) hHeld ?bpcy10 ?bpcr10
              case bpcy10 =>
                intro W' hSw
                obtain _ := hSw
                go_simp
                try with_reducible rfl
              simp only [List.setIfInBounds_toArray, List.set_cons_zero, List.set_cons_succ]
              have g2 := hV2.at_ hsj
              have g3 := hV2.free 0
              have hVl2 := hV2.lt
              have hE1 := (b1.block _ (lt_of_block HED.out)).trans HED.out
              have hE2 := (b2.block _ (lt_of_block hE1)).trans hE1
              have hpn := hV2.put hsj h2 hc2
              refine wpAnyH_ready (rs := [11]) (by kernel_rfl) (by simp) ?_
              refine AllReadyH.cons rfl (fun K hK => ?_) AllReadyH.nil
              go_simp
              refine hK.out _ _ trivial (fun _ => ?_)
              clear hK K
              refine wpAnyH_done (by kernel_rfl) ?_ _
              go_wp2_with fail
              go_meet
              exact ⟨_, _, hpn, hV2.keep ((HNN.out.drew.later b1 (Nat.le_refl _)).later b2 (Nat.le_refl _)) _ _, hV2.keep ((HRR.out.drew.later b1 (Nat.le_refl _)).later b2 (Nat.le_refl _)) _ _, hV2.keep ((HMM.out.drew.later b1 (Nat.le_refl _)).later b2 (Nat.le_refl _)) _ _, (heap_setCell_other _ _ _ _ (by show w.heap.size ≠ V; have := HVE.out; omega)).trans hE2, hb3.setCell (p := ⟨V, 0, none⟩) (by show w.heap.size ≤ V; have := HVE.out; omega) _⟩
          case rest =>
            obtain ⟨UA, UC, hV13, hnn, hrr, hmm, hE13, hbw13⟩ := hcut
            clear g0 hVl hwl
            obtain ⟨f1, hf1⟩ : ∃ f1, f1 = upD f 0 (f 0 + nn * rr) := ⟨_, rfl⟩
            rw [← hf1] at hV13
            have hfb1 : ∀ j, nl (f1 j) ≤ 8796093022250 := fun j => by
              rw [hf1]
              by_cases e : j = 0
              · rw [e, upD_same]; exact HFS.out
              · rw [upD_other _ _ e]; exact HFB.out j
            obtain ⟨w13, rfl⟩ : ∃ w13 : World, w13 = wc := ⟨_, rfl⟩
            have hVDb : VB w13.drew V f1 UA UC := hV13.drew
            have hEDb : w13.drew.heap[w.heap.size]? = some (.cells #[.slice none 0 0, .slice none 0 0, .slice none 0 0, .slice none 0 0] 101 (0, 0)) := hE13
            have hBDb : Below w.heap.size w w13.drew := hbw13.drew
            have hVl := hV13.lt
            have hwl := hVDb.lt
            have HNNb := Lib.hid hnn
            have HRRb := Lib.hid hrr
            have HMMb := Lib.hid hmm
            have g0 : w13.drew.cell? ⟨V, 2, none⟩ = some (.slice (UA 2) (nl (f1 2)) (UC 2)) := hVDb.at_ (by decide)
            have HFBb := Lib.hid hfb1
            have HVDb := Lib.hid hVDb
            have HEDb := Lib.hid hEDb
            have HBDb := Lib.hid hBDb
            clear hnn hrr hmm hsj hfb1 hVDb hEDb hBDb
            have HV13 := Lib.hid hV13; have HE13 := Lib.hid hE13; have HBW13 := Lib.hid hbw13; have HF1 := Lib.hid hf1; clear hV13 hE13 hbw13 hf1
            go_upto_region 14 with fail
            have hsj : 2 < 4 := by decide
            refine wp_region_held_drew (S := fun _ => True) (by kernel_rfl) trivial (fun hHeld => ?_)
            refine takeH (i := 0) (v := ?bqav0) rfl rfl (by kernel_rfl) (by kernel_rfl) (by kernel_rfl) (fun _ _ _ _ => ⟨fun h _ => h, fun h => h #[]⟩) (by rfl) hHeld ?bqay0 ?bqar0
            case bqay0 =>
              intro W' hSw
              obtain _ := hSw
              go_simp
              try with_reducible rfl
            simp only [List.setIfInBounds_toArray, List.set_cons_zero, List.set_cons_succ]
            refine takeH (i := 1) (v := ?bqav1) rfl rfl (by kernel_rfl) (by kernel_rfl) (by kernel_rfl) (fun _ _ _ _ => ⟨fun h _ => h, fun h => h #[]⟩) (by rfl) hHeld ?bqay1 ?bqar1
            case bqay1 =>
              intro W' hSw
              obtain _ := hSw
              go_simp
              try with_reducible rfl
            simp only [List.setIfInBounds_toArray, List.set_cons_zero, List.set_cons_succ]
            refine takeH (i := 2) (v := ?bqav2) rfl rfl (by kernel_rfl) (by kernel_rfl) (by kernel_rfl) (fun _ _ _ _ => ⟨fun h _ => h, fun h => h #[]⟩) (by rfl) hHeld ?bqay2 ?bqar2
            case bqay2 =>
              intro W' hSw
              obtain _ := hSw
              go_simp
              try with_reducible rfl
            simp only [List.setIfInBounds_toArray, List.set_cons_zero, List.set_cons_succ]
            refine takeH (i := 3) (v := ?bqav3) rfl rfl (by kernel_rfl) (by kernel_rfl) (by kernel_rfl) (fun _ _ _ _ => ⟨fun h _ => h, fun h => h #[]⟩) (by rfl) hHeld ?bqay3 ?bqar3
            case bqay3 =>
              intro W' hSw
              obtain _ := hSw
              go_simp
              try with_reducible rfl
            simp only [List.setIfInBounds_toArray, List.set_cons_zero, List.set_cons_succ]
            refine takeH (i := 5) (v := ?bqav5) rfl rfl (by kernel_rfl) (by kernel_rfl) (by kernel_rfl) (fun _ _ _ _ => ⟨fun h _ => h, fun h => h #[]⟩) (by rfl) hHeld ?bqay5 ?bqar5
            case bqay5 =>
              intro W' hSw
              obtain _ := hSw
              go_simp
              try with_reducible rfl
            simp only [List.setIfInBounds_toArray, List.set_cons_zero, List.set_cons_succ]
            refine takeH (i := 6) (v := ?bqav6) rfl rfl (by kernel_rfl) (by kernel_rfl) (by kernel_rfl) (fun _ _ _ _ => ⟨fun h _ => h, fun h => h #[]⟩) (by rfl) hHeld ?bqay6 ?bqar6
            case bqay6 =>
              intro W' hSw
              obtain _ := hSw
              go_simp
              try with_reducible rfl
            simp only [List.setIfInBounds_toArray, List.set_cons_zero, List.set_cons_succ]
            refine takeH (i := 9) (v := ?bqav9) rfl rfl (by kernel_rfl) (by kernel_rfl) (by kernel_rfl) (fun _ _ _ _ => ⟨fun h _ => h, fun h => h #[]⟩) (by rfl) hHeld ?bqay9 ?bqar9
            case bqay9 =>
              intro W' hSw
              obtain _ := hSw
              go_simp
              try with_reducible rfl
            simp only [List.setIfInBounds_toArray, List.set_cons_zero, List.set_cons_succ]
            refine wpAnyH_ready (rs := [4, 7]) (by kernel_rfl) (by simp) ?_
            refine AllReadyH.cons rfl (fun K hK => ?_) (AllReadyH.cons rfl (fun K hK => ?_) AllReadyH.nil)
            · go_simp
              refine hK.out _ _ trivial (fun _ => ?_)
              clear hK K
              try simp only [Act.put, List.setIfInBounds_toArray, List.set_cons_zero, List.set_cons_succ]
              refine wpAnyH_ready (rs := [7]) (by kernel_rfl) (by simp) ?_
              refine AllReadyH.cons rfl (fun K hK => ?_) AllReadyH.nil
              go_simp
              refine (natTimes_ An Am cn cm nn mm _ HNNb.out.drew HMMb.out.drew (by have := HNL.out; omega) (by have := HML.out; omega)).mono ?_
              rintro e v1 ⟨A1, c1, rfl, h1, hc1, b1⟩
              have hV1 := HVDb.out.later b1
              have g1 := hV1.at_ hsj
              have hVl1 := hV1.lt
              refine hK.out _ _ trivial (fun _ => ?_)
              clear hK K
              try simp only [Act.put, List.setIfInBounds_toArray, List.set_cons_zero, List.set_cons_succ]
              refine wpAnyH_ready (rs := [8]) (by kernel_rfl) (by simp) ?_
              refine AllReadyH.cons rfl (fun K hK => ?_) AllReadyH.nil
              go_simp
              refine (natPlus_ (UA 2) A1 (UC 2) c1 (f1 2) (nn * mm) v1 (hV1.rd 2 hsj) h1 (by have := HFBb.out 2; omega) (by have := HNB.out; omega)).mono ?_
              rintro e v2 ⟨A2, c2, rfl, h2, hc2, b2⟩
              have hV2 := hV1.later b2
              have hbd := HBDb.out
              have hb2 := hbd.trans (b1.mono hbd.size)
              have hb3 := hb2.trans (b2.mono hb2.size)
              refine hK.out _ _ trivial (fun _ => ?_)
              clear hK K
              try simp only [Act.put, List.setIfInBounds_toArray, List.set_cons_zero, List.set_cons_succ]
              refine takeH (i := 10) (v := ?bqbv10) rfl rfl (by kernel_rfl) (by kernel_rfl) (by kernel_rfl) (fun _ _ _ _ => ⟨fun h _ => h, fun h => h #[]⟩) (by rfl) hHeld ?bqby10 ?bqbr10
              case bqby10 =>
                intro W' hSw
                obtain _ := hSw
                go_simp
                try with_reducible rfl
              simp only [List.setIfInBounds_toArray, List.set_cons_zero, List.set_cons_succ]
              have g2 := hV2.at_ hsj
              have g3 := hV2.free 2
              have hVl2 := hV2.lt
              have hE1 := (b1.block _ (lt_of_block HEDb.out)).trans HEDb.out
              have hE2 := (b2.block _ (lt_of_block hE1)).trans hE1
              have hpn := hV2.put hsj h2 hc2
              refine wpAnyH_ready (rs := [11]) (by kernel_rfl) (by simp) ?_
              refine AllReadyH.cons rfl (fun K hK => ?_) AllReadyH.nil
              go_simp
              refine hK.out _ _ trivial (fun _ => ?_)
              clear hK K
              refine wpAnyH_done (by kernel_rfl) ?_ _
              have hE14 := (heap_setCell_other v2 ⟨V, 2, none⟩ w.heap.size (.slice A2 (nl (f1 2 + nn * mm)) c2) (by show w.heap.size ≠ V; have := HVE.out; omega)).trans hE2
              have hbw14 := hb3.setCell (p := ⟨V, 2, none⟩) (by show w.heap.size ≤ V; have := HVE.out; omega) (.slice A2 (nl (f1 2 + nn * mm)) c2)
              have hVn := hpn.eqv (f' := vF sc bits (xs.take (k + 1))) fun j hj => by
                have l0 := HLS.out 0
                have l1 := HLS.out 1
                have h0 := HHS.out 0
                have h1 := HHS.out 1
                rw [HF1.out, HFE.out]
                have hq := HMEQ.out
                have hr9 := HRE.out
                rcases four hj with rfl | rfl | rfl | rfl <;> simp [upD, vF, l0, l1, h0, h1, HNNE.out, ← hq, ← hr9]
              clear hVl hwl hpn hE2 hE1 hV2 hV1 g1 g2 g3 hVl1 hVl2 hsj
              have HVN := Lib.hid hVn; have HE14 := Lib.hid hE14; have HBW14 := Lib.hid hbw14; clear hVn hE14 hbw14
              go_wp2
              go_roundw
              case rel => exact ⟨k + 1, _, _, by go_num, by omega, HVN.out, HE14.out, HBW14.out⟩
              case measure => simp [intOf]; omega
            · go_simp
              refine (natTimes_ An Am cn cm nn mm _ HNNb.out.drew HMMb.out.drew (by have := HNL.out; omega) (by have := HML.out; omega)).mono ?_
              rintro e v1 ⟨A1, c1, rfl, h1, hc1, b1⟩
              have hV1 := HVDb.out.later b1
              have g1 := hV1.at_ hsj
              have hVl1 := hV1.lt
              refine hK.out _ _ trivial (fun _ => ?_)
              clear hK K
              try simp only [Act.put, List.setIfInBounds_toArray, List.set_cons_zero, List.set_cons_succ]
              refine wpAnyH_ready (rs := [4]) (by kernel_rfl) (by simp) ?_
              refine AllReadyH.cons rfl (fun K hK => ?_) AllReadyH.nil
              go_simp
              refine hK.out _ _ trivial (fun _ => ?_)
              clear hK K
              try simp only [Act.put, List.setIfInBounds_toArray, List.set_cons_zero, List.set_cons_succ]
              refine wpAnyH_ready (rs := [8]) (by kernel_rfl) (by simp) ?_
              refine AllReadyH.cons rfl (fun K hK => ?_) AllReadyH.nil
              go_simp
              refine (natPlus_ (UA 2) A1 (UC 2) c1 (f1 2) (nn * mm) v1 (hV1.rd 2 hsj) h1 (by have := HFBb.out 2; omega) (by have := HNB.out; omega)).mono ?_
              rintro e v2 ⟨A2, c2, rfl, h2, hc2, b2⟩
              have hV2 := hV1.later b2
              have hbd := HBDb.out
              have hb2 := hbd.trans (b1.mono hbd.size)
              have hb3 := hb2.trans (b2.mono hb2.size)
              refine hK.out _ _ trivial (fun _ => ?_)
              clear hK K
              try simp only [Act.put, List.setIfInBounds_toArray, List.set_cons_zero, List.set_cons_succ]
              refine takeH (i := 10) (v := ?bqcv10) rfl rfl (by kernel_rfl) (by kernel_rfl) (by kernel_rfl) (fun _ _ _ _ => ⟨fun h _ => h, fun h => h #[]⟩) (by rfl) hHeld ?bqcy10 ?bqcr10
              case bqcy10 =>
                intro W' hSw
                obtain _ := hSw
                go_simp
                try with_reducible rfl
              simp only [List.setIfInBounds_toArray, List.set_cons_zero, List.set_cons_succ]
              have g2 := hV2.at_ hsj
              have g3 := hV2.free 2
              have hVl2 := hV2.lt
              have hE1 := (b1.block _ (lt_of_block HEDb.out)).trans HEDb.out
              have hE2 := (b2.block _ (lt_of_block hE1)).trans hE1
              have hpn := hV2.put hsj h2 hc2
              refine wpAnyH_ready (rs := [11]) (by kernel_rfl) (by simp) ?_
              refine AllReadyH.cons rfl (fun K hK => ?_) AllReadyH.nil
              go_simp
              refine hK.out _ _ trivial (fun _ => ?_)
              clear hK K
              refine wpAnyH_done (by kernel_rfl) ?_ _
              have hE14 := (heap_setCell_other v2 ⟨V, 2, none⟩ w.heap.size (.slice A2 (nl (f1 2 + nn * mm)) c2) (by show w.heap.size ≠ V; have := HVE.out; omega)).trans hE2
              have hbw14 := hb3.setCell (p := ⟨V, 2, none⟩) (by show w.heap.size ≤ V; have := HVE.out; omega) (.slice A2 (nl (f1 2 + nn * mm)) c2)
              have hVn := hpn.eqv (f' := vF sc bits (xs.take (k + 1))) fun j hj => by
                have l0 := HLS.out 0
                have l1 := HLS.out 1
                have h0 := HHS.out 0
                have h1 := HHS.out 1
                rw [HF1.out, HFE.out]
                have hq := HMEQ.out
                have hr9 := HRE.out
                rcases four hj with rfl | rfl | rfl | rfl <;> simp [upD, vF, l0, l1, h0, h1, HNNE.out, ← hq, ← hr9]
              clear hVl hwl hpn hE2 hE1 hV2 hV1 g1 g2 g3 hVl1 hVl2 hsj
              have HVN := Lib.hid hVn; have HE14 := Lib.hid hE14; have HBW14 := Lib.hid hbw14; clear hVn hE14 hbw14
              go_wp2
              go_roundw
              case rel => exact ⟨k + 1, _, _, by go_num, by omega, HVN.out, HE14.out, HBW14.out⟩
              case measure => simp [intOf]; omega
        · have z1 : ¬ (1 : Int) < (s : Int) := by omega
          have z2 : decide ((1 : Int) < (s : Int)) = false := decide_eq_false z1
          have hmr : mm = rr := by rw [HMM2.out, if_neg hs1]
          have hmeq : rr = moN s bits := by rw [← hmr]; exact HME.out
          have hnb9 : nl (nn * rr) ≤ 8796093022250 ∧ nl (nn * rr) ≤ 8796093022250 := ⟨HNB.out.1, HNB.out.1⟩
          clear HMM2 HML HNB HME
          have HMEQ := Lib.hid hmeq
          have HNB := Lib.hid hnb9
          have HML := HRL2
          clear hmeq hnb9 hmr
          have hV12 := HV10.out
          have hE12 := HE10.out
          have hbw12 := HBW10.out
          have hrr := H4.out
          have hnn := H310.out
          have h5 := H4.out
          clear H4 H310 HV10 HE10 HBW10 HT10
          obtain ⟨f, hfe⟩ : ∃ f, f = vF sc bits (xs.take k) := ⟨_, rfl⟩
          have hfbd : ∀ j, nl (f j) ≤ 8796093022250 := by rw [hfe]; exact HFBN.out
          have hfs := HFBN2.out.1
          rw [← hfe] at hV12 hfs
          have hVD : VB w10.drew V f VA VC := hV12.drew
          have hED : w10.drew.heap[w.heap.size]? = some (.cells #[.slice none 0 0, .slice none 0 0, .slice none 0 0, .slice none 0 0] 101 (0, 0)) := hE12
          have hBD : Below w.heap.size w w10.drew := hbw12.drew
          have hVl := hV12.lt
          have hwl := hVD.lt
          have HNN := Lib.hid hnn
          have HRR := Lib.hid hrr
          clear hnn hrr h5
          have g0 : w10.drew.cell? ⟨V, 0, none⟩ = some (.slice (VA 0) (nl (f 0)) (VC 0)) := hVD.at_ (by decide)
          have HFB := Lib.hid hfbd
          have HFBD := Lib.hid hfbd; have HV12 := Lib.hid hV12; have HE12 := Lib.hid hE12; have HBW12 := Lib.hid hbw12; have HVD := Lib.hid hVD; have HED := Lib.hid hED; have HBD := Lib.hid hBD; have HFE := Lib.hid hfe; have HFS := Lib.hid hfs; clear hfbd hV12 hE12 hbw12 hVD hED hBD hfe hfs
          go_upto_region 13 with fail
          have hsj : 0 < 4 := by decide
          go_cut [] (fun wx => ∃ (UA : Nat → Option Addr) (UC : Nat → Nat), VB wx V (upD f 0 (f 0 + nn * rr)) UA UC ∧ RdN wx An nn ∧ RdN wx Ar rr ∧ RdN wx Ar rr ∧ wx.heap[w.heap.size]? = some (.cells #[.slice none 0 0, .slice none 0 0, .slice none 0 0, .slice none 0 0] 101 (0, 0)) ∧ Below w.heap.size w wx)
          case first =>
            refine wp_region_held_drew (S := fun _ => True) (by kernel_rfl) trivial (fun hHeld => ?_)
            refine takeH (i := 0) (v := ?apav0) rfl rfl (by kernel_rfl) (by kernel_rfl) (by kernel_rfl) (fun _ _ _ _ => ⟨fun h _ => h, fun h => h #[]⟩) (by rfl) hHeld ?apay0 ?apar0
            case apay0 =>
              intro W' hSw
              obtain _ := hSw
              go_simp
              try with_reducible rfl
            simp only [List.setIfInBounds_toArray, List.set_cons_zero, List.set_cons_succ]
            refine takeH (i := 1) (v := ?apav1) rfl rfl (by kernel_rfl) (by kernel_rfl) (by kernel_rfl) (fun _ _ _ _ => ⟨fun h _ => h, fun h => h #[]⟩) (by rfl) hHeld ?apay1 ?apar1
            case apay1 =>
              intro W' hSw
              obtain _ := hSw
              go_simp
              try with_reducible rfl
            simp only [List.setIfInBounds_toArray, List.set_cons_zero, List.set_cons_succ]
            refine takeH (i := 2) (v := ?apav2) rfl rfl (by kernel_rfl) (by kernel_rfl) (by kernel_rfl) (fun _ _ _ _ => ⟨fun h _ => h, fun h => h #[]⟩) (by rfl) hHeld ?apay2 ?apar2
            case apay2 =>
              intro W' hSw
              obtain _ := hSw
              go_simp
              try with_reducible rfl
            simp only [List.setIfInBounds_toArray, List.set_cons_zero, List.set_cons_succ]
            refine takeH (i := 3) (v := ?apav3) rfl rfl (by kernel_rfl) (by kernel_rfl) (by kernel_rfl) (fun _ _ _ _ => ⟨fun h _ => h, fun h => h #[]⟩) (by rfl) hHeld ?apay3 ?apar3
            case apay3 =>
              intro W' hSw
              obtain _ := hSw
              go_simp
              try with_reducible rfl
            simp only [List.setIfInBounds_toArray, List.set_cons_zero, List.set_cons_succ]
            refine takeH (i := 5) (v := ?apav5) rfl rfl (by kernel_rfl) (by kernel_rfl) (by kernel_rfl) (fun _ _ _ _ => ⟨fun h _ => h, fun h => h #[]⟩) (by rfl) hHeld ?apay5 ?apar5
            case apay5 =>
              intro W' hSw
              obtain _ := hSw
              go_simp
              try with_reducible rfl
            simp only [List.setIfInBounds_toArray, List.set_cons_zero, List.set_cons_succ]
            refine takeH (i := 6) (v := ?apav6) rfl rfl (by kernel_rfl) (by kernel_rfl) (by kernel_rfl) (fun _ _ _ _ => ⟨fun h _ => h, fun h => h #[]⟩) (by rfl) hHeld ?apay6 ?apar6
            case apay6 =>
              intro W' hSw
              obtain _ := hSw
              go_simp
              try with_reducible rfl
            simp only [List.setIfInBounds_toArray, List.set_cons_zero, List.set_cons_succ]
            refine takeH (i := 9) (v := ?apav9) rfl rfl (by kernel_rfl) (by kernel_rfl) (by kernel_rfl) (fun _ _ _ _ => ⟨fun h _ => h, fun h => h #[]⟩) (by rfl) hHeld ?apay9 ?apar9
            case apay9 =>
              intro W' hSw
              obtain _ := hSw
              go_simp
              try with_reducible rfl
            simp only [List.setIfInBounds_toArray, List.set_cons_zero, List.set_cons_succ]
            refine wpAnyH_ready (rs := [4, 7]) (by kernel_rfl) (by simp) ?_
            refine AllReadyH.cons rfl (fun K hK => ?_) (AllReadyH.cons rfl (fun K hK => ?_) AllReadyH.nil)
            · go_simp
              refine hK.out _ _ trivial (fun _ => ?_)
              clear hK K
              try simp only [Act.put, List.setIfInBounds_toArray, List.set_cons_zero, List.set_cons_succ]
              refine wpAnyH_ready (rs := [7]) (by kernel_rfl) (by simp) ?_
              refine AllReadyH.cons rfl (fun K hK => ?_) AllReadyH.nil
              go_simp
              refine (natTimes_ An Ar cn cr nn rr _ HNN.out.drew HRR.out.drew (by have := HNL.out; omega) (by have := HRL2.out; omega)).mono ?_
              rintro e v1 ⟨A1, c1, rfl, h1, hc1, b1⟩
              have hV1 := HVD.out.later b1
              have g1 := hV1.at_ hsj
              have hVl1 := hV1.lt
              refine hK.out _ _ trivial (fun _ => ?_)
              clear hK K
              try simp only [Act.put, List.setIfInBounds_toArray, List.set_cons_zero, List.set_cons_succ]
              refine wpAnyH_ready (rs := [8]) (by kernel_rfl) (by simp) ?_
              refine AllReadyH.cons rfl (fun K hK => ?_) AllReadyH.nil
              go_simp
              refine (natPlus_ (VA 0) A1 (VC 0) c1 (f 0) (nn * rr) v1 (hV1.rd 0 hsj) h1 (by have := HFB.out 0; omega) (by have := HNB.out; omega)).mono ?_
              rintro e v2 ⟨A2, c2, rfl, h2, hc2, b2⟩
              have hV2 := hV1.later b2
              have hbd := HBD.out
              have hb2 := hbd.trans (b1.mono hbd.size)
              have hb3 := hb2.trans (b2.mono hb2.size)
              refine hK.out _ _ trivial (fun _ => ?_)
              clear hK K
              try simp only [Act.put, List.setIfInBounds_toArray, List.set_cons_zero, List.set_cons_succ]
              refine takeH (i := 10) (v := ?apbv10) rfl rfl (by kernel_rfl) (by kernel_rfl) (by kernel_rfl) (fun _ _ _ _ => ⟨fun h _ => h, fun h => h #[]⟩) (by rfl) hHeld ?apby10 ?apbr10
              case apby10 =>
                intro W' hSw
                obtain _ := hSw
                go_simp
                try with_reducible rfl
              simp only [List.setIfInBounds_toArray, List.set_cons_zero, List.set_cons_succ]
              have g2 := hV2.at_ hsj
              have g3 := hV2.free 0
              have hVl2 := hV2.lt
              have hE1 := (b1.block _ (lt_of_block HED.out)).trans HED.out
              have hE2 := (b2.block _ (lt_of_block hE1)).trans hE1
              have hpn := hV2.put hsj h2 hc2
              refine wpAnyH_ready (rs := [11]) (by kernel_rfl) (by simp) ?_
              refine AllReadyH.cons rfl (fun K hK => ?_) AllReadyH.nil
              go_simp
              refine hK.out _ _ trivial (fun _ => ?_)
              clear hK K
              refine wpAnyH_done (by kernel_rfl) ?_ _
              go_wp2_with fail
              go_meet
              exact ⟨_, _, hpn, hV2.keep ((HNN.out.drew.later b1 (Nat.le_refl _)).later b2 (Nat.le_refl _)) _ _, hV2.keep ((HRR.out.drew.later b1 (Nat.le_refl _)).later b2 (Nat.le_refl _)) _ _, hV2.keep ((HRR.out.drew.later b1 (Nat.le_refl _)).later b2 (Nat.le_refl _)) _ _, (heap_setCell_other _ _ _ _ (by show w.heap.size ≠ V; have := HVE.out; omega)).trans hE2, hb3.setCell (p := ⟨V, 0, none⟩) (by show w.heap.size ≤ V; have := HVE.out; omega) _⟩
            · go_simp
              refine (natTimes_ An Ar cn cr nn rr _ HNN.out.drew HRR.out.drew (by have := HNL.out; omega) (by have := HRL2.out; omega)).mono ?_
              rintro e v1 ⟨A1, c1, rfl, h1, hc1, b1⟩
              have hV1 := HVD.out.later b1
              have g1 := hV1.at_ hsj
              have hVl1 := hV1.lt
              refine hK.out _ _ trivial (fun _ => ?_)
              clear hK K
              try simp only [Act.put, List.setIfInBounds_toArray, List.set_cons_zero, List.set_cons_succ]
              refine wpAnyH_ready (rs := [4]) (by kernel_rfl) (by simp) ?_
              refine AllReadyH.cons rfl (fun K hK => ?_) AllReadyH.nil
              go_simp
              refine hK.out _ _ trivial (fun _ => ?_)
              clear hK K
              try simp only [Act.put, List.setIfInBounds_toArray, List.set_cons_zero, List.set_cons_succ]
              refine wpAnyH_ready (rs := [8]) (by kernel_rfl) (by simp) ?_
              refine AllReadyH.cons rfl (fun K hK => ?_) AllReadyH.nil
              go_simp
              refine (natPlus_ (VA 0) A1 (VC 0) c1 (f 0) (nn * rr) v1 (hV1.rd 0 hsj) h1 (by have := HFB.out 0; omega) (by have := HNB.out; omega)).mono ?_
              rintro e v2 ⟨A2, c2, rfl, h2, hc2, b2⟩
              have hV2 := hV1.later b2
              have hbd := HBD.out
              have hb2 := hbd.trans (b1.mono hbd.size)
              have hb3 := hb2.trans (b2.mono hb2.size)
              refine hK.out _ _ trivial (fun _ => ?_)
              clear hK K
              try simp only [Act.put, List.setIfInBounds_toArray, List.set_cons_zero, List.set_cons_succ]
              refine takeH (i := 10) (v := ?apcv10) rfl rfl (by kernel_rfl) (by kernel_rfl) (by kernel_rfl) (fun _ _ _ _ => ⟨fun h _ => h, fun h => h #[]⟩) (by rfl) hHeld ?apcy10 ?apcr10
              case apcy10 =>
                intro W' hSw
                obtain _ := hSw
                go_simp
                try with_reducible rfl
              simp only [List.setIfInBounds_toArray, List.set_cons_zero, List.set_cons_succ]
              have g2 := hV2.at_ hsj
              have g3 := hV2.free 0
              have hVl2 := hV2.lt
              have hE1 := (b1.block _ (lt_of_block HED.out)).trans HED.out
              have hE2 := (b2.block _ (lt_of_block hE1)).trans hE1
              have hpn := hV2.put hsj h2 hc2
              refine wpAnyH_ready (rs := [11]) (by kernel_rfl) (by simp) ?_
              refine AllReadyH.cons rfl (fun K hK => ?_) AllReadyH.nil
              go_simp
              refine hK.out _ _ trivial (fun _ => ?_)
              clear hK K
              refine wpAnyH_done (by kernel_rfl) ?_ _
              go_wp2_with fail
              go_meet
              exact ⟨_, _, hpn, hV2.keep ((HNN.out.drew.later b1 (Nat.le_refl _)).later b2 (Nat.le_refl _)) _ _, hV2.keep ((HRR.out.drew.later b1 (Nat.le_refl _)).later b2 (Nat.le_refl _)) _ _, hV2.keep ((HRR.out.drew.later b1 (Nat.le_refl _)).later b2 (Nat.le_refl _)) _ _, (heap_setCell_other _ _ _ _ (by show w.heap.size ≠ V; have := HVE.out; omega)).trans hE2, hb3.setCell (p := ⟨V, 0, none⟩) (by show w.heap.size ≤ V; have := HVE.out; omega) _⟩
          case rest =>
            obtain ⟨UA, UC, hV13, hnn, hrr, hmm, hE13, hbw13⟩ := hcut
            clear g0 hVl hwl
            obtain ⟨f1, hf1⟩ : ∃ f1, f1 = upD f 0 (f 0 + nn * rr) := ⟨_, rfl⟩
            rw [← hf1] at hV13
            have hfb1 : ∀ j, nl (f1 j) ≤ 8796093022250 := fun j => by
              rw [hf1]
              by_cases e : j = 0
              · rw [e, upD_same]; exact HFS.out
              · rw [upD_other _ _ e]; exact HFB.out j
            obtain ⟨w13, rfl⟩ : ∃ w13 : World, w13 = wc := ⟨_, rfl⟩
            have hVDb : VB w13.drew V f1 UA UC := hV13.drew
            have hEDb : w13.drew.heap[w.heap.size]? = some (.cells #[.slice none 0 0, .slice none 0 0, .slice none 0 0, .slice none 0 0] 101 (0, 0)) := hE13
            have hBDb : Below w.heap.size w w13.drew := hbw13.drew
            have hVl := hV13.lt
            have hwl := hVDb.lt
            have HNNb := Lib.hid hnn
            have HRRb := Lib.hid hrr
            have HMMb := Lib.hid hmm
            have g0 : w13.drew.cell? ⟨V, 2, none⟩ = some (.slice (UA 2) (nl (f1 2)) (UC 2)) := hVDb.at_ (by decide)
            have HFBb := Lib.hid hfb1
            have HVDb := Lib.hid hVDb
            have HEDb := Lib.hid hEDb
            have HBDb := Lib.hid hBDb
            clear hnn hrr hmm hsj hfb1 hVDb hEDb hBDb
            have HV13 := Lib.hid hV13; have HE13 := Lib.hid hE13; have HBW13 := Lib.hid hbw13; have HF1 := Lib.hid hf1; clear hV13 hE13 hbw13 hf1
            go_upto_region 14 with fail
            have hsj : 2 < 4 := by decide
            refine wp_region_held_drew (S := fun _ => True) (by kernel_rfl) trivial (fun hHeld => ?_)
            refine takeH (i := 0) (v := ?aqav0) rfl rfl (by kernel_rfl) (by kernel_rfl) (by kernel_rfl) (fun _ _ _ _ => ⟨fun h _ => h, fun h => h #[]⟩) (by rfl) hHeld ?aqay0 ?aqar0
            case aqay0 =>
              intro W' hSw
              obtain _ := hSw
              go_simp
              try with_reducible rfl
            simp only [List.setIfInBounds_toArray, List.set_cons_zero, List.set_cons_succ]
            refine takeH (i := 1) (v := ?aqav1) rfl rfl (by kernel_rfl) (by kernel_rfl) (by kernel_rfl) (fun _ _ _ _ => ⟨fun h _ => h, fun h => h #[]⟩) (by rfl) hHeld ?aqay1 ?aqar1
            case aqay1 =>
              intro W' hSw
              obtain _ := hSw
              go_simp
              try with_reducible rfl
            simp only [List.setIfInBounds_toArray, List.set_cons_zero, List.set_cons_succ]
            refine takeH (i := 2) (v := ?aqav2) rfl rfl (by kernel_rfl) (by kernel_rfl) (by kernel_rfl) (fun _ _ _ _ => ⟨fun h _ => h, fun h => h #[]⟩) (by rfl) hHeld ?aqay2 ?aqar2
            case aqay2 =>
              intro W' hSw
              obtain _ := hSw
              go_simp
              try with_reducible rfl
            simp only [List.setIfInBounds_toArray, List.set_cons_zero, List.set_cons_succ]
            refine takeH (i := 3) (v := ?aqav3) rfl rfl (by kernel_rfl) (by kernel_rfl) (by kernel_rfl) (fun _ _ _ _ => ⟨fun h _ => h, fun h => h #[]⟩) (by rfl) hHeld ?aqay3 ?aqar3
            case aqay3 =>
              intro W' hSw
              obtain _ := hSw
              go_simp
              try with_reducible rfl
            simp only [List.setIfInBounds_toArray, List.set_cons_zero, List.set_cons_succ]
            refine takeH (i := 5) (v := ?aqav5) rfl rfl (by kernel_rfl) (by kernel_rfl) (by kernel_rfl) (fun _ _ _ _ => ⟨fun h _ => h, fun h => h #[]⟩) (by rfl) hHeld ?aqay5 ?aqar5
            case aqay5 =>
              intro W' hSw
              obtain _ := hSw
              go_simp
              try with_reducible rfl
            simp only [List.setIfInBounds_toArray, List.set_cons_zero, List.set_cons_succ]
            refine takeH (i := 6) (v := ?aqav6) rfl rfl (by kernel_rfl) (by kernel_rfl) (by kernel_rfl) (fun _ _ _ _ => ⟨fun h _ => h, fun h => h #[]⟩) (by rfl) hHeld ?aqay6 ?aqar6
            case aqay6 =>
              intro W' hSw
              obtain _ := hSw
              go_simp
              try with_reducible rfl
            simp only [List.setIfInBounds_toArray, List.set_cons_zero, List.set_cons_succ]
            refine takeH (i := 9) (v := ?aqav9) rfl rfl (by kernel_rfl) (by kernel_rfl) (by kernel_rfl) (fun _ _ _ _ => ⟨fun h _ => h, fun h => h #[]⟩) (by rfl) hHeld ?aqay9 ?aqar9
            case aqay9 =>
              intro W' hSw
              obtain _ := hSw
              go_simp
              try with_reducible rfl
            simp only [List.setIfInBounds_toArray, List.set_cons_zero, List.set_cons_succ]
            refine wpAnyH_ready (rs := [4, 7]) (by kernel_rfl) (by simp) ?_
            refine AllReadyH.cons rfl (fun K hK => ?_) (AllReadyH.cons rfl (fun K hK => ?_) AllReadyH.nil)
            · go_simp
              refine hK.out _ _ trivial (fun _ => ?_)
              clear hK K
              try simp only [Act.put, List.setIfInBounds_toArray, List.set_cons_zero, List.set_cons_succ]
              refine wpAnyH_ready (rs := [7]) (by kernel_rfl) (by simp) ?_
              refine AllReadyH.cons rfl (fun K hK => ?_) AllReadyH.nil
              go_simp
              refine (natTimes_ An Ar cn cr nn rr _ HNNb.out.drew HRRb.out.drew (by have := HNL.out; omega) (by have := HRL2.out; omega)).mono ?_
              rintro e v1 ⟨A1, c1, rfl, h1, hc1, b1⟩
              have hV1 := HVDb.out.later b1
              have g1 := hV1.at_ hsj
              have hVl1 := hV1.lt
              refine hK.out _ _ trivial (fun _ => ?_)
              clear hK K
              try simp only [Act.put, List.setIfInBounds_toArray, List.set_cons_zero, List.set_cons_succ]
              refine wpAnyH_ready (rs := [8]) (by kernel_rfl) (by simp) ?_
              refine AllReadyH.cons rfl (fun K hK => ?_) AllReadyH.nil
              go_simp
              refine (natPlus_ (UA 2) A1 (UC 2) c1 (f1 2) (nn * rr) v1 (hV1.rd 2 hsj) h1 (by have := HFBb.out 2; omega) (by have := HNB.out; omega)).mono ?_
              rintro e v2 ⟨A2, c2, rfl, h2, hc2, b2⟩
              have hV2 := hV1.later b2
              have hbd := HBDb.out
              have hb2 := hbd.trans (b1.mono hbd.size)
              have hb3 := hb2.trans (b2.mono hb2.size)
              refine hK.out _ _ trivial (fun _ => ?_)
              clear hK K
              try simp only [Act.put, List.setIfInBounds_toArray, List.set_cons_zero, List.set_cons_succ]
              refine takeH (i := 10) (v := ?aqbv10) rfl rfl (by kernel_rfl) (by kernel_rfl) (by kernel_rfl) (fun _ _ _ _ => ⟨fun h _ => h, fun h => h #[]⟩) (by rfl) hHeld ?aqby10 ?aqbr10
              case aqby10 =>
                intro W' hSw
                obtain _ := hSw
                go_simp
                try with_reducible rfl
              simp only [List.setIfInBounds_toArray, List.set_cons_zero, List.set_cons_succ]
              have g2 := hV2.at_ hsj
              have g3 := hV2.free 2
              have hVl2 := hV2.lt
              have hE1 := (b1.block _ (lt_of_block HEDb.out)).trans HEDb.out
              have hE2 := (b2.block _ (lt_of_block hE1)).trans hE1
              have hpn := hV2.put hsj h2 hc2
              refine wpAnyH_ready (rs := [11]) (by kernel_rfl) (by simp) ?_
              refine AllReadyH.cons rfl (fun K hK => ?_) AllReadyH.nil
              go_simp
              refine hK.out _ _ trivial (fun _ => ?_)
              clear hK K
              refine wpAnyH_done (by kernel_rfl) ?_ _
              have hE14 := (heap_setCell_other v2 ⟨V, 2, none⟩ w.heap.size (.slice A2 (nl (f1 2 + nn * rr)) c2) (by show w.heap.size ≠ V; have := HVE.out; omega)).trans hE2
              have hbw14 := hb3.setCell (p := ⟨V, 2, none⟩) (by show w.heap.size ≤ V; have := HVE.out; omega) (.slice A2 (nl (f1 2 + nn * rr)) c2)
              have hVn := hpn.eqv (f' := vF sc bits (xs.take (k + 1))) fun j hj => by
                have l0 := HLS.out 0
                have l1 := HLS.out 1
                have h0 := HHS.out 0
                have h1 := HHS.out 1
                rw [HF1.out, HFE.out]
                have hq := HMEQ.out
                have hr9 := HRE.out
                rcases four hj with rfl | rfl | rfl | rfl <;> simp [upD, vF, l0, l1, h0, h1, HNNE.out, ← hq, ← hr9]
              clear hVl hwl hpn hE2 hE1 hV2 hV1 g1 g2 g3 hVl1 hVl2 hsj
              have HVN := Lib.hid hVn; have HE14 := Lib.hid hE14; have HBW14 := Lib.hid hbw14; clear hVn hE14 hbw14
              go_wp2
              go_roundw
              case rel => exact ⟨k + 1, _, _, by go_num, by omega, HVN.out, HE14.out, HBW14.out⟩
              case measure => simp [intOf]; omega
            · go_simp
              refine (natTimes_ An Ar cn cr nn rr _ HNNb.out.drew HRRb.out.drew (by have := HNL.out; omega) (by have := HRL2.out; omega)).mono ?_
              rintro e v1 ⟨A1, c1, rfl, h1, hc1, b1⟩
              have hV1 := HVDb.out.later b1
              have g1 := hV1.at_ hsj
              have hVl1 := hV1.lt
              refine hK.out _ _ trivial (fun _ => ?_)
              clear hK K
              try simp only [Act.put, List.setIfInBounds_toArray, List.set_cons_zero, List.set_cons_succ]
              refine wpAnyH_ready (rs := [4]) (by kernel_rfl) (by simp) ?_
              refine AllReadyH.cons rfl (fun K hK => ?_) AllReadyH.nil
              go_simp
              refine hK.out _ _ trivial (fun _ => ?_)
              clear hK K
              try simp only [Act.put, List.setIfInBounds_toArray, List.set_cons_zero, List.set_cons_succ]
              refine wpAnyH_ready (rs := [8]) (by kernel_rfl) (by simp) ?_
              refine AllReadyH.cons rfl (fun K hK => ?_) AllReadyH.nil
              go_simp
              refine (natPlus_ (UA 2) A1 (UC 2) c1 (f1 2) (nn * rr) v1 (hV1.rd 2 hsj) h1 (by have := HFBb.out 2; omega) (by have := HNB.out; omega)).mono ?_
              rintro e v2 ⟨A2, c2, rfl, h2, hc2, b2⟩
              have hV2 := hV1.later b2
              have hbd := HBDb.out
              have hb2 := hbd.trans (b1.mono hbd.size)
              have hb3 := hb2.trans (b2.mono hb2.size)
              refine hK.out _ _ trivial (fun _ => ?_)
              clear hK K
              try simp only [Act.put, List.setIfInBounds_toArray, List.set_cons_zero, List.set_cons_succ]
              refine takeH (i := 10) (v := ?aqcv10) rfl rfl (by kernel_rfl) (by kernel_rfl) (by kernel_rfl) (fun _ _ _ _ => ⟨fun h _ => h, fun h => h #[]⟩) (by rfl) hHeld ?aqcy10 ?aqcr10
              case aqcy10 =>
                intro W' hSw
                obtain _ := hSw
                go_simp
                try with_reducible rfl
              simp only [List.setIfInBounds_toArray, List.set_cons_zero, List.set_cons_succ]
              have g2 := hV2.at_ hsj
              have g3 := hV2.free 2
              have hVl2 := hV2.lt
              have hE1 := (b1.block _ (lt_of_block HEDb.out)).trans HEDb.out
              have hE2 := (b2.block _ (lt_of_block hE1)).trans hE1
              have hpn := hV2.put hsj h2 hc2
              refine wpAnyH_ready (rs := [11]) (by kernel_rfl) (by simp) ?_
              refine AllReadyH.cons rfl (fun K hK => ?_) AllReadyH.nil
              go_simp
              refine hK.out _ _ trivial (fun _ => ?_)
              clear hK K
              refine wpAnyH_done (by kernel_rfl) ?_ _
              have hE14 := (heap_setCell_other v2 ⟨V, 2, none⟩ w.heap.size (.slice A2 (nl (f1 2 + nn * rr)) c2) (by show w.heap.size ≠ V; have := HVE.out; omega)).trans hE2
              have hbw14 := hb3.setCell (p := ⟨V, 2, none⟩) (by show w.heap.size ≤ V; have := HVE.out; omega) (.slice A2 (nl (f1 2 + nn * rr)) c2)
              have hVn := hpn.eqv (f' := vF sc bits (xs.take (k + 1))) fun j hj => by
                have l0 := HLS.out 0
                have l1 := HLS.out 1
                have h0 := HHS.out 0
                have h1 := HHS.out 1
                rw [HF1.out, HFE.out]
                have hq := HMEQ.out
                have hr9 := HRE.out
                rcases four hj with rfl | rfl | rfl | rfl <;> simp [upD, vF, l0, l1, h0, h1, HNNE.out, ← hq, ← hr9]
              clear hVl hwl hpn hE2 hE1 hV2 hV1 g1 g2 g3 hVl1 hVl2 hsj
              have HVN := Lib.hid hVn; have HE14 := Lib.hid hE14; have HBW14 := Lib.hid hbw14; clear hVn hE14 hbw14
              go_wp2
              go_roundw
              case rel => exact ⟨k + 1, _, _, by go_num, by omega, HVN.out, HE14.out, HBW14.out⟩
              case measure => simp [intOf]; omega
    · obtain rfl : k = xs.length := by omega
      rw [List.take_length] at hV
      have x3 : ¬ (xs.length : Int) < (xs.length : Int) := by omega
      have v0 := hV.at_ (show 0 < 4 by decide)
      have v1 := hV.at_ (show 1 < 4 by decide)
      have v2 := hV.at_ (show 2 < 4 by decide)
      have v3 := hV.at_ (show 3 < 4 by decide)
      have hVl := hV.lt
      have hEl := lt_of_block hE
      have f0 := frozen_of_row _ _ 0 _ _ hE
      have f1 := frozen_of_row _ _ 1 _ _ hE
      have f2 := frozen_of_row _ _ 2 _ _ hE
      have f3 := frozen_of_row _ _ 3 _ _ hE
      have c0 := cell_of_row _ _ 0 _ _ _ hE
      have c1 := cell_of_row _ _ 1 _ _ _ hE
      have c2 := cell_of_row _ _ 2 _ _ _ hE
      have c3 := cell_of_row _ _ 3 _ _ _ hE
      simp only [List.getElem?_toArray, List.getElem?_cons_zero, List.getElem?_cons_succ] at c0 c1 c2 c3
      have hrd := hV.rd
      have hcp := hV.cp
      generalize vF sc bits xs = f at *
      have HV := Lib.hid hV; have HE := Lib.hid hE; have HBW := Lib.hid hbw; have HRD := Lib.hid hrd; have HCP := Lib.hid hcp; clear hV hE hbw hrd hcp
      go_wp2
      have hW4 : (((((wr.setCell ⟨w.heap.size, 0, none⟩ (.slice (VA 0) (nl (f 0)) (VC 0))).setCell ⟨w.heap.size, 1, none⟩ (.slice (VA 1) (nl (f 1)) (VC 1))).setCell ⟨w.heap.size, 2, none⟩ (.slice (VA 2) (nl (f 2)) (VC 2))).setCell ⟨w.heap.size, 3, none⟩ (.slice (VA 3) (nl (f 3)) (VC 3))) : World).heap[w.heap.size]? = some (.cells #[.slice (VA 0) (nl (f 0)) (VC 0), .slice (VA 1) (nl (f 1)) (VC 1), .slice (VA 2) (nl (f 2)) (VC 2), .slice (VA 3) (nl (f 3)) (VC 3)] 101 (0, 0)) := by
        have k0 := heap_setCell_same wr w.heap.size 0 _ _ (.slice (VA 0) (nl (f 0)) (VC 0)) HE.out
        have k1 := heap_setCell_same _ w.heap.size 1 _ _ (.slice (VA 1) (nl (f 1)) (VC 1)) k0
        have k2 := heap_setCell_same _ w.heap.size 2 _ _ (.slice (VA 2) (nl (f 2)) (VC 2)) k1
        have k3 := heap_setCell_same _ w.heap.size 3 _ _ (.slice (VA 3) (nl (f 3)) (VC 3)) k2
        exact k3
      have hB4 : Below w.heap.size w ((((wr.setCell ⟨w.heap.size, 0, none⟩ (.slice (VA 0) (nl (f 0)) (VC 0))).setCell ⟨w.heap.size, 1, none⟩ (.slice (VA 1) (nl (f 1)) (VC 1))).setCell ⟨w.heap.size, 2, none⟩ (.slice (VA 2) (nl (f 2)) (VC 2))).setCell ⟨w.heap.size, 3, none⟩ (.slice (VA 3) (nl (f 3)) (VC 3))) := (((HBW.out.setCell (Nat.le_refl _) _).setCell (Nat.le_refl _) _).setCell (Nat.le_refl _) _).setCell (Nat.le_refl _) _
      have hR4 : ∀ j, j < 4 → RdN ((((wr.setCell ⟨w.heap.size, 0, none⟩ (.slice (VA 0) (nl (f 0)) (VC 0))).setCell ⟨w.heap.size, 1, none⟩ (.slice (VA 1) (nl (f 1)) (VC 1))).setCell ⟨w.heap.size, 2, none⟩ (.slice (VA 2) (nl (f 2)) (VC 2))).setCell ⟨w.heap.size, 3, none⟩ (.slice (VA 3) (nl (f 3)) (VC 3))) (VA j) (f j) := fun j hj h0 => by
        obtain ⟨b, off, e, hlt, hc⟩ := HRD.out j hj h0
        have hne : w.heap.size ≠ b := fun eb => by
          subst eb
          have h1 := hc 0 h0
          rw [cell_of_row _ _ (off + 0) _ _ _ HE.out] at h1
          have h2 : off + 0 < 4 := by
            have := (Array.getElem?_eq_some_iff.1 h1).1
            simpa using this
          rcases four h2 with e | e | e | e <;> (rw [e] at h1; simp at h1)
        refine ⟨b, off, e, by simpa using hlt, fun i hi => ?_⟩
        rw [World.cell?_setCell_far _ _ _ _ (by exact hne), World.cell?_setCell_far _ _ _ _ (by exact hne), World.cell?_setCell_far _ _ _ _ (by exact hne), World.cell?_setCell_far _ _ _ _ (by exact hne)]
        exact hc i hi
      generalize (((wr.setCell ⟨w.heap.size, 0, none⟩ (.slice (VA 0) (nl (f 0)) (VC 0))).setCell ⟨w.heap.size, 1, none⟩ (.slice (VA 1) (nl (f 1)) (VC 1))).setCell ⟨w.heap.size, 2, none⟩ (.slice (VA 2) (nl (f 2)) (VC 2))).setCell ⟨w.heap.size, 3, none⟩ (.slice (VA 3) (nl (f 3)) (VC 3)) = w4 at *
      clear v0 v1 v2 v3 c0 c1 c2 c3 f0 f1 f2 f3 hVl hEl
      have v0 := cell_of_row _ _ 0 _ _ _ hW4
      have v1 := cell_of_row _ _ 1 _ _ _ hW4
      have v2 := cell_of_row _ _ 2 _ _ _ hW4
      have v3 := cell_of_row _ _ 3 _ _ _ hW4
      simp only [List.getElem?_toArray, List.getElem?_cons_zero, List.getElem?_cons_succ] at v0 v1 v2 v3
      have hEl := lt_of_block hW4
      have HW4 := Lib.hid hW4; have HB4 := Lib.hid hB4; have HR4 := Lib.hid hR4; clear hW4 hB4 hR4
      exact bodyPost_ret (v := .agg #[.slice (VA 0) (nl (f 0)) (VC 0), .slice (VA 1) (nl (f 1)) (VC 1), .slice (VA 2) (nl (f 2)) (VC 2), .slice (VA 3) (nl (f 3)) (VC 3)]) (by simp [results, Try.results56, go_sem, v0, v1, v2, v3]) rfl ⟨VA, VC, rfl, fun j hj => ⟨HR4.out j hj, HCP.out j hj⟩, HB4.out⟩
end Go.Proofs.Ytlmhgcllikcedaa
/- What is wrong with a sum of roots. -/
namespace Go.Proofs.Ytlmhgcllikcedaa
open Go.RowKit

def wrongB (x : Int × Int) : Bool := decide (x.1 = 0) || decide (x.1 < -1000000000) || decide (1000000000 < x.1)
def rngB (x : Int × Int) : Bool := wrongB x || decide (x.2 < 1) || decide (1000000000000 < x.2)
def sqfB (s : Nat) : Bool := decide (0 < s) && (List.range (s + 1)).all fun d => decide (d ≤ 1) || decide (¬ d * d ∣ s)
theorem sqfB_iff {s : Nat} : sqfB s = true ↔ SqF s := by
  unfold sqfB SqF
  rw [Bool.and_eq_true, decide_eq_true_eq, List.all_eq_true]
  refine and_congr_right fun h0 => ⟨fun h d hd hdv => ?_, fun h d hd => ?_⟩
  · have hle : d ≤ s := by
      have h1 := Nat.le_of_dvd h0 hdv
      have h2 := Nat.mul_le_mul_left d (show 1 ≤ d by omega)
      omega
    have := h d (List.mem_range.2 (by omega))
    rw [Bool.or_eq_true, decide_eq_true_eq, decide_eq_true_eq] at this
    rcases this with h3 | h3
    · omega
    · exact h3 hdv
  · rw [Bool.or_eq_true, decide_eq_true_eq, decide_eq_true_eq]
    rcases Nat.lt_or_ge 1 d with h1 | h1
    · exact .inr (h d h1)
    · exact .inl h1
/-- Without squares, and ascending from p on. -/
def normB : Int → List (Int × Int) → Bool
  | _, [] => true
  | p, x :: l => sqfB x.2.toNat && decide (p < x.2) && normB x.2 l
def lastS : Int → List (Int × Int) → Int
  | p, [] => p
  | _, x :: l => lastS x.2 l
theorem normB_app : ∀ (l m : List (Int × Int)) (p : Int), normB p (l ++ m) = (normB p l && normB (lastS p l) m)
  | [], m, p => by simp [normB, lastS]
  | x :: l, m, p => by rw [List.cons_append, normB, normB, normB_app l m, lastS]; simp [Bool.and_assoc]
theorem lastS_snoc (x : Int × Int) : ∀ (l : List (Int × Int)) (p : Int), lastS p (l ++ [x]) = x.2
  | [], _ => rfl
  | y :: l, p => by rw [List.cons_append, lastS]; exact lastS_snoc x l y.2
def chkE (xs : List (Int × Int)) : Int := if 64 < xs.length then 3 else if xs.any rngB = true then 7 else if normB 0 xs = true then 0 else 6
def BoolPost (b : Bool) (w : World) (e : Ending) (w' : World) : Prop := e = .returned (.bool b) ∧ Below w.heap.size w w'
set_option maxRecDepth 100000 in
set_option maxHeartbeats 2000000 in
theorem wrongK_ (K S : Int) (w : World) : Calls Try.prog 52 #[.agg #[.int .i64 K, .int .i64 S]] w (BoolPost (wrongB (K, S)) w) := by
  have hb : Below w.heap.size w (w.alloc (.cells #[.int .i64 K, .int .i64 S] 26)) := (Below.refl _ _).alloc (Nat.le_refl _) _
  by_cases h0 : K = 0
  · have hr : wrongB (K, S) = true := by unfold wrongB; simp [h0]
    subst h0
    have HB := Lib.hid hb; have HR := Lib.hid hr; clear hb hr
    go_enter Try.func52, Try.ntmps52
    go_wp2
    go_ret
    exact ⟨by rw [HR.out]; rfl, HB.out⟩
  · have f0 : (K == 0) = false := by rw [beq_eq_false_iff_ne]; exact h0
    have hr : wrongB (K, S) = (decide (K < -1000000000) || decide (1000000000 < K)) := by unfold wrongB; simp [h0]
    by_cases h1 : K < -1000000000
    · have f1 : decide (K < -1000000000) = true := decide_eq_true h1
      rw [f1] at hr
      have hr2 : wrongB (K, S) = true := hr
      clear hr
      have HB := Lib.hid hb; have HR2 := Lib.hid hr2; clear hb hr2
      go_enter Try.func52, Try.ntmps52
      go_wp2
      go_ret
      exact ⟨by rw [HR2.out]; rfl, HB.out⟩
    · have f1 : decide (K < -1000000000) = false := decide_eq_false h1
      rw [f1, Bool.false_or] at hr
      by_cases h2 : 1000000000 < K
      · have f2 : decide (1000000000 < K) = true := decide_eq_true h2
        rw [f2] at hr
        have HB := Lib.hid hb; have HR := Lib.hid hr; clear hb hr
        go_enter Try.func52, Try.ntmps52
        go_wp2
        go_ret
        exact ⟨by rw [HR.out]; rfl, HB.out⟩
      · have f2 : decide (1000000000 < K) = false := decide_eq_false h2
        rw [f2] at hr
        have HB := Lib.hid hb; have HR := Lib.hid hr; clear hb hr
        go_enter Try.func52, Try.ntmps52
        go_wp2
        go_ret
        exact ⟨by rw [HR.out]; rfl, HB.out⟩
set_option maxRecDepth 100000 in
set_option maxHeartbeats 2000000 in
theorem tnCheck1_ (x : Int × Int) (w : World) : Calls Try.prog 51 #[.agg #[.int .i64 x.1, .int .i64 x.2]] w (BoolPost (rngB x) w) := by
  obtain ⟨K, S⟩ := x
  have hb : Below w.heap.size w (w.alloc (.cells #[.int .i64 K, .int .i64 S] 26)) := (Below.refl _ _).alloc (Nat.le_refl _) _
  have hx := heap_alloc_new w (.cells #[.int .i64 K, .int .i64 S] 26)
  have hr : rngB (K, S) = (wrongB (K, S) || decide (S < 1) || decide (1000000000000 < S)) := rfl
  have HB := Lib.hid hb; have HX := Lib.hid hx; clear hb hx
  go_enter Try.func51, Try.ntmps51
  go_wp2_with fail
  refine (wrongK_ K S _).mono ?_
  rintro e w1 ⟨rfl, b1⟩
  have hb1 := HB.out.trans (b1.mono HB.out.size)
  have hx1 := (b1.block _ (lt_of_block HX.out)).trans HX.out
  have c1 := cell_of_row _ _ 1 _ _ _ hx1
  simp only [List.getElem?_toArray, List.getElem?_cons_zero, List.getElem?_cons_succ] at c1
  have hl := lt_of_block hx1
  clear b1 HX HB
  cases hw : wrongB (K, S) with
  | true =>
    rw [hw] at hr
    have hr2 : rngB (K, S) = true := hr
    clear hr
    have HB1 := Lib.hid hb1; have HX1 := Lib.hid hx1; have HR2 := Lib.hid hr2; have HW := Lib.hid hw; clear hb1 hx1 hr2 hw
    go_wp2
    go_ret
    exact ⟨by rw [HR2.out]; rfl, HB1.out⟩
  | false =>
    rw [hw, Bool.false_or] at hr
    by_cases h1 : S < 1
    · have f1 : decide (S < 1) = true := decide_eq_true h1
      rw [f1] at hr
      have hr2 : rngB (K, S) = true := hr
      clear hr
      have HB1 := Lib.hid hb1; have HX1 := Lib.hid hx1; have HR2 := Lib.hid hr2; have HW := Lib.hid hw; clear hb1 hx1 hr2 hw
      go_wp2
      go_ret
      exact ⟨by rw [HR2.out]; rfl, HB1.out⟩
    · have f1 : decide (S < 1) = false := decide_eq_false h1
      rw [f1, Bool.false_or] at hr
      by_cases h2 : 1000000000000 < S
      · have f2 : decide (1000000000000 < S) = true := decide_eq_true h2
        rw [f2] at hr
        have HB1 := Lib.hid hb1; have HX1 := Lib.hid hx1; have HR := Lib.hid hr; have HW := Lib.hid hw; clear hb1 hx1 hr hw
        go_wp2
        go_ret
        exact ⟨by rw [HR.out]; rfl, HB1.out⟩
      · have f2 : decide (1000000000000 < S) = false := decide_eq_false h2
        rw [f2] at hr
        have HB1 := Lib.hid hb1; have HX1 := Lib.hid hx1; have HR := Lib.hid hr; have HW := Lib.hid hw; clear hb1 hx1 hr hw
        go_wp2
        go_ret
        exact ⟨by rw [HR.out]; rfl, HB1.out⟩
set_option maxRecDepth 100000 in
set_option maxHeartbeats 2000000 in
theorem tnBounds1_ (x : Int × Int) (w : World) : Calls Try.prog 55 #[.agg #[.int .i64 x.1, .int .i64 x.2]] w (BoolPost (decide (1 < x.2)) w) := by
  obtain ⟨K, S⟩ := x
  have hb : Below w.heap.size w (w.alloc (.cells #[.int .i64 K, .int .i64 S] 26)) := (Below.refl _ _).alloc (Nat.le_refl _) _
  have HB := Lib.hid hb; clear hb
  go_enter Try.func55, Try.ntmps55
  go_wp2
  go_ret
  exact ⟨rfl, HB.out⟩
/-- The first root that a function asks for. -/
def IdxRP (b : Bool) (w : World) (e : Ending) (w' : World) : Prop := ∃ r : Int, e = .returned (.int .i64 r) ∧ decide (0 ≤ r) = b ∧ Below w.heap.size w w'
theorem any_succR (l : List (Int × Int)) (p : Int × Int → Bool) (k : Nat) (h : k < l.length) : (l.take (k + 1)).any p = ((l.take k).any p || p l[k]) := by
  rw [List.take_succ_eq_append_getElem h, List.any_append]; simp
set_option maxRecDepth 100000 in
set_option maxHeartbeats 2000000 in
theorem indR_ (f : FuncId) (hff : f = 51 ∨ f = 55) (g : Int × Int → Bool) (hf : ∀ (x : Int × Int) (W : World), Calls Try.prog f #[.agg #[.int .i64 x.1, .int .i64 x.2]] W (BoolPost (g x) W)) (A : Option Addr) (c : Nat) (xs : List (Int × Int)) (w : World) (hr : RdR w A xs) :
    Calls Try.prog 89 #[.slice A xs.length c, .func (.func f) #[] #[]] w (IdxRP (xs.any g) w) := by
  have hln := hr.1
  have hb := Below.refl w.heap.size w
  have HR := Lib.hid hr; have HB := Lib.hid hb; have HF := Lib.hid hf; have HFF := Lib.hid hff; clear hr hb hf hff
  go_enter Try.func89, Try.ntmps89
  go_wp2
  go_loopw [5, 8] (fun _ iv wr => ∃ k : Nat, iv = .int .i64 k ∧ k ≤ xs.length ∧ (xs.take k).any g = false ∧ Below w.heap.size w wr) (fun _ iv _ => xs.length - (intOf iv).toNat)
  case atStart => exact ⟨0, rfl, Nat.zero_le _, rfl, HB.out⟩
  case round =>
    obtain ⟨k, rfl, hk, hno, hbw⟩ := hrel
    by_cases hlt : k < xs.length
    · obtain ⟨bl, ol, rfl, hbl, l1, l2⟩ := (HR.out.later hbw (Nat.le_refl _)).at_ hlt
      have hts := any_succR xs g k hlt
      have hhit : g xs[k] = true → xs.any g = true := fun h => List.any_eq_true.2 ⟨_, List.getElem_mem hlt, h⟩
      have hcall := fun W => HF.out xs[k] W
      generalize xs[k] = x at *
      have x1 : (0 : Int) ≤ (k : Int) := by omega
      have x2 : (k : Int) < (xs.length : Int) := by omega
      rcases HFF.out with rfl | rfl
      all_goals
        cases hg : g x with
        | true =>
          have hres := hhit hg
          rw [hg] at hcall
          clear hhit
          have HNO := Lib.hid hno; have HTS := Lib.hid hts; have HRES := Lib.hid hres; have HBW := Lib.hid hbw; have HCALL := Lib.hid hcall; have HG := Lib.hid hg; clear hno hts hres hbw hcall hg
          go_wp2_with fail
          refine (HCALL.out _).mono ?_
          rintro e w1 ⟨rfl, b1⟩
          have hb1 := HBW.out.trans (b1.mono HBW.out.size)
          clear b1
          have HB1 := Lib.hid hb1; clear hb1
          go_wp2
          go_ret
          exact ⟨k, rfl, by rw [HRES.out]; simp, HB1.out⟩
        | false =>
          have hno2 : (xs.take (k + 1)).any g = false := by rw [hts, hno, hg]; rfl
          rw [hg] at hcall
          clear hhit
          have HNO := Lib.hid hno; have HTS := Lib.hid hts; have HNO2 := Lib.hid hno2; have HBW := Lib.hid hbw; have HCALL := Lib.hid hcall; have HG := Lib.hid hg; clear hno hts hno2 hbw hcall hg
          go_wp2_with fail
          refine (HCALL.out _).mono ?_
          rintro e w1 ⟨rfl, b1⟩
          have hb1 := HBW.out.trans (b1.mono HBW.out.size)
          clear b1
          have HB1 := Lib.hid hb1; clear hb1
          go_wp2
          go_roundw
          case rel => exact ⟨k + 1, by go_num, by omega, HNO2.out, HB1.out⟩
          case measure => simp [intOf]; omega
    · have hres : xs.any g = false := by
        obtain rfl : k = xs.length := by omega
        rwa [List.take_length] at hno
      have HNO := Lib.hid hno; have HRES := Lib.hid hres; have HBW := Lib.hid hbw; clear hno hres hbw
      go_wp2
      go_ret
      exact ⟨-1, rfl, by rw [HRES.out]; simp, HBW.out⟩
set_option maxRecDepth 100000 in
set_option maxHeartbeats 2000000 in
theorem contR_ (f : FuncId) (hff : f = 51 ∨ f = 55) (g : Int × Int → Bool) (hf : ∀ (x : Int × Int) (W : World), Calls Try.prog f #[.agg #[.int .i64 x.1, .int .i64 x.2]] W (BoolPost (g x) W)) (A : Option Addr) (c : Nat) (xs : List (Int × Int)) (w : World) (hr : RdR w A xs) :
    Calls Try.prog 50 #[.slice A xs.length c, .func (.func f) #[] #[]] w (BoolPost (xs.any g) w) := by
  have HR := Lib.hid hr; have HF := Lib.hid hf; have HFF := Lib.hid hff; clear hr hf hff
  go_enter Try.func50, Try.ntmps50
  go_wp2_with fail
  refine (indR_ f HFF.out g HF.out A c xs _ HR.out).mono ?_
  rintro e w1 ⟨r, rfl, hr2, hb⟩
  have HR2 := Lib.hid hr2; have HB := Lib.hid hb; clear hr2 hb
  go_wp2
  go_ret
  exact ⟨ret_bool HR2.out, HB.out⟩
end Go.Proofs.Ytlmhgcllikcedaa
/- Check of a sum. -/
namespace Go.Proofs.Ytlmhgcllikcedaa
open Go.RowKit

theorem sqf_one {n : Int} (h0 : 0 < n) (h1 : n ≤ 1000000000000) {K S x : Int} (h : (n < 0 ∨ 1000000000000 < n → K = 0 ∧ S = 0 ∧ x = 7) ∧ (n = 0 → K = 0 ∧ S = 1 ∧ x = 0) ∧ (0 < n → n ≤ 1000000000000 → x = 0 ∧ 0 < K ∧ 0 < S ∧ IsRt n.toNat K.toNat S.toNat)) : K = 1 ↔ sqfB n.toNat = true := by
  obtain ⟨_, hK, hS, hr⟩ := h.2.2 h0 h1
  rw [sqfB_iff]
  constructor
  · intro hk
    subst hk
    have h2 := hr.1
    have : n.toNat = S.toNat := by simpa using h2
    rw [this]; exact hr.2
  · intro hs
    have := (isRt_unique (n := n.toNat) (by omega) hr ⟨by simp, hs⟩ : K.toNat = 1 ∧ _).1
    omega
set_option maxRecDepth 100000 in
set_option maxHeartbeats 4000000 in
theorem tnCheck_ (A : Option Addr) (c : Nat) (xs : List (Int × Int)) (w : World) (hr : RdR w A xs) :
    Calls Try.prog 18 #[.slice A xs.length c] w fun e w' => e = .returned (.int .i64 (chkE xs)) ∧ Below w.heap.size w w' := by
  have hln := hr.1
  have hb := Below.refl w.heap.size w
  by_cases hlong : 64 < xs.length
  · have y1 : (64 : Int) < (xs.length : Int) := by omega
    have y2 : decide ((64 : Int) < (xs.length : Int)) = true := decide_eq_true y1
    have hres : chkE xs = 3 := by unfold chkE; rw [if_pos hlong]
    have HR := Lib.hid hr; have HB := Lib.hid hb; have HRES := Lib.hid hres; clear hr hb hres
    go_enter Try.func18, Try.ntmps18
    go_wp2
    go_ret
    exact ⟨by rw [HRES.out]; rfl, HB.out⟩
  have y1 : ¬ (64 : Int) < (xs.length : Int) := by omega
  have y2 : decide ((64 : Int) < (xs.length : Int)) = false := decide_eq_false y1
  have HR := Lib.hid hr; have HB := Lib.hid hb; clear hr hb
  go_enter Try.func18, Try.ntmps18
  go_wp2_with fail
  refine (contR_ 51 (.inl rfl) rngB tnCheck1_ A c xs _ HR.out).mono ?_
  rintro e w1 ⟨rfl, b1⟩
  have hb1 := HB.out.trans (b1.mono HB.out.size)
  clear b1 HB
  cases hany : xs.any rngB with
  | true =>
    have hres : chkE xs = 7 := by unfold chkE; rw [if_neg hlong, if_pos hany]
    have HRES := Lib.hid hres; have HB1 := Lib.hid hb1; have HANY := Lib.hid hany; clear hres hb1 hany
    go_wp2
    go_ret
    exact ⟨by rw [HRES.out]; rfl, HB1.out⟩
  | false =>
    have hres : chkE xs = if normB 0 xs = true then 0 else 6 := by unfold chkE; rw [if_neg hlong, hany]; rfl
    have hin : ∀ x ∈ xs, 0 < x.2 ∧ x.2 ≤ 1000000000000 := fun x hx => by
      have := List.any_eq_false.1 hany x hx
      unfold rngB at this
      simp at this
      omega
    clear y1 y2 hlong
    have HRES := Lib.hid hres; have HB1 := Lib.hid hb1; have HANY := Lib.hid hany; have HIN := Lib.hid hin; clear hres hb1 hany hin
    go_wp2
    go_loopw [3, 4, 5, 6, 16] (fun _ _ _ _ iv wr => ∃ k : Nat, iv = .int .i64 (k : Int) ∧ k ≤ xs.length ∧ normB 0 (xs.take k) = true ∧ Below w.heap.size w wr) (fun _ _ _ _ iv _ => xs.length - (intOf iv).toNat)
    case atStart => exact ⟨0, rfl, Nat.zero_le _, rfl, HB1.out⟩
    case round =>
      obtain ⟨k, rfl, hk, hno, hbw⟩ := hrel
      by_cases hlt : k < xs.length
      · have hrk := HR.out.later hbw (Nat.le_refl _)
        obtain ⟨bl, ol, rfl, hbl, l1, l2⟩ := hrk.at_ hlt
        obtain ⟨m1, m2⟩ := HIN.out _ (List.getElem_mem hlt)
        have hsn := List.take_succ_eq_append_getElem hlt
        have hnk : normB 0 (xs.take (k + 1)) = (sqfB xs[k].2.toNat && decide (lastS 0 (xs.take k) < xs[k].2)) := by
          rw [hsn, normB_app, hno]
          simp [normB]
        have hall : normB 0 (xs.take (k + 1)) = false → normB 0 xs = false := fun h => by
          have e := List.take_append_drop (k + 1) xs
          rw [← e, normB_app, h]; rfl
        have hlast : 0 < k → ∃ h : k - 1 < xs.length, lastS 0 (xs.take k) = xs[k - 1].2 := fun h0 => by
          refine ⟨by omega, ?_⟩
          have h1 := List.take_succ_eq_append_getElem (show k - 1 < xs.length by omega)
          rw [show k - 1 + 1 = k by omega] at h1
          rw [h1, lastS_snoc]
        have hpv : 0 < k → wr.cell? ⟨bl, ol + (k - 1) * 2 + 1, none⟩ = some (.int .i64 (lastS 0 (xs.take k))) := fun h0 => by
          obtain ⟨h1, h2⟩ := hlast h0
          obtain ⟨bl2, ol2, e, _, _, l4⟩ := hrk.at_ h1
          injection e with e; injection e with e1 e2; subst e1; subst e2
          rw [h2]; exact l4
        have hl0 : k = 0 → lastS 0 (xs.take k) = 0 := fun h => by subst h; rfl
        have hcall := fun W => tnRoot_ xs[k].2 W (by omega) (by omega)
        generalize xs[k].1 = K at *
        generalize xs[k].2 = S at *
        generalize lastS 0 (xs.take k) = P at *
        have x1 : (0 : Int) ≤ (k : Int) := by omega
        have x2 : (k : Int) < (xs.length : Int) := by omega
        clear hrk hlast
        have HNO := Lib.hid hno; have HBW := Lib.hid hbw; have M1 := Lib.hid m1; have M2 := Lib.hid m2; have HSN := Lib.hid hsn; have HNK := Lib.hid hnk; have HALL := Lib.hid hall; have HPV := Lib.hid hpv; have HL0 := Lib.hid hl0; have HCALL := Lib.hid hcall; have HK := Lib.hid hk; clear hno hbw m1 m2 hsn hnk hall hpv hl0 hcall hk
        go_upto_region 8 with fail
        have hT := heap_alloc_new wr (.cells #[.int .i64 K, .int .i64 S] 26)
        have hbT : Below wr.heap.size wr (wr.alloc (.cells #[.int .i64 K, .int .i64 S] 26)) := (Below.refl _ _).alloc (Nat.le_refl _) _
        have hpv1 : 0 < k → (wr.alloc (.cells #[.int .i64 K, .int .i64 S] 26)).cell? ⟨bl, ol + (k - 1) * 2 + 1, none⟩ = some (.int .i64 P) := fun h => below_at hbT (Nat.le_refl _) (HPV.out h)
        have hb2 := HBW.out.trans (hbT.mono HBW.out.size)
        clear l1 l2 hbT HBW HPV
        generalize wr.alloc (.cells #[.int .i64 K, .int .i64 S] 26) = w2 at *
        generalize wr.heap.size = T4 at *
        have t1 := cell_of_row _ _ 1 _ _ _ hT
        simp only [List.getElem?_toArray, List.getElem?_cons_zero, List.getElem?_cons_succ] at t1
        have hTl := lt_of_block hT
        have HT := Lib.hid hT; have HPV1 := Lib.hid hpv1; have HB2 := Lib.hid hb2; clear hT hpv1 hb2
        go_wp2_with fail
        refine (HCALL.out _).mono ?_
        rintro e w3 ⟨RK, RS, RX, rfl, b1, hroot⟩
        have hsq := sqf_one M1.out M2.out hroot
        have hT3 := (b1.block _ (lt_of_block HT.out)).trans HT.out
        have hpv3 : 0 < k → w3.cell? ⟨bl, ol + (k - 1) * 2 + 1, none⟩ = some (.int .i64 P) := fun h => below_at b1 (Nat.le_refl _) (HPV1.out h)
        have hb3 := HB2.out.trans (b1.mono HB2.out.size)
        clear t1 hTl hroot b1 HT HPV1 HB2
        have hbT : Below w3.heap.size w3 (w3.alloc (.cells #[.int .i64 RK, .int .i64 RS] 26)) := (Below.refl _ _).alloc (Nat.le_refl _) _
        have hU := heap_alloc_new w3 (.cells #[.int .i64 RK, .int .i64 RS] 26)
        have hT4 := (hbT.block _ (lt_of_block hT3)).trans hT3
        have hpv4 : 0 < k → (w3.alloc (.cells #[.int .i64 RK, .int .i64 RS] 26)).cell? ⟨bl, ol + (k - 1) * 2 + 1, none⟩ = some (.int .i64 P) := fun h => below_at hbT (Nat.le_refl _) (hpv3 h)
        have hb4 := hb3.trans (hbT.mono hb3.size)
        have HT3 := Lib.hid hT3; have HPV3 := Lib.hid hpv3; have HB3 := Lib.hid hb3; have HBT := Lib.hid hbT; have HU := Lib.hid hU; have HT4 := Lib.hid hT4; have HPV4 := Lib.hid hpv4; have HB4 := Lib.hid hb4; have HSQ := Lib.hid hsq; clear hT3 hpv3 hb3 hbT hU hT4 hpv4 hb4 hsq
        go_upto_region 9 with fail
        clear HT3 HPV3 HB3 HBT
        have hU := HU.out
        have hT4 := HT4.out
        have hpv4 := HPV4.out
        have hb4 := HB4.out
        clear HU HT4 HPV4 HB4
        generalize w3.alloc (.cells #[.int .i64 RK, .int .i64 RS] 26) = w4 at *
        generalize w3.heap.size = T5 at *
        have u0 := cell_of_row _ _ 0 _ _ _ hU
        have t1 := cell_of_row _ _ 1 _ _ _ hT4
        simp only [List.getElem?_toArray, List.getElem?_cons_zero, List.getElem?_cons_succ] at u0 t1
        have hTl := lt_of_block hT4
        have hUl := lt_of_block hU
        have HU := Lib.hid hU; have HT4 := Lib.hid hT4; have HB4 := Lib.hid hb4; clear hU hT4 hb4
        by_cases hR1 : RK = 1
        · have f1 : (RK != 1) = false := by simp [hR1]
          have hsq1 := HSQ.out.1 hR1
          by_cases hk0 : k = 0
          · have f2 : decide ((0 : Int) < (k : Int)) = false := by simp; omega
            have f3 : ¬ (0 : Int) < (k : Int) := by omega
            have f2n : decide (0 < k) = false := by simp; omega
            have hno2 : normB 0 (xs.take (k + 1)) = true := by
              rw [HNK.out, hsq1, HL0.out hk0]
              simp; exact M1.out
            clear hpv4
            have HR1 := Lib.hid hR1; have HSQ1 := Lib.hid hsq1; have HNO2 := Lib.hid hno2; have HK0 := Lib.hid hk0; clear hR1 hsq1 hno2 hk0
            have hbelc : ∀ (u : Bel w4.heap.size w4) b o, b < w4.heap.size → u.wd.cell? ⟨b, o, none⟩ = w4.cell? ⟨b, o, none⟩ := fun u b o h => u.h.cell (p := ⟨b, o, none⟩) h
            have hbeln : Nonempty (Bel w4.heap.size w4) := ⟨⟨w4, Below.refl _ _⟩⟩
            refine wp_region_bel w4.heap.size (by kernel_rfl) (by kernel_rfl) ?_
            repeat (go_big_quiet_step ((fail)))
            refine wpQuiet_nil ?_
            intro wB hB0; obtain ⟨uB, hu⟩ := hB0; have hbB0 := uB.h; rw [← hu] at hbB0; clear hu uB hbelc hbeln
            obtain ⟨hbB, hcB, hsB⟩ := bcell2 hbB0; clear hbB0
            have hb5 := HB4.out.trans (hbB.mono HB4.out.size)
            clear hcB hsB hbB u0 t1 hTl hUl
            have HB5 := Lib.hid hb5; clear hb5
            go_wp2
            go_roundw
            case rel => exact ⟨k + 1, by go_num, by omega, HNO2.out, HB5.out⟩
            case measure => simp [intOf]; omega
          · have f2 : decide ((0 : Int) < (k : Int)) = true := by simp; omega
            have f3 : (0 : Int) < (k : Int) := by omega
            have f2n : decide (0 < k) = true := by simp; omega
            have f4 : IntKind.i64.wrap ((k : Int) - 1) = ((k - 1 : Nat) : Int) := by rw [IntWalk.i64_in _ (by omega)]; omega
            have f5 : (0 : Int) ≤ ((k - 1 : Nat) : Int) := by omega
            have f6 : ((k - 1 : Nat) : Int) < (xs.length : Int) := by omega
            have hpc := hpv4 (by omega)
            have hbl4 := World.block_lt_of_cell? w4 _ hpc
            by_cases hPS : P < S
            · have hno2 : normB 0 (xs.take (k + 1)) = true := by
                rw [HNK.out, hsq1, decide_eq_true hPS]; rfl
              have f7 : decide (S ≤ P) = false := by simp; omega
              have f8 : ¬ S ≤ P := by omega
              clear hpv4
              generalize hke : k - 1 = k1 at *
              have HR1 := Lib.hid hR1; have HSQ1 := Lib.hid hsq1; have HNO2 := Lib.hid hno2; have HK0 := Lib.hid hk0; have HPS := Lib.hid hPS; have HKE := Lib.hid hke; clear hR1 hsq1 hno2 hk0 hPS hke
              have hbelc : ∀ (u : Bel w4.heap.size w4) b o, b < w4.heap.size → u.wd.cell? ⟨b, o, none⟩ = w4.cell? ⟨b, o, none⟩ := fun u b o h => u.h.cell (p := ⟨b, o, none⟩) h
              have hbeln : Nonempty (Bel w4.heap.size w4) := ⟨⟨w4, Below.refl _ _⟩⟩
              refine wp_region_bel w4.heap.size (by kernel_rfl) (by kernel_rfl) ?_
              repeat (go_big_quiet_step ((fail)))
              refine wpQuiet_nil ?_
              intro wB hB0; obtain ⟨uB, hu⟩ := hB0; have hbB0 := uB.h; rw [← hu] at hbB0; clear hu uB hbelc hbeln
              obtain ⟨hbB, hcB, hsB⟩ := bcell2 hbB0; clear hbB0
              have hb5 := HB4.out.trans (hbB.mono HB4.out.size)
              clear hcB hsB hbB u0 t1 hTl hUl hpc hbl4
              have HB5 := Lib.hid hb5; clear hb5
              go_wp2
              go_roundw
              case rel => exact ⟨k + 1, by go_num, by omega, HNO2.out, HB5.out⟩
              case measure => simp [intOf]; omega
            · have hno2 : normB 0 (xs.take (k + 1)) = false := by
                rw [HNK.out, decide_eq_false hPS, Bool.and_false]
              have hres2 : chkE xs = 6 := by rw [HRES.out, HALL.out hno2]; rfl
              have f7 : decide (S ≤ P) = true := by simp; omega
              have f8 : S ≤ P := by omega
              clear hpv4
              generalize hke : k - 1 = k1 at *
              have HR1 := Lib.hid hR1; have HSQ1 := Lib.hid hsq1; have HNO2 := Lib.hid hno2; have HK0 := Lib.hid hk0; have HPS := Lib.hid hPS; have HKE := Lib.hid hke; have HRES2 := Lib.hid hres2; clear hR1 hsq1 hno2 hk0 hPS hke hres2
              have hbelc : ∀ (u : Bel w4.heap.size w4) b o, b < w4.heap.size → u.wd.cell? ⟨b, o, none⟩ = w4.cell? ⟨b, o, none⟩ := fun u b o h => u.h.cell (p := ⟨b, o, none⟩) h
              have hbeln : Nonempty (Bel w4.heap.size w4) := ⟨⟨w4, Below.refl _ _⟩⟩
              refine wp_region_bel w4.heap.size (by kernel_rfl) (by kernel_rfl) ?_
              repeat (go_big_quiet_step ((fail)))
              refine wpQuiet_nil ?_
              intro wB hB0; obtain ⟨uB, hu⟩ := hB0; have hbB0 := uB.h; rw [← hu] at hbB0; clear hu uB hbelc hbeln
              obtain ⟨hbB, hcB, hsB⟩ := bcell2 hbB0; clear hbB0
              have hb5 := HB4.out.trans (hbB.mono HB4.out.size)
              clear hcB hsB hbB u0 t1 hTl hUl hpc hbl4
              have HB5 := Lib.hid hb5; clear hb5
              go_wp2
              go_ret
              exact ⟨by rw [HRES2.out]; rfl, HB5.out⟩
        · have f1 : (RK != 1) = true := by simp [hR1]
          have hno2 : normB 0 (xs.take (k + 1)) = false := by
            have : ¬ sqfB S.toNat = true := fun h => hR1 (HSQ.out.2 h)
            rw [HNK.out, show sqfB S.toNat = false by simpa using this, Bool.false_and]
          have hres2 : chkE xs = 6 := by rw [HRES.out, HALL.out hno2]; rfl
          clear hpv4
          have HR1 := Lib.hid hR1; have HNO2 := Lib.hid hno2; have HRES2 := Lib.hid hres2; clear hR1 hno2 hres2
          have hbelc : ∀ (u : Bel w4.heap.size w4) b o, b < w4.heap.size → u.wd.cell? ⟨b, o, none⟩ = w4.cell? ⟨b, o, none⟩ := fun u b o h => u.h.cell (p := ⟨b, o, none⟩) h
          have hbeln : Nonempty (Bel w4.heap.size w4) := ⟨⟨w4, Below.refl _ _⟩⟩
          refine wp_region_bel w4.heap.size (by kernel_rfl) (by kernel_rfl) ?_
          repeat (go_big_quiet_step ((fail)))
          refine wpQuiet_nil ?_
          intro wB hB0; obtain ⟨uB, hu⟩ := hB0; have hbB0 := uB.h; rw [← hu] at hbB0; clear hu uB hbelc hbeln
          obtain ⟨hbB, hcB, hsB⟩ := bcell2 hbB0; clear hbB0
          have hb5 := HB4.out.trans (hbB.mono HB4.out.size)
          clear hcB hsB hbB u0 t1 hTl hUl
          have HB5 := Lib.hid hb5; clear hb5
          go_wp2
          go_ret
          exact ⟨by rw [HRES2.out]; rfl, HB5.out⟩
      · obtain rfl : k = xs.length := by omega
        rw [List.take_length] at hno
        have hres2 : chkE xs = 0 := by rw [HRES.out, hno]; rfl
        have x3 : ¬ (xs.length : Int) < (xs.length : Int) := by omega
        have HNO := Lib.hid hno; have HBW := Lib.hid hbw; have HRES2 := Lib.hid hres2; clear hno hbw hres2
        go_wp2
        go_ret
        exact ⟨by rw [HRES2.out]; rfl, HBW.out⟩
end Go.Proofs.Ytlmhgcllikcedaa
/- What is wrong with two sums. -/
namespace Go.Proofs.Ytlmhgcllikcedaa
open Go.RowKit

def bothE (a b : List (Int × Int)) : Int := if chkE a ≠ 0 then chkE a else chkE b
set_option maxRecDepth 100000 in
set_option maxHeartbeats 4000000 in
theorem tnBoth_ (A B : Option Addr) (ca cb P : Nat) (a b : List (Int × Int)) (w : World) (ha : RdR w A a) (hb : RdR w B b) (hP : w.heap[P]? = some (.cells #[.slice A a.length ca, .slice B b.length cb] 22 (0, 0))) :
    Calls Try.prog 77 #[.slice (some ⟨P, 0, none⟩) 2 2] w fun e w' => e = .returned (.int .i64 (bothE a b)) ∧ Below w.heap.size w w' := by
  have c0 := cell_of_row _ _ 0 _ _ _ hP
  have c1 := cell_of_row _ _ 1 _ _ _ hP
  simp only [List.getElem?_toArray, List.getElem?_cons_zero, List.getElem?_cons_succ] at c0 c1
  have hl := lt_of_block hP
  have hca := fun W (hW : Below w.heap.size w W) => tnCheck_ A ca a W (ha.later hW (Nat.le_refl _))
  have hcb := fun W (hW : Below w.heap.size w W) => tnCheck_ B cb b W (hb.later hW (Nat.le_refl _))
  have hres : bothE a b = if chkE a ≠ 0 then chkE a else chkE b := rfl
  obtain ⟨ea, hea⟩ : ∃ ea, ea = chkE a := ⟨_, rfl⟩
  obtain ⟨eb, heb⟩ : ∃ eb, eb = chkE b := ⟨_, rfl⟩
  obtain ⟨er, her⟩ : ∃ er, er = bothE a b := ⟨_, rfl⟩
  rw [← hea] at hca
  rw [← heb] at hcb
  rw [← hea, ← heb, ← her] at hres
  rw [← her]
  clear ha hb hP
  have HEA := Lib.hid hea; have HEB := Lib.hid heb; have HER := Lib.hid her; have HCA := Lib.hid hca; have HCB := Lib.hid hcb; have HRES := Lib.hid hres; clear hea heb her hca hcb hres
  go_enter Try.func77, Try.ntmps77
  go_wp2
  go_loopw [4, 5, 8] (fun _ _ iv wr => ∃ k : Nat, iv = .int .i64 (k : Int) ∧ k ≤ 2 ∧ (1 ≤ k → ea = 0) ∧ (2 ≤ k → eb = 0) ∧ Below w.heap.size w wr) (fun _ _ iv _ => 2 - (intOf iv).toNat)
  case atStart => exact ⟨0, rfl, by decide, by omega, by omega, Below.refl _ _⟩
  case round =>
    obtain ⟨k, rfl, hk, h1, h2, hbw⟩ := hrel
    have d0 := below_at hbw (Nat.le_refl _) c0
    have d1 := below_at hbw (Nat.le_refl _) c1
    have hlw : P < wr.heap.size := Nat.lt_of_lt_of_le hl hbw.size
    rcases (by omega : k = 0 ∨ k = 1 ∨ k = 2) with rfl | rfl | rfl
    · have HBW := Lib.hid hbw; have H1 := Lib.hid h1; have H2 := Lib.hid h2; clear hbw h1 h2
      go_wp2_with fail
      refine (HCA.out _ HBW.out).mono ?_
      rintro e w1 ⟨rfl, b1⟩
      have hb1 := HBW.out.trans (b1.mono HBW.out.size)
      clear b1
      by_cases h0 : ea = 0
      · subst h0
        have HB1 := Lib.hid hb1; clear hb1
        go_wp2
        go_roundw
        all_goals first | exact ⟨1, rfl, by decide, fun _ => trivial, by omega, HB1.out⟩ | decide
      · have f1 : (ea != 0) = true := by simp [h0]
        have hr := HRES.out
        rw [if_pos h0] at hr
        have HB1 := Lib.hid hb1; have H0 := Lib.hid h0; have HR := Lib.hid hr; clear hb1 h0 hr
        go_wp2
        go_ret
        exact ⟨by rw [HR.out]; rfl, HB1.out⟩
    · have h1 := h1 (by omega)
      subst h1
      have HBW := Lib.hid hbw; have H2 := Lib.hid h2; clear hbw h2
      go_wp2_with fail
      refine (HCB.out _ HBW.out).mono ?_
      rintro e w1 ⟨rfl, b1⟩
      have hb1 := HBW.out.trans (b1.mono HBW.out.size)
      clear b1
      by_cases h0 : eb = 0
      · subst h0
        have HB1 := Lib.hid hb1; clear hb1
        go_wp2
        go_roundw
        all_goals first | exact ⟨2, rfl, by decide, fun _ => trivial, fun _ => trivial, HB1.out⟩ | decide
      · have f1 : (eb != 0) = true := by simp [h0]
        have hr := HRES.out
        rw [if_neg (by simp)] at hr
        have HB1 := Lib.hid hb1; have H0 := Lib.hid h0; have HR := Lib.hid hr; clear hb1 h0 hr
        go_wp2
        go_ret
        exact ⟨by rw [HR.out]; rfl, HB1.out⟩
    · have h1 := h1 (by omega)
      have h2 := h2 (by omega)
      subst h1 h2
      have hr := HRES.out
      rw [if_neg (by simp)] at hr
      subst hr
      have HBW := Lib.hid hbw; clear hbw
      go_wp2
      go_ret
      exact ⟨rfl, HBW.out⟩
end Go.Proofs.Ytlmhgcllikcedaa
