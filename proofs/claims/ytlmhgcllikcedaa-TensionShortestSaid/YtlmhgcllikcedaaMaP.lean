/- Texts of this claim, laid together: TnShP, TnShQ, TnThru, TnRnd, TnLSho. -/
import Derived.Test.YtlmhgcllikcedaaMaF
import Derived.Test.YtlmhgcllikcedaaMaI
import Derived.Test.YtlmhgcllikcedaaMaM
import Derived.Test.YtlmhgcllikcedaaMaN
/- What is true of Taut's way, for TensionShortest: plain. -/
namespace Go.Proofs.Ytlmhgcllikcedaa
open Go.RowKit

/-- The way from o on: each point lies at an end of a gate; the line to it passes the gates between; it bends round its pin. -/
def WayOk (all : List Gt) : Int × Int → Nat → List (Int × Int) → Prop
  | _, next, [] => next = all.length
  | o, next, b :: l => ∃ a, next ≤ a ∧ a < all.length ∧ o.2 < b.2 ∧ b.2 = (all.getD a (0, 0, 0)).1 ∧ (b = gL all a ∨ b = gR all a) ∧ (∀ k, next ≤ k → k ≤ a → slo o (gL all k) ≤ slo o b ∧ slo o b ≤ slo o (gR all k)) ∧
    (∀ s l', l = s :: l' → (b = gL all a ∧ slo b s < slo o b) ∨ (b = gR all a ∧ slo o b < slo b s)) ∧ WayOk all b (a + 1) l
theorem wayOk_of {all : List Gt} (hend : gL all (all.length - 1) = gR all (all.length - 1)) : ∀ (f : Nat) (o : Int × Int) (next : Nat), all.length - next ≤ f → next ≤ all.length → GtsOk o all next → WayOk all o next (tautR all f o next)
  | f, o, next, hf, hn, hok => by
    rcases (by omega : next = all.length ∨ next < all.length) with rfl | hlt
    · rw [tautR_done]
      exact rfl
    · obtain ⟨f', e, hf'⟩ := tautR_cons (o := o) hf hlt
      obtain ⟨a1, a2, a3, a4, _⟩ := pull_next hok hend hlt
      have hs := pull_spec hok hend hlt
      have htL := fun {a : Nat} (hP : PullL o all next a) => turnL hok hend hP
      have htR := fun {a : Nat} (hP : PullR o all next a) => turnR hok hend hP
      have ih := wayOk_of hend f' (pullF o all next).1 ((pullF o all next).2 + 1) (by omega) (by omega) a3
      have hnx : ∀ s l', tautR all f' (pullF o all next).1 ((pullF o all next).2 + 1) = s :: l' → s = (pullF (pullF o all next).1 all ((pullF o all next).2 + 1)).1 ∧ (pullF o all next).2 + 1 < all.length := fun s l' h => by
        rcases (by omega : (pullF o all next).2 + 1 = all.length ∨ (pullF o all next).2 + 1 < all.length) with h1 | h1
        · rw [h1, tautR_done] at h; cases h
        · obtain ⟨f'', e2, _⟩ := tautR_cons (o := (pullF o all next).1) (f := f') (by omega) h1
          rw [e2] at h
          injection h with h _
          exact ⟨h.symm, h1⟩
      rw [e]
      obtain ⟨r, hr⟩ : ∃ r, r = pullF o all next := ⟨_, rfl⟩
      rw [← hr] at a1 a2 a3 a4 hs ih hnx ⊢
      refine ⟨r.2, a1, a2, a4, ?_, ?_, fun k k1 k2 => ?_, fun s l' h => ?_, ih⟩
      · rcases hs with ⟨e, _⟩ | ⟨e, _⟩ | ⟨e, _⟩ <;> rw [e] <;> first | exact (gL_y _ _).1 | exact (gL_y _ _).2
      · rcases hs with ⟨e, _⟩ | ⟨e, _⟩ | ⟨e, _⟩
        · exact .inl e
        · exact .inr e
        · exact .inl (by rw [e])
      · rcases hs with ⟨e, _, i, q1, q2, q3, q4, q5⟩ | ⟨e, _, i, q1, q2, q3, q4, q5⟩ | ⟨e, q4⟩
        · rw [e]; exact q4 k k1 (by omega)
        · rw [e]; exact q4 k k1 (by omega)
        · rw [e] at k2 ⊢; exact q4 k k1 (by omega)
      · obtain ⟨h1, h2⟩ := hnx s l' h
        rcases hs with ⟨e, hP⟩ | ⟨e, hP⟩ | ⟨e, _⟩
        · have := htL hP
          rw [← e, ← h1] at this
          exact .inl ⟨e, this⟩
        · have := htR hP
          rw [← e, ← h1] at this
          exact .inr ⟨e, this⟩
        · rw [e] at h2; simp only at h2; omega
  termination_by f => f
/-- Does the line from p to q pass the gate? -/
def thrX (p q : Int × Int) (g : Gt) : Int := p.1 * (q.2 - p.2) + (q.1 - p.1) * (g.1 - p.2)
def thrB (p q : Int × Int) (g : Gt) : Bool := decide (g.2.1 * (q.2 - p.2) ≤ thrX p q g) && decide (thrX p q g ≤ g.2.2 * (q.2 - p.2))
theorem thr_of {p q : Int × Int} {g : Gt} (h1 : p.2 < q.2) (h2 : p.2 < g.1) (hl : slo p g.l ≤ slo p q) (hr : slo p q ≤ slo p g.r) : thrB p q g = true := by
  have e0 := slo_mul h1
  have el := slo_mul (o := p) (p := g.l) h2
  have er := slo_mul (o := p) (p := g.r) h2
  have y1 := (rpos (show 0 < q.2 - p.2 by omega)).1
  have y2 := (rpos (show 0 < g.1 - p.2 by omega)).1
  have hel : ((g.l.2 - p.2 : Int) : Rat) = ((g.1 - p.2 : Int) : Rat) := rfl
  have her : ((g.r.2 - p.2 : Int) : Rat) = ((g.1 - p.2 : Int) : Rat) := rfl
  have hl1 : ((g.l.1 - p.1 : Int) : Rat) = ((g.2.1 - p.1 : Int) : Rat) := rfl
  have hr1 : ((g.r.1 - p.1 : Int) : Rat) = ((g.2.2 - p.1 : Int) : Rat) := rfl
  rw [hel, hl1] at el
  rw [her, hr1] at er
  have m1 := Rat.mul_nonneg (show (0 : Rat) ≤ slo p q - slo p g.l by grind) (Rat.le_of_lt (Rat.mul_pos y1 y2))
  have m2 := Rat.mul_nonneg (show (0 : Rat) ≤ slo p g.r - slo p q by grind) (Rat.le_of_lt (Rat.mul_pos y1 y2))
  have k1 : (((g.2.1 - p.1) * (q.2 - p.2) : Int) : Rat) ≤ (((q.1 - p.1) * (g.1 - p.2) : Int) : Rat) := by
    rw [Rat.intCast_mul, Rat.intCast_mul, ← e0, ← el]
    grind
  have k2 : (((q.1 - p.1) * (g.1 - p.2) : Int) : Rat) ≤ (((g.2.2 - p.1) * (q.2 - p.2) : Int) : Rat) := by
    rw [Rat.intCast_mul, Rat.intCast_mul, ← e0, ← er]
    grind
  have n1 : (g.2.1 - p.1) * (q.2 - p.2) ≤ (q.1 - p.1) * (g.1 - p.2) := by exact_mod_cast k1
  have n2 : (q.1 - p.1) * (g.1 - p.2) ≤ (g.2.2 - p.1) * (q.2 - p.2) := by exact_mod_cast k2
  rw [Int.sub_mul g.2.1] at n1
  rw [Int.sub_mul g.2.2] at n2
  unfold thrB thrX
  rw [decide_eq_true (by omega), decide_eq_true (by omega)]
  rfl
/-- Each gate has its piece of the way. -/
theorem way_pieces {all : List Gt} : ∀ (l : List (Int × Int)) (o : Int × Int) (next : Nat), GtsOk o all next → WayOk all o next l → ∀ k, next ≤ k → k < all.length → ∃ i, i < l.length ∧ ((o :: l).getD i (0, 0)).2 ≤ (all.getD k (0, 0, 0)).1 ∧ (all.getD k (0, 0, 0)).1 ≤ ((o :: l).getD (i + 1) (0, 0)).2 ∧ thrB ((o :: l).getD i (0, 0)) ((o :: l).getD (i + 1) (0, 0)) (all.getD k (0, 0, 0)) = true
  | [], o, next, hok, h, k, h1, h2 => by
    have : next = all.length := h
    omega
  | b :: l, o, next, hok, h, k, h1, h2 => by
    obtain ⟨a, a1, a2, a3, a4, a5, a6, a7, a8⟩ := h
    have hyk := hok.low h1 h2
    by_cases hk : k ≤ a
    · obtain ⟨s1, s2⟩ := a6 k h1 hk
      refine ⟨0, by simp, ?_, ?_, ?_⟩
      · show o.2 ≤ _
        omega
      · show _ ≤ b.2
        rw [a4]
        rcases (by omega : k = a ∨ k < a) with rfl | h3
        · exact Int.le_refl _
        · exact Int.le_of_lt (asc_lt hok.asc _ h3 a2)
      · exact thr_of a3 hyk s1 s2
    · have hok' : GtsOk b all (a + 1) := by rcases a5 with rfl | rfl <;> first | exact hok.atL a2 | exact hok.atR a2
      obtain ⟨i, i1, i2, i3, i4⟩ := way_pieces l b (a + 1) hok' a8 k (by omega) h2
      exact ⟨i + 1, by simp; omega, i2, i3, i4⟩
/-- The points of the way: on it rows rise; each is an end of a gate. -/
theorem way_rows {all : List Gt} : ∀ (l : List (Int × Int)) (o : Int × Int) (next : Nat), WayOk all o next l → ∀ i, i < l.length → ((o :: l).getD i (0, 0)).2 < ((o :: l).getD (i + 1) (0, 0)).2 ∧ ∃ a, a < all.length ∧ ((o :: l).getD (i + 1) (0, 0) = gL all a ∨ (o :: l).getD (i + 1) (0, 0) = gR all a)
  | [], o, next, h, i, hi => by simp at hi
  | b :: l, o, next, h, i, hi => by
    obtain ⟨a, a1, a2, a3, a4, a5, a6, a7, a8⟩ := h
    cases i with
    | zero => exact ⟨a3, a, a2, a5⟩
    | succ i => exact way_rows l b (a + 1) a8 i (by simpa using hi)
/-- Where it bends. -/
theorem way_bends {all : List Gt} : ∀ (l : List (Int × Int)) (o : Int × Int) (next : Nat), GtsOk o all next → WayOk all o next l → ∀ i, i + 1 < l.length → ∃ a, a + 1 < all.length ∧ ((o :: l).getD (i + 1) (0, 0)).2 = (all.getD a (0, 0, 0)).1 ∧
      (((o :: l).getD (i + 1) (0, 0) = gL all a ∧ 0 < lfV ((o :: l).getD i (0, 0)) ((o :: l).getD (i + 1) (0, 0)) ((o :: l).getD (i + 2) (0, 0))) ∨ ((o :: l).getD (i + 1) (0, 0) = gR all a ∧ lfV ((o :: l).getD i (0, 0)) ((o :: l).getD (i + 1) (0, 0)) ((o :: l).getD (i + 2) (0, 0)) < 0)) ∧
      offP ((o :: l).getD i (0, 0)) = false ∧ offP ((o :: l).getD (i + 1) (0, 0)) = false ∧ offP ((o :: l).getD (i + 2) (0, 0)) = false
  | [], o, next, hok, h, i, hi => by simp at hi
  | [b], o, next, hok, h, i, hi => by simp at hi
  | b :: s :: l, o, next, hok, h, i, hi => by
    obtain ⟨a, a1, a2, a3, a4, a5, a6, a7, a8⟩ := h
    have hok' : GtsOk b all (a + 1) := by rcases a5 with rfl | rfl <;> first | exact hok.atL a2 | exact hok.atR a2
    cases i with
    | zero =>
      obtain ⟨a', b1, b2, b3, b4, b5, _, _, _⟩ := id a8
      have hsp : offP s = false := by rcases b5 with rfl | rfl <;> first | exact (hok.pt b2).1 | exact (hok.pt b2).2.1
      have hlf := lf_slo (o := o) (p := b) (q := s) hok.po hok'.po hsp a3 (by omega)
      have hsh := slo_shift (o := o) (m := b) (p := s) a3 b3
      refine ⟨a, by omega, a4, ?_, hok.po, hok'.po, hsp⟩
      rcases a7 s l rfl with ⟨e, h1⟩ | ⟨e, h1⟩
      · refine .inl ⟨e, ?_⟩
        show 0 < lfV o b s
        have h2 := hsh.1.2 h1
        rcases (by omega : 0 < lfV o b s ∨ lfV o b s ≤ 0) with h3 | h3
        · exact h3
        · have := hlf.2.1.1 h3; grind
      · exact .inr ⟨e, hlf.1.2 (hsh.2.1.2 h1)⟩
    | succ i => exact way_bends (s :: l) b (a + 1) hok' a8 i (by simpa using hi)
/-- A path at its own points. -/
theorem xAt_own : ∀ (m : List Pq) (P : Pq), Asc P m → ∀ q ∈ m, P.2 < q.2 ∧ xAt P m q.2 = q.1
  | q :: m, P, ha, r, hr => by
    rcases List.mem_cons.1 hr with rfl | h
    · exact ⟨ha.1, by rw [xAt, if_pos (by grind), crs_end ha.1]⟩
    · obtain ⟨h1, h2⟩ := xAt_own m q ha.2 r h
      have := ha.1
      refine ⟨by grind, ?_⟩
      rw [xAt, if_neg (by grind)]
      exact h2
/-- A path of points in the gates. -/
theorem asc_gates {p : Int × Int} : ∀ (gs : List Gt) (xs : List Int) (o : Int × Int), xs.length = gs.length → preG o.2 (gs ++ [gTo p]) = true → Asc (qp o) (((List.zip xs gs).map fun z => qp (z.1, z.2.1)) ++ [qp p]) ∧ endP (qp o) (((List.zip xs gs).map fun z => qp (z.1, z.2.1)) ++ [qp p]) = qp p
  | [], [], o, _, h => by
    rw [List.nil_append, preG, Bool.and_eq_true, decide_eq_true_eq] at h
    exact ⟨⟨ylt h.1, trivial⟩, rfl⟩
  | g :: gs, x :: xs, o, hl, h => by
    rw [List.cons_append, preG, Bool.and_eq_true, decide_eq_true_eq] at h
    obtain ⟨h1, h2⟩ := asc_gates gs xs (x, g.1) (by simpa using hl) h.2
    exact ⟨⟨ylt h.1, h1⟩, h2⟩
/-- THE WAY IS NOT LONGER THAN A PATH WITH A POINT IN EACH GATE. -/
theorem short_le {a b c : Int} (hlat : latB a b c = false) {o p : Int × Int} {gs : List Gt} (h : gErr o gs p = 0) {xs : List Int} (hl : xs.length = gs.length) (hx : ∀ k, k < gs.length → (gs.getD k (0, 0, 0)).2.1 ≤ xs.getD k 0 ∧ xs.getD k 0 ≤ (gs.getD k (0, 0, 0)).2.2) {l : List (Int × Int)} (ht : Tht (gs ++ [gTo p]) o 0 l) (hn : l ≠ []) :
    LeS (lenP (latQ a b c hlat) (qp o) (l.map qp)) (lenP (latQ a b c hlat) (qp o) (((List.zip xs gs).map (fun z => (z.1, z.2.1)) ++ [p]).map qp)) := by
  have hpre : preG o.2 (gs ++ [gTo p]) = true := by
    have h2 := h
    unfold gErr at h2
    split at h2
    · omega
    · split at h2
      · omega
      · split at h2
        · omega
        · split at h2
          · rename_i h4
            rw [ascG_pre] at h4
            exact h4
          · omega
  obtain ⟨h1, h2⟩ := asc_gates (p := p) gs xs o hl hpre
  have e : ((List.zip xs gs).map (fun z => (z.1, z.2.1)) ++ [p]).map qp = ((List.zip xs gs).map fun z => qp (z.1, z.2.1)) ++ [qp p] := by
    rw [List.map_append, List.map_map]
    rfl
  rw [e]
  refine (way_opt (latQ a b c hlat) ht hn _ h1 h2 (fun k hk => ?_) ?_).1
  · have hz : (xs.getD k 0, gs.getD k (0, 0, 0)) ∈ List.zip xs gs := by
      have hk2 : k < (List.zip xs gs).length := by rw [List.length_zip]; omega
      have := List.getElem_mem hk2
      rw [List.getElem_zip] at this
      simpa [List.getD_eq_getElem?_getD, hk, show k < xs.length by omega] using this
    have := (xAt_own _ _ h1 (qp (xs.getD k 0, (gs.getD k (0, 0, 0)).1)) (List.mem_append.2 (.inl (List.mem_map.2 ⟨_, hz, rfl⟩)))).2
    unfold InG gL gR
    have e2 : xAt (qp o) (((List.zip xs gs).map fun z => qp (z.1, z.2.1)) ++ [qp p]) (((gs.getD k (0, 0, 0)).1 : Int) : Rat) = ((xs.getD k 0 : Int) : Rat) := this
    rw [e2]
    obtain ⟨k1, k2⟩ := hx k hk
    exact ⟨by exact_mod_cast k1, by exact_mod_cast k2⟩
  · exact (xAt_own _ _ h1 (qp p) (by simp)).2
end Go.Proofs.Ytlmhgcllikcedaa
/- All that TensionShortest asks of the way: plain. -/
namespace Go.Proofs.Ytlmhgcllikcedaa
open Go.RowKit

theorem way_last {all : List Gt} : ∀ (l : List (Int × Int)) (o : Int × Int) (next : Nat), WayOk all o next l → next < all.length → (o :: l).getD l.length (0, 0) = gL all (all.length - 1) ∨ (o :: l).getD l.length (0, 0) = gR all (all.length - 1)
  | [], o, next, h, h1 => by
    have : next = all.length := h
    omega
  | b :: l, o, next, h, h1 => by
    obtain ⟨a, a1, a2, a3, a4, a5, a6, a7, a8⟩ := h
    by_cases hl : a + 1 < all.length
    · exact way_last l b (a + 1) a8 hl
    · have ha : a = all.length - 1 := by omega
      cases l with
      | nil => rw [ha] at a5; exact a5
      | cons s l =>
        obtain ⟨a', b1, b2, _⟩ := a8
        omega
/-- The points that a path takes in the gates. -/
def pkX (us : List Int) (gs : List Gt) (k : Nat) : Int := (gs.getD k (0, 0, 0)).2.1 + us.getD (k % us.length) 0 % ((gs.getD k (0, 0, 0)).2.2 - (gs.getD k (0, 0, 0)).2.1 + 1)
def otR (us : List Int) (gs : List Gt) (k : Nat) : List (Int × Int) := (List.range k).map fun i => (pkX us gs i, (gs.getD i (0, 0, 0)).1)
theorem otR_succ (us : List Int) (gs : List Gt) (k : Nat) : otR us gs (k + 1) = otR us gs k ++ [(pkX us gs k, (gs.getD k (0, 0, 0)).1)] := by
  unfold otR
  rw [List.range_succ, List.map_append]
  rfl
theorem otR_length (us : List Int) (gs : List Gt) (k : Nat) : (otR us gs k).length = k := by simp [otR]
theorem otR_zip (us : List Int) (gs : List Gt) : (List.zip ((List.range gs.length).map (pkX us gs)) gs).map (fun z => (z.1, z.2.1)) = otR us gs gs.length := by
  refine List.ext_getElem (by simp [otR]) fun i h1 h2 => ?_
  have hi : i < gs.length := by simpa [otR] using h2
  simp [otR, List.getD_eq_getElem?_getD, hi]
theorem sho_facts {o p : Int × Int} {gs : List Gt} {giv : List (Int × Int)} (h : gErr o gs p = 0) (hb : bigT ⟨o, p, gs, giv⟩ = false) : ∃ l, tautV o gs p = (o :: l, 0) ∧ Tht (gs ++ [gTo p]) o 0 l ∧ l ≠ [] ∧ l.length ≤ gs.length + 1 ∧ (o :: l).getD l.length (0, 0) = p ∧
    (∀ i, i < (o :: l).length → offP ((o :: l).getD i (0, 0)) = false) ∧ (∀ k, k < gs.length → badG (gs.getD k (0, 0, 0)) = false) ∧
    (∀ i, i + 1 < (o :: l).length → ((o :: l).getD i (0, 0)).2 < ((o :: l).getD (i + 1) (0, 0)).2 ∧ -1000 ≤ ((o :: l).getD (i + 1) (0, 0)).1 ∧ ((o :: l).getD (i + 1) (0, 0)).1 ≤ 1000 ∧ ((o :: l).getD (i + 1) (0, 0)).2 ≤ 1000) ∧
    (∀ k, k < gs.length → ∃ i, i + 1 < (o :: l).length ∧ ((o :: l).getD i (0, 0)).2 ≤ (gs.getD k (0, 0, 0)).1 ∧ (gs.getD k (0, 0, 0)).1 ≤ ((o :: l).getD (i + 1) (0, 0)).2 ∧ thrB ((o :: l).getD i (0, 0)) ((o :: l).getD (i + 1) (0, 0)) (gs.getD k (0, 0, 0)) = true) ∧
    (∀ i, i + 2 < (o :: l).length → offB ((o :: l).getD i (0, 0)) ((o :: l).getD (i + 1) (0, 0)) ((o :: l).getD (i + 2) (0, 0)) = false ∧ ∃ k0, k0 < gs.length ∧ (gs.getD k0 (0, 0, 0)).1 = ((o :: l).getD (i + 1) (0, 0)).2 ∧ (∀ k, k < gs.length → (gs.getD k (0, 0, 0)).1 = ((o :: l).getD (i + 1) (0, 0)).2 → k = k0) ∧
      ((0 < sideV ((o :: l).getD i (0, 0)) ((o :: l).getD (i + 1) (0, 0)) ((o :: l).getD (i + 2) (0, 0)) ∧ ((o :: l).getD (i + 1) (0, 0)).1 = (gs.getD k0 (0, 0, 0)).2.1) ∨ (sideV ((o :: l).getD i (0, 0)) ((o :: l).getD (i + 1) (0, 0)) ((o :: l).getD (i + 2) (0, 0)) < 0 ∧ ((o :: l).getD (i + 1) (0, 0)).1 = (gs.getD k0 (0, 0, 0)).2.2))) := by
  obtain ⟨_, hpo, hok⟩ := gErr_ok h
  have hlen : (gs ++ [gTo p]).length = gs.length + 1 := by simp
  have hlast : (gs ++ [gTo p]).getD gs.length (0, 0, 0) = gTo p := by simp [List.getD_eq_getElem?_getD]
  have hend := gTo_end gs p
  have ht := tht_of hend (gs.length + 1) o 0 (by omega) (Nat.zero_le _) hok
  have hw := wayOk_of hend (gs.length + 1) o 0 (by omega) (Nat.zero_le _) hok
  have hne : tautR (gs ++ [gTo p]) (gs.length + 1) o 0 ≠ [] := by
    obtain ⟨f', e, _⟩ := tautR_cons (o := o) (next := 0) (f := gs.length + 1) (all := gs ++ [gTo p]) (by omega) (by omega)
    rw [e]
    simp
  have htv : tautV o gs p = (o :: tautR (gs ++ [gTo p]) (gs.length + 1) o 0, 0) := by unfold tautV; rw [if_pos h]
  generalize tautR (gs ++ [gTo p]) (gs.length + 1) o 0 = l at *
  have hll := ht.ln
  have hbad : ∀ k, k < gs.length → badG (gs.getD k (0, 0, 0)) = false := fun k hk => by
    have := hok.ok k (by omega)
    rwa [getD_app_left hk] at this
  -- what lies at the ends of gates
  have hpt : ∀ a, a < (gs ++ [gTo p]).length → ∀ b, (b = gL (gs ++ [gTo p]) a ∨ b = gR (gs ++ [gTo p]) a) → offP b = false ∧ bigP b = false := fun a ha b hab => by
    refine ⟨by rcases hab with rfl | rfl <;> first | exact (hok.pt ha).1 | exact (hok.pt ha).2.1, ?_⟩
    have hall := List.any_eq_false.1 (show ([o, p] ++ gPts gs).any bigP = false from hb)
    have key : b ∈ [o, p] ++ gPts gs := by
      rcases (by omega : a < gs.length ∨ a = gs.length) with h1 | h1
      · have hm : gs[a] ∈ gs := List.getElem_mem h1
        have e : gs.getD a (0, 0, 0) = gs[a] := by simp [List.getD_eq_getElem?_getD, h1]
        refine List.mem_append.2 (.inr (List.mem_flatMap.2 ⟨gs[a], hm, ?_⟩))
        unfold gL gR at hab
        rw [getD_app_left h1, e] at hab
        rcases hab with rfl | rfl <;> simp
      · unfold gL gR at hab
        rw [h1, hlast] at hab
        have hbp : b = p := by rcases hab with rfl | rfl <;> rfl
        rw [hbp]
        simp
    simpa using hall b key
  have hpts : ∀ i, i < l.length → offP ((o :: l).getD (i + 1) (0, 0)) = false ∧ bigP ((o :: l).getD (i + 1) (0, 0)) = false := fun i hi => by
    obtain ⟨_, a, ha, hab⟩ := way_rows l o 0 hw i hi
    exact hpt a ha _ hab
  refine ⟨l, htv, ht, hne, by omega, ?_, fun i hi => ?_, hbad, fun i hi => ?_, fun k hk => ?_, fun i hi => ?_⟩
  · have := way_last l o 0 hw (by omega)
    rw [hlen, Nat.add_sub_cancel] at this
    unfold gL gR at this
    rw [hlast] at this
    rcases this with e | e <;> rw [e] <;> rfl
  · cases i with
    | zero => exact hok.po
    | succ i => exact (hpts i (by simpa using hi)).1
  · have hi2 : i < l.length := by simpa using hi
    obtain ⟨r1, _⟩ := way_rows l o 0 hw i hi2
    have := (hpts i hi2).2
    unfold bigP at this
    simp only [Bool.or_eq_false_iff, decide_eq_false_iff_not] at this
    refine ⟨r1, by omega, by omega, by omega⟩
  · obtain ⟨i, i1, i2, i3, i4⟩ := way_pieces l o 0 hok hw k (Nat.zero_le _) (by omega)
    rw [getD_app_left hk] at i2 i3 i4
    exact ⟨i, by simpa using i1, i2, i3, i4⟩
  · obtain ⟨a, a1, a2, a3, p1, p2, p3⟩ := way_bends l o 0 hok hw i (by simp at hi; omega)
    have hag : a < gs.length := by omega
    have hoff : offB ((o :: l).getD i (0, 0)) ((o :: l).getD (i + 1) (0, 0)) ((o :: l).getD (i + 2) (0, 0)) = false := by
      unfold offB
      simp only [List.any_cons, List.any_nil, p1, p2, p3, Bool.or_false]
    refine ⟨hoff, a, hag, ?_, fun k hk he => ?_, ?_⟩
    · rw [a2, getD_app_left hag]
    · rw [a2, ← getD_app_left (m := [gTo p]) hk] at he
      rcases (by omega : k = a ∨ k < a ∨ a < k) with h1 | h1 | h1
      · exact h1
      · have := asc_lt hok.asc a h1 (by omega); omega
      · have := asc_lt hok.asc k h1 (by omega); omega
    · unfold lfV at a3
      rw [if_neg (by rw [hoff]; decide)] at a3
      rcases a3 with ⟨e, h1⟩ | ⟨e, h1⟩
      · refine .inl ⟨h1, ?_⟩
        rw [e]
        unfold gL
        rw [getD_app_left hag]
        rfl
      · refine .inr ⟨h1, ?_⟩
        rw [e]
        unfold gR
        rw [getD_app_left hag]
        rfl
/-- Cmp of the way and of another path. -/
theorem sho_cmp {a b c : Int} {o p : Int × Int} {gs : List Gt} {us : List Int} {l : List (Int × Int)} (h : gErr o gs p = 0) (hl20 : gs.length ≤ 20) (ht : Tht (gs ++ [gTo p]) o 0 l) (hn : l ≠ []) (hll : l.length ≤ gs.length + 1)
    (h1 : (lenR a b c (o :: l)).2 = 0) (h2 : (lenR a b c (o :: (otR us gs gs.length ++ [p]))).2 = 0) :
    bothE (lenR a b c (o :: l)).1 (lenR a b c (o :: (otR us gs gs.length ++ [p]))).1 = 0 ∧ cmpO (lenR a b c (o :: l)).1 (lenR a b c (o :: (otR us gs gs.length ++ [p]))).1 ≤ 0 := by
  have hlat := lenR_lat h1
  refine cmp_len hlat h1 h2 (by simp; omega) (by simp [otR_length]; omega) ?_
  rw [← otR_zip]
  obtain ⟨_, _, hok⟩ := gErr_ok h
  refine short_le hlat h (by simp) (fun k hk => ?_) ht hn
  have hb := hok.ok k (by simp; omega)
  rw [getD_app_left hk] at hb
  unfold badG at hb
  simp only [Bool.or_eq_false_iff, decide_eq_false_iff_not] at hb
  have e : ((List.range gs.length).map (pkX us gs)).getD k 0 = pkX us gs k := by simp [List.getD_eq_getElem?_getD, hk]
  rw [e]
  unfold pkX
  have hd : 0 < (gs.getD k (0, 0, 0)).2.2 - (gs.getD k (0, 0, 0)).2.1 + 1 := by omega
  have m1 := Int.emod_nonneg (us.getD (k % us.length) 0) (show (gs.getD k (0, 0, 0)).2.2 - (gs.getD k (0, 0, 0)).2.1 + 1 ≠ 0 by omega)
  have m2 := Int.emod_lt_of_pos (us.getD (k % us.length) 0) hd
  omega
end Go.Proofs.Ytlmhgcllikcedaa
/- Through, passes, walked. -/
namespace Go.Proofs.Ytlmhgcllikcedaa
open Go.RowKit

theorem mul_bd {a b : Int} {A B : Nat} (ha : a.natAbs ≤ A) (hb : b.natAbs ≤ B) : (a * b).natAbs ≤ A * B := by
  rw [Int.natAbs_mul]
  exact Nat.mul_le_mul ha hb
theorem off_bd {p : Int × Int} (h : offP p = false) : p.1.natAbs ≤ 1000000 ∧ p.2.natAbs ≤ 1000000 := by
  unfold offP outB at h
  simp at h
  omega
set_option maxRecDepth 100000 in
set_option maxHeartbeats 4000000 in
theorem rThrough_ (p q : Int × Int) (g : Gt) (w : World) (hp : offP p = false) (hq : offP q = false) (hg : badG g = false) :
    Calls Try.prog 78 #[.agg #[.int .i64 p.1, .int .i64 p.2], .agg #[.int .i64 q.1, .int .i64 q.2], .agg #[.int .i64 g.1, .int .i64 g.2.1, .int .i64 g.2.2]] w fun e w' => e = .returned (.bool (thrB p q g)) ∧ Below w.heap.size w w' := by
  obtain ⟨p1, p2⟩ := off_bd hp
  obtain ⟨q1, q2⟩ := off_bd hq
  have hg2 : offP g.l = false ∧ offP g.r = false := by
    unfold badG at hg
    simp only [Bool.or_eq_false_iff] at hg
    exact ⟨hg.1.1, hg.1.2⟩
  obtain ⟨g1, g2⟩ := off_bd hg2.1
  obtain ⟨g3, g4⟩ := off_bd hg2.2
  obtain ⟨x1, y1⟩ := p
  obtain ⟨x2, y2⟩ := q
  obtain ⟨gy, L, R⟩ := g
  simp only [Gt.l, Gt.r] at p1 p2 q1 q2 g1 g2 g3 g4 ⊢
  have hb : Below w.heap.size w (((w.alloc (.cells #[.int .i64 x1, .int .i64 y1] 45)).alloc (.cells #[.int .i64 x2, .int .i64 y2] 45)).alloc (.cells #[.int .i64 gy, .int .i64 L, .int .i64 R] 68)) := (((Below.refl _ _).alloc (Nat.le_refl _) _).alloc (by simp) _).alloc (by simp; omega) _
  have hres : thrB (x1, y1) (x2, y2) (gy, L, R) = (decide (L * (y2 - y1) ≤ x1 * (y2 - y1) + (x2 - x1) * (gy - y1)) && decide (x1 * (y2 - y1) + (x2 - x1) * (gy - y1) ≤ R * (y2 - y1))) := rfl
  generalize thrB (x1, y1) (x2, y2) (gy, L, R) = V at *
  obtain ⟨D, hD⟩ : ∃ D, D = y2 - y1 := ⟨_, rfl⟩
  obtain ⟨X, hX⟩ : ∃ X, X = x2 - x1 := ⟨_, rfl⟩
  obtain ⟨E, hE⟩ : ∃ E, E = gy - y1 := ⟨_, rfl⟩
  rw [← hD, ← hX, ← hE] at hres
  have bD : D.natAbs ≤ 2000000 := by omega
  have bX : X.natAbs ≤ 2000000 := by omega
  have bE : E.natAbs ≤ 2000000 := by omega
  have m1 := mul_bd p1 bD
  have m2 := mul_bd bX bE
  have m3 := mul_bd g1 bD
  have m4 := mul_bd g3 bD
  have u1 : IntKind.i64.wrap (y2 - y1) = D := by rw [IntWalk.i64_in _ (by omega)]; omega
  have u2 : IntKind.i64.wrap (x2 - x1) = X := by rw [IntWalk.i64_in _ (by omega)]; omega
  have u3 : IntKind.i64.wrap (gy - y1) = E := by rw [IntWalk.i64_in _ (by omega)]; omega
  obtain ⟨M1, hM1⟩ : ∃ M, M = x1 * D := ⟨_, rfl⟩
  obtain ⟨M2, hM2⟩ : ∃ M, M = X * E := ⟨_, rfl⟩
  obtain ⟨M3, hM3⟩ : ∃ M, M = L * D := ⟨_, rfl⟩
  obtain ⟨M4, hM4⟩ : ∃ M, M = R * D := ⟨_, rfl⟩
  rw [← hM1] at m1 hres
  rw [← hM2] at m2 hres
  rw [← hM3] at m3 hres
  rw [← hM4] at m4 hres
  have v1 : IntKind.i64.wrap (x1 * D) = M1 := by rw [← hM1, IntWalk.i64_in _ (by omega)]
  have v2 : IntKind.i64.wrap (X * E) = M2 := by rw [← hM2, IntWalk.i64_in _ (by omega)]
  have v3 : IntKind.i64.wrap (L * D) = M3 := by rw [← hM3, IntWalk.i64_in _ (by omega)]
  have v4 : IntKind.i64.wrap (R * D) = M4 := by rw [← hM4, IntWalk.i64_in _ (by omega)]
  obtain ⟨Z, hZ⟩ : ∃ Z, Z = M1 + M2 := ⟨_, rfl⟩
  rw [← hZ] at hres
  have v5 : IntKind.i64.wrap (M1 + M2) = Z := by rw [IntWalk.i64_in _ (by omega)]; exact hZ.symm
  cases f1 : decide (M3 ≤ Z) with
  | false =>
    rw [f1] at hres
    clear hM1 hM2 hM3 hM4 hD hX hE hZ m1 m2 m3 m4 bD bX bE p1 p2 q1 q2 g1 g2 g3 g4
    have HB := Lib.hid hb; have HRES := Lib.hid hres; have HP := Lib.hid hp; have HQ := Lib.hid hq; have HG := Lib.hid hg; have HG2 := Lib.hid hg2; clear hb hres hp hq hg hg2
    go_enter Try.func78, Try.ntmps78
    go_wp2
    go_ret
    exact ⟨by rw [HRES.out]; rfl, HB.out⟩
  | true =>
    rw [f1] at hres
    cases f2 : decide (Z ≤ M4) with
    | false =>
      rw [f2] at hres
      clear hM1 hM2 hM3 hM4 hD hX hE hZ m1 m2 m3 m4 bD bX bE p1 p2 q1 q2 g1 g2 g3 g4
      have HB := Lib.hid hb; have HRES := Lib.hid hres; have HP := Lib.hid hp; have HQ := Lib.hid hq; have HG := Lib.hid hg; have HG2 := Lib.hid hg2; clear hb hres hp hq hg hg2
      go_enter Try.func78, Try.ntmps78
      go_wp2
      go_ret
      exact ⟨by rw [HRES.out]; rfl, HB.out⟩
    | true =>
      rw [f2] at hres
      clear hM1 hM2 hM3 hM4 hD hX hE hZ m1 m2 m3 m4 bD bX bE p1 p2 q1 q2 g1 g2 g3 g4
      have HB := Lib.hid hb; have HRES := Lib.hid hres; have HP := Lib.hid hp; have HQ := Lib.hid hq; have HG := Lib.hid hg; have HG2 := Lib.hid hg2; clear hb hres hp hq hg hg2
      go_enter Try.func78, Try.ntmps78
      go_wp2
      go_ret
      exact ⟨by rw [HRES.out]; rfl, HB.out⟩
theorem RdG.all {w : World} {A : Option Addr} {gs : List Gt} (h : RdG w A gs) (h0 : 0 < gs.length) : ∃ b off, A = some ⟨b, off, none⟩ ∧ b < w.heap.size ∧ ∀ k, k < gs.length → w.cell? ⟨b, off + k * 3, none⟩ = some (.int .i64 (gs.getD k (0, 0, 0)).1) ∧ w.cell? ⟨b, off + k * 3 + 1, none⟩ = some (.int .i64 (gs.getD k (0, 0, 0)).2.1) ∧ w.cell? ⟨b, off + k * 3 + 2, none⟩ = some (.int .i64 (gs.getD k (0, 0, 0)).2.2) := by
  obtain ⟨b, off, e, hlt, _⟩ := h.at_ (k := 0) h0
  refine ⟨b, off, e, hlt, fun k hk => ?_⟩
  obtain ⟨b2, off2, e2, _, c0, c1, c2⟩ := h.at_ hk
  rw [e] at e2
  injection e2 with e2
  injection e2 with e3 e4
  subst e3; subst e4
  have : gs.getD k (0, 0, 0) = gs[k] := by simp [List.getD_eq_getElem?_getD, hk]
  rw [this]
  exact ⟨c0, c1, c2⟩
set_option maxRecDepth 100000 in
set_option maxHeartbeats 16000000 in
theorem lPasses19_ (A B : Option Addr) (c d : Nat) (ps : List (Int × Int)) (gs : List Gt) (w : World) (hr : RdR w A ps) (hrg : RdG w B gs) (hl0 : 1 ≤ ps.length) (hl1 : ps.length ≤ 1000) (hl2 : gs.length ≤ 1000)
    (hp : ∀ i, i < ps.length → offP (ps.getD i (0, 0)) = false) (hg : ∀ k, k < gs.length → badG (gs.getD k (0, 0, 0)) = false)
    (h1 : ∀ i, i + 1 < ps.length → (ps.getD i (0, 0)).2 < (ps.getD (i + 1) (0, 0)).2 ∧ -1000 ≤ (ps.getD (i + 1) (0, 0)).1 ∧ (ps.getD (i + 1) (0, 0)).1 ≤ 1000 ∧ (ps.getD (i + 1) (0, 0)).2 ≤ 1000)
    (h2 : ∀ k, k < gs.length → ∃ i, i + 1 < ps.length ∧ (ps.getD i (0, 0)).2 ≤ (gs.getD k (0, 0, 0)).1 ∧ (gs.getD k (0, 0, 0)).1 ≤ (ps.getD (i + 1) (0, 0)).2 ∧ thrB (ps.getD i (0, 0)) (ps.getD (i + 1) (0, 0)) (gs.getD k (0, 0, 0)) = true) :
    Calls Try.prog 35 #[.slice A ps.length c, .slice B gs.length d] w fun e w' => e = .returned (.bool true) ∧ Below w.heap.size w w' := by
  have hb := Below.refl w.heap.size w
  have HR := Lib.hid hr; have HRG := Lib.hid hrg; have HL0 := Lib.hid hl0; have HL1 := Lib.hid hl1; have HL2 := Lib.hid hl2; have HP := Lib.hid hp; have HG := Lib.hid hg; have H1 := Lib.hid h1; have H2 := Lib.hid h2; have HB := Lib.hid hb; clear hr hrg hl0 hl1 hl2 hp hg h1 h2 hb
  go_enter Try.func35, Try.ntmps35
  go_wp2
  go_loopw [4, 5] (fun _ iv wr => ∃ i j : Nat, iv = .int .i64 (i : Int) ∧ i = j + 1 ∧ i ≤ ps.length ∧ Below w.heap.size w wr) (fun _ iv _ => ps.length - (intOf iv).toNat)
  case atStart => exact ⟨1, 0, rfl, rfl, HL0.out, HB.out⟩
  case round =>
    obtain ⟨i, j, rfl, hij, hil, hbw⟩ := hrel
    by_cases hlt : i < ps.length
    · have hl := HL1.out
      have q1 : (0 : Int) ≤ (i : Int) := by omega
      have q2 : (i : Int) < (ps.length : Int) := by omega
      have q4 : (0 : Int) ≤ (j : Int) := by omega
      have q5 : (j : Int) < (ps.length : Int) := by omega
      have d2 : decide ((i : Int) < (ps.length : Int)) = true := decide_eq_true q2
      obtain ⟨e1, e2, e3, e4⟩ := H1.out j (by omega)
      rw [← hij] at e1 e2 e3 e4
      obtain ⟨bl, off, rfl, hbl, hc⟩ := (HR.out.later hbw (Nat.le_refl _)).all (by omega)
      obtain ⟨c0, c1⟩ := hc i (by omega)
      obtain ⟨c2, c3⟩ := hc j (by omega)
      clear hc
      have q3 : IntKind.i64.wrap ((i : Int) + 1) = ((i + 1 : Nat) : Int) := by rw [IntWalk.i64_in _ (by omega)]; omega
      have q6 : IntKind.i64.wrap ((i : Int) - 1) = (j : Int) := by rw [IntWalk.i64_in _ (by omega)]; omega
      generalize (ps.getD i (0, 0)).1 = X at *
      generalize (ps.getD i (0, 0)).2 = Y at *
      generalize (ps.getD j (0, 0)).1 = X0 at *
      generalize (ps.getD j (0, 0)).2 = Y0 at *
      have f1 : decide (Y ≤ Y0) = false := decide_eq_false (by omega)
      have f2 : decide (1000 < X) = false := decide_eq_false (by omega)
      have f3 : decide (X < -1000) = false := decide_eq_false (by omega)
      have f4 : decide (1000 < Y) = false := decide_eq_false (by omega)
      have HIJ := Lib.hid hij; have HIL := Lib.hid hil; have HBW := Lib.hid hbw; have HLT := Lib.hid hlt; have HL := Lib.hid hl; have E1 := Lib.hid e1; have E2 := Lib.hid e2; have E3 := Lib.hid e3; have E4 := Lib.hid e4; clear hij hil hbw hlt hl e1 e2 e3 e4
      go_upto_region 4 with fail
      have hbelc : ∀ (u : Bel wr.heap.size wr) b o, b < wr.heap.size → u.wd.cell? ⟨b, o, none⟩ = wr.cell? ⟨b, o, none⟩ := fun u b o h => u.h.cell (p := ⟨b, o, none⟩) h
      have hbeln : Nonempty (Bel wr.heap.size wr) := ⟨⟨wr, Below.refl _ _⟩⟩
      refine wp_region_bel wr.heap.size (by kernel_rfl) (by kernel_rfl) ?_
      repeat (go_big_quiet_step ((fail)))
      refine wpQuiet_nil ?_
      intro wB hB0; obtain ⟨uB, hu⟩ := hB0; have hbB0 := uB.h; rw [← hu] at hbB0; clear hu uB hbelc hbeln
      obtain ⟨hbB, hcB, hsB⟩ := bcell2 hbB0; clear hbB0
      have hb2 := HBW.out.trans (hbB.mono HBW.out.size)
      clear hbB hcB hsB
      have HB2 := Lib.hid hb2; clear hb2
      go_wp2
      go_roundw
      case rel => exact ⟨i + 1, i, by go_num, rfl, HLT.out, HB2.out⟩
      case measure => have := HLT.out; simp [intOf]; omega
    · obtain rfl : i = ps.length := by omega
      have d2 : decide ((ps.length : Int) < (ps.length : Int)) = false := decide_eq_false (by omega)
      obtain ⟨w2, rfl⟩ : ∃ w2, w2 = wr := ⟨_, rfl⟩
      have hr2 := HR.out.later hbw (Nat.le_refl _)
      have hrg2 := HRG.out.later hbw (Nat.le_refl _)
      have HIJ := Lib.hid hij; have HIL := Lib.hid hil; have HBW := Lib.hid hbw; have HLT := Lib.hid hlt; have HR2 := Lib.hid hr2; have HRG2 := Lib.hid hrg2; clear hij hil hbw hlt hr2 hrg2
      go_wp2
      go_loopw [4, 6, 7, 8] (fun _ kv _ _ wr => ∃ k : Nat, kv = .int .i64 (k : Int) ∧ k ≤ gs.length ∧ Below w2.heap.size w2 wr) (fun _ kv _ _ _ => gs.length - (intOf kv).toNat)
      case atStart => exact ⟨0, rfl, Nat.zero_le _, Below.refl _ _⟩
      case round =>
        obtain ⟨k, rfl, hkl, hbv⟩ := hrel
        by_cases hkt : k < gs.length
        · have hlg := HL2.out
          have k1 : (0 : Int) ≤ (k : Int) := by omega
          have k2 : (k : Int) < (gs.length : Int) := by omega
          have k3 : decide ((k : Int) < (gs.length : Int)) = true := decide_eq_true k2
          have k4 : IntKind.i64.wrap ((k : Int) + 1) = ((k + 1 : Nat) : Int) := by rw [IntWalk.i64_in _ (by omega)]; omega
          obtain ⟨i0, a1, a2, a3, a4⟩ := H2.out k hkt
          have hgk := HG.out k hkt
          obtain ⟨w3, rfl⟩ : ∃ w3, w3 = wr := ⟨_, rfl⟩
          have hr3 := HR2.out.later hbv (Nat.le_refl _)
          have hrg3 := HRG2.out.later hbv (Nat.le_refl _)
          have hst : (false = true ∨ 1 ≤ i0 + 1) := .inr (by omega)
          have HKL := Lib.hid hkl; have HBV := Lib.hid hbv; have HKT := Lib.hid hkt; have HLG := Lib.hid hlg; have A1 := Lib.hid a1; have A2 := Lib.hid a2; have A3 := Lib.hid a3; have A4 := Lib.hid a4; have HGK := Lib.hid hgk; have HR3 := Lib.hid hr3; have HRG3 := Lib.hid hrg3; have HST := Lib.hid hst; clear hkl hbv hkt hlg a1 a2 a3 a4 hgk hr3 hrg3 hst
          go_wp2
          go_loopw [7, 8] (fun fv iv wr => ∃ (F : Bool) (i j : Nat), fv = .bool F ∧ iv = .int .i64 (i : Int) ∧ i = j + 1 ∧ i ≤ ps.length ∧ (F = true ∨ i ≤ i0 + 1) ∧ Below w3.heap.size w3 wr) (fun _ iv _ => ps.length - (intOf iv).toNat)
          case atStart => exact ⟨false, 1, 0, rfl, rfl, rfl, HL0.out, HST.out, Below.refl _ _⟩
          case round =>
            obtain ⟨F, i, j, rfl, rfl, hij2, hil2, hF, hbz⟩ := hrel
            by_cases hlt2 : i < ps.length
            · have hl := HL1.out
              have q1 : (0 : Int) ≤ (i : Int) := by omega
              have q2 : (i : Int) < (ps.length : Int) := by omega
              have q4 : (0 : Int) ≤ (j : Int) := by omega
              have q5 : (j : Int) < (ps.length : Int) := by omega
              have d2 : decide ((i : Int) < (ps.length : Int)) = true := decide_eq_true q2
              obtain ⟨bl, off, rfl, hbl, hc⟩ := (HR3.out.later hbz (Nat.le_refl _)).all (by omega)
              obtain ⟨c0, c1⟩ := hc i (by omega)
              obtain ⟨c2, c3⟩ := hc j (by omega)
              clear hc
              obtain ⟨gl, go, rfl, hgl, hc⟩ := (HRG3.out.later hbz (Nat.le_refl _)).all (by have := HKT.out; omega)
              obtain ⟨g0, g1, g2⟩ := hc k HKT.out
              clear hc
              have q3 : IntKind.i64.wrap ((i : Int) + 1) = ((i + 1 : Nat) : Int) := by rw [IntWalk.i64_in _ (by omega)]; omega
              have q6 : IntKind.i64.wrap ((i : Int) - 1) = (j : Int) := by rw [IntWalk.i64_in _ (by omega)]; omega
              have hth := fun W => rThrough_ (ps.getD j (0, 0)) (ps.getD i (0, 0)) (gs.getD k (0, 0, 0)) W (HP.out j (by omega)) (HP.out i hlt2) HGK.out
              have hgood : i = i0 + 1 → (ps.getD j (0, 0)).2 ≤ (gs.getD k (0, 0, 0)).1 ∧ (gs.getD k (0, 0, 0)).1 ≤ (ps.getD i (0, 0)).2 ∧ thrB (ps.getD j (0, 0)) (ps.getD i (0, 0)) (gs.getD k (0, 0, 0)) = true := fun h => by
                obtain rfl : j = i0 := by omega
                rw [h]
                exact ⟨A2.out, A3.out, A4.out⟩
              generalize thrB (ps.getD j (0, 0)) (ps.getD i (0, 0)) (gs.getD k (0, 0, 0)) = T at *
              generalize (ps.getD i (0, 0)).1 = X at *
              generalize (ps.getD i (0, 0)).2 = Y at *
              generalize (ps.getD j (0, 0)).1 = X0 at *
              generalize (ps.getD j (0, 0)).2 = Y0 at *
              generalize (gs.getD k (0, 0, 0)).1 = gy at *
              generalize (gs.getD k (0, 0, 0)).2.1 = gL at *
              generalize (gs.getD k (0, 0, 0)).2.2 = gR at *
              have hcs : (F = true) ∨ (F = false ∧ decide (Y0 ≤ gy) = false ∧ i ≠ i0 + 1) ∨ (F = false ∧ decide (Y0 ≤ gy) = true ∧ decide (gy ≤ Y) = false ∧ i ≠ i0 + 1) ∨ (F = false ∧ decide (Y0 ≤ gy) = true ∧ decide (gy ≤ Y) = true) := by
                cases F with
                | true => exact .inl rfl
                | false =>
                  right
                  by_cases z1 : Y0 ≤ gy
                  · by_cases z2 : gy ≤ Y
                    · exact .inr (.inr ⟨rfl, decide_eq_true z1, decide_eq_true z2⟩)
                    · exact .inr (.inl ⟨rfl, decide_eq_true z1, decide_eq_false z2, fun h => z2 (hgood h).2.1⟩)
                  · exact .inl ⟨rfl, decide_eq_false z1, fun h => z1 (hgood h).1⟩
              rcases hcs with rfl | ⟨rfl, f1, hne⟩ | ⟨rfl, f1, f2, hne⟩ | ⟨rfl, f1, f2⟩
              · have HIJ2 := Lib.hid hij2; have HIL2 := Lib.hid hil2; have HF := Lib.hid hF; have HBZ := Lib.hid hbz; have HLT2 := Lib.hid hlt2; have HL := Lib.hid hl; have HTH := Lib.hid hth; have HGOOD := Lib.hid hgood; clear hij2 hil2 hF hbz hlt2 hl hth hgood
                go_upto_region 13 with fail
                have hbelc : ∀ (u : Bel wr.heap.size wr) b o, b < wr.heap.size → u.wd.cell? ⟨b, o, none⟩ = wr.cell? ⟨b, o, none⟩ := fun u b o h => u.h.cell (p := ⟨b, o, none⟩) h
                have hbeln : Nonempty (Bel wr.heap.size wr) := ⟨⟨wr, Below.refl _ _⟩⟩
                refine wp_region_bel wr.heap.size (by kernel_rfl) (by kernel_rfl) ?_
                repeat (go_big_quiet_step ((fail)))
                refine wpQuiet_nil ?_
                intro wB hB0; obtain ⟨uB, hu⟩ := hB0; have hbB0 := uB.h; rw [← hu] at hbB0; clear hu uB hbelc hbeln
                obtain ⟨hbB, hcB, hsB⟩ := bcell2 hbB0; clear hbB0
                have hb4 := HBZ.out.trans (hbB.mono HBZ.out.size)
                clear hbB hcB hsB
                have HB4 := Lib.hid hb4; clear hb4
                go_wp2
                go_roundw
                case rel => exact ⟨true, i + 1, i, rfl, by go_num, rfl, HLT2.out, .inl rfl, HB4.out⟩
                case measure => have := HLT2.out; simp [intOf]; omega
              · have hnx : (false = true ∨ i + 1 ≤ i0 + 1) := by rcases hF with h | h; (exact absurd h (by decide)); exact .inr (by omega)
                have HIJ2 := Lib.hid hij2; have HIL2 := Lib.hid hil2; have HF := Lib.hid hF; have HBZ := Lib.hid hbz; have HLT2 := Lib.hid hlt2; have HL := Lib.hid hl; have HTH := Lib.hid hth; have HGOOD := Lib.hid hgood; have HNE := Lib.hid hne; have HNX := Lib.hid hnx; clear hij2 hil2 hF hbz hlt2 hl hth hgood hne hnx
                go_upto_region 13 with fail
                have hbelc : ∀ (u : Bel wr.heap.size wr) b o, b < wr.heap.size → u.wd.cell? ⟨b, o, none⟩ = wr.cell? ⟨b, o, none⟩ := fun u b o h => u.h.cell (p := ⟨b, o, none⟩) h
                have hbeln : Nonempty (Bel wr.heap.size wr) := ⟨⟨wr, Below.refl _ _⟩⟩
                refine wp_region_bel wr.heap.size (by kernel_rfl) (by kernel_rfl) ?_
                repeat (go_big_quiet_step ((fail)))
                refine wpQuiet_nil ?_
                intro wB hB0; obtain ⟨uB, hu⟩ := hB0; have hbB0 := uB.h; rw [← hu] at hbB0; clear hu uB hbelc hbeln
                obtain ⟨hbB, hcB, hsB⟩ := bcell2 hbB0; clear hbB0
                have hb4 := HBZ.out.trans (hbB.mono HBZ.out.size)
                clear hbB hcB hsB
                have HB4 := Lib.hid hb4; clear hb4
                go_wp2
                go_roundw
                case rel => exact ⟨false, i + 1, i, rfl, by go_num, rfl, HLT2.out, HNX.out, HB4.out⟩
                case measure => have := HLT2.out; simp [intOf]; omega
              · have hnx : (false = true ∨ i + 1 ≤ i0 + 1) := by rcases hF with h | h; (exact absurd h (by decide)); exact .inr (by omega)
                have HIJ2 := Lib.hid hij2; have HIL2 := Lib.hid hil2; have HF := Lib.hid hF; have HBZ := Lib.hid hbz; have HLT2 := Lib.hid hlt2; have HL := Lib.hid hl; have HTH := Lib.hid hth; have HGOOD := Lib.hid hgood; have HNE := Lib.hid hne; have HNX := Lib.hid hnx; clear hij2 hil2 hF hbz hlt2 hl hth hgood hne hnx
                go_upto_region 13 with fail
                have hbelc : ∀ (u : Bel wr.heap.size wr) b o, b < wr.heap.size → u.wd.cell? ⟨b, o, none⟩ = wr.cell? ⟨b, o, none⟩ := fun u b o h => u.h.cell (p := ⟨b, o, none⟩) h
                have hbeln : Nonempty (Bel wr.heap.size wr) := ⟨⟨wr, Below.refl _ _⟩⟩
                refine wp_region_bel wr.heap.size (by kernel_rfl) (by kernel_rfl) ?_
                repeat (go_big_quiet_step ((fail)))
                refine wpQuiet_nil ?_
                intro wB hB0; obtain ⟨uB, hu⟩ := hB0; have hbB0 := uB.h; rw [← hu] at hbB0; clear hu uB hbelc hbeln
                obtain ⟨hbB, hcB, hsB⟩ := bcell2 hbB0; clear hbB0
                have hb4 := HBZ.out.trans (hbB.mono HBZ.out.size)
                clear hbB hcB hsB
                have HB4 := Lib.hid hb4; clear hb4
                go_wp2
                go_roundw
                case rel => exact ⟨false, i + 1, i, rfl, by go_num, rfl, HLT2.out, HNX.out, HB4.out⟩
                case measure => have := HLT2.out; simp [intOf]; omega
              · have hnx : (T = true ∨ i + 1 ≤ i0 + 1) := by
                  rcases hF with h | h
                  · exact absurd h (by decide)
                  · by_cases he : i = i0 + 1
                    · exact .inl (hgood he).2.2
                    · exact .inr (by omega)
                have HIJ2 := Lib.hid hij2; have HIL2 := Lib.hid hil2; have HF := Lib.hid hF; have HBZ := Lib.hid hbz; have HLT2 := Lib.hid hlt2; have HL := Lib.hid hl; have HTH := Lib.hid hth; have HGOOD := Lib.hid hgood; have HNX := Lib.hid hnx; clear hij2 hil2 hF hbz hlt2 hl hth hgood hnx
                go_upto_region 13 with fail
                have hbelc : ∀ (u : Bel wr.heap.size wr) b o, b < wr.heap.size → u.wd.cell? ⟨b, o, none⟩ = wr.cell? ⟨b, o, none⟩ := fun u b o h => u.h.cell (p := ⟨b, o, none⟩) h
                have hbeln : Nonempty (Bel wr.heap.size wr) := ⟨⟨wr, Below.refl _ _⟩⟩
                refine wp_region_bel wr.heap.size (by kernel_rfl) (by kernel_rfl) ?_
                repeat (go_big_quiet_step ((go_at_call 78; exact quiet_bel (Nat.le_refl _) (HTH.out _))))
                refine wpQuiet_nil ?_
                intro wB hB0; obtain ⟨uB, hu⟩ := hB0; have hbB0 := uB.h; rw [← hu] at hbB0; clear hu uB hbelc hbeln
                obtain ⟨hbB, hcB, hsB⟩ := bcell2 hbB0; clear hbB0
                have hb4 := HBZ.out.trans (hbB.mono HBZ.out.size)
                clear hbB hcB hsB
                have HB4 := Lib.hid hb4; clear hb4
                go_wp2
                go_roundw
                case rel => exact ⟨T, i + 1, i, rfl, by go_num, rfl, HLT2.out, HNX.out, HB4.out⟩
                case measure => have := HLT2.out; simp [intOf]; omega
            · obtain rfl : i = ps.length := by omega
              have d2 : decide ((ps.length : Int) < (ps.length : Int)) = false := decide_eq_false (by omega)
              obtain rfl : F = true := by rcases hF with h | h; (exact h); (have := A1.out; omega)
              have hb4 := HBV.out.trans (hbz.mono HBV.out.size)
              have HIJ2 := Lib.hid hij2; have HIL2 := Lib.hid hil2; have HF := Lib.hid hF; have HBZ := Lib.hid hbz; have HLT2 := Lib.hid hlt2; have HB4 := Lib.hid hb4; clear hij2 hil2 hF hbz hlt2 hb4
              go_wp2
              go_roundw
              case rel => exact ⟨k + 1, by go_num, HKT.out, HB4.out⟩
              case measure => have := HKT.out; simp [intOf]; omega
        · obtain rfl : k = gs.length := by omega
          have k3 : decide ((gs.length : Int) < (gs.length : Int)) = false := decide_eq_false (by omega)
          have hb4 := HBW.out.trans (hbv.mono HBW.out.size)
          have HKL := Lib.hid hkl; have HBV := Lib.hid hbv; have HKT := Lib.hid hkt; have HB4 := Lib.hid hb4; clear hkl hbv hkt hb4
          go_wp2
          go_ret
          exact ⟨rfl, HB4.out⟩
end Go.Proofs.Ytlmhgcllikcedaa
/- round, walked. -/
namespace Go.Proofs.Ytlmhgcllikcedaa
open Go.RowKit

set_option maxRecDepth 100000 in
set_option maxHeartbeats 16000000 in
theorem lRound19_ (A B : Option Addr) (c d : Nat) (ps : List (Int × Int)) (gs : List Gt) (w : World) (hr : RdR w A ps) (hrg : RdG w B gs) (hl1 : ps.length ≤ 1000) (hl2 : gs.length ≤ 1000)
    (h : ∀ i, i + 2 < ps.length → offB (ps.getD i (0, 0)) (ps.getD (i + 1) (0, 0)) (ps.getD (i + 2) (0, 0)) = false ∧ ∃ k0, k0 < gs.length ∧ (gs.getD k0 (0, 0, 0)).1 = (ps.getD (i + 1) (0, 0)).2 ∧ (∀ k, k < gs.length → (gs.getD k (0, 0, 0)).1 = (ps.getD (i + 1) (0, 0)).2 → k = k0) ∧
      ((0 < sideV (ps.getD i (0, 0)) (ps.getD (i + 1) (0, 0)) (ps.getD (i + 2) (0, 0)) ∧ (ps.getD (i + 1) (0, 0)).1 = (gs.getD k0 (0, 0, 0)).2.1) ∨ (sideV (ps.getD i (0, 0)) (ps.getD (i + 1) (0, 0)) (ps.getD (i + 2) (0, 0)) < 0 ∧ (ps.getD (i + 1) (0, 0)).1 = (gs.getD k0 (0, 0, 0)).2.2))) :
    Calls Try.prog 36 #[.slice A ps.length c, .slice B gs.length d] w fun e w' => e = .returned (.bool true) ∧ Below w.heap.size w w' := by
  have hb := Below.refl w.heap.size w
  have HR := Lib.hid hr; have HRG := Lib.hid hrg; have HL1 := Lib.hid hl1; have HL2 := Lib.hid hl2; have H := Lib.hid h; have HB := Lib.hid hb; clear hr hrg hl1 hl2 h hb
  go_enter Try.func36, Try.ntmps36
  go_wp2
  go_loopw [4, 5, 6, 7, 8, 9] (fun _ iv _ _ _ _ wr => ∃ i j : Nat, iv = .int .i64 (i : Int) ∧ i = j + 1 ∧ i ≤ ps.length + 1 ∧ Below w.heap.size w wr) (fun _ iv _ _ _ _ _ => ps.length + 1 - (intOf iv).toNat)
  case atStart => exact ⟨1, 0, rfl, rfl, by omega, HB.out⟩
  case round =>
    obtain ⟨i, j, rfl, hij, hil, hbw⟩ := hrel
    have hl := HL1.out
    obtain ⟨m, hm⟩ : ∃ m, m = i + 1 := ⟨_, rfl⟩
    have q3 : IntKind.i64.wrap ((i : Int) + 1) = (m : Int) := by rw [IntWalk.i64_in _ (by omega)]; omega
    by_cases hlt : m < ps.length
    · have q6 : IntKind.i64.wrap ((i : Int) - 1) = (j : Int) := by rw [IntWalk.i64_in _ (by omega)]; omega
      have p1 : (0 : Int) ≤ (i : Int) := by omega
      have p2 : (i : Int) < (ps.length : Int) := by omega
      have p3 : (0 : Int) ≤ (j : Int) := by omega
      have p4 : (j : Int) < (ps.length : Int) := by omega
      have p5 : (0 : Int) ≤ (m : Int) := by omega
      have p6 : (m : Int) < (ps.length : Int) := by omega
      have d2 : decide ((m : Int) < (ps.length : Int)) = true := decide_eq_true p6
      obtain ⟨hoff, k0, hk0, hk1, hk2, hside⟩ := H.out j (by omega)
      rw [← hij, show j + 2 = m by omega] at hoff hside
      rw [← hij] at hk1 hk2
      have hS := fun W => gSide_ (ps.getD j (0, 0)) (ps.getD i (0, 0)) (ps.getD m (0, 0)) W
      unfold SidePost at hS
      rw [hoff] at hS
      simp only [Bool.false_eq_true, ↓reduceIte] at hS
      obtain ⟨w2, rfl⟩ : ∃ w2, w2 = wr := ⟨_, rfl⟩
      have hr2 := HR.out.later hbw (Nat.le_refl _)
      obtain ⟨bl, off, rfl, hbl, hc⟩ := hr2.all (by omega)
      obtain ⟨c0, c1⟩ := hc i (by omega)
      obtain ⟨c2, c3⟩ := hc j (by omega)
      obtain ⟨c4, c5⟩ := hc m (by omega)
      clear hc
      generalize sideV (ps.getD j (0, 0)) (ps.getD i (0, 0)) (ps.getD m (0, 0)) = V at *
      have hV : V ≠ 0 := by omega
      have f0 : (V == 0) = false := by rw [beq_eq_false_iff_ne]; exact hV
      generalize hX : (ps.getD i (0, 0)).1 = X at *
      generalize hY : (ps.getD i (0, 0)).2 = Y at *
      generalize (ps.getD j (0, 0)).1 = X0 at *
      generalize (ps.getD j (0, 0)).2 = Y0 at *
      generalize (ps.getD m (0, 0)).1 = X2 at *
      generalize (ps.getD m (0, 0)).2 = Y2 at *
      have HX := Lib.hid hX; have HY := Lib.hid hY; have HIJ := Lib.hid hij; have HIL := Lib.hid hil; have HM := Lib.hid hm; have HLT := Lib.hid hlt; have HL := Lib.hid hl; have HBW := Lib.hid hbw; have HOFF := Lib.hid hoff; have HK0 := Lib.hid hk0; have HK1 := Lib.hid hk1; have HK2 := Lib.hid hk2; have HSIDE := Lib.hid hside; have HS := Lib.hid hS; have HV := Lib.hid hV; have HR2 := Lib.hid hr2; clear hX hY hij hil hm hlt hl hbw hoff hk0 hk1 hk2 hside hS hV hr2
      go_upto_region 4 with fail
      have hbelc : ∀ (u : Bel w2.heap.size w2) b o, b < w2.heap.size → u.wd.cell? ⟨b, o, none⟩ = w2.cell? ⟨b, o, none⟩ := fun u b o h => u.h.cell (p := ⟨b, o, none⟩) h
      have hbeln : Nonempty (Bel w2.heap.size w2) := ⟨⟨w2, Below.refl _ _⟩⟩
      refine wp_region_bel w2.heap.size (by kernel_rfl) (by kernel_rfl) ?_
      repeat (go_big_quiet_step ((go_at_call 79; exact quiet_bel (Nat.le_refl _) (HS.out _))))
      refine wpQuiet_nil ?_
      intro wB hB0; obtain ⟨uB, hu⟩ := hB0; have hbB0 := uB.h; rw [← hu] at hbB0; clear hu uB hbelc hbeln
      obtain ⟨hbB, hcB, hsB⟩ := bcell2 hbB0; clear hbB0
      have hb3 := HBW.out.trans (hbB.mono HBW.out.size)
      obtain ⟨w3, rfl⟩ : ∃ w3, w3 = wB := ⟨_, rfl⟩
      have hr3 := HR2.out.later hbB (Nat.le_refl _)
      have hrg3 := HRG.out.later hb3 (Nat.le_refl _)
      have hst : (false = true ∨ 0 ≤ k0) := .inr (Nat.zero_le _)
      clear hbB hcB hsB c0 c1 c2 c3 c4 c5 hbl
      have HB3 := Lib.hid hb3; have HR3 := Lib.hid hr3; have HRG3 := Lib.hid hrg3; have HST := Lib.hid hst; clear hb3 hr3 hrg3 hst
      go_wp2
      go_loopw [8, 9] (fun fv kv wr => ∃ (F : Bool) (k : Nat), fv = .bool F ∧ kv = .int .i64 (k : Int) ∧ k ≤ gs.length ∧ (F = true ∨ k ≤ k0) ∧ Below w3.heap.size w3 wr) (fun _ kv _ => gs.length - (intOf kv).toNat)
      case atStart => exact ⟨false, 0, rfl, rfl, Nat.zero_le _, HST.out, Below.refl _ _⟩
      case round =>
        obtain ⟨F, k, rfl, rfl, hkl, hF, hbz⟩ := hrel
        have hlg := HL2.out
        have k4 : IntKind.i64.wrap ((k : Int) + 1) = ((k + 1 : Nat) : Int) := by rw [IntWalk.i64_in _ (by omega)]; omega
        by_cases hkt : k < gs.length
        · have k1 : (0 : Int) ≤ (k : Int) := by omega
          have k2 : (k : Int) < (gs.length : Int) := by omega
          have k3 : decide ((k : Int) < (gs.length : Int)) = true := decide_eq_true k2
          obtain ⟨b2, o2, e2, hbl, hc⟩ := (HR3.out.later hbz (Nat.le_refl _)).all (by have := HLT.out; omega)
          injection e2 with e2
          injection e2 with e3 e4
          subst e3; subst e4
          obtain ⟨c0, c1⟩ := hc i (by have := HLT.out; have := HM.out; omega)
          clear hc
          rw [HX.out] at c0
          rw [HY.out] at c1
          obtain ⟨gl, go, rfl, hgl, hc⟩ := (HRG3.out.later hbz (Nat.le_refl _)).all (by omega)
          obtain ⟨g0, g1, g2⟩ := hc k hkt
          clear hc
          have huq := HK2.out k hkt
          have hk1 := HK1.out
          have hsd := HSIDE.out
          by_cases hkk : k = k0
          · subst hkk
            generalize (gs.getD k (0, 0, 0)).1 = gy at *
            generalize (gs.getD k (0, 0, 0)).2.1 = gL at *
            generalize (gs.getD k (0, 0, 0)).2.2 = gR at *
            have f1 : (gy == Y) = true := by simp [hk1]
            rcases hsd with ⟨s1, s2⟩ | ⟨s1, s2⟩
            · have f2 : decide (0 < V) = true := decide_eq_true s1
              have f3 : (X == gL) = true := by simp [s2]
              have HKL := Lib.hid hkl; have HF := Lib.hid hF; have HBZ := Lib.hid hbz; have HKT := Lib.hid hkt; have HLG := Lib.hid hlg; have HUQ := Lib.hid huq; have HK1 := Lib.hid hk1; have S1 := Lib.hid s1; have S2 := Lib.hid s2; clear hkl hF hbz hkt hlg huq hk1 s1 s2
              go_upto_region 11 with fail
              have hbelc : ∀ (u : Bel wr.heap.size wr) b o, b < wr.heap.size → u.wd.cell? ⟨b, o, none⟩ = wr.cell? ⟨b, o, none⟩ := fun u b o h => u.h.cell (p := ⟨b, o, none⟩) h
              have hbeln : Nonempty (Bel wr.heap.size wr) := ⟨⟨wr, Below.refl _ _⟩⟩
              refine wp_region_bel wr.heap.size (by kernel_rfl) (by kernel_rfl) ?_
              repeat (go_big_quiet_step ((fail)))
              refine wpQuiet_nil ?_
              intro wB hB0; obtain ⟨uB, hu⟩ := hB0; have hbB0 := uB.h; rw [← hu] at hbB0; clear hu uB hbelc hbeln
              obtain ⟨hbB, hcB, hsB⟩ := bcell2 hbB0; clear hbB0
              have c0 := below_at hbB (Nat.le_refl _) c0
              have c1 := below_at hbB (Nat.le_refl _) c1
              have g0 := below_at hbB (Nat.le_refl _) g0
              have g1 := below_at hbB (Nat.le_refl _) g1
              have g2 := below_at hbB (Nat.le_refl _) g2
              have hbl := Nat.lt_of_lt_of_le hbl hbB.size
              have hgl := Nat.lt_of_lt_of_le hgl hbB.size
              have hb4 := HBZ.out.trans (hbB.mono HBZ.out.size)
              clear hbB hcB hsB
              obtain ⟨w5, rfl⟩ : ∃ w5, w5 = wB := ⟨_, rfl⟩
              have HB4 := Lib.hid hb4; clear hb4
              go_upto_region 12 with fail
              have hbelc : ∀ (u : Bel w5.heap.size w5) b o, b < w5.heap.size → u.wd.cell? ⟨b, o, none⟩ = w5.cell? ⟨b, o, none⟩ := fun u b o h => u.h.cell (p := ⟨b, o, none⟩) h
              have hbeln : Nonempty (Bel w5.heap.size w5) := ⟨⟨w5, Below.refl _ _⟩⟩
              refine wp_region_bel w5.heap.size (by kernel_rfl) (by kernel_rfl) ?_
              repeat (go_big_quiet_step ((fail)))
              refine wpQuiet_nil ?_
              intro wB hB0; obtain ⟨uB, hu⟩ := hB0; have hbB0 := uB.h; rw [← hu] at hbB0; clear hu uB hbelc hbeln
              obtain ⟨hbB, hcB, hsB⟩ := bcell2 hbB0; clear hbB0
              have hb6 := HB4.out.trans (hbB.mono HB4.out.size)
              clear hbB hcB hsB
              have HB6 := Lib.hid hb6; clear hb6
              go_wp2
              go_roundw
              case rel => exact ⟨true, k + 1, rfl, by go_num, HKT.out, .inl rfl, HB6.out⟩
              case measure => have := HKT.out; simp [intOf]; omega
            · have f2 : decide (0 < V) = false := decide_eq_false (by omega)
              have f4 : decide (V < 0) = true := decide_eq_true s1
              have f3 : (X == gR) = true := by simp [s2]
              have HKL := Lib.hid hkl; have HF := Lib.hid hF; have HBZ := Lib.hid hbz; have HKT := Lib.hid hkt; have HLG := Lib.hid hlg; have HUQ := Lib.hid huq; have HK1 := Lib.hid hk1; have S1 := Lib.hid s1; have S2 := Lib.hid s2; clear hkl hF hbz hkt hlg huq hk1 s1 s2
              go_upto_region 11 with fail
              have hbelc : ∀ (u : Bel wr.heap.size wr) b o, b < wr.heap.size → u.wd.cell? ⟨b, o, none⟩ = wr.cell? ⟨b, o, none⟩ := fun u b o h => u.h.cell (p := ⟨b, o, none⟩) h
              have hbeln : Nonempty (Bel wr.heap.size wr) := ⟨⟨wr, Below.refl _ _⟩⟩
              refine wp_region_bel wr.heap.size (by kernel_rfl) (by kernel_rfl) ?_
              repeat (go_big_quiet_step ((fail)))
              refine wpQuiet_nil ?_
              intro wB hB0; obtain ⟨uB, hu⟩ := hB0; have hbB0 := uB.h; rw [← hu] at hbB0; clear hu uB hbelc hbeln
              obtain ⟨hbB, hcB, hsB⟩ := bcell2 hbB0; clear hbB0
              have c0 := below_at hbB (Nat.le_refl _) c0
              have c1 := below_at hbB (Nat.le_refl _) c1
              have g0 := below_at hbB (Nat.le_refl _) g0
              have g1 := below_at hbB (Nat.le_refl _) g1
              have g2 := below_at hbB (Nat.le_refl _) g2
              have hbl := Nat.lt_of_lt_of_le hbl hbB.size
              have hgl := Nat.lt_of_lt_of_le hgl hbB.size
              have hb4 := HBZ.out.trans (hbB.mono HBZ.out.size)
              clear hbB hcB hsB
              obtain ⟨w5, rfl⟩ : ∃ w5, w5 = wB := ⟨_, rfl⟩
              have HB4 := Lib.hid hb4; clear hb4
              go_upto_region 12 with fail
              have hbelc : ∀ (u : Bel w5.heap.size w5) b o, b < w5.heap.size → u.wd.cell? ⟨b, o, none⟩ = w5.cell? ⟨b, o, none⟩ := fun u b o h => u.h.cell (p := ⟨b, o, none⟩) h
              have hbeln : Nonempty (Bel w5.heap.size w5) := ⟨⟨w5, Below.refl _ _⟩⟩
              refine wp_region_bel w5.heap.size (by kernel_rfl) (by kernel_rfl) ?_
              repeat (go_big_quiet_step ((fail)))
              refine wpQuiet_nil ?_
              intro wB hB0; obtain ⟨uB, hu⟩ := hB0; have hbB0 := uB.h; rw [← hu] at hbB0; clear hu uB hbelc hbeln
              obtain ⟨hbB, hcB, hsB⟩ := bcell2 hbB0; clear hbB0
              have hb6 := HB4.out.trans (hbB.mono HB4.out.size)
              clear hbB hcB hsB
              have HB6 := Lib.hid hb6; clear hb6
              go_wp2
              go_roundw
              case rel => exact ⟨true, k + 1, rfl, by go_num, HKT.out, .inl rfl, HB6.out⟩
              case measure => have := HKT.out; simp [intOf]; omega
          · have hne : (gs.getD k (0, 0, 0)).1 ≠ Y := fun h => hkk (huq h)
            generalize (gs.getD k (0, 0, 0)).1 = gy at *
            generalize (gs.getD k (0, 0, 0)).2.1 = gL at *
            generalize (gs.getD k (0, 0, 0)).2.2 = gR at *
            have f1 : (gy == Y) = false := by rw [beq_eq_false_iff_ne]; exact hne
            have hnx : (F = true ∨ k + 1 ≤ k0) := by rcases hF with h | h; (exact .inl h); exact .inr (by omega)
            have HKL := Lib.hid hkl; have HF := Lib.hid hF; have HBZ := Lib.hid hbz; have HKT := Lib.hid hkt; have HLG := Lib.hid hlg; have HUQ := Lib.hid huq; have HK1 := Lib.hid hk1; have HSD := Lib.hid hsd; have HNE := Lib.hid hne; have HNX := Lib.hid hnx; have HKK := Lib.hid hkk; clear hkl hF hbz hkt hlg huq hk1 hsd hne hnx hkk
            go_upto_region 11 with fail
            have hbelc : ∀ (u : Bel wr.heap.size wr) b o, b < wr.heap.size → u.wd.cell? ⟨b, o, none⟩ = wr.cell? ⟨b, o, none⟩ := fun u b o h => u.h.cell (p := ⟨b, o, none⟩) h
            have hbeln : Nonempty (Bel wr.heap.size wr) := ⟨⟨wr, Below.refl _ _⟩⟩
            refine wp_region_bel wr.heap.size (by kernel_rfl) (by kernel_rfl) ?_
            repeat (go_big_quiet_step ((fail)))
            refine wpQuiet_nil ?_
            intro wB hB0; obtain ⟨uB, hu⟩ := hB0; have hbB0 := uB.h; rw [← hu] at hbB0; clear hu uB hbelc hbeln
            obtain ⟨hbB, hcB, hsB⟩ := bcell2 hbB0; clear hbB0
            have hb4 := HBZ.out.trans (hbB.mono HBZ.out.size)
            clear hbB hcB hsB
            have HB4 := Lib.hid hb4; clear hb4
            go_wp2
            go_roundw
            case rel => exact ⟨F, k + 1, rfl, by go_num, HKT.out, HNX.out, HB4.out⟩
            case measure => have := HKT.out; simp [intOf]; omega
        · obtain rfl : k = gs.length := by omega
          have k3 : decide ((gs.length : Int) < (gs.length : Int)) = false := decide_eq_false (by omega)
          obtain rfl : F = true := by rcases hF with h | h; (exact h); (have := HK0.out; omega)
          have hb4 := HB3.out.trans (hbz.mono HB3.out.size)
          have HKL := Lib.hid hkl; have HF := Lib.hid hF; have HBZ := Lib.hid hbz; have HKT := Lib.hid hkt; have HB4 := Lib.hid hb4; clear hkl hF hbz hkt hb4
          go_wp2
          go_roundw
          case rel => exact ⟨m, i, by go_num, HM.out, by have := HLT.out; omega, HB4.out⟩
          case measure => have := HLT.out; have := HM.out; simp [intOf]; omega
    · have d2 : decide ((m : Int) < (ps.length : Int)) = false := decide_eq_false (by omega)
      have x9 : ¬ (m : Int) < (ps.length : Int) := by omega
      have HIJ := Lib.hid hij; have HIL := Lib.hid hil; have HBW := Lib.hid hbw; have HLT := Lib.hid hlt; have HL := Lib.hid hl; have HM := Lib.hid hm; clear hij hil hbw hlt hl hm
      go_wp2
      go_ret
      exact ⟨rfl, HBW.out⟩
end Go.Proofs.Ytlmhgcllikcedaa
/- The law TensionShortest, walked. -/
namespace Go.Proofs.Ytlmhgcllikcedaa
open Go.RowKit

/-- The slice at A holds these 16 bit numbers. -/
def RdU9 (w : World) (L : Option Addr) (xs : List Int) : Prop := xs.length ≤ 281474976710656 ∧ (∀ x ∈ xs, 0 ≤ x ∧ x ≤ 65535) ∧ Rd w L 1 xs.length fun j => .int .u16 (xs.getD j 0)
theorem RdU9.at_ {w : World} {A : Option Addr} {xs : List Int} (h : RdU9 w A xs) {k : Nat} (hk : k < xs.length) : ∃ b off, A = some ⟨b, off, none⟩ ∧ b < w.heap.size ∧ w.cell? ⟨b, off + k, none⟩ = some (.int .u16 (xs.getD k 0)) ∧ 0 ≤ xs.getD k 0 ∧ xs.getD k 0 ≤ 65535 := by
  obtain ⟨b, off, e, hlt, hc⟩ := h.2.2 (by omega)
  have hx : xs.getD k 0 = xs[k] := by simp [List.getD_eq_getElem?_getD, hk]
  exact ⟨b, off, e, hlt, hc k (by omega), by rw [hx]; exact h.2.1 _ (List.getElem_mem hk)⟩
theorem RdU9.later {w w' : World} {B : Nat} {A : Option Addr} {xs : List Int} (h : RdU9 w A xs) (hb : Below B w w') (hB : w.heap.size ≤ B) : RdU9 w' A xs := ⟨h.1, h.2.1, h.2.2.later hb hB⟩
theorem taut_bad {o p : Int × Int} {gs : List Gt} (h : (tautV o gs p).2 ≠ 0) : (tautV o gs p).1 = [] := by
  unfold tautV at h ⊢
  split at h
  · exact absurd rfl h
  · rename_i h1
    rw [if_neg h1]
theorem keepG {w4 w6 wX : World} {GB : Nat} (h : Below w4.heap.size w4 wX) (h2 : wX.heap[GB]? = w6.heap[GB]? ∧ GB < wX.heap.size) : Below w4.heap.size w4 wX ∧ (∀ b o, b < w4.heap.size → wX.cell? ⟨b, o, none⟩ = w4.cell? ⟨b, o, none⟩) ∧ w4.heap.size ≤ wX.heap.size ∧ (∀ o, wX.cell? ⟨GB, o, none⟩ = w6.cell? ⟨GB, o, none⟩) ∧ GB < wX.heap.size := by
  obtain ⟨a, b, c⟩ := bcell2 h
  exact ⟨a, b, c, fun o => by simp [World.cell?, h2.1], h2.2⟩
set_option maxRecDepth 100000 in
set_option maxHeartbeats 16000000 in
theorem lawShortest_ (a b c : Int) (t : Thr) (ga : Option Addr) (gc : Nat) (ra : Option Addr) (rc : Nat) (UA : Option Addr) (uc : Nat) (us : List Int) (w : World) (hrg : RdG w ga t.gs) (hu : RdU9 w UA us) :
    Calls Try.prog 9 #[.agg #[.int .i64 a, .int .i64 b, .int .i64 c], .agg (thrC t ga gc ra rc), .slice UA us.length uc] w fun e w' => e = .returned (.bool true) ∧ Below w.heap.size w w' := by
  have haw := fun W => awake19_ W
  have hlarge := fun W (h : RdG W ga t.gs) (hl : t.gs.length ≤ 100) => lLarge19_ t ga gc ra rc W h hl
  unfold thrC at hlarge ⊢
  obtain ⟨big, hbig⟩ : ∃ x, x = bigT t := ⟨_, rfl⟩
  rw [← hbig] at hlarge
  obtain ⟨⟨ox, oy⟩, ⟨px, py⟩, gs, giv⟩ := t
  simp only at hlarge hrg ⊢
  generalize hrl : giv.length = rl at *
  have hlg := hrg.1
  have hlu := hu.1
  obtain ⟨w1, hw1⟩ : ∃ w1, w1 = (w.alloc (.cells #[.int .i64 a, .int .i64 b, .int .i64 c] 38)).alloc (.cells #[.int .i64 ox, .int .i64 oy, .int .i64 px, .int .i64 py, .slice ga gs.length gc, .slice ra rl rc] 48) := ⟨_, rfl⟩
  have hb1 : Below w.heap.size w w1 := by rw [hw1]; exact ((Below.refl _ _).alloc (Nat.le_refl _) _).alloc (by simp) _
  have hL1 : w1.heap[w.heap.size]? = some (.cells #[.int .i64 a, .int .i64 b, .int .i64 c] 38 (0, 0)) := by rw [hw1]; exact heap_alloc2_old _ _ _
  have hT1 : w1.heap[w.heap.size + 1]? = some (.cells #[.int .i64 ox, .int .i64 oy, .int .i64 px, .int .i64 py, .slice ga gs.length gc, .slice ra rl rc] 48 (0, 0)) := by rw [hw1]; exact heap_alloc2_new _ _ _
  have hu1 := hu.later hb1 (Nat.le_refl _)
  have hrg1 := hrg.later hb1 (Nat.le_refl _)
  clear hu hrg
  have t0 := cell_of_row _ _ 0 _ _ _ hT1
  have t1 := cell_of_row _ _ 1 _ _ _ hT1
  have t2 := cell_of_row _ _ 2 _ _ _ hT1
  have t3 := cell_of_row _ _ 3 _ _ _ hT1
  have t4 := cell_of_row _ _ 4 _ _ _ hT1
  have t5 := cell_of_row _ _ 5 _ _ _ hT1
  simp only [List.getElem?_toArray, List.getElem?_cons_zero, List.getElem?_cons_succ] at t0 t1 t2 t3 t4 t5
  have hTl := lt_of_block hT1
  by_cases h20 : 20 < gs.length
  · have d1 : decide ((20 : Int) < (gs.length : Int)) = true := decide_eq_true (by omega)
    have HAW := Lib.hid haw; have HLARGE := Lib.hid hlarge; have HB1 := Lib.hid hb1; have HL1 := Lib.hid hL1; have HT1 := Lib.hid hT1; have HU1 := Lib.hid hu1; have HRG1 := Lib.hid hrg1; have HLG := Lib.hid hlg; have HLU := Lib.hid hlu; have H20 := Lib.hid h20; have HBIG := Lib.hid hbig; have HRL := Lib.hid hrl; clear haw hlarge hb1 hL1 hT1 hu1 hrg1 hlg hlu h20 hbig hrl
    go_enter Try.func9, Try.ntmps9
    go_upto_region 1 with fail
    rw [← hw1]
    clear hw1
    go_wp2_with fail
    refine (HAW.out _).mono ?_
    rintro e w2 ⟨rfl, b1⟩
    have hb2 := HB1.out.trans (b1.mono HB1.out.size)
    clear b1 t0 t1 t2 t3 t4 t5 hTl
    have HB2 := Lib.hid hb2; clear hb2
    go_wp2
    go_ret
    exact ⟨rfl, HB2.out⟩
  have d1 : decide ((20 : Int) < (gs.length : Int)) = false := decide_eq_false (by omega)
  by_cases hu0 : us.length = 0
  · have d2 : ((us.length : Int) == 0) = true := by simp [hu0]
    have d3 : (us.length == 0) = true := by simp [hu0]
    have HAW := Lib.hid haw; have HLARGE := Lib.hid hlarge; have HB1 := Lib.hid hb1; have HL1 := Lib.hid hL1; have HT1 := Lib.hid hT1; have HU1 := Lib.hid hu1; have HRG1 := Lib.hid hrg1; have HLG := Lib.hid hlg; have HLU := Lib.hid hlu; have H20 := Lib.hid h20; have HBIG := Lib.hid hbig; have HRL := Lib.hid hrl; have HU0 := Lib.hid hu0; clear haw hlarge hb1 hL1 hT1 hu1 hrg1 hlg hlu h20 hbig hrl hu0
    go_enter Try.func9, Try.ntmps9
    go_upto_region 1 with fail
    rw [← hw1]
    clear hw1
    go_wp2_with fail
    refine (HAW.out _).mono ?_
    rintro e w2 ⟨rfl, b1⟩
    have hb2 := HB1.out.trans (b1.mono HB1.out.size)
    clear b1 t0 t1 t2 t3 t4 t5 hTl
    have HB2 := Lib.hid hb2; clear hb2
    go_wp2
    go_ret
    exact ⟨rfl, HB2.out⟩
  have d2 : ((us.length : Int) == 0) = false := by rw [beq_eq_false_iff_ne]; omega
  have d3 : (us.length == 0) = false := by rw [beq_eq_false_iff_ne]; exact hu0
  have hcl := hlarge w1 hrg1 (by omega)
  have HAW := Lib.hid haw; have HLARGE := Lib.hid hlarge; have HB1 := Lib.hid hb1; have HL1 := Lib.hid hL1; have HT1 := Lib.hid hT1; have HU1 := Lib.hid hu1; have HRG1 := Lib.hid hrg1; have HLG := Lib.hid hlg; have HLU := Lib.hid hlu; have H20 := Lib.hid h20; have HBIG := Lib.hid hbig; have HRL := Lib.hid hrl; have HU0 := Lib.hid hu0; have HCL := Lib.hid hcl; clear haw hlarge hb1 hL1 hT1 hu1 hrg1 hlg hlu h20 hbig hrl hu0 hcl
  go_enter Try.func9, Try.ntmps9
  go_upto_region 1 with fail
  rw [← hw1]
  clear hw1
  go_wp2_with fail
  refine HCL.out.mono ?_
  rintro e w2 ⟨rfl, b1⟩
  have hL2 := (b1.block _ (lt_of_block HL1.out)).trans HL1.out
  have hT2 := (b1.block _ (lt_of_block HT1.out)).trans HT1.out
  have hu2 := HU1.out.later b1 (Nat.le_refl _)
  have hrg2 := HRG1.out.later b1 (Nat.le_refl _)
  have hb2 := HB1.out.trans (b1.mono HB1.out.size)
  clear b1 t0 t1 t2 t3 t4 t5 hTl HB1 HL1 HT1 HU1 HRG1 HCL HLARGE
  cases big with
  | true =>
    have HL2 := Lib.hid hL2; have HT2 := Lib.hid hT2; have HU2 := Lib.hid hu2; have HRG2 := Lib.hid hrg2; have HB2 := Lib.hid hb2; clear hL2 hT2 hu2 hrg2 hb2
    go_wp2_with fail
    refine (HAW.out _).mono ?_
    rintro e w3 ⟨rfl, b1⟩
    have hb3 := HB2.out.trans (b1.mono HB2.out.size)
    clear b1
    have HB3 := Lib.hid hb3; clear hb3
    go_wp2
    go_ret
    exact ⟨rfl, HB3.out⟩
  | false =>
  have t0 := cell_of_row _ _ 0 _ _ _ hT2
  have t1 := cell_of_row _ _ 1 _ _ _ hT2
  have t2 := cell_of_row _ _ 2 _ _ _ hT2
  have t3 := cell_of_row _ _ 3 _ _ _ hT2
  have t4 := cell_of_row _ _ 4 _ _ _ hT2
  simp only [List.getElem?_toArray, List.getElem?_cons_zero, List.getElem?_cons_succ] at t0 t1 t2 t3 t4
  have hTl := lt_of_block hT2
  have hcall := tnTaut_ ga gc (ox, oy) (px, py) gs w2 hrg2
  have hTer := @taut_err (ox, oy) (px, py) gs
  have hTbd := @taut_bad (ox, oy) (px, py) gs
  have hfac := fun h => @sho_facts (ox, oy) (px, py) gs giv h HBIG.out.symm
  generalize tautV (ox, oy) gs (px, py) = TV at *
  obtain ⟨W, E⟩ := TV
  simp only at hTer hTbd
  have HL2 := Lib.hid hL2; have HT2 := Lib.hid hT2; have HU2 := Lib.hid hu2; have HRG2 := Lib.hid hrg2; have HB2 := Lib.hid hb2; have HCALL := Lib.hid hcall; have HTER := Lib.hid hTer; have HTBD := Lib.hid hTbd; have HFAC := Lib.hid hfac; clear hL2 hT2 hu2 hrg2 hb2 hcall hTer hTbd hfac
  go_wp2_with fail
  refine HCALL.out.mono ?_
  rintro e w3 ⟨WA, wd, rfl, hrw3, hwd3, b1⟩
  simp only at hrw3 hwd3
  have hL3 := (b1.block _ (lt_of_block HL2.out)).trans HL2.out
  have hT3 := (b1.block _ (lt_of_block HT2.out)).trans HT2.out
  have hu3 := HU2.out.later b1 (Nat.le_refl _)
  have hrg3 := HRG2.out.later b1 (Nat.le_refl _)
  have hb3 := HB2.out.trans (b1.mono HB2.out.size)
  clear b1 t0 t1 t2 t3 t4 hTl HB2 HL2 HT2 HU2 HRG2 HCALL
  by_cases hE : E = 0
  rotate_left
  · have f1 : (E != 0) = true := by simp [hE]
    obtain rfl := HTBD.out hE
    have HL3 := Lib.hid hL3; have HT3 := Lib.hid hT3; have HU3 := Lib.hid hu3; have HRG3 := Lib.hid hrg3; have HB3 := Lib.hid hb3; have HRW3 := Lib.hid hrw3; have HWD3 := Lib.hid hwd3; have HE := Lib.hid hE; clear hL3 hT3 hu3 hrg3 hb3 hrw3 hwd3 hE
    go_wp2_with fail
    refine (HAW.out _).mono ?_
    rintro e w4 ⟨rfl, b1⟩
    have hb4 := HB3.out.trans (b1.mono HB3.out.size)
    clear b1
    have HB4 := Lib.hid hb4; clear hb4
    go_wp2
    go_ret
    exact ⟨rfl, HB4.out⟩
  subst hE
  have hg0 := HTER.out rfl
  obtain ⟨l, hWl, ht, hln, hll, hlast, hoff, hbad, hp1, hp2, hrd⟩ := HFAC.out hg0
  obtain rfl : W = (ox, oy) :: l := by injection hWl
  clear hWl
  have hl20 := H20.out
  have hl1 : 1 ≤ l.length := by cases l with | nil => exact absurd rfl hln | cons _ _ => simp
  have hpas := fun V (h : Below w3.heap.size w3 V) => lPasses19_ WA ga wd gc ((ox, oy) :: l) gs V (hrw3.later h (Nat.le_refl _)) (hrg3.later h (Nat.le_refl _)) (by simp) (by simp; omega) (by omega) hoff hbad hp1 hp2
  have hrnd := fun V (h : Below w3.heap.size w3 V) => lRound19_ WA ga wd gc ((ox, oy) :: l) gs V (hrw3.later h (Nat.le_refl _)) (hrg3.later h (Nat.le_refl _)) (by simp; omega) (by omega) hrd
  have hst := fun us e e' => @len_stops a b c a b c ((ox, oy) :: l) ((ox, oy) :: (otR us gs gs.length ++ [(px, py)])) e e' (by simp) (by simp) (by simp; omega) (by simp [otR_length]; omega)
  have hcm := fun us e e' => @sho_cmp a b c (ox, oy) (px, py) gs us l hg0 (by omega) ht hln hll e e'
  clear hp1 hp2 hrd hoff ht
  obtain ⟨bl, off, rfl, hbl, hc⟩ := hrw3.all (by simp)
  obtain ⟨c0, c1⟩ := hc 0 (by simp)
  obtain ⟨c2, c3⟩ := hc l.length (by simp)
  clear hc
  have e0 : (((ox, oy) :: l).getD 0 (0, 0)) = (ox, oy) := rfl
  rw [e0] at c0 c1
  rw [hlast] at c2 c3
  clear e0
  obtain ⟨n, hn⟩ : ∃ n, n = l.length := ⟨_, rfl⟩
  rw [← hn] at c2 c3
  have hlen : ((ox, oy) :: l).length = n + 1 := by rw [hn]; rfl
  generalize hWW : (ox, oy) :: l = W at *
  rw [hlen] at hpas hrnd ⊢
  have n1 : decide (((n + 1 : Nat) : Int) < 2) = false := decide_eq_false (by omega)
  have n2 : IntKind.i64.wrap (((n + 1 : Nat) : Int) - 1) = (n : Int) := by rw [IntWalk.i64_in _ (by omega)]; omega
  have n3 : (0 : Int) < ((n + 1 : Nat) : Int) := by omega
  have n4 : (0 : Int) ≤ (n : Int) := by omega
  have n5 : (n : Int) < ((n + 1 : Nat) : Int) := by omega
  have t0 := cell_of_row _ _ 0 _ _ _ hT3
  have t1 := cell_of_row _ _ 1 _ _ _ hT3
  have t2 := cell_of_row _ _ 2 _ _ _ hT3
  have t3 := cell_of_row _ _ 3 _ _ _ hT3
  have t4 := cell_of_row _ _ 4 _ _ _ hT3
  simp only [List.getElem?_toArray, List.getElem?_cons_zero, List.getElem?_cons_succ] at t0 t1 t2 t3 t4
  have hTl := lt_of_block hT3
  simp only [Nat.zero_mul, Nat.add_zero] at c0 c1
  have hv1 : ∀ V, (binOp .neq 45 (.agg #[.int .i64 ox, .int .i64 oy]) (.agg #[.int .i64 ox, .int .i64 oy])).run Try.prog V = .ok (.bool false) V := fun V => by rw [pairNe_GrPoint (ox, oy) (ox, oy) V]; simp
  have hv2 : ∀ V, (binOp .neq 45 (.agg #[.int .i64 px, .int .i64 py]) (.agg #[.int .i64 px, .int .i64 py])).run Try.prog V = .ok (.bool false) V := fun V => by rw [pairNe_GrPoint (px, py) (px, py) V]; simp
  generalize hN : n + 1 = N at *
  have HBAD := Lib.hid hbad; have HL3 := Lib.hid hL3; have HT3 := Lib.hid hT3; have HU3 := Lib.hid hu3; have HRG3 := Lib.hid hrg3; have HB3 := Lib.hid hb3; have HRW3 := Lib.hid hrw3; have HWD3 := Lib.hid hwd3; have HG0 := Lib.hid hg0; have HLL := Lib.hid hll; have HLN := Lib.hid hln; have HLAST := Lib.hid hlast; have HL20 := Lib.hid hl20; have HL1 := Lib.hid hl1; have HPAS := Lib.hid hpas; have HRND := Lib.hid hrnd; have HST := Lib.hid hst; have HCM := Lib.hid hcm; have HN := Lib.hid hn; have HLEN := Lib.hid hlen; have HWW := Lib.hid hWW; have HN := Lib.hid hN; clear hbad hL3 hT3 hu3 hrg3 hb3 hrw3 hwd3 hg0 hll hln hlast hl20 hl1 hpas hrnd hst hcm hn hlen hWW hN
  go_upto_region 7 with fail
  have hbelc : ∀ (u : Bel w3.heap.size w3) b o, b < w3.heap.size → u.wd.cell? ⟨b, o, none⟩ = w3.cell? ⟨b, o, none⟩ := fun u b o h => u.h.cell (p := ⟨b, o, none⟩) h
  have hbeln : Nonempty (Bel w3.heap.size w3) := ⟨⟨w3, Below.refl _ _⟩⟩
  refine wp_region_bel w3.heap.size (by kernel_rfl) (by kernel_rfl) ?_
  repeat (go_big_quiet_step ((first | (go_at_call 35; exact quiet_bel (Nat.le_refl _) (HPAS.out _ (Bel.h _))) | (go_at_call 36; exact quiet_bel (Nat.le_refl _) (HRND.out _ (Bel.h _))))))
  refine wpQuiet_nil ?_
  intro wB hB0; obtain ⟨uB, hu⟩ := hB0; have hbB0 := uB.h; rw [← hu] at hbB0; clear hu uB hbelc hbeln
  obtain ⟨hbB, hcB, hsB⟩ := bcell2 hbB0; clear hbB0
  obtain ⟨w4, rfl⟩ : ∃ w4, w4 = wB := ⟨_, rfl⟩
  have hL4 := (hbB.block _ (lt_of_block HL3.out)).trans HL3.out
  have hT4 := (hbB.block _ (lt_of_block HT3.out)).trans HT3.out
  have hu4 := HU3.out.later hbB (Nat.le_refl _)
  have hrg4 := HRG3.out.later hbB (Nat.le_refl _)
  have hrw4 := HRW3.out.later hbB (Nat.le_refl _)
  have hb4 := HB3.out.trans (hbB.mono HB3.out.size)
  clear hbB hcB hsB hbl c0 c1 c2 c3 t0 t1 t2 t3 t4 hTl hv1 hv2 HPAS HRND HL3 HT3 HU3 HRG3 HB3 HRW3
  have t0 := cell_of_row _ _ 0 _ _ _ hT4
  have t1 := cell_of_row _ _ 1 _ _ _ hT4
  have t2 := cell_of_row _ _ 2 _ _ _ hT4
  have t3 := cell_of_row _ _ 3 _ _ _ hT4
  have t4 := cell_of_row _ _ 4 _ _ _ hT4
  simp only [List.getElem?_toArray, List.getElem?_cons_zero, List.getElem?_cons_succ] at t0 t1 t2 t3 t4
  have hTl := lt_of_block hT4
  have hown0 : (w4.alloc (.cells #[.int .i64 ox, .int .i64 oy] 45)).ownsRow w4.heap.size 45 2 (.slice (some ⟨w4.heap.size, 0, none⟩) 1 1) [(ox, oy)].length (rootC [(ox, oy)]) :=
    ⟨rfl, .inr ⟨w4.heap.size, 1, #[.int .i64 ox, .int .i64 oy], rfl, Nat.le_refl _, heap_alloc_new _ _, Nat.le_refl _, by unfold maxLen; omega, rfl, rfl⟩⟩
  have hbw0 : Below w4.heap.size w4 (w4.alloc (.cells #[.int .i64 ox, .int .i64 oy] 45)) := (Below.refl _ _).alloc (Nat.le_refl _) _
  have HL4 := Lib.hid hL4; have HT4 := Lib.hid hT4; have HU4 := Lib.hid hu4; have HRG4 := Lib.hid hrg4; have HRW4 := Lib.hid hrw4; have HB4 := Lib.hid hb4; have HOWN0 := Lib.hid hown0; have HBW0 := Lib.hid hbw0; clear hL4 hT4 hu4 hrg4 hrw4 hb4 hown0 hbw0
  go_wp2
  go_loopw [10, 11, 12] (fun ov iv _ wr => ∃ (k : Nat) (Z : List (Int × Int)) (g d : Nat), ov = .slice (some ⟨g, 0, none⟩) Z.length d ∧ iv = .int .i64 (k : Int) ∧ k ≤ gs.length ∧ Z = (ox, oy) :: otR us gs k ∧ wr.ownsRow w4.heap.size 45 2 (.slice (some ⟨g, 0, none⟩) Z.length d) Z.length (rootC Z) ∧ Below w4.heap.size w4 wr) (fun _ iv _ _ => gs.length - (intOf iv).toNat)
  case atStart => exact ⟨0, [(ox, oy)], w4.heap.size, 1, rfl, rfl, Nat.zero_le _, rfl, HOWN0.out, HBW0.out⟩
  case round =>
    clear HOWN0 HBW0
    obtain ⟨k, Z, g, d, rfl, rfl, hk, hZ, hown, hbw⟩ := hrel
    have hl20 := HL20.out
    have hZl : Z.length = k + 1 := by rw [hZ]; simp [otR_length]
    by_cases hlt : k < gs.length
    · have q1 : (0 : Int) ≤ (k : Int) := by omega
      have q2 : (k : Int) < (gs.length : Int) := by omega
      have x2 : decide ((k : Int) < (gs.length : Int)) = true := decide_eq_true q2
      have hu0 := HU0.out
      have hKl : k % us.length < us.length := Nat.mod_lt _ (by omega)
      obtain ⟨K, hK⟩ : ∃ K, K = k % us.length := ⟨_, rfl⟩
      rw [← hK] at hKl
      obtain ⟨ub, uo, rfl, hubl, cu, hU1, hU2⟩ := HU4.out.at_ hKl
      obtain ⟨gl, go, rfl, hgl, hc⟩ := HRG4.out.all (by omega)
      obtain ⟨g0, g1, g2⟩ := hc k hlt
      clear hc
      have hgb := HBAD.out k hlt
      have hgb2 : offP (Gt.l (gs.getD k (0, 0, 0))) = false ∧ offP (Gt.r (gs.getD k (0, 0, 0))) = false ∧ ¬ (gs.getD k (0, 0, 0)).2.2 < (gs.getD k (0, 0, 0)).2.1 := by
        unfold badG at hgb
        simp only [Bool.or_eq_false_iff, decide_eq_false_iff_not] at hgb
        exact ⟨hgb.1.1, hgb.1.2, hgb.2⟩
      have b1 := (off_bd hgb2.1).1
      have b2 := (off_bd hgb2.2.1).1
      have b3 := hgb2.2.2
      have hX : pkX us gs k = (gs.getD k (0, 0, 0)).2.1 + us.getD K 0 % ((gs.getD k (0, 0, 0)).2.2 - (gs.getD k (0, 0, 0)).2.1 + 1) := by unfold pkX; rw [hK]
      have hnx : (ox, oy) :: otR us gs (k + 1) = Z ++ [(pkX us gs k, (gs.getD k (0, 0, 0)).1)] := by rw [otR_succ, hZ]; rfl
      simp only [Gt.l, Gt.r] at b1 b2
      clear hgb hgb2
      generalize pkX us gs k = X at *
      generalize us.getD K 0 = U at *
      generalize (gs.getD k (0, 0, 0)).1 = gy at *
      generalize (gs.getD k (0, 0, 0)).2.1 = gL at *
      generalize (gs.getD k (0, 0, 0)).2.2 = gR at *
      obtain ⟨S1, hS1⟩ : ∃ S, S = gR - gL := ⟨_, rfl⟩
      obtain ⟨S2, hS2⟩ : ∃ S, S = gR - gL + 1 := ⟨_, rfl⟩
      obtain ⟨M, hM⟩ : ∃ M, M = U % (gR - gL + 1) := ⟨_, rfl⟩
      rw [← hM] at hX
      have m1 := Int.emod_nonneg U (show gR - gL + 1 ≠ 0 by omega)
      have m2 := Int.emod_lt_of_pos U (show 0 < gR - gL + 1 by omega)
      rw [← hM] at m1 m2
      have y4 : U.tmod S2 = M := by rw [hS2, Int.tmod_eq_emod_of_nonneg hU1]; exact hM.symm
      have y7 : (S2 == 0) = false := by rw [beq_eq_false_iff_ne]; omega
      have y8 : ¬ (us.length : Int) = 0 := by omega
      have y9 : ¬ S2 = 0 := by omega
      have y10 : ¬ us.length = 0 := by omega
      have y11 : ¬ us = [] := fun h => y10 (by rw [h]; rfl)
      have r1 : Int.tmod (k : Int) (us.length : Int) = (K : Int) := by rw [hK]; exact (Int.ofNat_tmod _ _).symm
      have r3 : (0 : Int) ≤ (K : Int) := by omega
      have r4 : (K : Int) < (us.length : Int) := by omega
      have y1 : IntKind.i64.wrap (gR - gL) = S1 := by rw [IntWalk.i64_in _ (by omega)]; omega
      have y2 : IntKind.i64.wrap (S1 + 1) = S2 := by rw [IntWalk.i64_in _ (by omega)]; omega
      have y3 : IntKind.i64.wrap U = U := by rw [IntWalk.i64_in _ (by omega)]
      have y5 : IntKind.i64.wrap M = M := by rw [IntWalk.i64_in _ (by omega)]
      have y6 : IntKind.i64.wrap (gL + M) = X := by rw [IntWalk.i64_in _ (by omega)]; omega
      have r2 : IntKind.i64.wrap (K : Int) = (K : Int) := by rw [IntWalk.i64_in _ (by have := HLU.out; omega)]
      have q3 : IntKind.i64.wrap ((k : Int) + 1) = ((k + 1 : Nat) : Int) := by rw [IntWalk.i64_in _ (by omega)]; omega
      obtain ⟨w6, hw6⟩ : ∃ w6, w6 = wr.alloc (.cells #[.int .i64 gy, .int .i64 gL, .int .i64 gR] 68) := ⟨_, rfl⟩
      have hb6 : Below w4.heap.size w4 w6 := by rw [hw6]; exact hbw.alloc hbw.size _
      have hown6 : w6.ownsRow w4.heap.size 45 2 (.slice (some ⟨g, 0, none⟩) Z.length d) Z.length (rootC Z) := by rw [hw6]; exact hown.alloc _
      have hGB : w6.heap[wr.heap.size]? = some (.cells #[.int .i64 gy, .int .i64 gL, .int .i64 gR] 68 (0, 0)) := by rw [hw6]; exact heap_alloc_new _ _
      have hgne : g < wr.heap.size := (hown.lt g rfl).2
      have t4 := below_at hbw (Nat.le_refl _) t4
      have hTl := Nat.lt_of_lt_of_le hTl hbw.size
      have g0 := below_at hbw (Nat.le_refl _) g0
      have g1 := below_at hbw (Nat.le_refl _) g1
      have g2 := below_at hbw (Nat.le_refl _) g2
      have hgl := Nat.lt_of_lt_of_le hgl hbw.size
      clear hS1 hS2 hM hK hX m1 m2 b1 b2 b3 hU1 hU2 hown hZl
      have HBW := Lib.hid hbw; have HZ := Lib.hid hZ; have HNX := Lib.hid hnx; have HLT := Lib.hid hlt; have HK := Lib.hid hk; have HB6 := Lib.hid hb6; have HOWN6 := Lib.hid hown6; have HGB := Lib.hid hGB; have HGNE := Lib.hid hgne; have HW6 := Lib.hid hw6; have HU0 := Lib.hid hu0; have HKL := Lib.hid hKl; have HL20 := Lib.hid hl20; clear hbw hZ hnx hlt hk hb6 hown6 hGB hgne hw6 hu0 hKl hl20
      go_upto_region 14 with fail
      rw [← HW6.out]
      clear HW6 t4 hTl g0 g1 g2 hgl
      generalize wr.heap.size = GB at *
      have z0 := cell_of_row _ _ 0 _ _ _ HGB.out
      have z1 := cell_of_row _ _ 1 _ _ _ HGB.out
      have z2 := cell_of_row _ _ 2 _ _ _ HGB.out
      simp only [List.getElem?_toArray, List.getElem?_cons_zero, List.getElem?_cons_succ] at z0 z1 z2
      have hzl := lt_of_block HGB.out
      have hG6 : w6.heap[GB]? = w6.heap[GB]? ∧ GB < w6.heap.size := ⟨rfl, hzl⟩
      have hpt : ∀ (V : World), V.ownsRow w4.heap.size 45 2 (.slice (some ⟨g, 0, none⟩) Z.length d) Z.length (rootC Z) → Below w4.heap.size w4 V → (V.heap[GB]? = w6.heap[GB]? ∧ GB < V.heap.size) → Calls Try.prog 37 #[.int .i64 X, .int .i64 gy] V fun e w' => e = .returned (.agg #[.int .i64 X, .int .i64 gy]) ∧ w'.ownsRow w4.heap.size 45 2 (.slice (some ⟨g, 0, none⟩) Z.length d) Z.length (rootC Z) ∧ Below w4.heap.size w4 w' ∧ (w'.heap[GB]? = w6.heap[GB]? ∧ GB < w'.heap.size) := fun V h1 h2 h3 => by
        refine (lPt19_ X gy V).mono ?_
        rintro e w' ⟨rfl, hb⟩
        exact ⟨rfl, own_keepR h1 hb, h2.trans (hb.mono h2.size), (hb.block _ h3.2).trans h3.1, Nat.lt_of_lt_of_le h3.2 hb.size⟩
      have HG6 := Lib.hid hG6; have HPT := Lib.hid hpt; clear hG6 hpt
      go_region_held3 (fun wX => Below w4.heap.size w4 wX ∧ (∀ b o, b < w4.heap.size → wX.cell? ⟨b, o, none⟩ = w4.cell? ⟨b, o, none⟩) ∧ w4.heap.size ≤ wX.heap.size ∧ (∀ o, wX.cell? ⟨GB, o, none⟩ = w6.cell? ⟨GB, o, none⟩) ∧ GB < wX.heap.size)
        ((refine keepG (w6 := w6) ?_ ?_; (first | exact HB6.out | exact HB6.out.drew | exact hB9 | exact hbX | exact hbX.alloc hbX.size _); (first | exact HG6.out | exact hG9 | exact hGX | exact ⟨(Below.heap_alloc _ _ _ hGX.2).trans hGX.1, Nat.lt_of_lt_of_le hGX.2 (by simp)⟩)))
        (first
          | (go_at_call 37; refine (HPT.out _ ?hq1 ?hq2 ?hq3).mono ?_; (case hq1 => first | exact HOWN6.out | exact HOWN6.out.drew); (case hq2 => first | exact HB6.out | exact HB6.out.drew); (case hq3 => exact HG6.out); rintro e w7 ⟨rfl, hownX, hbX, hGX⟩)
          | (refine step_app1Po_Try (by rfl) _ _ (by rfl) w4.heap.size (.slice (some ⟨g, 0, none⟩) Z.length d) Z (by rfl) (by first | exact hownX.alloc _ | exact (hownX.alloc _).drew | exact hownX) _ (X, gy) (by rfl) (heap_alloc_new _ _) (by have := HZ.out; have := HK.out; have := HL20.out; rw [HZ.out]; simp [otR_length]; omega) (by have := hbX.size; simp; omega) ?_; intro g9 cap w9 hown9 hgrow hat9 hlt9; have hB9 : Below w4.heap.size w4 w9 := Below.grown (hbX.alloc hbX.size _) hgrow (by have := hbX.size; simp; omega) (fun k hk => (hownX.lt _ hk).1); have hG9 : w9.heap[GB]? = w6.heap[GB]? ∧ GB < w9.heap.size := ⟨(hgrow.block _ (by have := hGX.2; simp; omega) (by have := HGNE.out; simp [Value.ownBlock]; omega)).trans ((Below.heap_alloc _ _ _ hGX.2).trans hGX.1), by have := hgrow.size; have := hGX.2; simp at *; omega⟩))
      all_goals
        have hl2 : Z.length + 1 = (Z ++ [(X, gy)]).length := by simp
        rw [hl2] at hown9 ⊢
        clear hl2 hgrow
        have HOWN9 := Lib.hid hown9; have HB9 := Lib.hid hB9; clear hown9 hB9
        go_wp2
        go_roundw
        case rel => exact ⟨k + 1, Z ++ [(X, gy)], g9, cap, rfl, by go_num, HLT.out, HNX.out.symm, HOWN9.out, HB9.out⟩
        case measure => have := HLT.out; simp [intOf]; omega
    · obtain rfl : k = gs.length := by omega
      have x2 : decide ((gs.length : Int) < (gs.length : Int)) = false := decide_eq_false (by omega)
      obtain ⟨w5, rfl⟩ : ∃ w5, w5 = wr := ⟨_, rfl⟩
      have hL5 := (hbw.block _ (lt_of_block HL4.out)).trans HL4.out
      have hrw5 := HRW4.out.later hbw (Nat.le_refl _)
      have hb5 := HB4.out.trans (hbw.mono HB4.out.size)
      have t2 := below_at hbw (Nat.le_refl _) t2
      have t3 := below_at hbw (Nat.le_refl _) t3
      have t4 := below_at hbw (Nat.le_refl _) t4
      have hTl := Nat.lt_of_lt_of_le hTl hbw.size
      have hZ2 : Z ++ [(px, py)] = (ox, oy) :: (otR us gs gs.length ++ [(px, py)]) := by rw [hZ]; rfl
      have hst := HST.out us
      have hcm := HCM.out us
      rw [← hZ2] at hst hcm
      have hl1 : Z.length ≤ 1000000 := by omega
      have hsz := hbw.size
      clear t0 t1 HST HCM
      have HZ := Lib.hid hZ; have HZL := Lib.hid hZl; have HZ2 := Lib.hid hZ2; have HST := Lib.hid hst; have HCM := Lib.hid hcm; have HL5 := Lib.hid hL5; have HRW5 := Lib.hid hrw5; have HB5 := Lib.hid hb5; have HOWN := Lib.hid hown; have HBW := Lib.hid hbw; have HK := Lib.hid hk; have HLT := Lib.hid hlt; have HL20 := Lib.hid hl20; have HL1 := Lib.hid hl1; have HSZ := Lib.hid hsz; clear hZ hZl hZ2 hst hcm hL5 hrw5 hb5 hown hbw hk hlt hl20 hl1 hsz
      go_wp2_with (refine wpList_app1Po_Try (by rfl) _ _ (by rfl) w4.heap.size (.slice (some ⟨g, 0, none⟩) Z.length d) Z (by rfl) (HOWN.out.alloc _) w5.heap.size (px, py) (by rfl) (heap_alloc_new _ _) HL1.out (by have := HSZ.out; simp; omega) ?_; intro g2 cap2 w6 hown6 hgrow hat6 hlt6; have hb6 : Below w4.heap.size w4 w6 := Below.grown (HBW.out.alloc HBW.out.size _) hgrow (by have := HSZ.out; simp; omega) (fun k hk => (HOWN.out.lt k hk).1); have HL6 := Lib.hid ((hb6.block _ (lt_of_block HL4.out)).trans HL4.out); have k0 := cell_of_row _ _ 0 _ _ _ HL6.out; have k1 := cell_of_row _ _ 1 _ _ _ HL6.out; have k2 := cell_of_row _ _ 2 _ _ _ HL6.out; simp only [List.getElem?_toArray, List.getElem?_cons_zero, List.getElem?_cons_succ] at k0 k1 k2; have hkl := lt_of_block HL6.out)
      have hl2 : Z.length + 1 = (Z ++ [(px, py)]).length := by simp
      rw [hl2] at hown6 ⊢
      have hrz : RdR w6 (some ⟨g2, 0, none⟩) (Z ++ [(px, py)]) := RdR.of_own hown6 (by have := HL1.out; simp; omega)
      have hrw6 := HRW4.out.later hb6 (Nat.le_refl _)
      have hb7 := HB4.out.trans (hb6.mono HB4.out.size)
      clear hl2 hgrow hat6 hlt6 hown6 t2 t3 t4 hTl hb6
      obtain ⟨Y, hY⟩ : ∃ Y, Y = Z ++ [(px, py)] := ⟨_, rfl⟩
      rw [← hY] at hrz ⊢
      have hst := HST.out
      have hcm := HCM.out
      rw [← hY] at hst hcm
      clear HST HCM HZ2 HOWN HBW HL5 HRW5 HB5 HZL
      have hc1 := fun V (h : Below w6.heap.size w6 V) => tnLength_ (some ⟨bl, off, none⟩) wd a b c W V (hrw6.later h (Nat.le_refl _))
      have hc2 := fun V (h : Below w6.heap.size w6 V) => tnLength_ (some ⟨g2, 0, none⟩) cap2 a b c Y V (hrz.later h (Nat.le_refl _))
      rw [HLEN.out] at hc1
      generalize lenR a b c W = R1 at *
      generalize lenR a b c Y = R2 at *
      obtain ⟨A1, E1⟩ := R1
      obtain ⟨A2, E2⟩ := R2
      simp only at hst hcm
      have HRZ := Lib.hid hrz; have HRW6 := Lib.hid hrw6; have HB7 := Lib.hid hb7; have HY := Lib.hid hY; have HST := Lib.hid hst; have HCM := Lib.hid hcm; have HC1 := Lib.hid hc1; have HC2 := Lib.hid hc2; clear hrz hrw6 hb7 hY hst hcm hc1 hc2
      refine (HC1.out _ (Below.refl _ _)).mono ?_
      rintro e w7 ⟨B1, e1, rfl, hr1, hl1', _, b1⟩
      simp only at hr1 hl1'
      have hL7 := (b1.block _ (lt_of_block HL6.out)).trans HL6.out
      have hb67 := b1
      clear b1 k0 k1 k2 hkl
      have k0 := cell_of_row _ _ 0 _ _ _ hL7
      have k1 := cell_of_row _ _ 1 _ _ _ hL7
      have k2 := cell_of_row _ _ 2 _ _ _ hL7
      simp only [List.getElem?_toArray, List.getElem?_cons_zero, List.getElem?_cons_succ] at k0 k1 k2
      have hkl := lt_of_block hL7
      have HR1 := Lib.hid hr1; have HL1p := Lib.hid hl1'; have HL7 := Lib.hid hL7; have HB67 := Lib.hid hb67; clear hr1 hl1' hL7 hb67
      go_wp2_with fail
      refine (HC2.out _ HB67.out).mono ?_
      rintro e w8 ⟨B2, e2, rfl, hr2, hl2', _, b1⟩
      simp only at hr2 hl2'
      have hr18 := HR1.out.later b1 (Nat.le_refl _)
      have hb68 := HB67.out.trans (b1.mono HB67.out.size)
      have hb8 := HB7.out.trans (hb68.mono HB7.out.size)
      clear b1 k0 k1 k2 hkl hb68
      by_cases hE1 : E1 = 0
      rotate_left
      · have f1 : (E1 != 0) = true := by simp [hE1]
        have HR2 := Lib.hid hr2; have HL2p := Lib.hid hl2'; have HR18 := Lib.hid hr18; have HB8 := Lib.hid hb8; have HE1 := Lib.hid hE1; clear hr2 hl2' hr18 hb8 hE1
        go_wp2_with fail
        refine (HAW.out _).mono ?_
        rintro e w9 ⟨rfl, b1⟩
        have hb9 := HB8.out.trans (b1.mono HB8.out.size)
        clear b1
        have HB9 := Lib.hid hb9; clear hb9
        go_wp2
        go_ret
        exact ⟨rfl, HB9.out⟩
      subst hE1
      by_cases hE2 : E2 = 0
      rotate_left
      · have f1 : (E2 != 0) = true := by simp [hE2]
        have HR2 := Lib.hid hr2; have HL2p := Lib.hid hl2'; have HR18 := Lib.hid hr18; have HB8 := Lib.hid hb8; have HE2 := Lib.hid hE2; clear hr2 hl2' hr18 hb8 hE2
        go_wp2_with fail
        refine (HAW.out _).mono ?_
        rintro e w9 ⟨rfl, b1⟩
        have hb9 := HB8.out.trans (b1.mono HB8.out.size)
        clear b1
        have HB9 := Lib.hid hb9; clear hb9
        go_wp2
        go_ret
        exact ⟨rfl, HB9.out⟩
      subst hE2
      obtain ⟨hbo, hco⟩ := HCM.out rfl rfl
      have hcall := tnCmp_ B1 B2 e1 e2 42 A1 A2 w8 hr18 hr2 HL1p.out hl2' (by decide) (HST.out rfl rfl)
      rw [hbo] at hcall
      generalize cmpO A1 A2 = C at *
      have f2 : decide (C ≤ 0) = true := decide_eq_true hco
      have HR2 := Lib.hid hr2; have HL2p := Lib.hid hl2'; have HR18 := Lib.hid hr18; have HB8 := Lib.hid hb8; have HCALL := Lib.hid hcall; have HBO := Lib.hid hbo; have HCO := Lib.hid hco; clear hr2 hl2' hr18 hb8 hcall hbo hco
      go_wp2_with fail
      refine HCALL.out.mono ?_
      rintro e w9 ⟨rfl, b1⟩
      have hb9 := HB8.out.trans (b1.mono HB8.out.size)
      clear b1
      have HB9 := Lib.hid hb9; clear hb9
      go_wp2_with fail
      refine (HAW.out _).mono ?_
      rintro e w10 ⟨rfl, b1⟩
      have hb10 := HB9.out.trans (b1.mono HB9.out.size)
      clear b1
      have HB10 := Lib.hid hb10; clear hb10
      go_wp2
      go_ret
      exact ⟨rfl, HB10.out⟩
end Go.Proofs.Ytlmhgcllikcedaa
