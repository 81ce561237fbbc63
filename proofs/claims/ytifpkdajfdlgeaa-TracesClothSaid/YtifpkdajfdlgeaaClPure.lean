/- Histories of threads: works that do not touch may be exchanged. -/
import Derived.Test.YtifpkdajfdlgeaaTrSho2
namespace Go.Proofs.Ytifpkdajfdlgeaa

/-- Which thread lies in a place, and what each thread has met. -/
structure HS where
  ln : Nat → Nat
  h : Nat → List (Nat × Bool)
def upd {α : Type} (f : Nat → α) (i : Nat) (v : α) : Nat → α := fun q => if q = i then v else f q
/-- A crossing at the places p and p + 1. -/
def cross (p : Nat) (up : Bool) (dn : Bool) (S : HS) : HS :=
  ⟨upd (upd S.ln p (S.ln (p + 1))) (p + 1) (S.ln p), upd (upd S.h (S.ln p) (S.h (S.ln p) ++ [(S.ln (p + 1), up)])) (S.ln (p + 1)) (upd S.h (S.ln p) (S.h (S.ln p) ++ [(S.ln (p + 1), up)]) (S.ln (p + 1)) ++ [(S.ln p, dn)])⟩
def InjF (f : Nat → Nat) : Prop := ∀ i j, f i = f j → i = j
theorem InjF.swap {f : Nat → Nat} (h : InjF f) (p : Nat) : InjF (upd (upd f p (f (p + 1))) (p + 1) (f p)) := by
  intro i j
  unfold upd
  intro e
  split at e <;> split at e <;> (try split at e) <;> (try split at e) <;> first | omega | (have := h _ _ e; omega)
theorem cross_inj {S : HS} (h : InjF S.ln) (p : Nat) (u d : Bool) : InjF (cross p u d S).ln := h.swap p
theorem cross_comm {S : HS} (hi : InjF S.ln) {p q : Nat} (h : p + 2 ≤ q ∨ q + 2 ≤ p) (u d u' d' : Bool) : cross p u d (cross q u' d' S) = cross q u' d' (cross p u d S) := by
  have n1 : S.ln p ≠ S.ln q := fun e => by have := hi _ _ e; omega
  have n2 : S.ln p ≠ S.ln (q + 1) := fun e => by have := hi _ _ e; omega
  have n3 : S.ln (p + 1) ≠ S.ln q := fun e => by have := hi _ _ e; omega
  have n4 : S.ln (p + 1) ≠ S.ln (q + 1) := fun e => by have := hi _ _ e; omega
  have a1 : ¬ p = q := by omega
  have a2 : ¬ p = q + 1 := by omega
  have a3 : ¬ p + 1 = q := by omega
  have a4 : ¬ p + 1 = q + 1 := by omega
  have b1 : ¬ q = p := by omega
  have b2 : ¬ q = p + 1 := by omega
  have b3 : ¬ q + 1 = p := by omega
  have b4 : ¬ q + 1 = p + 1 := by omega
  have e1 : (cross q u' d' S).ln p = S.ln p := by simp only [cross, upd, if_neg a1, if_neg a2]
  have e2 : (cross q u' d' S).ln (p + 1) = S.ln (p + 1) := by simp only [cross, upd, if_neg a3, if_neg a4]
  have e3 : (cross p u d S).ln q = S.ln q := by simp only [cross, upd, if_neg b1, if_neg b2]
  have e4 : (cross p u d S).ln (q + 1) = S.ln (q + 1) := by simp only [cross, upd, if_neg b3, if_neg b4]
  have ln : (cross p u d (cross q u' d' S)).ln = (cross q u' d' (cross p u d S)).ln := by
    funext i
    show upd (upd (cross q u' d' S).ln p ((cross q u' d' S).ln (p + 1))) (p + 1) ((cross q u' d' S).ln p) i = upd (upd (cross p u d S).ln q ((cross p u d S).ln (q + 1))) (q + 1) ((cross p u d S).ln q) i
    rw [e1, e2, e3, e4]
    unfold cross upd
    by_cases i1 : i = p
    · subst i1; simp [*]
    · by_cases i2 : i = p + 1
      · subst i2; simp [a3]; intro e; exact absurd e a1
      · simp [i1, i2]
  have hh : (cross p u d (cross q u' d' S)).h = (cross q u' d' (cross p u d S)).h := by
    funext i
    show upd (upd (cross q u' d' S).h ((cross q u' d' S).ln p) ((cross q u' d' S).h ((cross q u' d' S).ln p) ++ [((cross q u' d' S).ln (p + 1), u)])) ((cross q u' d' S).ln (p + 1)) (upd (cross q u' d' S).h ((cross q u' d' S).ln p) ((cross q u' d' S).h ((cross q u' d' S).ln p) ++ [((cross q u' d' S).ln (p + 1), u)]) ((cross q u' d' S).ln (p + 1)) ++ [((cross q u' d' S).ln p, d)]) i =
      upd (upd (cross p u d S).h ((cross p u d S).ln q) ((cross p u d S).h ((cross p u d S).ln q) ++ [((cross p u d S).ln (q + 1), u')])) ((cross p u d S).ln (q + 1)) (upd (cross p u d S).h ((cross p u d S).ln q) ((cross p u d S).h ((cross p u d S).ln q) ++ [((cross p u d S).ln (q + 1), u')]) ((cross p u d S).ln (q + 1)) ++ [((cross p u d S).ln q, d')]) i
    rw [e1, e2, e3, e4]
    unfold cross
    simp only
    generalize S.ln p = x at *
    generalize S.ln (p + 1) = x' at *
    generalize S.ln q = y at *
    generalize S.ln (q + 1) = y' at *
    have m1 := Ne.symm n1; have m2 := Ne.symm n2; have m3 := Ne.symm n3; have m4 := Ne.symm n4
    unfold upd
    by_cases i1 : i = x
    · subst i1
      by_cases j : i = x' <;> simp [*]
    · by_cases i2 : i = x'
      · subst i2; simp [*]
      · simp [*]
  calc cross p u d (cross q u' d' S) = ⟨(cross p u d (cross q u' d' S)).ln, (cross p u d (cross q u' d' S)).h⟩ := rfl
    _ = cross q u' d' (cross p u d S) := by rw [ln, hh]

/-- The crossing of a letter. -/
def crossB (c : UInt8) : List Int :=
  if c = 67 then [2] else if c = 76 then [-1] else if c = 82 then [-3] else if c = 84 then [-1, -3] else if c = 99 then [-2] else if c = 108 then [1] else if c = 114 then [3] else if c = 116 then [1, 3] else []
def crL (s : ByteArray) : List Int := s.data.toList.flatMap crossB
theorem crossB_rng (c : UInt8) : ∀ x ∈ crossB c, 1 ≤ x.natAbs ∧ x.natAbs ≤ 3 := by
  unfold crossB
  intro x hx
  repeat' split at hx
  all_goals simp at hx
  all_goals (try rcases hx with rfl | rfl)
  all_goals first | (subst hx; decide) | decide
theorem crL_rng (s : ByteArray) : ∀ x ∈ crL s, 1 ≤ x.natAbs ∧ x.natAbs ≤ 3 := fun x hx => by
  obtain ⟨c, _, h⟩ := List.mem_flatMap.1 hx
  exact crossB_rng c x h
/-- One crossing of a work at a place. -/
def hstep (pl : Nat) (S : HS) (x : Int) : HS := cross (2 * pl + x.natAbs - 1) (decide (0 < x)) (decide (x < 0)) S
def hrun (pl : Nat) (l : List Int) (S : HS) : HS := l.foldl (hstep pl) S
def hwork (S : HS) (x : GW) : HS := hrun x.pl.toNat (crL x.word) S
def hist (ws : List GW) (S : HS) : HS := ws.foldl hwork S
theorem hrun_inj {pl : Nat} : ∀ (l : List Int) {S : HS}, InjF S.ln → InjF (hrun pl l S).ln
  | [], _, h => h
  | x :: l, S, h => hrun_inj (pl := pl) l (S := hstep pl S x) (cross_inj h _ _ _)
theorem hstep_comm {S : HS} (hi : InjF S.ln) {a b : Nat} (h : a + 2 ≤ b ∨ b + 2 ≤ a) {x y : Int} (hx : 1 ≤ x.natAbs ∧ x.natAbs ≤ 3) (hy : 1 ≤ y.natAbs ∧ y.natAbs ≤ 3) : hstep a (hstep b S y) x = hstep b (hstep a S x) y :=
  cross_comm hi (by omega) _ _ _ _
theorem hrun_step {a b : Nat} (h : a + 2 ≤ b ∨ b + 2 ≤ a) {x : Int} (hx : 1 ≤ x.natAbs ∧ x.natAbs ≤ 3) : ∀ (m : List Int) {S : HS}, InjF S.ln → (∀ y ∈ m, 1 ≤ y.natAbs ∧ y.natAbs ≤ 3) → hrun b m (hstep a S x) = hstep a (hrun b m S) x
  | [], _, _, _ => rfl
  | y :: m, S, hi, hm => by
    show hrun b m (hstep b (hstep a S x) y) = hstep a (hrun b m (hstep b S y)) x
    rw [← hstep_comm hi h hx (hm y (by simp))]
    exact hrun_step h hx m (cross_inj hi _ _ _) fun z hz => hm z (by simp [hz])
theorem hrun_comm {a b : Nat} (h : a + 2 ≤ b ∨ b + 2 ≤ a) (m : List Int) (hm : ∀ y ∈ m, 1 ≤ y.natAbs ∧ y.natAbs ≤ 3) : ∀ (l : List Int) {S : HS}, InjF S.ln → (∀ y ∈ l, 1 ≤ y.natAbs ∧ y.natAbs ≤ 3) → hrun b m (hrun a l S) = hrun a l (hrun b m S)
  | [], _, _, _ => rfl
  | x :: l, S, hi, hl => by
    show hrun b m (hrun a l (hstep a S x)) = hrun a l (hstep a (hrun b m S) x)
    rw [← hrun_step h (hl x (by simp)) m hi hm]
    exact hrun_comm h m hm l (cross_inj hi _ _ _) fun z hz => hl z (by simp [hz])
theorem hwork_comm {S : HS} (hi : InjF S.ln) {x y : GW} (hx : 0 ≤ x.pl) (hy : 0 ≤ y.pl) (ht : touchB x.pl y.pl = false) : hwork (hwork S x) y = hwork (hwork S y) x := by
  unfold touchB at ht
  simp only [decide_eq_false_iff_not] at ht
  exact hrun_comm (by omega) _ (crL_rng _) _ hi (crL_rng _)
theorem hist_inj : ∀ (ws : List GW) {S : HS}, InjF S.ln → InjF (hist ws S).ln
  | [], _, h => h
  | x :: ws, S, h => hist_inj ws (S := hwork S x) (hrun_inj _ h)
theorem hist_append (a b : List GW) (S : HS) : hist (a ++ b) S = hist b (hist a S) := List.foldl_append ..
theorem hist_swap {S : HS} (hi : InjF S.ln) {X : List GW} {p : Nat} (hp : p + 1 < X.length) (hX : ∀ x ∈ X, 0 ≤ x.pl) (ht : touchB (X.getD p nw).pl (X.getD (p + 1) nw).pl = false) : hist (swW X p) S = hist X S := by
  have hsp := split_two X hp
  have e1 : X.getD p nw = X[p] := by simp [List.getD_eq_getElem?_getD, show p < X.length by omega]
  have e2 : X.getD (p + 1) nw = X[p + 1] := by simp [List.getD_eq_getElem?_getD, hp]
  rw [e1, e2] at ht
  have h2 : swW X p = X.take p ++ X[p + 1] :: X[p] :: X.drop (p + 2) := by
    unfold swW
    rw [e1, e2]
    have h3 := set_two X[p] X[p + 1] (X.drop (p + 2)) (X.take p)
    rw [List.length_take, Nat.min_eq_left (by omega)] at h3
    rw [← h3, ← hsp]
  have hc := hwork_comm (hist_inj (X.take p) hi) (hX _ (List.getElem_mem (show p < X.length by omega))) (hX _ (List.getElem_mem hp)) ht
  have h4 : hist X S = hist (X.take p ++ X[p] :: X[p + 1] :: X.drop (p + 2)) S := by rw [← hsp]
  rw [h2, h4, hist_append, hist_append]
  show hist (X.drop (p + 2)) (hwork (hwork (hist (X.take p) S) X[p + 1]) X[p]) = hist (X.drop (p + 2)) (hwork (hwork (hist (X.take p) S) X[p]) X[p + 1])
  rw [hc]
theorem swW_mem {X : List GW} {p : Nat} (hp : p + 1 < X.length) {P : GW → Prop} (h : ∀ x ∈ X, P x) : ∀ x ∈ swW X p, P x := fun _ hz => h _ (mem_swW hp hz)
theorem hist_chain {vs : List GW} {S : HS} (hi : InjF S.ln) : ∀ (out : List Int) {t : List Int} {X : List GW}, St vs t X → Ch t out → (∀ x ∈ X, 0 ≤ x.pl) → hist X S = hist vs S
  | [], t, X, hs, hc, _ => by rw [hs.done hc]
  | x :: out, t, X, hs, hc, hX => by
    obtain ⟨P, _, h2, h3⟩ := hc
    obtain ⟨g1, g2, g3⟩ := hs.step h2
    have hl : P + 1 < X.length := by rw [hs.xlen]; exact g1
    rw [← hist_swap hi hl hX g2]
    exact hist_chain hi out g3 h3 (swW_mem hl hX)
/-- An order of a sheet has the same histories. -/
theorem hist_laid {ws vs : List GW} {l : List Int} (h : Laid ws vs l) (hp : PermL l) (hw : ∀ x ∈ ws, 0 ≤ x.pl) {S : HS} (hi : InjF S.ln) : hist ws S = hist vs S := by
  obtain ⟨out, _, _, h3⟩ := bub_ok (inv (toK l l.length)) (toK l l.length) (Nat.le_refl _)
  exact hist_chain hi out (St.start h hp) h3 hw
/-- What Match finds is an order. -/
theorem gRun_laid (ws : List GW) : ∀ (vs : List GW) (ds : List Bool) (l : List Int), gRun ws ds vs = some l → ordRun ws ds l = true ∧ vs = l.map fun x => ws.getD x.toNat nw
  | [], _, l, h => by rw [gRun] at h; obtain rfl := Option.some.inj h; exact ⟨rfl, rfl⟩
  | x :: vs, ds, l, h => by
    rw [gRun] at h
    split at h
    · cases h
    · rename_i hs
      obtain ⟨m, h1, h2⟩ := Option.map_eq_some_iff.1 h
      obtain ⟨i, g1, g2, g3⟩ := seek_some (ws := ws) (ds := ds) (x := x) ws.length (by omega)
      obtain ⟨k1, k2⟩ := gRun_laid ws vs _ m h1
      unfold hitB at g3
      rw [Bool.and_eq_true, decide_eq_true_eq] at g3
      rw [← h2, List.map_cons, ordRun, g1, Int.toNat_natCast, g3.2, decide_eq_true ⟨by omega, by omega⟩, Bool.and_self, Bool.true_and]
      rw [g1, Int.toNat_natCast] at k1
      exact ⟨k1, by rw [← k2]; show x :: vs = ws.getD i nw :: vs; rw [← g3.1]; rfl⟩
theorem same_hist {p q : Int} {ws vs : List GW} (hb : bothErr p ws q vs = 0) (h : sameE p ws q vs = true) (hw : ∀ x ∈ ws, 0 ≤ x.pl) (hv : ∀ x ∈ vs, 0 ≤ x.pl) {S : HS} (hi : InjF S.ln) : p = q ∧ hist ws S = hist vs S := by
  unfold sameE at h
  rw [Bool.and_eq_true] at h
  obtain ⟨l, hl⟩ := Option.isSome_iff_exists.1 h.2
  have hm : matchL p ws q vs = l := by unfold matchL; rw [if_pos hb, hl]; rfl
  have hperm := (matchL_perm p ws q vs).1
  rw [hm] at hperm
  rw [← matchG_P hv] at hl
  unfold matchG at hl
  split at hl
  · rename_i hpq
    obtain ⟨g1, g2⟩ := gRun_laid ws vs _ _ hl
    have hlen : l.length = ws.length := by have := congrArg List.length g2; simp at this; omega
    refine ⟨hpq.1, hist_laid (l := l) ⟨?_, g2⟩ hperm hw hi⟩
    unfold ordB
    rw [decide_eq_true hlen, Bool.true_and, hlen]
    exact g1
  · cases hl
end Go.Proofs.Ytifpkdajfdlgeaa
