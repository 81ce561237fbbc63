/- Exchanges keep a lace: Match finds the order. -/
import Derived.Test.YtifpkdajfdlgeaaTrExc
import Derived.Test.YtifpkdajfdlgeaaTrNth
namespace Go.Proofs.Ytifpkdajfdlgeaa
open Go.RowKit

theorem rdy_iff (ws : List GW) (ds : List Bool) (i : Nat) : readyB ws ds i = true ↔ (∀ k, k < i → ds.getD k false = true ∨ touchB (ws.getD k nw).pl (ws.getD i nw).pl = false) ∧ ds.getD i false = false := by
  unfold readyB
  rw [Bool.and_eq_true, noTouch_iff, Bool.not_eq_true']
  rfl
theorem getD_set_ne {ds : List Bool} {i k : Nat} (h : i ≠ k) (b : Bool) : (ds.set i b).getD k false = ds.getD k false := by
  rw [List.getD_eq_getElem?_getD, List.getElem?_set, if_neg h, List.getD_eq_getElem?_getD]
theorem getD_set_eq {ds : List Bool} {i : Nat} (h : i < ds.length) (b : Bool) : (ds.set i b).getD i false = b := by
  rw [List.getD_eq_getElem?_getD, List.getElem?_set, if_pos rfl, if_pos h]; rfl
theorem touch_self (a : Int) : touchB a a = true := by unfold touchB; simp
theorem reoN (ws : List GW) (l : List Int) : (l.map fun x => ws.getD x.toNat nw).length = l.length := by simp
/-- Of what lies ready no two are equal: the search finds the order. -/
theorem gRun_ord (ws : List GW) : ∀ (l : List Int) (ds : List Bool), ordRun ws ds l = true → gRun ws ds (l.map fun x => ws.getD x.toNat nw) = some l
  | [], _, _ => rfl
  | x :: l, ds, h => by
    rw [ordRun, Bool.and_eq_true, Bool.and_eq_true, decide_eq_true_eq] at h
    obtain ⟨⟨⟨h1, h2⟩, h3⟩, h4⟩ := h
    have hx : ((x.toNat : Nat) : Int) = x := by omega
    have hi : x.toNat < ws.length := by omega
    have hhit : hitB ws ds (ws.getD x.toNat nw) x.toNat = true := by
      unfold hitB
      rw [h3, Bool.and_true, decide_eq_true_eq]
      rfl
    have hs := seek_first (ws := ws) (ds := ds) (x := ws.getD x.toNat nw) hi hhit (fun k hk => by
      cases hh : hitB ws ds (ws.getD x.toNat nw) k with
      | false => rfl
      | true =>
        unfold hitB at hh
        rw [Bool.and_eq_true, decide_eq_true_eq] at hh
        obtain ⟨g1, g2⟩ := hh
        have g3 := ((rdy_iff ws ds k).1 g2).2
        rcases ((rdy_iff ws ds x.toNat).1 h3).1 k hk with g4 | g4
        · rw [g3] at g4; cases g4
        · rw [show ws.getD k nw = ws.getD x.toNat nw from g1, touch_self] at g4; cases g4)
    rw [List.map_cons, gRun, hs, if_neg (by omega), Int.toNat_natCast, gRun_ord ws l _ h4, hx]
    rfl
theorem ordRun_swap (ws : List GW) (a b : Int) (post : List Int) (ht : touchB (ws.getD a.toNat nw).pl (ws.getD b.toNat nw).pl = false) :
    ∀ (pre : List Int) (ds : List Bool), ds.length = ws.length → ordRun ws ds (pre ++ a :: b :: post) = true → ordRun ws ds (pre ++ b :: a :: post) = true
  | [], ds, hd, h => by
    rw [List.nil_append, ordRun, ordRun, Bool.and_eq_true, Bool.and_eq_true, Bool.and_eq_true, Bool.and_eq_true, decide_eq_true_eq, decide_eq_true_eq] at h
    obtain ⟨⟨⟨a1, a2⟩, a3⟩, ⟨⟨b1, b2⟩, b3⟩, h4⟩ := h
    obtain ⟨r1, r2⟩ := (rdy_iff _ _ _).1 a3
    obtain ⟨r3, r4⟩ := (rdy_iff _ _ _).1 b3
    have hne : a.toNat ≠ b.toNat := fun e => by
      rw [e, getD_set_eq (by omega)] at r4
      cases r4
    rw [getD_set_ne hne] at r4
    have rb : readyB ws ds b.toNat = true := (rdy_iff _ _ _).2 ⟨fun k hk => by
      rcases r3 k hk with g | g
      · by_cases hka : a.toNat = k
        · right; rw [← hka]; exact ht
        · left; rwa [getD_set_ne hka] at g
      · exact .inr g, r4⟩
    have ra : readyB ws (ds.set b.toNat true) a.toNat = true := (rdy_iff _ _ _).2 ⟨fun k hk => by
      rcases r1 k hk with g | g
      · left
        by_cases hkb : b.toNat = k
        · rw [hkb, getD_set_eq (by omega)]
        · rw [getD_set_ne hkb]; exact g
      · exact .inr g, by rw [getD_set_ne (Ne.symm hne)]; exact r2⟩
    rw [List.nil_append, ordRun, ordRun, rb, ra, List.set_comm _ _ (Ne.symm hne), h4, decide_eq_true ⟨b1, b2⟩, decide_eq_true ⟨a1, a2⟩]
    rfl
  | x :: pre, ds, hd, h => by
    rw [List.cons_append, ordRun, Bool.and_eq_true] at h ⊢
    exact ⟨h.1, ordRun_swap ws a b post ht pre _ (by simpa using hd) h.2⟩
theorem ord_start (ws : List GW) : ∀ (m k : Nat) (ds : List Bool), k + m = ws.length → ds.length = ws.length → (∀ i, i < ws.length → ds.getD i false = decide (i < k)) → ordRun ws ds ((List.range' k m).map Int.ofNat) = true
  | 0, _, _, _, _, _ => rfl
  | m + 1, k, ds, hk, hd, h => by
    rw [List.range'_succ, List.map_cons, ordRun]
    have e : (Int.ofNat k).toNat = k := rfl
    have hr : readyB ws ds k = true := (rdy_iff _ _ _).2 ⟨fun i hi => .inl (by rw [h i (by omega)]; simpa using hi), by rw [h k (by omega)]; simp⟩
    rw [e, hr, decide_eq_true ⟨by show (0 : Int) ≤ (k : Int); omega, by show (k : Int) < _; omega⟩, ord_start ws m (k + 1) _ (by omega) (by simpa using hd) (fun i hi => by
      by_cases hik : k = i
      · subst hik; rw [getD_set_eq (by omega)]; simp
      · rw [getD_set_ne hik, h i hi, decide_eq_decide]; omega)]
    rfl
theorem set_two {α : Type} (a b : α) (post : List α) : ∀ (pre : List α), ((pre ++ a :: b :: post).set pre.length b).set (pre.length + 1) a = pre ++ b :: a :: post
  | [] => rfl
  | x :: pre => by simp
theorem split_two {α : Type} (l : List α) {p : Nat} (h : p + 1 < l.length) : l = l.take p ++ l[p] :: l[p + 1] :: l.drop (p + 2) := by
  rw [← List.drop_eq_getElem_cons (by omega), ← List.drop_eq_getElem_cons (by omega), List.take_append_drop]
/-- An order, and the works in it. -/
def Laid (ws vs : List GW) (l : List Int) : Prop := ordB ws l = true ∧ vs = l.map fun x => ws.getD x.toNat nw
theorem Laid.start (ws : List GW) : Laid ws ws ((List.range ws.length).map Int.ofNat) := by
  constructor
  · unfold ordB
    rw [decide_eq_true (by simp), Bool.true_and, List.range_eq_range']
    exact ord_start ws ws.length 0 _ (by omega) (by simp) (fun i hi => by simp [List.getD_eq_getElem?_getD, hi])
  · apply List.ext_getElem
    · simp
    · intro i h1 h2
      simp [List.getD_eq_getElem?_getD, h1]
theorem Laid.length {ws vs : List GW} {l : List Int} (h : Laid ws vs l) : l.length = ws.length ∧ vs.length = ws.length := by
  obtain ⟨h1, rfl⟩ := h
  unfold ordB at h1
  rw [Bool.and_eq_true, decide_eq_true_eq] at h1
  exact ⟨h1.1, by simp [h1.1]⟩
theorem Laid.swap {ws vs : List GW} {l : List Int} (h : Laid ws vs l) {p : Nat} (hp : p + 1 < vs.length) (ht : touchB (vs.getD p nw).pl (vs.getD (p + 1) nw).pl = false) : ∃ l', Laid ws (swW vs p) l' := by
  obtain ⟨hl1, hl2⟩ := h.length
  obtain ⟨h1, h2⟩ := h
  have hpl : p + 1 < l.length := by omega
  have e1 : vs.getD p nw = ws.getD l[p].toNat nw := by subst h2; simp [List.getD_eq_getElem?_getD, show p < l.length by omega]
  have e2 : vs.getD (p + 1) nw = ws.getD l[p + 1].toNat nw := by subst h2; simp [List.getD_eq_getElem?_getD, hpl]
  rw [e1, e2] at ht
  have hsp := split_two l hpl
  refine ⟨l.take p ++ l[p + 1] :: l[p] :: l.drop (p + 2), ?_, ?_⟩
  · unfold ordB at h1 ⊢
    rw [Bool.and_eq_true, decide_eq_true_eq] at h1 ⊢
    have hlen : (l.take p ++ l[p + 1] :: l[p] :: l.drop (p + 2)).length = l.length := by simp; omega
    refine ⟨by rw [hlen]; exact h1.1, ?_⟩
    rw [hlen]
    refine ordRun_swap ws _ _ _ ht _ _ (by simp [hl1]) ?_
    rw [← hsp]
    exact h1.2
  · unfold swW
    rw [e1, e2]
    have h3 := set_two (ws.getD l[p].toNat nw) (ws.getD l[p + 1].toNat nw) ((l.drop (p + 2)).map fun x => ws.getD x.toNat nw) ((l.take p).map fun x => ws.getD x.toNat nw)
    have h4 : ((l.take p).map fun x => ws.getD x.toNat nw).length = p := by simp; omega
    rw [h4] at h3
    have h5 : vs = (l.take p).map (fun x => ws.getD x.toNat nw) ++ ws.getD l[p].toNat nw :: ws.getD l[p + 1].toNat nw :: (l.drop (p + 2)).map fun x => ws.getD x.toNat nw := by
      refine h2.trans ?_
      refine (congrArg (List.map fun x : Int => ws.getD x.toNat nw) hsp).trans ?_
      rw [List.map_append, List.map_cons, List.map_cons]
    rw [← h5] at h3
    rw [h3]
    simp
theorem Laid.ex {ws : List GW} : ∀ (at' : List Int) {vs : List GW} {l : List Int}, Laid ws vs l → ∃ l', Laid ws (exW vs at') l'
  | [], vs, l, h => ⟨l, h⟩
  | x :: at', vs, l, h => by
    show ∃ l', Laid ws (exW (exStep vs x) at') l'
    unfold exStep
    split
    · rename_i h1
      split
      · exact Laid.ex at' h
      · rename_i h2
        obtain ⟨l2, h3⟩ := h.swap (exP_lt h1 x) (by simpa using h2)
        exact Laid.ex at' h3
    · exact Laid.ex at' h
theorem Laid.match {p : Int} {ws vs : List GW} {l : List Int} (h : Laid ws vs l) (hv : ∀ x ∈ vs, 0 ≤ x.pl) : matchP p ws p vs = some l := by
  obtain ⟨hl1, hl2⟩ := h.length
  obtain ⟨h1, rfl⟩ := h
  rw [← matchG_P hv]
  unfold matchG
  rw [if_pos ⟨rfl, hl2.symm⟩]
  unfold ordB at h1
  rw [Bool.and_eq_true, decide_eq_true_eq] at h1
  rw [← hl1]
  exact gRun_ord ws l _ h1.2
end Go.Proofs.Ytifpkdajfdlgeaa
