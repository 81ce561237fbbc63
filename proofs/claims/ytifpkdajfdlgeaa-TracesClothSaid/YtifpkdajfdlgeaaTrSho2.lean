/- The exchanges lead from one sheet to the other one. -/
import Derived.Test.YtifpkdajfdlgeaaTrSho
import Derived.Test.YtifpkdajfdlgeaaTrInv2
namespace Go.Proofs.Ytifpkdajfdlgeaa

theorem ord_before (ws : List GW) : ∀ (l : List Int) (ds : List Bool), ds.length = ws.length → ordRun ws ds l = true → ∀ k, k < l.length → ∀ q, q < (l.getD k 0).toNat → touchB (ws.getD q nw).pl (ws.getD (l.getD k 0).toNat nw).pl = true →
    ds.getD q false = true ∨ ∃ j, j < k ∧ (l.getD j 0).toNat = q
  | [], _, _, _, k, hk, _, _, _ => by simp at hk
  | x :: l, ds, hd, h, k, hk, q, hq, ht => by
    rw [ordRun, Bool.and_eq_true, Bool.and_eq_true, decide_eq_true_eq] at h
    obtain ⟨⟨⟨h1, h2⟩, h3⟩, h4⟩ := h
    cases k with
    | zero =>
      rcases ((rdy_iff ws ds x.toNat).1 h3).1 q hq with g | g
      · exact .inl g
      · rw [show ((x :: l).getD 0 0) = x from rfl] at ht
        rw [g] at ht; cases ht
    | succ k =>
      have e : (x :: l).getD (k + 1) 0 = l.getD k 0 := by simp
      rw [e] at hq ht
      rcases ord_before ws l (ds.set x.toNat true) (by simpa using hd) h4 k (by simpa using hk) q hq ht with g | ⟨j, g1, g2⟩
      · by_cases hxq : x.toNat = q
        · exact .inr ⟨0, by omega, hxq⟩
        · rw [getD_set_ne hxq] at g; exact .inl g
      · exact .inr ⟨j + 1, by omega, by simpa using g2⟩

/-- Where the works of X must go to become vs. -/
structure St (vs : List GW) (t : List Int) (X : List GW) : Prop where
  len : t.length = vs.length
  xlen : X.length = vs.length
  rng : ∀ q, q < vs.length → 0 ≤ t.getD q 0 ∧ t.getD q 0 < vs.length
  inj : InjL t
  at_ : ∀ q, q < vs.length → X.getD q nw = vs.getD (t.getD q 0).toNat nw
  tch : ∀ q r, q < r → r < vs.length → touchB (X.getD q nw).pl (X.getD r nw).pl = true → t.getD q 0 < t.getD r 0
theorem Laid.perm {p : Int} {ws vs : List GW} {l : List Int} (h : Laid ws vs l) (hv : ∀ x ∈ vs, 0 ≤ x.pl) (he : bothErr p ws p vs = 0) : PermL l ∧ matchL p ws p vs = l ∧ matchErr p ws p vs = 0 := by
  have hm := h.match (p := p) hv
  have e1 : matchL p ws p vs = l := by unfold matchL; rw [if_pos he, hm]; rfl
  have h2 := matchL_perm p ws p vs
  rw [e1] at h2
  exact ⟨h2.1, e1, by unfold matchErr; rw [if_pos he, hm]; rfl⟩
theorem St.start {ws vs : List GW} {l : List Int} (h : Laid ws vs l) (hp : PermL l) : St vs (toK l l.length) ws := by
  obtain ⟨hl1, hl2⟩ := h.length
  have hmem : ∀ q, q < l.length → ∃ k, k < l.length ∧ (l.getD k 0).toNat = q ∧ (toK l l.length).getD q 0 = k := fun q hq => by
    obtain ⟨k, hk, he⟩ := List.getElem_of_mem (hp.all hq)
    have e2 : (l.getD k 0).toNat = q := by rw [List.getD_eq_getElem?_getD, List.getElem?_eq_getElem hk, Option.getD_some, he]; rfl
    exact ⟨k, hk, e2, by rw [← e2]; exact toK_at hp l.length k (Nat.le_refl _) hk⟩
  refine ⟨by rw [toK_length]; omega, by omega, fun q hq => ?_, toK_inj hp, fun q hq => ?_, fun q r hqr hr ht => ?_⟩
  · obtain ⟨k, h1, _, h3⟩ := hmem q (by omega)
    rw [h3]; omega
  · obtain ⟨k, h1, h2, h3⟩ := hmem q (by omega)
    rw [h3, Int.toNat_natCast, h.2]
    have e : (l.map fun x => ws.getD x.toNat nw).getD k nw = ws.getD (l.getD k 0).toNat nw := by simp [List.getD_eq_getElem?_getD, h1]
    rw [e, h2]
  · obtain ⟨k, h1, h2, h3⟩ := hmem q (by omega)
    obtain ⟨m, g1, g2, g3⟩ := hmem r (by omega)
    rw [h3, g3]
    have ho := h.1
    unfold ordB at ho
    rw [Bool.and_eq_true] at ho
    rcases ord_before ws l _ (by simp [hl1]) ho.2 m g1 q (by omega) (by rw [g2]; exact ht) with g | ⟨j, j1, j2⟩
    · simp [List.getD_eq_getElem?_getD, List.getElem?_replicate] at g
      split at g <;> simp at g
    · have e := toK_at hp l.length j (Nat.le_refl _) (by omega)
      rw [j2, h3] at e
      omega
theorem swW_get (X : List GW) (p i : Nat) (hp : p + 1 < X.length) : (swW X p).getD i nw = if i = p + 1 then X.getD p nw else if i = p then X.getD (p + 1) nw else X.getD i nw := by
  unfold swW
  simp only [List.getD_eq_getElem?_getD, List.getElem?_set, List.length_set]
  by_cases h1 : i = p + 1
  · subst h1; rw [if_pos rfl, if_pos hp, if_pos rfl]; rfl
  · rw [if_neg (Ne.symm h1), if_neg h1]
    by_cases h2 : i = p
    · subst h2; rw [if_pos rfl, if_pos (by omega), if_pos rfl]; rfl
    · rw [if_neg (Ne.symm h2), if_neg h2]
theorem St.step {vs X : List GW} {t : List Int} {p : Nat} (h : St vs t X) (hi : invB t p = true) : p + 1 < vs.length ∧ touchB (X.getD p nw).pl (X.getD (p + 1) nw).pl = false ∧ St vs (sw t p) (swW X p) := by
  have hp := inv_lt hi
  have hlt : t.getD (p + 1) 0 < t.getD p 0 := by unfold invB at hi; exact (of_decide_eq_true hi).2
  have h0 := h.len
  have h1 := h.xlen
  have hnt : touchB (X.getD p nw).pl (X.getD (p + 1) nw).pl = false := by
    cases ht : touchB (X.getD p nw).pl (X.getD (p + 1) nw).pl with
    | false => rfl
    | true => have := h.tch p (p + 1) (by omega) (by omega) ht; omega
  refine ⟨by omega, hnt, ⟨by rw [sw_length]; exact h0, by rw [swW_length]; exact h1, fun q hq => ?_, h.inj.sw hp, fun q hq => ?_, fun q r hqr hr ht => ?_⟩⟩
  · rw [sw_get t p q hp]
    split
    · exact h.rng _ (by omega)
    · split
      · exact h.rng _ (by omega)
      · exact h.rng _ hq
  · rw [sw_get t p q hp, swW_get X p q (by omega)]
    split
    · exact h.at_ _ (by omega)
    · split
      · exact h.at_ _ (by omega)
      · exact h.at_ _ hq
  · rw [swW_get X p q (by omega), swW_get X p r (by omega)] at ht
    rw [sw_get t p q hp, sw_get t p r hp]
    by_cases q1 : q = p + 1
    · rw [if_pos q1] at ht ⊢
      rw [if_neg (show ¬ r = p + 1 by omega), if_neg (show ¬ r = p by omega)] at ht ⊢
      exact h.tch p r (by omega) hr ht
    · rw [if_neg q1] at ht ⊢
      by_cases q2 : q = p
      · rw [if_pos q2] at ht ⊢
        by_cases r1 : r = p + 1
        · rw [if_pos r1]; exact hlt
        · rw [if_neg r1, if_neg (show ¬ r = p by omega)] at ht ⊢
          exact h.tch (p + 1) r (by omega) hr ht
      · rw [if_neg q2] at ht ⊢
        by_cases r1 : r = p + 1
        · rw [if_pos r1] at ht ⊢
          exact h.tch q p (by omega) (by omega) ht
        · rw [if_neg r1] at ht ⊢
          by_cases r2 : r = p
          · rw [if_pos r2] at ht ⊢
            exact h.tch q (p + 1) (by omega) (by omega) ht
          · rw [if_neg r2] at ht ⊢
            exact h.tch q r hqr hr ht
theorem St.done {vs X : List GW} {t : List Int} (h : St vs t X) (hn : ∀ k, k < t.length → invB t k = false) : X = vs := by
  have h0 := h.len
  have h1 := h.xlen
  have hup : ∀ k, k + 1 < vs.length → t.getD k 0 < t.getD (k + 1) 0 := fun k hk => ((h.inj.lt (p := k) (by omega)).2).1 (hn k (by omega))
  have lo : ∀ k, k < vs.length → (k : Int) ≤ t.getD k 0 := by
    intro k
    induction k with
    | zero => intro hk; exact (h.rng 0 hk).1
    | succ k ih => intro hk; have := ih (by omega); have := hup k hk; omega
  have hi : ∀ m k, k + m + 1 = vs.length → t.getD k 0 ≤ k := by
    intro m
    induction m with
    | zero => intro k hk; have := (h.rng k (by omega)).2; omega
    | succ m ih => intro k hk; have := ih (k + 1) (by omega); have := hup k (by omega); omega
  apply List.ext_getElem h1
  intro i g1 g2
  have h2 := h.at_ i g2
  have h3 : t.getD i 0 = i := by have := lo i g2; have := hi (vs.length - i - 1) i (by omega); omega
  rw [h3, Int.toNat_natCast] at h2
  simpa [List.getD_eq_getElem?_getD, g1, g2] using h2
end Go.Proofs.Ytifpkdajfdlgeaa
