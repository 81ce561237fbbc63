/- Texts of this claim, laid together: PrOrdP, PrMarkP, PrHgL. -/
import Derived.Test.YtnplcephmidjbaaDoorMaL
import Derived.Test.YtnplcephmidjbaaDoorMaM
import Derived.Test.YtnplcephmidjbaaDoorMaN
import Derived.Test.YtnplcephmidjbaaDoorMaO
import Derived.Test.YtnplcephmidjbaaDoorMaP
import Derived.Test.YtnplcephmidjbaaDoorMaS
import Derived.Test.YtnplcephmidjbaaDoorMaU
/- Orders and the need, in plain Lean: what an order needs, the need of Fewest, the least order; the places of a mark hang. -/
namespace Go.Proofs.YtnplcephmidjbaaDoor

theorem touch_tP (a b : Nat) : touchB (a : Int) (b : Int) = tP a b := by
  unfold touchB tP
  rw [decide_eq_decide]
  omega
theorem free_tP (q : Nat → Nat) (S k : Nat) : freeB (befT q) S k = true ↔ S.testBit k = false ∧ ∀ a, a < k → tP (q a) (q k) = true → S.testBit a = true := by
  rw [free_iff]
  refine and_congr_right fun _ => ?_
  constructor
  · intro h a ha ht; exact h a ha (by rw [touch_tP]; exact ht)
  · intro h a ha ht; exact h a ha (by rw [← touch_tP]; exact ht)
theorem val_cons {n : Nat} {q : Nat → Nat} {S : Nat} {x : Int} {l : List Int} : (oRun n q S (x :: l)).isSome = true ↔ (0 ≤ x ∧ x < n ∧ freeB (befT q) S x.toNat = true) ∧ (oRun n q (S ||| 2 ^ x.toNat) l).isSome = true := by
  have e : oRun n q S (x :: l) = match oStep n q S x with | some S' => oRun n q S' l | none => none := rfl
  rw [e]
  unfold oStep
  by_cases h : 0 ≤ x ∧ x < n ∧ S.testBit x.toNat = false ∧ ∀ a, a < x.toNat → tP (q a) (q x.toNat) = true → S.testBit a = true
  · rw [if_pos h]
    constructor
    · intro h2; exact ⟨⟨h.1, h.2.1, (free_tP q S _).2 h.2.2⟩, h2⟩
    · intro h2; exact h2.2
  · rw [if_neg h]
    constructor
    · intro h2; cases h2
    · rintro ⟨⟨h1, h2, h3⟩, _⟩
      exact absurd ⟨h1, h2, (free_tP q S _).1 h3⟩ h
/-- What a way needs. -/
def wlkN (q : Nat → Nat) (n : Nat) : Nat → List Int → Nat
  | _, [] => 0
  | S, x :: l => max (hngS q n S x.toNat) (wlkN q n (S ||| 2 ^ x.toNat) l)
theorem wlkN_le24 (q : Nat → Nat) (n : Nat) : ∀ l S, wlkN q n S l ≤ 24
  | [], _ => Nat.zero_le _
  | x :: l, S => by
    have h1 := hngS_le q n S x.toNat
    have h2 := wlkN_le24 q n l (S ||| 2 ^ x.toNat)
    unfold wlkN; omega
theorem set_lt {n S : Nat} {x : Int} (hS : S < 2 ^ n) (h0 : 0 ≤ x) (hx : x < n) : S ||| 2 ^ x.toNat < 2 ^ n := Nat.or_lt_two_pow hS (Nat.pow_lt_pow_right (by decide) (by omega))
theorem ned_walk (q : Nat → Nat) (n : Nat) : ∀ (l : List Int) (S : Nat), S < 2 ^ n → (oRun n q S l).isSome = true → l.length = miss n S → nedN q n S ≤ wlkN q n S l
  | [], S, hS, _, hl => by
    rw [(miss_zero hS).1 hl.symm]
    unfold nedN
    rw [ndN_full]
    exact Nat.zero_le _
  | x :: l, S, hS, hv, hl => by
    obtain ⟨⟨h0, hx, hf⟩, hv2⟩ := val_cons.1 hv
    have hb := freeB_bit hf
    have hm := miss_set1 hb n (by omega)
    have hne : S ≠ 2 ^ n - 1 := fun e => by
      have := (full_iff hS).1 e x.toNat (by omega)
      rw [hb] at this; cases this
    simp only [List.length_cons] at hl
    have ih := ned_walk q n l (S ||| 2 ^ x.toNat) (set_lt hS h0 hx) hv2 (by omega)
    have h24 := wlkN_le24 q n (x :: l) S
    have e : nedN q n S = minF (nedN q n) (hngS q n) (befT q) S n := ndN_step _ _ _ _ hne
    rw [e]
    refine (minF_le_iff h24 n).2 ⟨x.toNat, by omega, hf, ?_, ?_⟩
    · unfold wlkN; omega
    · unfold wlkN; omega
theorem few_walk (q : Nat → Nat) (n best : Nat) (hb : best ≤ 24) : ∀ (m S : Nat), S < 2 ^ n → miss n S = m → nedN q n S ≤ best →
    (oRun n q S (fewF q n best m S)).isSome = true ∧ (fewF q n best m S).length = m ∧ wlkN q n S (fewF q n best m S) ≤ best
  | 0, S, _, _, _ => ⟨rfl, rfl, Nat.zero_le _⟩
  | m + 1, S, hS, hm, hn => by
    have hne : S ≠ 2 ^ n - 1 := fun e => by have := (miss_zero hS).2 e; omega
    obtain ⟨k0, hk0, hok0⟩ := okW_some hb hne hn
    obtain ⟨k, hk, hok, hfst⟩ : ∃ k, k < n ∧ okW q n best S k = true ∧ ∀ j, j < k → okW q n best S j = false := by
      have key : ∀ m, okW q n best S m = true → m < n → ∃ k, k < n ∧ okW q n best S k = true ∧ ∀ j, j < k → okW q n best S j = false := by
        intro m
        induction m using Nat.strongRecOn with
        | _ m ih =>
          intro h1 h2
          by_cases hj : ∃ j, j < m ∧ okW q n best S j = true
          · obtain ⟨j, hj1, hj2⟩ := hj; exact ih j hj1 hj2 (by omega)
          · refine ⟨m, h2, h1, fun j hj2 => ?_⟩
            cases h : okW q n best S j with
            | false => rfl
            | true => exact absurd ⟨j, hj2, h⟩ hj
      exact key k0 hok0 hk0
    rw [fewF_step m hk hok hfst]
    have hbit := okW_bit hok
    have hms := miss_set1 hbit n hk
    have hS2 : S ||| 2 ^ k < 2 ^ n := Nat.or_lt_two_pow hS (Nat.pow_lt_pow_right (by decide) hk)
    obtain ⟨i1, i2, i3⟩ := few_walk q n best hb m (S ||| 2 ^ k) hS2 (by omega) (okW_ned hok)
    have hfr : freeB (befT q) S k = true ∧ hngS q n S k ≤ best := by
      unfold okW at hok
      simp only [Bool.and_eq_true, decide_eq_true_eq] at hok
      exact ⟨hok.1, hok.2.1⟩
    refine ⟨val_cons.2 ⟨⟨by omega, by omega, hfr.1⟩, i1⟩, by rw [List.length_cons, i2], ?_⟩
    show max (hngS q n S k) (wlkN q n (S ||| 2 ^ k) (fewF q n best m (S ||| 2 ^ k))) ≤ best
    omega
/-- The order that is found is the least one of those that need no more. -/
theorem few_first (q : Nat → Nat) (n best : Nat) (hb : best ≤ 24) : ∀ (l : List Int) (S : Nat), S < 2 ^ n → (oRun n q S l).isSome = true → l.length = miss n S → wlkN q n S l ≤ best → nedN q n S ≤ best →
    ∀ i, i < l.length → (∀ j, j < i → (fewF q n best (miss n S) S).getD j 0 = l.getD j 0) → (fewF q n best (miss n S) S).getD i 0 ≤ l.getD i 0
  | [], _, _, _, _, _, _ => fun i hi => absurd hi (by simp)
  | x :: l, S, hS, hv, hl, hw, hn => by
    intro i hi hj
    obtain ⟨⟨h0, hx, hf⟩, hv2⟩ := val_cons.1 hv
    have hbx := freeB_bit hf
    have hm := miss_set1 hbx n (by omega)
    simp only [List.length_cons] at hl hi
    have hwx : max (hngS q n S x.toNat) (wlkN q n (S ||| 2 ^ x.toNat) l) ≤ best := hw
    have hS2 := set_lt hS h0 hx
    have hnx := ned_walk q n l (S ||| 2 ^ x.toNat) hS2 hv2 (by omega)
    have hokx : okW q n best S x.toNat = true := by
      unfold okW
      rw [hf, decide_eq_true (by omega), decide_eq_true (by omega)]
      rfl
    obtain ⟨k, hk, hok, hfst⟩ : ∃ k, k < n ∧ okW q n best S k = true ∧ ∀ j, j < k → okW q n best S j = false := by
      have key : ∀ m, okW q n best S m = true → m < n → ∃ k, k < n ∧ okW q n best S k = true ∧ ∀ j, j < k → okW q n best S j = false := by
        intro m
        induction m using Nat.strongRecOn with
        | _ m ih =>
          intro h1 h2
          by_cases hj : ∃ j, j < m ∧ okW q n best S j = true
          · obtain ⟨j, hj1, hj2⟩ := hj; exact ih j hj1 hj2 (by omega)
          · refine ⟨m, h2, h1, fun j hj2 => ?_⟩
            cases h : okW q n best S j with
            | false => rfl
            | true => exact absurd ⟨j, hj2, h⟩ hj
      exact key x.toNat hokx (by omega)
    have hkx : k ≤ x.toNat := by
      rcases Nat.lt_or_ge x.toNat k with h | h
      · rw [hfst _ h] at hokx; cases hokx
      · exact h
    obtain ⟨m, hmm⟩ : ∃ m, miss n S = m + 1 := ⟨l.length, by omega⟩
    rw [hmm, fewF_step m hk hok hfst] at hj ⊢
    cases i with
    | zero => simp only [List.getD_cons_zero]; omega
    | succ i =>
      have h1 := hj 0 (by omega)
      simp only [List.getD_cons_zero] at h1
      have hxk : x.toNat = k := by omega
      rw [← hxk] at hj ⊢
      have hmx : miss n (S ||| 2 ^ x.toNat) = m := by omega
      have ih := few_first q n best hb l (S ||| 2 ^ x.toNat) hS2 hv2 (by omega) (by omega) (by omega) i (by omega) (fun j hji => by
        have := hj (j + 1) (by omega)
        simp only [List.getD_cons_succ] at this
        rw [hmx]; exact this)
      rw [hmx] at ih
      simp only [List.getD_cons_succ]
      exact ih
/-- The works of a list, from S on. -/
def folS (S : Nat) (l : List Int) : Nat := l.foldl (fun S x => S ||| 2 ^ x.toNat) S
theorem folS_bits (l : List Int) : folS 0 l = bitsL l := rfl
theorem oRun_fol (n : Nat) (q : Nat → Nat) : ∀ (l : List Int) (S : Nat), (oRun n q S l).isSome = true → ∀ k, (h : k < l.length) → (0 ≤ l[k] ∧ l[k] < n) ∧ freeB (befT q) (folS S (l.take k)) (l[k]).toNat = true
  | [], _, _ => fun k h => absurd h (by simp)
  | x :: l, S, hv => by
    obtain ⟨⟨h0, hx, hf⟩, hv2⟩ := val_cons.1 hv
    intro k hk
    cases k with
    | zero => exact ⟨⟨h0, hx⟩, hf⟩
    | succ k => exact oRun_fol n q l (S ||| 2 ^ x.toNat) hv2 k (by simpa using hk)
theorem wlk_le_iff (q : Nat → Nat) (n v : Nat) : ∀ (l : List Int) (S : Nat), wlkN q n S l ≤ v ↔ ∀ k, (h : k < l.length) → hngS q n (folS S (l.take k)) (l[k]).toNat ≤ v
  | [], S => by
    constructor
    · intro _ k h; exact absurd h (by simp)
    · intro _; exact Nat.zero_le _
  | x :: l, S => by
    have ih := wlk_le_iff q n v l (S ||| 2 ^ x.toNat)
    have e : wlkN q n S (x :: l) = max (hngS q n S x.toNat) (wlkN q n (S ||| 2 ^ x.toNat) l) := rfl
    rw [e]
    constructor
    · intro h k hk
      cases k with
      | zero => show hngS q n S x.toNat ≤ v; omega
      | succ k => exact ih.1 (by omega) k (by simpa using hk)
    · intro h
      have h1 : hngS q n S x.toNat ≤ v := h 0 (by simp)
      have h2 := ih.2 fun k hk => h (k + 1) (by simpa using hk)
      omega
theorem miss_fol (n : Nat) (q : Nat → Nat) : ∀ (l : List Int) (S : Nat), (oRun n q S l).isSome = true → miss n (folS S l) + l.length = miss n S
  | [], _, _ => rfl
  | x :: l, S, hv => by
    obtain ⟨⟨h0, hx, hf⟩, hv2⟩ := val_cons.1 hv
    have := miss_fol n q l (S ||| 2 ^ x.toNat) hv2
    have hm := miss_set1 (freeB_bit hf) n (by omega)
    show miss n (folS (S ||| 2 ^ x.toNat) l) + (l.length + 1) = _
    omega
theorem fol_lt (n : Nat) (q : Nat → Nat) : ∀ (l : List Int) (S : Nat), S < 2 ^ n → (oRun n q S l).isSome = true → folS S l < 2 ^ n
  | [], _, hS, _ => hS
  | x :: l, S, hS, hv => by
    obtain ⟨⟨h0, hx, _⟩, hv2⟩ := val_cons.1 hv
    exact fol_lt n q l (S ||| 2 ^ x.toNat) (set_lt hS h0 hx) hv2
section
variable {ws : List GW} {l : List Int}
theorem ord_val (h : ordQ ws l = true) : l.length = ws.length ∧ (oRun ws.length (plsOf ws) 0 l).isSome = true := by
  unfold ordQ at h
  rw [Bool.and_eq_true, decide_eq_true_eq] at h
  exact h
theorem ord_all (h : ordQ ws l = true) {j : Nat} (hj : j < ws.length) : ∃ i, ∃ h : i < l.length, (l[i]).toNat = j := by
  obtain ⟨h1, h2⟩ := ord_val h
  have hm := miss_fol _ _ l 0 h2
  rw [miss_none] at hm
  have hlt := fol_lt _ _ l 0 (Nat.two_pow_pos _) h2
  have hf := (full_iff hlt).1 ((miss_zero hlt).1 (by omega)) j hj
  rw [folS_bits, bitsL_bit] at hf
  obtain ⟨x, hx, hxj⟩ := hf
  obtain ⟨i, hi, rfl⟩ := List.mem_iff_getElem.1 hx
  exact ⟨i, hi, hxj⟩
theorem take_bit (l : List Int) (k b : Nat) : (bitsL (l.take k)).testBit b = true ↔ ∃ i, ∃ h : i < l.length, i < k ∧ (l[i]).toNat = b := by
  rw [bitsL_bit]
  constructor
  · rintro ⟨x, hx, rfl⟩
    obtain ⟨i, hi, rfl⟩ := List.mem_iff_getElem.1 hx
    rw [List.length_take] at hi
    exact ⟨i, by omega, by omega, by rw [List.getElem_take]⟩
  · rintro ⟨i, hi, hk, rfl⟩
    refine ⟨l[i], List.mem_iff_getElem.2 ⟨i, by rw [List.length_take]; omega, by rw [List.getElem_take]⟩, rfl⟩
/-- While the k-th work of an order is made: the places in two readings. -/
theorem hang_ord (h : ordQ ws l = true) {k : Nat} (hk : k < l.length) (p : Nat) : hgQ (plsOf (reoG ws l)) l.length k p = hgS (plsOf ws) ws.length (bitsL (l.take k)) (l[k]).toNat p := by
  obtain ⟨h1, h2⟩ := ord_val h
  have hv := fun k hk => oRun_fol _ _ l 0 h2 k hk
  have hrg : ∀ i, (hi : i < l.length) → (l[i]).toNat < ws.length := fun i hi => by have := (hv i hi).1; omega
  have hq : ∀ i, (hi : i < l.length) → plsOf (reoG ws l) i = plsOf ws (l[i]).toNat := fun i hi => plsOf_reo ws l hi
  have hdis : ∀ i j, (hi : i < l.length) → (hj : j < l.length) → i < j → (l[i]).toNat ≠ (l[j]).toNat := fun i j hi hj hij e => by
    have h3 := freeB_bit (hv j hj).2
    rw [folS_bits] at h3
    have h4 := (take_bit l j (l[j]).toNat).2 ⟨i, hi, hij, e⟩
    rw [h3] at h4; cases h4
  rw [Bool.eq_iff_iff, hgQ_iff, hgS_ref, Bool.and_eq_true, bgB_iff, opB_iff]
  refine and_congr ?_ ?_
  · constructor
    · rintro ⟨i, hi, hik, ht⟩
      rw [hq i hi] at ht
      refine ⟨(l[i]).toNat, hrg i hi, ht, ?_⟩
      rcases Nat.lt_or_ge i k with h3 | h3
      · exact .inr ((take_bit l k _).2 ⟨i, hi, h3, rfl⟩)
      · obtain rfl : i = k := by omega
        exact .inl rfl
    · rintro ⟨j, hj, ht, rfl | hs⟩
      · exact ⟨k, hk, Nat.le_refl _, by rw [hq k hk]; exact ht⟩
      · obtain ⟨i, hi, hik, rfl⟩ := (take_bit l k j).1 hs
        exact ⟨i, hi, by omega, by rw [hq i hi]; exact ht⟩
  · constructor
    · rintro ⟨i, hi, hik, ht⟩
      rw [hq i hi] at ht
      refine ⟨(l[i]).toNat, hrg i hi, ht, ?_⟩
      cases hs : (bitsL (l.take k)).testBit (l[i]).toNat with
      | false => rfl
      | true =>
        obtain ⟨j, hj, hjk, he⟩ := (take_bit l k _).1 hs
        exact absurd he (hdis j i hj hi (by omega))
    · rintro ⟨j, hj, ht, hs⟩
      obtain ⟨i, hi, rfl⟩ := ord_all h hj
      refine ⟨i, hi, ?_, by rw [hq i hi]; exact ht⟩
      rcases Nat.lt_or_ge i k with h3 | h3
      · rw [(take_bit l k _).2 ⟨i, hi, h3, rfl⟩] at hs; cases hs
      · exact h3
theorem hng_ord (h : ordQ ws l = true) {k : Nat} (hk : k < l.length) : hngN (plsOf (reoG ws l)) l.length k = hngS (plsOf ws) ws.length (bitsL (l.take k)) (l[k]).toNat :=
  cntP_congr 24 fun p _ => hang_ord h hk p
/-- What an order needs. -/
theorem need_ord (h : ordQ ws l = true) : needQ (plsOf (reoG ws l)) l.length l.length = wlkN (plsOf ws) ws.length 0 l := by
  apply Nat.le_antisymm
  · refine needQ_least _ _ _ _ fun k hk => ?_
    rw [hng_ord h hk]
    exact (wlk_le_iff _ _ _ l 0).1 (Nat.le_refl _) k hk
  · refine (wlk_le_iff _ _ _ l 0).2 fun k hk => ?_
    rw [folS_bits, ← hng_ord h hk]
    exact needQ_ge _ _ _ k hk
end
end Go.Proofs.YtnplcephmidjbaaDoor
/- In plain Lean: in any order pairs hang in the places of a mark while its work is made. -/
namespace Go.Proofs.YtnplcephmidjbaaDoor

theorem cntP_mono {f g : Nat → Bool} : ∀ m, (∀ p, p < m → f p = true → g p = true) → cntP f m ≤ cntP g m
  | 0, _ => Nat.le_refl _
  | m + 1, h => by
    have ih := cntP_mono m fun p hp => h p (by omega)
    have e1 : cntP f (m + 1) = cntP f m + if f m = true then 1 else 0 := rfl
    have e2 : cntP g (m + 1) = cntP g m + if g m = true then 1 else 0 := rfl
    rw [e1, e2]
    by_cases hf : f m = true
    · rw [if_pos hf, if_pos (h m (by omega) hf)]; omega
    · rw [if_neg hf]; omega
theorem fol_closed (n : Nat) (q : Nat → Nat) : ∀ (l : List Int) (S : Nat), ClS q S → (oRun n q S l).isSome = true → ∀ k, ClS q (folS S (l.take k))
  | [], S, hc, _ => fun k => by rw [List.take_nil]; exact hc
  | x :: l, S, hc, hv => by
    obtain ⟨⟨h0, hx, hf⟩, hv2⟩ := val_cons.1 hv
    intro k
    cases k with
    | zero => exact hc
    | succ k =>
      have hb := ((free_tP q S x.toNat).1 hf).2
      exact fol_closed n q l (S ||| 2 ^ x.toNat) (hc.put ((bef_touch hc).2 hb)) hv2 k
theorem cls_zero (q : Nat → Nat) : ClS q 0 := fun b hb => by rw [Nat.zero_testBit] at hb; cases hb
section
variable {ws : List GW} {l : List Int}
theorem mark_hang (h : ordQ ws l = true) {k w p : Nat} (hk : k < l.length) (hw : (l[k]).toNat = w) (hm : MarkP (plsOf ws) ws.length w p) : hgS (plsOf ws) ws.length (bitsL (l.take k)) w p = true := by
  obtain ⟨h1, h2⟩ := ord_val h
  have hv := oRun_fol _ _ l 0 h2 k hk
  have hc := fol_closed _ _ l 0 (cls_zero _) h2 k
  have hb := (free_tP _ _ _).1 hv.2
  rw [hw] at hb
  rw [folS_bits] at hc hb
  have hwn : w < ws.length := by have := hv.1; omega
  obtain ⟨⟨a, ha, hat⟩, b, hb1, hbn, hbt⟩ := hm
  rw [hgS_ref, Bool.and_eq_true, bgB_iff, opB_iff]
  refine ⟨⟨a, ?_, hat, ?_⟩, b, hbn, hbt, ?_⟩
  · rcases ha with rfl | ha
    · exact hwn
    · have := ha.lt; omega
  · rcases ha with rfl | ha
    · exact .inl rfl
    · exact .inr ((bef_touch hc).2 hb.2 a ha)
  · rcases hb1 with rfl | hb1
    · exact hb.1
    · cases hs : (bitsL (l.take k)).testBit b with
      | false => rfl
      | true =>
        have := hc b hs w hb1
        rw [hb.1] at this; cases this
theorem mark_need (h : ordQ ws l = true) {w : Nat} (hw : w < ws.length) : mrkC (plsOf ws) ws.length w ≤ needQ (plsOf (reoG ws l)) l.length l.length := by
  obtain ⟨k, hk, hkw⟩ := ord_all h hw
  refine Nat.le_trans ?_ (needQ_ge _ _ _ k hk)
  rw [hng_ord h hk, hkw]
  exact cntP_mono 24 fun p _ hp => mark_hang h hk hkw ((bothN_bit hw).1 hp)
/-- The order of Fewest. -/
theorem few_ord {p : Int} (hx : fewX p ws = 0) : ordQ ws (fewL p ws) = true ∧ (fewL p ws).length = ws.length ∧ needQ (plsOf (reoG ws (fewL p ws))) (fewL p ws).length (fewL p ws).length = fewN p ws := by
  have hb := nedN_le24 (plsOf ws) ws.length _ 0 (Nat.le_refl _) (Nat.two_pow_pos _)
  obtain ⟨h1, h2, h3⟩ := few_walk (plsOf ws) ws.length _ hb ws.length 0 (Nat.two_pow_pos _) (miss_none _) (Nat.le_refl _)
  have e1 : fewL p ws = fewF (plsOf ws) ws.length (nedN (plsOf ws) ws.length 0) ws.length 0 := by unfold fewL; rw [if_pos hx]
  have e2 : fewN p ws = nedN (plsOf ws) ws.length 0 := by unfold fewN; rw [if_pos hx]
  have ho : ordQ ws (fewL p ws) = true := by
    unfold ordQ
    rw [e1, h1, Bool.and_true, decide_eq_true_eq]
    exact h2
  refine ⟨ho, by rw [e1]; exact h2, ?_⟩
  rw [need_ord ho, e1, e2]
  exact Nat.le_antisymm h3 (ned_walk _ _ _ _ (Nat.two_pow_pos _) h1 (by rw [h2, miss_none]))
theorem few_le {p : Int} (hx : fewX p ws = 0) (h : ordQ ws l = true) : fewN p ws ≤ needQ (plsOf (reoG ws l)) l.length l.length := by
  obtain ⟨h1, h2⟩ := ord_val h
  have e2 : fewN p ws = nedN (plsOf ws) ws.length 0 := by unfold fewN; rw [if_pos hx]
  rw [need_ord h, e2]
  exact ned_walk _ _ _ _ (Nat.two_pow_pos _) h2 (by rw [h1, miss_none])
theorem few_lex {p : Int} (hx : fewX p ws = 0) (h : ordQ ws l = true) (hn : needQ (plsOf (reoG ws l)) l.length l.length = fewN p ws) :
    ∀ i, i < l.length → (∀ j, j < i → (fewL p ws).getD j 0 = l.getD j 0) → (fewL p ws).getD i 0 ≤ l.getD i 0 := by
  obtain ⟨h1, h2⟩ := ord_val h
  have hb := nedN_le24 (plsOf ws) ws.length _ 0 (Nat.le_refl _) (Nat.two_pow_pos _)
  have e1 : fewL p ws = fewF (plsOf ws) ws.length (nedN (plsOf ws) ws.length 0) ws.length 0 := by unfold fewL; rw [if_pos hx]
  have e2 : fewN p ws = nedN (plsOf ws) ws.length 0 := by unfold fewN; rw [if_pos hx]
  have := few_first (plsOf ws) ws.length _ hb l 0 (Nat.two_pow_pos _) h2 (by rw [h1, miss_none]) (by rw [← need_ord h, hn, e2]; exact Nat.le_refl _) (Nat.le_refl _)
  rw [miss_none] at this
  rw [e1]
  exact this
end
/-- Among the first k works of an order: one up to the position that takes the place; one from it on. -/
def bfR (t : Nat → Bool) (a : Nat) : Nat → Bool
  | 0 => false
  | k + 1 => bfR t a k || (t k && decide (k ≤ a))
def afR (t : Nat → Bool) (a : Nat) : Nat → Bool
  | 0 => false
  | k + 1 => afR t a k || (t k && decide (a ≤ k))
theorem bfR_of {t : Nat → Bool} {a i : Nat} (hi : i ≤ a) (ht : t i = true) : ∀ n, i < n → bfR t a n = true
  | 0, h => absurd h (by omega)
  | n + 1, h => by
    unfold bfR
    rcases Nat.lt_succ_iff_lt_or_eq.1 h with h | rfl
    · rw [bfR_of hi ht n h]; rfl
    · rw [ht, decide_eq_true hi]; simp
theorem afR_of {t : Nat → Bool} {a i : Nat} (hi : a ≤ i) (ht : t i = true) : ∀ n, i < n → afR t a n = true
  | 0, h => absurd h (by omega)
  | n + 1, h => by
    unfold afR
    rcases Nat.lt_succ_iff_lt_or_eq.1 h with h | rfl
    · rw [afR_of hi ht n h]; rfl
    · rw [ht, decide_eq_true hi]; simp
theorem mark_bf {ws : List GW} {l : List Int} (h : ordQ ws l = true) {k w p : Nat} (hk : k < l.length) (hw : (l[k]).toNat = w) (hm : MarkP (plsOf ws) ws.length w p) :
    bfR (fun i => tkB (plsOf (reoG ws l) i) p) k l.length = true ∧ afR (fun i => tkB (plsOf (reoG ws l) i) p) k l.length = true := by
  have h1 := mark_hang h hk hw hm
  rw [← hw, ← hang_ord h hk, hgQ_iff] at h1
  obtain ⟨⟨i, hi, hik, ht⟩, j, hj, hjk, hu⟩ := h1
  exact ⟨bfR_of hik ht _ hi, afR_of hjk hu _ hj⟩
end Go.Proofs.YtnplcephmidjbaaDoor
/- The law's hangs: true of a mark, in any order. -/
namespace Go.Proofs.YtnplcephmidjbaaDoor
open Go.RowKit

theorem ord_dis {ws : List GW} {l : List Int} (h : ordQ ws l = true) {i j : Nat} (hi : i < l.length) (hj : j < l.length) (hij : i < j) : (l[i]).toNat ≠ (l[j]).toNat := fun e => by
  obtain ⟨_, h2⟩ := ord_val h
  have h3 := freeB_bit (oRun_fol _ _ l 0 h2 j hj).2
  rw [folS_bits] at h3
  have h4 := (take_bit l j (l[j]).toNat).2 ⟨i, hi, hij, e⟩
  rw [h3] at h4; cases h4

set_option maxRecDepth 100000 in
set_option maxHeartbeats 8000000 in
theorem hangs12_ (P wk : Nat) (A L B : Option Addr) (c lc d : Nat) (ws : List GW) (l mL : List Int) (w : World) (hok : errSheet P ws = 0) (ho : ordQ ws l = true) (hwk : wk < ws.length) (hm : ∀ x ∈ mL, ∃ p : Nat, x = (p : Int) ∧ MarkP (plsOf ws) ws.length wk p)
    (ha : RdW w A ws) (hl : RdI w L l) (hB : RdI w B mL) :
    Calls Tryd.prog 22 #[.agg #[.int .i64 (P : Int), .slice A ws.length c], .slice L l.length lc, .agg #[.int .i64 (wk : Int), .slice B mL.length d]] w fun e w' => e = .returned (.bool true) ∧ Below w.heap.size w w' := by
  obtain ⟨k0, hk0, hkw⟩ := ord_all ho hwk
  obtain ⟨hv1, hv2⟩ := ord_val ho
  have hrg : ∀ i, (h : i < l.length) → 0 ≤ l[i] ∧ l[i] < ws.length := fun i h => (oRun_fol _ _ l 0 hv2 i h).1
  have hdis : ∀ j, (h : j < l.length) → j < k0 → l[j] ≠ (wk : Int) := fun j h hj e => ord_dis ho h hk0 hj (by rw [e, hkw]; rfl)
  have hat : l[k0] = (wk : Int) := by have := hrg k0 hk0; omega
  have hpl := pl22 hok
  have hn4 := (okAll hok).2.2.1
  have hln := hB.1
  have hqr : ∀ i, (h : i < l.length) → ∃ y : Nat, y < ws.length ∧ l[i] = (y : Int) ∧ plsOf (reoG ws l) i = plsOf ws y := fun i h => by
    refine ⟨(l[i]).toNat, by have := hrg i h; omega, by have := hrg i h; omega, plsOf_reo ws l h⟩
  have hwq : ∀ i, (h : i < ws.length) → ws[i].pl = (plsOf ws i : Int) ∧ plsOf ws i ≤ 22 := fun i h => by
    have h1 := hpl _ (List.getElem_mem h)
    have e : plsOf ws i = ws[i].pl.toNat := by unfold plsOf; simp [List.getD_eq_getElem?_getD, h]
    omega
  have hmb : ∀ i, (h : i < mL.length) → ∃ p : Nat, mL[i] = (p : Int) ∧ p < 24 ∧ bfR (fun i => tkB (plsOf (reoG ws l) i) p) k0 l.length = true ∧ afR (fun i => tkB (plsOf (reoG ws l) i) p) k0 l.length = true := fun i h => by
    obtain ⟨p, hp, hmp⟩ := hm _ (List.getElem_mem h)
    obtain ⟨h3, h4⟩ := mark_bf ho hk0 hkw hmp
    obtain ⟨_, b, _, hb, ht⟩ := hmp
    have := (hwq b hb).2
    unfold tkB at ht
    simp at ht
    exact ⟨p, hp, by omega, h3, h4⟩
  have hl400 : l.length ≤ 400 := by omega
  generalize reoG ws l = rg at *
  have HA := Lib.hid ha; have HL := Lib.hid hl; have HB := Lib.hid hB; have HRG := Lib.hid hrg; have HDIS := Lib.hid hdis; have HAT := Lib.hid hat; have HPL := Lib.hid hpl; have HQR := Lib.hid hqr; have HWQ := Lib.hid hwq; have HMB := Lib.hid hmb; have HM := Lib.hid hm; have HO := Lib.hid ho; have HOK := Lib.hid hok; have HV2 := Lib.hid hv2; have HV1 := Lib.hid hv1; clear ha hl hB hrg hdis hat hpl hqr hwq hmb hm ho hok hv2 hv1
  clear hkw
  go_enter Tryd.func22, Tryd.ntmps22
  go_wp2
  obtain ⟨W2, hW2⟩ : ∃ W2, W2 = (w.alloc (.cells #[.int .i64 (P : Int), .slice A ws.length c] 24)).alloc (.cells #[.int .i64 (wk : Int), .slice B mL.length d] 37) := ⟨_, rfl⟩
  rw [← hW2]
  have hb2 : Below w.heap.size w W2 := by rw [hW2]; exact ((Below.refl _ _).alloc (Nat.le_refl _) _).alloc (by simp) _
  have k1 : W2.cell? ⟨w.heap.size, 1, none⟩ = some (.slice A ws.length c) := by rw [hW2]; go_simp
  have m0 : W2.cell? ⟨w.heap.size + 1, 0, none⟩ = some (.int .i64 (wk : Int)) := by rw [hW2]; go_simp
  have m1 : W2.cell? ⟨w.heap.size + 1, 1, none⟩ = some (.slice B mL.length d) := by rw [hW2]; go_simp
  have hs2 : W2.heap.size = w.heap.size + 2 := by rw [hW2]; simp
  clear hW2
  have HB2 := Lib.hid hb2; have K1 := Lib.hid k1; have M0 := Lib.hid m0; have M1 := Lib.hid m1; have HS2 := Lib.hid hs2; clear hb2 k1 m0 m1 hs2
  go_loopw [7] (fun av wr => ∃ j : Nat, av = .int .i64 j ∧ j ≤ k0 ∧ Below W2.heap.size W2 wr) (fun av _ => k0 - (intOf av).toNat)
  case atStart => exact ⟨0, rfl, Nat.zero_le _, Below.refl _ _⟩
  case round =>
    obtain ⟨j, rfl, hj, hbr⟩ := hrel
    obtain ⟨bl, ol, hLe, hbl, l1⟩ := (HL.out.later (HB2.out.trans (hbr.mono (by have := HS2.out; omega))) (Nat.le_refl _)).at_ (show j < l.length by omega)
    have c0 := below_at hbr (Nat.le_refl _) M0.out
    have hs0 : w.heap.size + 1 < wr.heap.size := by have := hbr.size; have := HS2.out; omega
    have x1 : (0 : Int) ≤ (j : Int) := by omega
    have x2 : (j : Int) < (l.length : Int) := by omega
    by_cases hjk : j < k0
    · have hne := HDIS.out j (by omega) hjk
      have hb1 : (l[j] != (wk : Int)) = true := by simpa using hne
      generalize l[j] = lj at *
      clear hne
      subst hLe
      have HBR := Lib.hid hbr; clear hbr
      go_wp2
      go_quiet (fail)
      go_wp2
      go_roundw
      case rel => exact ⟨j + 1, by go_num, by omega, below_drewN HBR.out _⟩
      case measure => simp [intOf]; omega
    · obtain rfl : j = k0 := by omega
      have hb1 : (l[j] != (wk : Int)) = false := by have := HAT.out; simp [this]
      generalize hlj : l[j] = lj at *
      subst hLe
      have HBR := Lib.hid hbr; have HLJ := Lib.hid hlj; clear hbr hlj
      go_wp2
      go_quiet (fail)
      have HBR2 := Lib.hid (below_drewN HBR.out nq)
      generalize wr.drewN nq = wq at *
      clear l1 c0 hbl
      have hs1 : w.heap.size + 1 < wq.heap.size := by have := HBR2.out.size; have := HS2.out; omega
      go_wp2
      go_loopw [8] (fun iv wr => ∃ i : Nat, iv = .int .i64 i ∧ i ≤ mL.length ∧ Below W2.heap.size W2 wr) (fun iv _ => mL.length - (intOf iv).toNat)
      case atStart => exact ⟨0, rfl, Nat.zero_le _, HBR2.out⟩
      case round =>
        obtain ⟨i, rfl, hi, hbs⟩ := hrel
        have c1 := below_at hbs (Nat.le_refl _) M1.out
        have hs3 : w.heap.size + 1 < wr.heap.size := by have := hbs.size; have := HS2.out; omega
        by_cases him : i < mL.length
        · obtain ⟨pp, hpe, hp24, hbf, haf⟩ := HMB.out i him
          obtain ⟨wi, rfl⟩ : ∃ wi : World, wi = wr := ⟨_, rfl⟩
          have HBS := Lib.hid hbs; have HBF := Lib.hid hbf; have HAF := Lib.hid haf; have HPE := Lib.hid hpe; clear hbs hbf haf hpe
          go_wp2
          clear c1
          go_loopw [9, 10, 11, 12] (fun bv av kv tv wr => ∃ (k : Nat) (vt : Value), vt = tv ∧ kv = .int .i64 k ∧ k ≤ l.length ∧ bv = .bool (bfR (fun i => tkB (plsOf rg i) pp) j k) ∧ av = .bool (afR (fun i => tkB (plsOf rg i) pp) j k) ∧ Below W2.heap.size W2 wr) (fun _ _ kv _ _ => l.length - (intOf kv).toNat)
          case atStart => exact ⟨0, _, rfl, rfl, Nat.zero_le _, rfl, rfl, HBS.out⟩
          case round =>
            obtain ⟨k, vt, rfl, rfl, hk, rfl, rfl, hbk⟩ := hrel
            have hbw := HB2.out.trans (hbk.mono (by have := HS2.out; omega))
            have hs4 : w.heap.size + 1 < wr.heap.size := by have := hbk.size; have := HS2.out; omega
            have hs5 : w.heap.size < wr.heap.size := by omega
            have c1 := below_at hbk (Nat.le_refl _) M1.out
            have c2 := below_at hbk (Nat.le_refl _) K1.out
            have hbs1 : bfR (fun i => tkB (plsOf rg i) pp) j (k + 1) = (bfR (fun i => tkB (plsOf rg i) pp) j k || (tkB (plsOf rg k) pp && decide (k ≤ j))) := rfl
            have has1 : afR (fun i => tkB (plsOf rg i) pp) j (k + 1) = (afR (fun i => tkB (plsOf rg i) pp) j k || (tkB (plsOf rg k) pp && decide (j ≤ k))) := rfl
            by_cases hkl : k < l.length
            · obtain ⟨y, hy, hly, hqk⟩ := HQR.out k hkl
              obtain ⟨bl2, ol2, hLe2, hbl2, l2⟩ := (HL.out.later hbw (Nat.le_refl _)).at_ hkl
              injection hLe2 with hLe3; injection hLe3 with hL1 hL2; subst hL1; subst hL2
              obtain ⟨bm, om, rfl, hbm, n1⟩ := (HB.out.later hbw (Nat.le_refl _)).at_ him
              obtain ⟨ba, oa, rfl, hba, t1, t2, t3⟩ := (HA.out.later hbw (Nat.le_refl _)).at_ hy
              obtain ⟨p1, p2⟩ := HWQ.out y hy
              rw [hly] at l2
              rw [HPE.out] at n1
              rw [p1] at t2
              rw [hqk] at hbs1 has1
              have hcall := fun kk ss W => rTakes_ kk (plsOf ws y : Int) (pp : Int) ss W (by omega) (by omega)
              rw [takes_tk] at hcall
              have y1 : (0 : Int) ≤ (k : Int) := by omega
              have y2 : (k : Int) < (l.length : Int) := by omega
              have y3 : (0 : Int) ≤ (i : Int) := by omega
              have y4 : (i : Int) < (mL.length : Int) := by omega
              have y5 : (0 : Int) ≤ (y : Int) := by omega
              have y6 : (y : Int) < (ws.length : Int) := by omega
              generalize ws[y].kind = kd at *
              generalize ws[y].word = wd0 at *
              generalize hB1 : bfR (fun i => tkB (plsOf rg i) pp) j (k + 1) = bn at *
              generalize hA1 : afR (fun i => tkB (plsOf rg i) pp) j (k + 1) = an at *
              generalize bfR (fun i => tkB (plsOf rg i) pp) j k = bo at *
              generalize afR (fun i => tkB (plsOf rg i) pp) j k = ao at *
              generalize tkB (plsOf ws y) pp = tk at *
              generalize plsOf ws y = qy at *
              clear hly p1 hqk
              have hd : (decide (k ≤ j) = true ∧ decide (j ≤ k) = false) ∨ (decide (k ≤ j) = true ∧ decide (j ≤ k) = true) ∨ (decide (k ≤ j) = false ∧ decide (j ≤ k) = true) := by
                simp only [decide_eq_true_eq, decide_eq_false_iff_not]
                omega
              have HBK := Lib.hid hbk; have HBW := Lib.hid hbw; have HCALL := Lib.hid hcall; have HB1 := Lib.hid hB1; have HA1 := Lib.hid hA1; have HBS1 := Lib.hid hbs1; have HAS1 := Lib.hid has1; have HD := Lib.hid hd; clear hbk hbw hcall hB1 hA1 hbs1 has1 hd
              go_wp2
              have hbelc : ∀ (u : Bel wr.heap.size wr) b o, b < wr.heap.size → u.wd.cell? ⟨b, o, none⟩ = wr.cell? ⟨b, o, none⟩ := fun u b o h => u.h.cell (p := ⟨b, o, none⟩) h
              have hbeln : Nonempty (Bel wr.heap.size wr) := ⟨⟨wr, Below.refl _ _⟩⟩
              refine wp_region_bel wr.heap.size (by kernel_rfl) (by kernel_rfl) ?_
              repeat (go_big_quiet_step ((go_at_call 23; exact quiet_bel (Nat.le_refl _) (HCALL.out _ _ _))))
              refine wpQuiet_nil ?_
              intro wB hB0; obtain ⟨uB, hu⟩ := hB0; have hbB0 := uB.h; rw [← hu] at hbB0; clear hu uB hbelc hbeln
              obtain ⟨hbB, hcB, hsB⟩ := bcell2 hbB0; clear hbB0
              have hbB2 : Below W2.heap.size W2 wB := HBK.out.trans (hbB.mono HBK.out.size)
              clear c1 c2 l2 n1 t1 t2 t3 hcB hsB hbB HCALL
              have HBB2 := Lib.hid hbB2; clear hbB2
              have hbs1 := HBS1.out
              have has1 := HAS1.out
              cases tk <;> cases bo <;> cases ao <;> rcases HD.out with ⟨hd1, hd2⟩ | ⟨hd1, hd2⟩ | ⟨hd1, hd2⟩
              all_goals
                rw [hd1] at hbs1
                rw [hd2] at has1
                simp at hbs1 has1
                clear HBS1 HAS1 HD
                have HBS1 := Lib.hid hbs1; have HAS1 := Lib.hid has1; clear hbs1 has1
                go_wp2
                go_roundw
                case rel => exact ⟨k + 1, _, rfl, by go_num, by omega, by rw [HB1.out, HBS1.out], by rw [HA1.out, HAS1.out], HBB2.out⟩
                case measure => simp [intOf]; omega
            · obtain rfl : k = l.length := by omega
              rw [HBF.out, HAF.out]
              clear hbs1 has1
              have hbwi := hbk
              have HBK := Lib.hid hbk; have HBW := Lib.hid hbw; have HBWI := Lib.hid hbwi; clear hbk hbw hbwi
              go_wp2
              go_roundw
              case rel => exact ⟨i + 1, by go_num, by omega, HBK.out⟩
              case measure => simp [intOf]; omega
        · have HBS := Lib.hid hbs; clear hbs
          go_wp2
          go_ret
          exact ⟨rfl, HB2.out.trans (HBS.out.mono (by have := HS2.out; omega))⟩
end Go.Proofs.YtnplcephmidjbaaDoor
