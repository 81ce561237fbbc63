/- Orders with numbers: plain functions. What may be next, the order with a number, the number of an order. -/
import Derived.Test.YtifpkdajfdlgeaaTrLst
import Derived.Test.YtifpkdajfdlgeaaTrCnted
namespace Go.Proofs.Ytifpkdajfdlgeaa
open Go.RowKit

/-- Among the first k works: those that touch work i are in the set. -/
def frK (ws : List GW) (s i : Nat) : Nat → Bool
  | 0 => true
  | k + 1 => frK ws s i k && (s.testBit k || !touchB (ws.getD k gw0).pl (ws.getD i gw0).pl)
theorem frK_iff (ws : List GW) (s i : Nat) : ∀ n, frK ws s i n = true ↔ ∀ k, k < n → s.testBit k = true ∨ touchB (ws.getD k gw0).pl (ws.getD i gw0).pl = false
  | 0 => by simp [frK]
  | n + 1 => by
    rw [frK, Bool.and_eq_true, frK_iff ws s i n, Bool.or_eq_true, Bool.not_eq_true']
    constructor
    · rintro ⟨h1, h2⟩ k hk
      rcases Nat.lt_or_ge k n with h | h
      · exact h1 k h
      · obtain rfl : k = n := by omega
        exact h2
    · intro h
      exact ⟨fun k hk => h k (by omega), h n (by omega)⟩
theorem frK_mono (ws : List GW) (s i : Nat) : ∀ n k, k ≤ n → frK ws s i k = false → frK ws s i n = false
  | 0, k, h, hf => by obtain rfl : k = 0 := by omega
                      exact hf
  | n + 1, k, h, hf => by
    rcases Nat.lt_or_ge k (n + 1) with h1 | h1
    · rw [frK, frK_mono ws s i n k (by omega) hf]; rfl
    · obtain rfl : k = n + 1 := by omega
      exact hf
theorem orK_bit (ws : List GW) (i : Nat) : ∀ j k, (orK ws i j).testBit k = (decide (k < j) && touchB (ws.getD k gw0).pl (ws.getD i gw0).pl)
  | 0, k => by simp [orK]
  | j + 1, k => by
    have ih := orK_bit ws i j k
    rw [orK]
    by_cases hk : k = j
    · subst hk
      split
      · rename_i h
        rw [testBit_set, show touchB (ws.getD k gw0).pl (ws.getD i gw0).pl = true from h]; simp
      · rename_i h
        rw [ih, show touchB (ws.getD k gw0).pl (ws.getD i gw0).pl = false by simpa using h]; simp
    · have : decide (k < j + 1) = decide (k < j) := by rw [decide_eq_decide]; omega
      split
      · rw [testBit_set, ih, this, decide_eq_false (Ne.symm hk), Bool.or_false]
      · rw [ih, this]
theorem and_self_iff (a s : Nat) : a &&& s = a ↔ ∀ k, a.testBit k = true → s.testBit k = true := by
  constructor
  · intro h k hk
    have := congrArg (fun z => z.testBit k) h
    simp only [Nat.testBit_and, hk, Bool.true_and] at this
    exact this
  · intro h
    apply Nat.eq_of_testBit_eq
    intro k
    rw [Nat.testBit_and]
    cases ha : a.testBit k with
    | false => rfl
    | true => rw [h k ha]; rfl
theorem freeB_frK (ws : List GW) (s i : Nat) : freeB (befW ws) s i = (!s.testBit i && frK ws s i i) := by
  unfold freeB
  congr 1
  rw [Bool.eq_iff_iff, decide_eq_true_eq, and_self_iff, frK_iff]
  unfold befW
  constructor
  · intro h k hk
    have := h k
    rw [orK_bit, decide_eq_true hk, Bool.true_and] at this
    cases ht : touchB (ws.getD k gw0).pl (ws.getD i gw0).pl with
    | false => exact .inr rfl
    | true => exact .inl (this ht)
  · intro h k hk
    rw [orK_bit, Bool.and_eq_true, decide_eq_true_eq] at hk
    rcases h k hk.1 with h1 | h1
    · exact h1
    · rw [h1] at hk; cases hk.2

/-- The first work, at or below j tried, behind which the number lies; and the number that is left. -/
def pkTo (g : Nat → Int) (bef : Nat → Nat) (s : Nat) (k : Int) : Nat → Option Nat × Int
  | 0 => (none, k)
  | j + 1 => match pkTo g bef s k j with
    | (some i, r) => (some i, r)
    | (none, r) => if freeB bef s j = true then (if r < g (s ||| 2 ^ j) then (some j, r) else (none, r - g (s ||| 2 ^ j))) else (none, r)
def nthRun (n : Nat) (bef : Nat → Nat) : Nat → Nat → Int → List Int
  | 0, _, _ => []
  | f + 1, s, k => match pkTo (cntN n bef) bef s k n with
    | (some i, r) => (i : Int) :: nthRun n bef f (s ||| 2 ^ i) r
    | (none, _) => []
theorem pkTo_found {g : Nat → Int} {bef : Nat → Nat} {s : Nat} {k : Int} {i : Nat} {r : Int} : ∀ {j : Nat}, pkTo g bef s k j = (some i, r) → i < j ∧ freeB bef s i = true ∧ r < g (s ||| 2 ^ i) ∧ pkTo g bef s k i = (none, r) ∧ ∀ n, j ≤ n → pkTo g bef s k n = (some i, r)
  | 0, h => by simp [pkTo] at h
  | j + 1, h => by
    have stay : ∀ n, j + 1 ≤ n → pkTo g bef s k n = (some i, r) := by
      intro n hn
      induction n with
      | zero => omega
      | succ n ih =>
        rcases Nat.lt_or_ge n (j + 1) with h1 | h1
        · obtain rfl : n = j := by omega
          exact h
        · rw [pkTo, ih h1]
    rw [pkTo] at h
    split at h
    · rename_i i' r' h1
      have := pkTo_found (h1.trans h)
      exact ⟨by omega, this.2.1, this.2.2.1, this.2.2.2.1, stay⟩
    · rename_i r' h1
      split at h
      · rename_i hf
        split at h
        · rename_i hr
          simp only [Prod.mk.injEq, Option.some.injEq] at h
          obtain ⟨rfl, rfl⟩ := h
          exact ⟨by omega, hf, hr, h1, stay⟩
        · simp at h
      · simp at h
theorem accF_mono {g : Nat → Int} {bef : Nat → Nat} {s : Nat} (hg : ∀ t, 0 ≤ g t) : ∀ n j, j ≤ n → accF g bef s j ≤ accF g bef s n
  | 0, j, h => by obtain rfl : j = 0 := by omega
                  exact Int.le_refl _
  | n + 1, j, h => by
    rcases Nat.lt_or_ge j (n + 1) with h1 | h1
    · have ih := accF_mono (bef := bef) (s := s) hg n j (by omega)
      have := hg (s ||| 2 ^ n)
      have := (accF_bounds (bef := bef) (s := s) hg n).2
      rw [accF]; split <;> omega
    · obtain rfl : j = n + 1 := by omega
      exact Int.le_refl _
/-- Below the limit: what is tried and passed over has been taken off. -/
theorem pkTo_none {g : Nat → Int} {bef : Nat → Nat} {s : Nat} {k : Int} (hg : ∀ t, 0 ≤ g t) (hk : 0 ≤ k) {N : Nat} (hN : accF g bef s N ≤ 1000000000) : ∀ {j : Nat} {r : Int}, j ≤ N → pkTo g bef s k j = (none, r) → r = k - accF g bef s j ∧ 0 ≤ r
  | 0, r, _, h => by simp [pkTo] at h; subst h; simp [accF]; exact hk
  | j + 1, r, hj, h => by
    rw [pkTo] at h
    split at h
    · simp at h
    · rename_i r' h1
      obtain ⟨h2, h3⟩ := pkTo_none hg hk hN (by omega) h1
      have hb := accF_mono (bef := bef) (s := s) hg N (j + 1) hj
      have hgj := hg (s ||| 2 ^ j)
      split at h
      · rename_i hf
        split at h
        · simp at h
        · rename_i hr
          simp at h
          rw [accF, if_pos hf] at hb ⊢
          omega
      · rename_i hf
        simp at h
        subst h
        rw [accF, if_neg hf]
        exact ⟨h2, h3⟩
/-- A number below the count is found, and the rest of it lies below the count behind. -/
theorem pkTo_some {n : Nat} {bef : Nat → Nat} {s : Nat} {k : Int} (hs : s ≠ 2 ^ n - 1) (hk : 0 ≤ k) (hlt : k < cntN n bef s) (hle : cntN n bef s ≤ 1000000000) :
    ∃ i r, pkTo (cntN n bef) bef s k n = (some i, r) ∧ i < n ∧ freeB bef s i = true ∧ 0 ≤ r ∧ r < cntN n bef (s ||| 2 ^ i) ∧ cntN n bef (s ||| 2 ^ i) ≤ 1000000000 ∧ r = k - accF (cntN n bef) bef s i := by
  have hst := cntN_step n bef s hs
  rw [hst] at hlt hle
  have hg := fun t => (cntN_bounds n bef t).1
  rcases hp : pkTo (cntN n bef) bef s k n with ⟨_ | i, r⟩
  · have := pkTo_none hg hk hle (Nat.le_refl _) hp
    omega
  · obtain ⟨h1, h2, h3, h4, _⟩ := pkTo_found hp
    obtain ⟨h5, h6⟩ := pkTo_none hg hk hle (by omega) h4
    refine ⟨i, r, rfl, h1, h2, h6, h3, ?_, h5⟩
    have hb := accF_mono (bef := bef) (s := s) hg n (i + 1) h1
    rw [accF, if_pos h2] at hb
    have := (accF_bounds (bef := bef) (s := s) hg i).1
    omega

/-- What is added for the works before the one that comes next. -/
def lowK (g : Nat → Int) (bef : Nat → Nat) (s : Nat) : Nat → Int
  | 0 => 0
  | j + 1 => if freeB bef s j = true then lowK g bef s j + g (s ||| 2 ^ j) else lowK g bef s j
def rkRun (g : Nat → Int) (bef : Nat → Nat) : Nat → List Int → Option Int
  | _, [] => some 0
  | s, x :: l => if freeB bef s x.toNat = true then (rkRun g bef (s ||| 2 ^ x.toNat) l).map (lowK g bef s x.toNat + ·) else none

/-- Is a list an order? By what is done. -/
def ordRun (ws : List GW) : List Bool → List Int → Bool
  | _, [] => true
  | ds, x :: l => decide (0 ≤ x ∧ x < ws.length) && readyB ws ds x.toNat && ordRun ws (ds.set x.toNat true) l
def ordB (ws : List GW) (l : List Int) : Bool := decide (l.length = ws.length) && ordRun ws (List.replicate l.length false) l

/-- What is done, as a list and as bits. -/
def SameD (n : Nat) (ds : List Bool) (s : Nat) : Prop := ds.length = n ∧ ∀ i, i < n → ds.getD i false = s.testBit i
theorem SameD.zero (n : Nat) : SameD n (List.replicate n false) 0 := ⟨by simp, fun i hi => by simp [List.getD_eq_getElem?_getD, hi]⟩
theorem SameD.set {n : Nat} {ds : List Bool} {s i : Nat} (h : SameD n ds s) (hi : i < n) : SameD n (ds.set i true) (s ||| 2 ^ i) :=
  ⟨by rw [List.length_set]; exact h.1, fun k hk => by
    rw [testBit_set, List.getD_eq_getElem?_getD, List.getElem?_set]
    by_cases hik : i = k
    · subst hik; rw [if_pos rfl, if_pos (by rw [h.1]; exact hi)]; simp
    · rw [if_neg hik, ← List.getD_eq_getElem?_getD, h.2 k hk, decide_eq_false hik, Bool.or_false]⟩
theorem ready_free {ws : List GW} {ds : List Bool} {s i : Nat} (h : SameD ws.length ds s) (hi : i < ws.length) : readyB ws ds i = freeB (befW ws) s i := by
  rw [freeB_frK, Bool.eq_iff_iff]
  unfold readyB
  rw [Bool.and_eq_true, Bool.and_eq_true, noTouch_iff, frK_iff, h.2 i hi, and_comm]
  refine and_congr Iff.rfl (forall_congr' fun k => imp_congr_right fun hk => ?_)
  rw [h.2 k (by omega)]
/-- An order of numbers that are works: the program's way to say it is one. -/
theorem rk_ord {g : Nat → Int} {ws : List GW} : ∀ {l : List Int} {ds : List Bool} {s : Nat}, SameD ws.length ds s → (∀ x ∈ l, 0 ≤ x ∧ x < ws.length) → (rkRun g (befW ws) s l).isSome = ordRun ws ds l
  | [], _, _, _, _ => rfl
  | x :: l, ds, s, h, hl => by
    obtain ⟨h1, h2⟩ := hl x (by simp)
    rw [rkRun, ordRun, decide_eq_true ⟨h1, h2⟩, Bool.true_and, ready_free h (by omega)]
    by_cases hf : freeB (befW ws) s x.toNat = true
    · rw [if_pos hf, hf, Bool.true_and, Option.isSome_map]
      exact rk_ord (h.set (by omega)) fun y hy => hl y (by simp [hy])
    · rw [if_neg hf, show freeB (befW ws) s x.toNat = false by simpa using hf]; rfl
theorem ord_range {ws : List GW} : ∀ {l : List Int} {ds : List Bool}, ordRun ws ds l = true → ∀ x ∈ l, 0 ≤ x ∧ x < ws.length
  | [], _, _, x, hx => by cases hx
  | y :: l, ds, h, x, hx => by
    rw [ordRun, Bool.and_eq_true, Bool.and_eq_true, decide_eq_true_eq] at h
    rcases List.mem_cons.1 hx with rfl | hx
    · exact h.1.1
    · exact ord_range h.2 x hx
theorem lowK_bd {g : Nat → Int} {bef : Nat → Nat} {s : Nat} (hg : ∀ t, 0 ≤ g t ∧ g t ≤ 1000000001) : ∀ n : Nat, 0 ≤ lowK g bef s n ∧ lowK g bef s n ≤ n * 1000000001
  | 0 => by simp [lowK]
  | j + 1 => by
    have h1 := lowK_bd (bef := bef) (s := s) hg j
    have h2 := hg (s ||| 2 ^ j)
    rw [lowK]; split <;> omega
theorem add_set {s i : Nat} (h : s.testBit i = false) : s + 2 ^ i = s ||| 2 ^ i := by
  have h1 : s &&& 2 ^ i = 0 := by
    apply Nat.eq_of_testBit_eq
    intro k
    rw [Nat.testBit_and, Nat.testBit_two_pow, Nat.zero_testBit]
    by_cases hk : i = k
    · subst hk; rw [h]; rfl
    · rw [decide_eq_false hk, Bool.and_false]
  obtain ⟨W, hw⟩ : ∃ W, s + 2 ^ i < 2 ^ W := ⟨_, Nat.lt_two_pow_self⟩
  have hs : s < 2 ^ W := Nat.lt_of_le_of_lt (Nat.le_add_right _ _) hw
  have hi : 2 ^ i < 2 ^ W := Nat.lt_of_le_of_lt (Nat.le_add_left _ _) hw
  have h2 := BitVec.add_eq_or_of_and_eq_zero (w := W) (BitVec.ofNat _ s) (BitVec.ofNat _ (2 ^ i)) (by
    apply BitVec.eq_of_toNat_eq
    simp only [BitVec.toNat_and, BitVec.toNat_ofNat, Nat.mod_eq_of_lt hs, Nat.mod_eq_of_lt hi, h1, Nat.zero_mod])
  have h3 := congrArg BitVec.toNat h2
  simpa only [BitVec.toNat_add, BitVec.toNat_or, BitVec.toNat_ofNat, Nat.mod_eq_of_lt hs, Nat.mod_eq_of_lt hi, Nat.mod_eq_of_lt hw] using h3
end Go.Proofs.Ytifpkdajfdlgeaa
