/- The levels of works: the program's way (by places) and the reference's way (by works that touch) are one. -/
import Derived.Test.YtifpkdajfdlgeaaTrPure
namespace Go.Proofs.Ytifpkdajfdlgeaa

abbrev gw0 : GW := ⟨0, 0, ByteArray.empty⟩
/-- By places: one more than the level of the last work there, after k works. -/
def nxK (ws : List GW) : Nat → Nat → Int
  | 0, _ => 0
  | k + 1, p => if takesB (ws.getD k gw0) p = true then max (nxK ws k (ws.getD k gw0).pl.toNat) (nxK ws k ((ws.getD k gw0).pl.toNat + 1)) + 1 else nxK ws k p
def lvK (ws : List GW) (k : Nat) : Int := max (nxK ws k (ws.getD k gw0).pl.toNat) (nxK ws k ((ws.getD k gw0).pl.toNat + 1))
def levL (ws : List GW) (n : Nat) : List Int := (List.range n).map (lvK ws)
theorem levL_length (ws : List GW) (n : Nat) : (levL ws n).length = n := by simp [levL]
theorem levL_succ (ws : List GW) (n : Nat) : levL ws (n + 1) = levL ws n ++ [lvK ws n] := by simp [levL, List.range_succ]
theorem levL_get (ws : List GW) {n k : Nat} (h : k < n) : (levL ws n).getD k 0 = lvK ws k := by simp [levL, List.getD_eq_getElem?_getD, h]
theorem nxK_succ (ws : List GW) (k p : Nat) : nxK ws (k + 1) p = if takesB (ws.getD k gw0) p = true then lvK ws k + 1 else nxK ws k p := rfl
theorem nxK_bd (ws : List GW) : ∀ k p, 0 ≤ nxK ws k p ∧ nxK ws k p ≤ k
  | 0, _ => by simp [nxK]
  | k + 1, p => by
    have h1 := nxK_bd ws k (ws.getD k gw0).pl.toNat
    have h2 := nxK_bd ws k ((ws.getD k gw0).pl.toNat + 1)
    have h3 := nxK_bd ws k p
    rw [nxK]
    split <;> omega
theorem lvK_bd (ws : List GW) (k : Nat) : 0 ≤ lvK ws k ∧ lvK ws k ≤ k := by
  have h1 := nxK_bd ws k (ws.getD k gw0).pl.toNat
  have h2 := nxK_bd ws k ((ws.getD k gw0).pl.toNat + 1)
  unfold lvK; omega
/-- The reference's way: the greatest level of an earlier work that touches, and one. -/
def levTo (ws : List GW) (i : Nat) : Nat → Int
  | 0 => 0
  | k + 1 => if touchB (ws.getD k gw0).pl (ws.getD i gw0).pl = true then max (levTo ws i k) (lvK ws k + 1) else levTo ws i k
theorem levTo_bd (ws : List GW) (i : Nat) : ∀ k, 0 ≤ levTo ws i k ∧ levTo ws i k ≤ k
  | 0 => by simp [levTo]
  | k + 1 => by
    have h1 := levTo_bd ws i k
    have h2 := lvK_bd ws k
    rw [levTo]; split <;> omega
theorem levTo_nx (ws : List GW) (i : Nat) (hi : 0 ≤ (ws.getD i gw0).pl) : ∀ k, levTo ws i k = max (nxK ws k (ws.getD i gw0).pl.toNat) (nxK ws k ((ws.getD i gw0).pl.toNat + 1))
  | 0 => by simp [levTo, nxK]
  | k + 1 => by
    rw [levTo, levTo_nx ws i hi k, nxK_succ, nxK_succ, touch_rows _ _ hi]
    have e : lvK ws k = max (nxK ws k (ws.getD k gw0).pl.toNat) (nxK ws k ((ws.getD k gw0).pl.toNat + 1)) := rfl
    have key : ∀ p, takesB (ws.getD k gw0) p = true → nxK ws k p ≤ lvK ws k := fun p hp => by
      unfold takesB at hp
      simp only [decide_eq_true_eq] at hp
      rcases hp with hp | hp
      · rw [e, show (ws.getD k gw0).pl.toNat = p by omega]; omega
      · by_cases hn : (ws.getD k gw0).pl < 0
        · rw [e, show (ws.getD k gw0).pl.toNat = p by omega]; omega
        · rw [e, show (ws.getD k gw0).pl.toNat + 1 = p by omega]; omega
    generalize lvK ws k = v at *
    cases h1 : takesB (ws.getD k gw0) (ws.getD i gw0).pl.toNat <;> cases h2 : takesB (ws.getD k gw0) ((ws.getD i gw0).pl.toNat + 1) <;> simp only [Bool.or_false, Bool.or_true, Bool.or_self, if_true, Bool.false_eq_true, if_false]
    · have := key _ h2; omega
    · have := key _ h1; omega
    · have := key _ h1; have := key _ h2; omega
theorem levTo_lv (ws : List GW) (i : Nat) (hi : 0 ≤ (ws.getD i gw0).pl) : levTo ws i i = lvK ws i := levTo_nx ws i hi i
/-- The places after one more work. -/
theorem nxK_list (ws : List GW) (k P : Nat) (hP : (ws.getD k gw0).pl = P) (h : P + 1 < 24) : (((List.range 24).map (nxK ws k)).set P (lvK ws k + 1)).set (P + 1) (lvK ws k + 1) = (List.range 24).map (nxK ws (k + 1)) := by
  apply List.ext_getElem?
  intro q
  rw [List.getElem?_set, List.getElem?_set]
  simp only [List.length_set, List.length_map, List.length_range, List.getElem?_map]
  by_cases hq : q < 24
  · rw [List.getElem?_range hq]
    simp only [Option.map_some]
    rw [nxK_succ]
    unfold takesB
    rw [hP]
    by_cases h1 : P + 1 = q
    · subst h1; simp [h]
    · by_cases h2 : P = q
      · subst h2; simp [show P < 24 by omega]
      · have : ¬ ((P : Int) = q ∨ (P : Int) + 1 = q) := by omega
        simp [h1, h2, this]
  · rw [List.getElem?_eq_none (by simpa using hq)]
    rw [if_neg (by omega), if_neg (by omega)]
    rfl
end Go.Proofs.Ytifpkdajfdlgeaa
