/- The program's sets and the order that the reference takes: plain. -/
import Derived.Test.YtepdgffccfcfpaaSReorder
import Derived.Test.YtepdgffccfcfpaaBef
namespace Go.Proofs.Ytepdgffccfcfpaa
open Go.RowKit

theorem setsOf_bef {P : Nat} {ws : List GW} {b : Nat} (hb : b < ws.length) (a : Nat) : (setsOf P ws b).testBit a = true ↔ Bef (plsOf ws) a b := eaF_bef (plsOf ws) hb a
theorem win_bef {P : Nat} {ws : List GW} {b : Nat} (hb : b < ws.length) (hn : ws.length ≤ 400) (S : Nat) : winN (setsOf P ws b) S 7 = true ↔ ∀ a, Bef (plsOf ws) a b → S.testBit a = true := by
  rw [winN_iff]
  constructor
  · intro h a ha
    exact h a (by have := ha.lt; omega) ((setsOf_bef hb a).2 ha)
  · intro h i _ hi
    exact h i ((setsOf_bef hb i).1 hi)
/-- A set that holds what is before each of its works. -/
def ClS (pls : Nat → Nat) (S : Nat) : Prop := ∀ b, S.testBit b = true → ∀ a, Bef pls a b → S.testBit a = true
theorem bef_touch {pls : Nat → Nat} {S b : Nat} (hc : ClS pls S) : (∀ a, Bef pls a b → S.testBit a = true) ↔ ∀ a, a < b → tP (pls a) (pls b) = true → S.testBit a = true := by
  constructor
  · intro h a ha t
    exact h a (.one ha t)
  · intro h a ha
    cases ha with
    | one h1 t => exact h a h1 t
    | step h1 hj t => exact hc _ (h _ hj t) a h1
theorem ClS.put {pls : Nat → Nat} {S b : Nat} (hc : ClS pls S) (hb : ∀ a, Bef pls a b → S.testBit a = true) : ClS pls (S ||| 2 ^ b) := fun x hx a ha => by
  rw [Nat.testBit_or] at hx ⊢
  rw [Bool.or_eq_true] at hx ⊢
  rcases hx with h | h
  · exact .inl (hc x h a ha)
  · rw [Nat.testBit_two_pow, decide_eq_true_eq] at h
    subst h
    exact .inl (hb a ha)
/-- One more work of an order, as the reference asks. -/
def oStep (n : Nat) (pls : Nat → Nat) (S : Nat) (x : Int) : Option Nat := if 0 ≤ x ∧ x < n ∧ S.testBit x.toNat = false ∧ (∀ a, a < x.toNat → tP (pls a) (pls x.toNat) = true → S.testBit a = true) then some (S ||| 2 ^ x.toNat) else none
def oRun (n : Nat) (pls : Nat → Nat) : Nat → List Int → Option Nat
  | S, [] => some S
  | S, x :: l => match oStep n pls S x with
    | some S' => oRun n pls S' l
    | none => none
theorem re_oStep {P : Nat} {ws : List GW} (hn : ws.length ≤ 400) {S : Nat} (hc : ClS (plsOf ws) S) (x : Int) :
    reStep ws.length (setsOf P ws) S x = oStep ws.length (plsOf ws) S x ∧ ∀ S', oStep ws.length (plsOf ws) S x = some S' → ClS (plsOf ws) S' := by
  have key : ∀ (h : 0 ≤ x ∧ x < ws.length), (winN (setsOf P ws x.toNat) S 7 = true ↔ ∀ a, a < x.toNat → tP (plsOf ws a) (plsOf ws x.toNat) = true → S.testBit a = true) := fun h => by
    rw [win_bef (by omega) hn, bef_touch hc]
  constructor
  · unfold reStep oStep
    by_cases h : 0 ≤ x ∧ x < (ws.length : Int)
    · have k := key h
      by_cases c : S.testBit x.toNat = false ∧ winN (setsOf P ws x.toNat) S 7 = true
      · rw [if_pos ⟨h.1, h.2, c⟩, if_pos ⟨h.1, h.2, c.1, k.1 c.2⟩]
      · rw [if_neg (fun g => c g.2.2), if_neg (fun g => c ⟨g.2.2.1, k.2 g.2.2.2⟩)]
    · rw [if_neg (fun g => h ⟨g.1, g.2.1⟩), if_neg (fun g => h ⟨g.1, g.2.1⟩)]
  · intro S' hs
    unfold oStep at hs
    split at hs
    · rename_i g
      cases hs
      exact hc.put ((bef_touch hc).2 g.2.2.2)
    · cases hs
theorem re_oRun {P : Nat} {ws : List GW} (hn : ws.length ≤ 400) : ∀ (l : List Int) (S : Nat), ClS (plsOf ws) S → reRun ws.length (setsOf P ws) S l = oRun ws.length (plsOf ws) S l
  | [], S, _ => rfl
  | x :: l, S, hc => by
    obtain ⟨h1, h2⟩ := re_oStep (P := P) hn hc x
    show (match reStep ws.length (setsOf P ws) S x with | some S' => reRun ws.length (setsOf P ws) S' l | none => none) = (match oStep ws.length (plsOf ws) S x with | some S' => oRun ws.length (plsOf ws) S' l | none => none)
    rw [h1]
    cases hs : oStep ws.length (plsOf ws) S x with
    | none => rfl
    | some S' => exact re_oRun hn l S' (h2 S' hs)
theorem reOk_iff {P : Nat} {ws : List GW} (hn : ws.length ≤ 400) (l : List Int) : reOk P ws l ↔ (oRun ws.length (plsOf ws) 0 l).isSome = true ∧ l.length = ws.length := by
  unfold reOk
  rw [re_oRun hn l 0 (fun b hb => by simp at hb)]
end Go.Proofs.Ytepdgffccfcfpaa
