/- The line after works, place by place: plain. -/
import Derived.Test.YtepdgffccfcfpaaSLine
import Derived.Test.YtepdgffccfcfpaaREnd
namespace Go.Proofs.Ytepdgffccfcfpaa
open Go.RowKit

/-- What the reference's Line does in place q with one work more. -/
def atStep (P : Nat) (ws : List GW) (q : Nat) (z : Int) (x : Int) : Int := if takesB (plsOf ws x.toNat : Nat) q = true then (P : Int) + 2 * (x.toNat : Nat) + q - (plsOf ws x.toNat : Nat) else z
theorem lnTo_at (P : Nat) (ws : List GW) (g : Nat → Int) (x : Int) (q : Nat) : lnTo P ws g x.toNat 2 q = atStep P ws q (g q) x := by
  show updF (updF g (plsOf ws x.toNat + 0) _) (plsOf ws x.toNat + 1) _ q = _
  unfold updF atStep takesB
  by_cases h1 : q = plsOf ws x.toNat + 1
  · rw [if_pos h1, if_pos (by rw [decide_eq_true_eq]; omega)]
    simp only at *; push_cast; omega
  · rw [if_neg h1]
    by_cases h2 : q = plsOf ws x.toNat + 0
    · rw [if_pos h2, if_pos (by rw [decide_eq_true_eq]; omega)]
      simp only [Nat.add_zero] at *; push_cast; omega
    · rw [if_neg h2, if_neg (by rw [decide_eq_true_eq]; omega)]
theorem lineG_at (P : Nat) (ws : List GW) (q : Nat) : ∀ (l : List Int) (g : Nat → Int), (l.foldl (fun g x => lnTo P ws g x.toNat 2) g) q = l.foldl (atStep P ws q) (g q)
  | [], g => rfl
  | x :: l, g => by
    rw [List.foldl_cons, List.foldl_cons, lineG_at P ws q l, lnTo_at]
theorem lineG_ref (P : Nat) (ws : List GW) (l : List Int) (q : Nat) : lineG P ws l q = l.foldl (atStep P ws q) q := lineG_at P ws q l _
end Go.Proofs.Ytepdgffccfcfpaa
