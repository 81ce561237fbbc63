/- What the checks of a sheet say, as plain functions. -/
import Derived.Test.YtepdgffccfcfpaaBase
namespace Go.Proofs.Ytepdgffccfcfpaa
def touchB (a b : Int) : Bool := decide (a - b ≤ 1 ∧ b - a ≤ 1)
def letterB (c : UInt8) : Bool := [67, 84, 76, 82, 80, 99, 116, 108, 114].contains c
/-- The word has a letter that is none. -/
def formW (s : ByteArray) : Bool := s.data.toList.any fun c => !letterB c
def errWord (s : ByteArray) : Int := if 16 < s.size then 3 else if formW s = true then 6 else 0
def longW (x : GW) : Bool := decide (16 < x.word.size)
def badW (p : Int) (x : GW) : Bool := decide ((x.kind ≠ 1 ∧ x.kind ≠ 2) ∨ x.pl < 0 ∨ p - 2 < x.pl ∨ (x.kind = 2 ∧ (!x.word.toList.isEmpty) = true))
def errSheet (p : Int) (ws : List GW) : Int :=
  if 24 < p ∨ 400 < ws.length ∨ ws.any longW = true then 3 else if p < 2 then 2 else if ws.any (badW p) = true then 2 else if ws.any (fun x => formW x.word) = true then 6 else 0
end Go.Proofs.Ytepdgffccfcfpaa
