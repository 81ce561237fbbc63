/-
  No cell of these rows narrows 'for every input' (looked for: loops, veiled, ifaces, maps, wideKeys, modest, calm, conditions, laid).
  DERIVED. THE GIVEN ROWS OF THIS SEAT. 7 by the template 'for every input the law returns true; each argument reads behind the call as it read before'; 0 by the template 'total and deterministic' (their statements: YtdimaapiloojeaaTotals.lean).
  GIVEN WITH THE SEED: the statements are not yours to turn. If you find one false, say at which input.
  Laid BY PROGRAM, IN A SANDBOX (cutbox-rows.mjs): the forced cells as the released guide's own fill.sh prints them over the translation 17466b7d9e45a6ae… (all of the seat's roots in one cut). By AI agents, Wed Nov 11 2026. No macro, syntax, notation, axiom, sorry.
-/
import Derived.Test.YtdimaapiloojeaaChecked
import GoSem.Claim
import GoSem.ClaimJoined
import GoSem.ClaimMapViews
import Derived.JoinedTies
import Derived.KernelRfl
namespace Go.Proofs.Ytdimaapiloojeaa
/- THE CELL 'sum', in the pinned program and in every row, IS THE sha256 OF THE DUMP (.gsa) THAT YtdimaapiloojeaaProg.lean LOADS. Nothing in Lean hashes anything: it is a label: what it is worth is what the hold of that sum in a sandbox is worth. -/
noncomputable def Try.pinned : Pinned := { name := "ytdimaapiloojeaa", sum := "17466b7d9e45a6ae9cdce65f726c4679efafd802ce50c157f70f179bc66a3e1f", checked := Try.checked }
namespace Rows
def none {H : Type} : Left H := { results := [], args := [] }

/-- 'torchonlaw20.BobbinsBest': WHATEVER THE INPUT: true; the input reads as it did. -/
def bobbinsBestSpec : ChangeSpec := { name := "bobbinsBest", fn := fun _ => fun
  | [d1, d2, d3] => { results := [.lit (.bool true)], args := [d1, d2, d3] }
  | _ => none }
def bobbinsBestRow : OpenClaim := { program := "ytdimaapiloojeaa", sum := "17466b7d9e45a6ae9cdce65f726c4679efafd802ce50c157f70f179bc66a3e1f", func := "torchon/torchonlaw20.BobbinsBest", spec := "bobbinsBest", unfollowed := true, recurses := true, apart := false }
def BobbinsBestSaid : Prop := bobbinsBestRow.holds Try.pinned (OpenSpec.ofChange bobbinsBestSpec)

/-- ITS FALSE NEIGHBOUR: 'it returns false'. Refute it at one input. -/
def bobbinsBestWrong : ChangeSpec := { name := "bobbinsBest", fn := fun _ => fun
  | [d1, d2, d3] => { results := [.lit (.bool false)], args := [d1, d2, d3] }
  | _ => none }
def BobbinsBestWrongFalsely : Prop := bobbinsBestRow.holds Try.pinned (OpenSpec.ofChange bobbinsBestWrong)

/-- 'torchonlaw20.BobbinsHalves': WHATEVER THE INPUT: true; the input reads as it did. -/
def bobbinsHalvesSpec : ChangeSpec := { name := "bobbinsHalves", fn := fun _ => fun
  | [d1, d2, d3] => { results := [.lit (.bool true)], args := [d1, d2, d3] }
  | _ => none }
def bobbinsHalvesRow : OpenClaim := { program := "ytdimaapiloojeaa", sum := "17466b7d9e45a6ae9cdce65f726c4679efafd802ce50c157f70f179bc66a3e1f", func := "torchon/torchonlaw20.BobbinsHalves", spec := "bobbinsHalves", unfollowed := true, recurses := true, apart := false }
def BobbinsHalvesSaid : Prop := bobbinsHalvesRow.holds Try.pinned (OpenSpec.ofChange bobbinsHalvesSpec)

/-- ITS FALSE NEIGHBOUR: 'it returns false'. Refute it at one input. -/
def bobbinsHalvesWrong : ChangeSpec := { name := "bobbinsHalves", fn := fun _ => fun
  | [d1, d2, d3] => { results := [.lit (.bool false)], args := [d1, d2, d3] }
  | _ => none }
def BobbinsHalvesWrongFalsely : Prop := bobbinsHalvesRow.holds Try.pinned (OpenSpec.ofChange bobbinsHalvesWrong)

/-- 'torchonlaw20.BobbinsKnots': WHATEVER THE INPUT: true; the input reads as it did. -/
def bobbinsKnotsSpec : ChangeSpec := { name := "bobbinsKnots", fn := fun _ => fun
  | [d1, d2] => { results := [.lit (.bool true)], args := [d1, d2] }
  | _ => none }
def bobbinsKnotsRow : OpenClaim := { program := "ytdimaapiloojeaa", sum := "17466b7d9e45a6ae9cdce65f726c4679efafd802ce50c157f70f179bc66a3e1f", func := "torchon/torchonlaw20.BobbinsKnots", spec := "bobbinsKnots", unfollowed := true, recurses := true, apart := false }
def BobbinsKnotsSaid : Prop := bobbinsKnotsRow.holds Try.pinned (OpenSpec.ofChange bobbinsKnotsSpec)

/-- ITS FALSE NEIGHBOUR: 'it returns false'. Refute it at one input. -/
def bobbinsKnotsWrong : ChangeSpec := { name := "bobbinsKnots", fn := fun _ => fun
  | [d1, d2] => { results := [.lit (.bool false)], args := [d1, d2] }
  | _ => none }
def BobbinsKnotsWrongFalsely : Prop := bobbinsKnotsRow.holds Try.pinned (OpenSpec.ofChange bobbinsKnotsWrong)

/-- 'torchonlaw20.BobbinsWinds': WHATEVER THE INPUT: true; the input reads as it did. -/
def bobbinsWindsSpec : ChangeSpec := { name := "bobbinsWinds", fn := fun _ => fun
  | [d1, d2, d3] => { results := [.lit (.bool true)], args := [d1, d2, d3] }
  | _ => none }
def bobbinsWindsRow : OpenClaim := { program := "ytdimaapiloojeaa", sum := "17466b7d9e45a6ae9cdce65f726c4679efafd802ce50c157f70f179bc66a3e1f", func := "torchon/torchonlaw20.BobbinsWinds", spec := "bobbinsWinds", unfollowed := true, recurses := true, apart := false }
def BobbinsWindsSaid : Prop := bobbinsWindsRow.holds Try.pinned (OpenSpec.ofChange bobbinsWindsSpec)

/-- ITS FALSE NEIGHBOUR: 'it returns false'. Refute it at one input. -/
def bobbinsWindsWrong : ChangeSpec := { name := "bobbinsWinds", fn := fun _ => fun
  | [d1, d2, d3] => { results := [.lit (.bool false)], args := [d1, d2, d3] }
  | _ => none }
def BobbinsWindsWrongFalsely : Prop := bobbinsWindsRow.holds Try.pinned (OpenSpec.ofChange bobbinsWindsWrong)

/-- 'torchonlaw20.BobbinsSpools': WHATEVER THE INPUT: true; the input reads as it did. -/
def bobbinsSpoolsSpec : ChangeSpec := { name := "bobbinsSpools", fn := fun _ => fun
  | [d1, d2, d3] => { results := [.lit (.bool true)], args := [d1, d2, d3] }
  | _ => none }
def bobbinsSpoolsRow : OpenClaim := { program := "ytdimaapiloojeaa", sum := "17466b7d9e45a6ae9cdce65f726c4679efafd802ce50c157f70f179bc66a3e1f", func := "torchon/torchonlaw20.BobbinsSpools", spec := "bobbinsSpools", unfollowed := true, recurses := true, apart := false }
def BobbinsSpoolsSaid : Prop := bobbinsSpoolsRow.holds Try.pinned (OpenSpec.ofChange bobbinsSpoolsSpec)

/-- ITS FALSE NEIGHBOUR: 'it returns false'. Refute it at one input. -/
def bobbinsSpoolsWrong : ChangeSpec := { name := "bobbinsSpools", fn := fun _ => fun
  | [d1, d2, d3] => { results := [.lit (.bool false)], args := [d1, d2, d3] }
  | _ => none }
def BobbinsSpoolsWrongFalsely : Prop := bobbinsSpoolsRow.holds Try.pinned (OpenSpec.ofChange bobbinsSpoolsWrong)

/-- 'torchonlaw20.BobbinsFewest': WHATEVER THE INPUT: true; the input reads as it did. -/
def bobbinsFewestSpec : ChangeSpec := { name := "bobbinsFewest", fn := fun _ => fun
  | [d1, d2, d3] => { results := [.lit (.bool true)], args := [d1, d2, d3] }
  | _ => none }
def bobbinsFewestRow : OpenClaim := { program := "ytdimaapiloojeaa", sum := "17466b7d9e45a6ae9cdce65f726c4679efafd802ce50c157f70f179bc66a3e1f", func := "torchon/torchonlaw20.BobbinsFewest", spec := "bobbinsFewest", unfollowed := true, recurses := true, apart := false }
def BobbinsFewestSaid : Prop := bobbinsFewestRow.holds Try.pinned (OpenSpec.ofChange bobbinsFewestSpec)

/-- ITS FALSE NEIGHBOUR: 'it returns false'. Refute it at one input. -/
def bobbinsFewestWrong : ChangeSpec := { name := "bobbinsFewest", fn := fun _ => fun
  | [d1, d2, d3] => { results := [.lit (.bool false)], args := [d1, d2, d3] }
  | _ => none }
def BobbinsFewestWrongFalsely : Prop := bobbinsFewestRow.holds Try.pinned (OpenSpec.ofChange bobbinsFewestWrong)

/-- 'torchonlaw20.BobbinsCapacity': WHATEVER THE INPUT: true; the input reads as it did. -/
def bobbinsCapacitySpec : ChangeSpec := { name := "bobbinsCapacity", fn := fun _ => fun
  | [d1, d2] => { results := [.lit (.bool true)], args := [d1, d2] }
  | _ => none }
def bobbinsCapacityRow : OpenClaim := { program := "ytdimaapiloojeaa", sum := "17466b7d9e45a6ae9cdce65f726c4679efafd802ce50c157f70f179bc66a3e1f", func := "torchon/torchonlaw20.BobbinsCapacity", spec := "bobbinsCapacity", unfollowed := true, recurses := true, apart := false }
def BobbinsCapacitySaid : Prop := bobbinsCapacityRow.holds Try.pinned (OpenSpec.ofChange bobbinsCapacitySpec)

/-- ITS FALSE NEIGHBOUR: 'it returns false'. Refute it at one input. -/
def bobbinsCapacityWrong : ChangeSpec := { name := "bobbinsCapacity", fn := fun _ => fun
  | [d1, d2] => { results := [.lit (.bool false)], args := [d1, d2] }
  | _ => none }
def BobbinsCapacityWrongFalsely : Prop := bobbinsCapacityRow.holds Try.pinned (OpenSpec.ofChange bobbinsCapacityWrong)

/- THE SECOND FORM. 'bulk': how many values and letters a reading holds, each counted each time it is reached (what is shared counts as often as it is met; a slice's spare places count too). A statement '..UptoSaid' is the law's where the arguments, and the package variables that the reading takes, are together of bulk at most 1048576: NARROWER than '..Said'. Prove '..Said' where nothing that the law and all that it calls make is longer than what came in: it says more and counts as full. Else prove '..UptoSaid'. A law counts once. -/
mutual
def uptoBulk {H : Type} : DataW H → Nat
  | .lit (.string bytes) => bytes.length + 1
  | .lit _ => 1
  | .nil => 1
  | .ptr d => uptoBulk d + 1
  | .slice elems spare => uptoBulkAll elems + uptoBulkAll spare + 1
  | .agg parts => uptoBulkAll parts + 1
  | .iface _ d => uptoBulk d + 1
  | .map entries => uptoBulkEntries entries + 1
  | .held _ => 1
def uptoBulkAll {H : Type} : List (DataW H) → Nat
  | [] => 0
  | d :: r => uptoBulk d + uptoBulkAll r
def uptoBulkEntries {H : Type} : List (Lit × DataW H) → Nat
  | [] => 0
  | x :: r => uptoBulkEntry x + uptoBulkEntries r
def uptoBulkEntry {H : Type} : Lit × DataW H → Nat
  | (.string bytes, d) => bytes.length + uptoBulk d + 1
  | (_, d) => uptoBulk d + 1
 end
def uptoSmall : (H : Type) → List (DataW H) → Bool := fun _ ds => decide (uptoBulkAll ds ≤ 1048576)
def OpenSpec.upto (s : _root_.Go.ChangeSpec) : _root_.Go.OpenSpec := { _root_.Go.OpenSpec.ofChange s with cond := some uptoSmall }

/-- 'torchonlaw20.BobbinsBest', WHERE WHAT IT READS IS OF BULK AT MOST 1048576: true; the input reads as it did. -/
def bobbinsBestUptoRow : OpenClaim := { program := "ytdimaapiloojeaa", sum := "17466b7d9e45a6ae9cdce65f726c4679efafd802ce50c157f70f179bc66a3e1f", func := "torchon/torchonlaw20.BobbinsBest", spec := "bobbinsBest", unfollowed := true, recurses := true, apart := false, narrowed := true }
def BobbinsBestUptoSaid : Prop := bobbinsBestUptoRow.holds Try.pinned (OpenSpec.upto bobbinsBestSpec)

/-- 'torchonlaw20.BobbinsHalves', WHERE WHAT IT READS IS OF BULK AT MOST 1048576: true; the input reads as it did. -/
def bobbinsHalvesUptoRow : OpenClaim := { program := "ytdimaapiloojeaa", sum := "17466b7d9e45a6ae9cdce65f726c4679efafd802ce50c157f70f179bc66a3e1f", func := "torchon/torchonlaw20.BobbinsHalves", spec := "bobbinsHalves", unfollowed := true, recurses := true, apart := false, narrowed := true }
def BobbinsHalvesUptoSaid : Prop := bobbinsHalvesUptoRow.holds Try.pinned (OpenSpec.upto bobbinsHalvesSpec)

/-- 'torchonlaw20.BobbinsKnots', WHERE WHAT IT READS IS OF BULK AT MOST 1048576: true; the input reads as it did. -/
def bobbinsKnotsUptoRow : OpenClaim := { program := "ytdimaapiloojeaa", sum := "17466b7d9e45a6ae9cdce65f726c4679efafd802ce50c157f70f179bc66a3e1f", func := "torchon/torchonlaw20.BobbinsKnots", spec := "bobbinsKnots", unfollowed := true, recurses := true, apart := false, narrowed := true }
def BobbinsKnotsUptoSaid : Prop := bobbinsKnotsUptoRow.holds Try.pinned (OpenSpec.upto bobbinsKnotsSpec)

/-- 'torchonlaw20.BobbinsWinds', WHERE WHAT IT READS IS OF BULK AT MOST 1048576: true; the input reads as it did. -/
def bobbinsWindsUptoRow : OpenClaim := { program := "ytdimaapiloojeaa", sum := "17466b7d9e45a6ae9cdce65f726c4679efafd802ce50c157f70f179bc66a3e1f", func := "torchon/torchonlaw20.BobbinsWinds", spec := "bobbinsWinds", unfollowed := true, recurses := true, apart := false, narrowed := true }
def BobbinsWindsUptoSaid : Prop := bobbinsWindsUptoRow.holds Try.pinned (OpenSpec.upto bobbinsWindsSpec)

/-- 'torchonlaw20.BobbinsSpools', WHERE WHAT IT READS IS OF BULK AT MOST 1048576: true; the input reads as it did. -/
def bobbinsSpoolsUptoRow : OpenClaim := { program := "ytdimaapiloojeaa", sum := "17466b7d9e45a6ae9cdce65f726c4679efafd802ce50c157f70f179bc66a3e1f", func := "torchon/torchonlaw20.BobbinsSpools", spec := "bobbinsSpools", unfollowed := true, recurses := true, apart := false, narrowed := true }
def BobbinsSpoolsUptoSaid : Prop := bobbinsSpoolsUptoRow.holds Try.pinned (OpenSpec.upto bobbinsSpoolsSpec)

/-- 'torchonlaw20.BobbinsFewest', WHERE WHAT IT READS IS OF BULK AT MOST 1048576: true; the input reads as it did. -/
def bobbinsFewestUptoRow : OpenClaim := { program := "ytdimaapiloojeaa", sum := "17466b7d9e45a6ae9cdce65f726c4679efafd802ce50c157f70f179bc66a3e1f", func := "torchon/torchonlaw20.BobbinsFewest", spec := "bobbinsFewest", unfollowed := true, recurses := true, apart := false, narrowed := true }
def BobbinsFewestUptoSaid : Prop := bobbinsFewestUptoRow.holds Try.pinned (OpenSpec.upto bobbinsFewestSpec)

/-- 'torchonlaw20.BobbinsCapacity', WHERE WHAT IT READS IS OF BULK AT MOST 1048576: true; the input reads as it did. -/
def bobbinsCapacityUptoRow : OpenClaim := { program := "ytdimaapiloojeaa", sum := "17466b7d9e45a6ae9cdce65f726c4679efafd802ce50c157f70f179bc66a3e1f", func := "torchon/torchonlaw20.BobbinsCapacity", spec := "bobbinsCapacity", unfollowed := true, recurses := true, apart := false, narrowed := true }
def BobbinsCapacityUptoSaid : Prop := bobbinsCapacityUptoRow.holds Try.pinned (OpenSpec.upto bobbinsCapacitySpec)

end Rows
end Go.Proofs.Ytdimaapiloojeaa
