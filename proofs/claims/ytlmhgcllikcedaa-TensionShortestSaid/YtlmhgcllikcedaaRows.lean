/-
  No cell of these rows narrows 'for every input' (looked for: loops, veiled, ifaces, maps, wideKeys, modest, calm, conditions, laid).
  DERIVED. THE GIVEN ROWS OF THIS SEAT. 11 by the template 'for every input the law returns true; each argument reads behind the call as it read before'; 0 by the template 'total and deterministic' (their statements: YtlmhgcllikcedaaTotals.lean).
  GIVEN WITH THE SEED: the statements are not yours to turn. If you find one false, say at which input.
  Laid BY PROGRAM, IN A SANDBOX (cutbox-rows.mjs): the forced cells as the released guide's own fill.sh prints them over the translation ed01f3b42adafa51… (all of the seat's roots in one cut). By AI agents, Wed Nov 11 2026. No macro, syntax, notation, axiom, sorry.
-/
import Derived.Test.YtlmhgcllikcedaaChecked
import GoSem.Claim
import GoSem.ClaimJoined
import GoSem.ClaimMapViews
import Derived.JoinedTies
import Derived.KernelRfl
namespace Go.Proofs.Ytlmhgcllikcedaa
/- THE CELL 'sum', in the pinned program and in every row, IS THE sha256 OF THE DUMP (.gsa) THAT YtlmhgcllikcedaaProg.lean LOADS. Nothing in Lean hashes anything: it is a label: what it is worth is what the hold of that sum in a sandbox is worth. -/
noncomputable def Try.pinned : Pinned := { name := "ytlmhgcllikcedaa", sum := "ed01f3b42adafa51a6e9ab4f6eb181667096a87382da0cf4cf880f0591a30a7c", checked := Try.checked }
namespace Rows
def none {H : Type} : Left H := { results := [], args := [] }

/-- 'torchonlaw19.TensionRoots': WHATEVER THE INPUT: true; the input reads as it did. -/
def tensionRootsSpec : ChangeSpec := { name := "tensionRoots", fn := fun _ => fun
  | [d1, d2] => { results := [.lit (.bool true)], args := [d1, d2] }
  | _ => none }
def tensionRootsRow : OpenClaim := { program := "ytlmhgcllikcedaa", sum := "ed01f3b42adafa51a6e9ab4f6eb181667096a87382da0cf4cf880f0591a30a7c", func := "torchon/torchonlaw19.TensionRoots", spec := "tensionRoots", unfollowed := true, recurses := true, apart := false }
def TensionRootsSaid : Prop := tensionRootsRow.holds Try.pinned (OpenSpec.ofChange tensionRootsSpec)

/-- ITS FALSE NEIGHBOUR: 'it returns false'. Refute it at one input. -/
def tensionRootsWrong : ChangeSpec := { name := "tensionRoots", fn := fun _ => fun
  | [d1, d2] => { results := [.lit (.bool false)], args := [d1, d2] }
  | _ => none }
def TensionRootsWrongFalsely : Prop := tensionRootsRow.holds Try.pinned (OpenSpec.ofChange tensionRootsWrong)

/-- 'torchonlaw19.TensionBounds': WHATEVER THE INPUT: true; the input reads as it did. -/
def tensionBoundsSpec : ChangeSpec := { name := "tensionBounds", fn := fun _ => fun
  | [d1, d2] => { results := [.lit (.bool true)], args := [d1, d2] }
  | _ => none }
def tensionBoundsRow : OpenClaim := { program := "ytlmhgcllikcedaa", sum := "ed01f3b42adafa51a6e9ab4f6eb181667096a87382da0cf4cf880f0591a30a7c", func := "torchon/torchonlaw19.TensionBounds", spec := "tensionBounds", unfollowed := true, recurses := true, apart := false }
def TensionBoundsSaid : Prop := tensionBoundsRow.holds Try.pinned (OpenSpec.ofChange tensionBoundsSpec)

/-- ITS FALSE NEIGHBOUR: 'it returns false'. Refute it at one input. -/
def tensionBoundsWrong : ChangeSpec := { name := "tensionBounds", fn := fun _ => fun
  | [d1, d2] => { results := [.lit (.bool false)], args := [d1, d2] }
  | _ => none }
def TensionBoundsWrongFalsely : Prop := tensionBoundsRow.holds Try.pinned (OpenSpec.ofChange tensionBoundsWrong)

/-- 'torchonlaw19.TensionLengths': WHATEVER THE INPUT: true; the input reads as it did. -/
def tensionLengthsSpec : ChangeSpec := { name := "tensionLengths", fn := fun _ => fun
  | [d1, d2] => { results := [.lit (.bool true)], args := [d1, d2] }
  | _ => none }
def tensionLengthsRow : OpenClaim := { program := "ytlmhgcllikcedaa", sum := "ed01f3b42adafa51a6e9ab4f6eb181667096a87382da0cf4cf880f0591a30a7c", func := "torchon/torchonlaw19.TensionLengths", spec := "tensionLengths", unfollowed := true, recurses := true, apart := false }
def TensionLengthsSaid : Prop := tensionLengthsRow.holds Try.pinned (OpenSpec.ofChange tensionLengthsSpec)

/-- ITS FALSE NEIGHBOUR: 'it returns false'. Refute it at one input. -/
def tensionLengthsWrong : ChangeSpec := { name := "tensionLengths", fn := fun _ => fun
  | [d1, d2] => { results := [.lit (.bool false)], args := [d1, d2] }
  | _ => none }
def TensionLengthsWrongFalsely : Prop := tensionLengthsRow.holds Try.pinned (OpenSpec.ofChange tensionLengthsWrong)

/-- 'torchonlaw19.TensionTaut': WHATEVER THE INPUT: true; the input reads as it did. -/
def tensionTautSpec : ChangeSpec := { name := "tensionTaut", fn := fun _ => fun
  | [d] => { results := [.lit (.bool true)], args := [d] }
  | _ => none }
def tensionTautRow : OpenClaim := { program := "ytlmhgcllikcedaa", sum := "ed01f3b42adafa51a6e9ab4f6eb181667096a87382da0cf4cf880f0591a30a7c", func := "torchon/torchonlaw19.TensionTaut", spec := "tensionTaut", unfollowed := true, recurses := true, apart := false }
def TensionTautSaid : Prop := tensionTautRow.holds Try.pinned (OpenSpec.ofChange tensionTautSpec)

/-- ITS FALSE NEIGHBOUR: 'it returns false'. Refute it at one input. -/
def tensionTautWrong : ChangeSpec := { name := "tensionTaut", fn := fun _ => fun
  | [d] => { results := [.lit (.bool false)], args := [d] }
  | _ => none }
def TensionTautWrongFalsely : Prop := tensionTautRow.holds Try.pinned (OpenSpec.ofChange tensionTautWrong)

/-- 'torchonlaw19.TensionTight': WHATEVER THE INPUT: true; the input reads as it did. -/
def tensionTightSpec : ChangeSpec := { name := "tensionTight", fn := fun _ => fun
  | [d1, d2] => { results := [.lit (.bool true)], args := [d1, d2] }
  | _ => none }
def tensionTightRow : OpenClaim := { program := "ytlmhgcllikcedaa", sum := "ed01f3b42adafa51a6e9ab4f6eb181667096a87382da0cf4cf880f0591a30a7c", func := "torchon/torchonlaw19.TensionTight", spec := "tensionTight", unfollowed := true, recurses := true, apart := false }
def TensionTightSaid : Prop := tensionTightRow.holds Try.pinned (OpenSpec.ofChange tensionTightSpec)

/-- ITS FALSE NEIGHBOUR: 'it returns false'. Refute it at one input. -/
def tensionTightWrong : ChangeSpec := { name := "tensionTight", fn := fun _ => fun
  | [d1, d2] => { results := [.lit (.bool false)], args := [d1, d2] }
  | _ => none }
def TensionTightWrongFalsely : Prop := tensionTightRow.holds Try.pinned (OpenSpec.ofChange tensionTightWrong)

/-- 'torchonlaw19.TensionWithin': WHATEVER THE INPUT: true; the input reads as it did. -/
def tensionWithinSpec : ChangeSpec := { name := "tensionWithin", fn := fun _ => fun
  | [d] => { results := [.lit (.bool true)], args := [d] }
  | _ => none }
def tensionWithinRow : OpenClaim := { program := "ytlmhgcllikcedaa", sum := "ed01f3b42adafa51a6e9ab4f6eb181667096a87382da0cf4cf880f0591a30a7c", func := "torchon/torchonlaw19.TensionWithin", spec := "tensionWithin", unfollowed := true, recurses := true, apart := false }
def TensionWithinSaid : Prop := tensionWithinRow.holds Try.pinned (OpenSpec.ofChange tensionWithinSpec)

/-- ITS FALSE NEIGHBOUR: 'it returns false'. Refute it at one input. -/
def tensionWithinWrong : ChangeSpec := { name := "tensionWithin", fn := fun _ => fun
  | [d] => { results := [.lit (.bool false)], args := [d] }
  | _ => none }
def TensionWithinWrongFalsely : Prop := tensionWithinRow.holds Try.pinned (OpenSpec.ofChange tensionWithinWrong)

/-- 'torchonlaw19.TensionShortest': WHATEVER THE INPUT: true; the input reads as it did. -/
def tensionShortestSpec : ChangeSpec := { name := "tensionShortest", fn := fun _ => fun
  | [d1, d2, d3] => { results := [.lit (.bool true)], args := [d1, d2, d3] }
  | _ => none }
def tensionShortestRow : OpenClaim := { program := "ytlmhgcllikcedaa", sum := "ed01f3b42adafa51a6e9ab4f6eb181667096a87382da0cf4cf880f0591a30a7c", func := "torchon/torchonlaw19.TensionShortest", spec := "tensionShortest", unfollowed := true, recurses := true, apart := false }
def TensionShortestSaid : Prop := tensionShortestRow.holds Try.pinned (OpenSpec.ofChange tensionShortestSpec)

/-- ITS FALSE NEIGHBOUR: 'it returns false'. Refute it at one input. -/
def tensionShortestWrong : ChangeSpec := { name := "tensionShortest", fn := fun _ => fun
  | [d1, d2, d3] => { results := [.lit (.bool false)], args := [d1, d2, d3] }
  | _ => none }
def TensionShortestWrongFalsely : Prop := tensionShortestRow.holds Try.pinned (OpenSpec.ofChange tensionShortestWrong)

/-- 'torchonlaw19.TensionTriangle': WHATEVER THE INPUT: true; the input reads as it did. -/
def tensionTriangleSpec : ChangeSpec := { name := "tensionTriangle", fn := fun _ => fun
  | [d1, d2, d3] => { results := [.lit (.bool true)], args := [d1, d2, d3] }
  | _ => none }
def tensionTriangleRow : OpenClaim := { program := "ytlmhgcllikcedaa", sum := "ed01f3b42adafa51a6e9ab4f6eb181667096a87382da0cf4cf880f0591a30a7c", func := "torchon/torchonlaw19.TensionTriangle", spec := "tensionTriangle", unfollowed := true, recurses := true, apart := false }
def TensionTriangleSaid : Prop := tensionTriangleRow.holds Try.pinned (OpenSpec.ofChange tensionTriangleSpec)

/-- ITS FALSE NEIGHBOUR: 'it returns false'. Refute it at one input. -/
def tensionTriangleWrong : ChangeSpec := { name := "tensionTriangle", fn := fun _ => fun
  | [d1, d2, d3] => { results := [.lit (.bool false)], args := [d1, d2, d3] }
  | _ => none }
def TensionTriangleWrongFalsely : Prop := tensionTriangleRow.holds Try.pinned (OpenSpec.ofChange tensionTriangleWrong)

/-- 'torchonlaw19.TensionMoved': WHATEVER THE INPUT: true; the input reads as it did. -/
def tensionMovedSpec : ChangeSpec := { name := "tensionMoved", fn := fun _ => fun
  | [d1, d2, d3] => { results := [.lit (.bool true)], args := [d1, d2, d3] }
  | _ => none }
def tensionMovedRow : OpenClaim := { program := "ytlmhgcllikcedaa", sum := "ed01f3b42adafa51a6e9ab4f6eb181667096a87382da0cf4cf880f0591a30a7c", func := "torchon/torchonlaw19.TensionMoved", spec := "tensionMoved", unfollowed := true, recurses := true, apart := false }
def TensionMovedSaid : Prop := tensionMovedRow.holds Try.pinned (OpenSpec.ofChange tensionMovedSpec)

/-- ITS FALSE NEIGHBOUR: 'it returns false'. Refute it at one input. -/
def tensionMovedWrong : ChangeSpec := { name := "tensionMoved", fn := fun _ => fun
  | [d1, d2, d3] => { results := [.lit (.bool false)], args := [d1, d2, d3] }
  | _ => none }
def TensionMovedWrongFalsely : Prop := tensionMovedRow.holds Try.pinned (OpenSpec.ofChange tensionMovedWrong)

/-- 'torchonlaw19.TensionSums': WHATEVER THE INPUT: true; the input reads as it did. -/
def tensionSumsSpec : ChangeSpec := { name := "tensionSums", fn := fun _ => fun
  | [d1, d2] => { results := [.lit (.bool true)], args := [d1, d2] }
  | _ => none }
def tensionSumsRow : OpenClaim := { program := "ytlmhgcllikcedaa", sum := "ed01f3b42adafa51a6e9ab4f6eb181667096a87382da0cf4cf880f0591a30a7c", func := "torchon/torchonlaw19.TensionSums", spec := "tensionSums", unfollowed := true, recurses := true, apart := false }
def TensionSumsSaid : Prop := tensionSumsRow.holds Try.pinned (OpenSpec.ofChange tensionSumsSpec)

/-- ITS FALSE NEIGHBOUR: 'it returns false'. Refute it at one input. -/
def tensionSumsWrong : ChangeSpec := { name := "tensionSums", fn := fun _ => fun
  | [d1, d2] => { results := [.lit (.bool false)], args := [d1, d2] }
  | _ => none }
def TensionSumsWrongFalsely : Prop := tensionSumsRow.holds Try.pinned (OpenSpec.ofChange tensionSumsWrong)

/-- 'torchonlaw19.TensionExact': WHATEVER THE INPUT: true; the input reads as it did. -/
def tensionExactSpec : ChangeSpec := { name := "tensionExact", fn := fun _ => fun
  | [d1, d2, d3] => { results := [.lit (.bool true)], args := [d1, d2, d3] }
  | _ => none }
def tensionExactRow : OpenClaim := { program := "ytlmhgcllikcedaa", sum := "ed01f3b42adafa51a6e9ab4f6eb181667096a87382da0cf4cf880f0591a30a7c", func := "torchon/torchonlaw19.TensionExact", spec := "tensionExact", unfollowed := true, recurses := true, apart := false }
def TensionExactSaid : Prop := tensionExactRow.holds Try.pinned (OpenSpec.ofChange tensionExactSpec)

/-- ITS FALSE NEIGHBOUR: 'it returns false'. Refute it at one input. -/
def tensionExactWrong : ChangeSpec := { name := "tensionExact", fn := fun _ => fun
  | [d1, d2, d3] => { results := [.lit (.bool false)], args := [d1, d2, d3] }
  | _ => none }
def TensionExactWrongFalsely : Prop := tensionExactRow.holds Try.pinned (OpenSpec.ofChange tensionExactWrong)

/- THE SECOND FORM. 'bulk': how many values and letters a reading holds, each counted each time it is reached (what is shared counts as often as it is met; a slice's spare places count too). A statement '..UptoSaid' is the law's where the arguments, and the package variables that the reading takes, are together of bulk at most 1048576: NARROWER than '..Said'. Prove '..Said' where nothing that the law and all that it calls make is longer than what came in: it says more and counts as full. Else prove '..UptoSaid'. A law counts once. -/
mutual
def uptoBulk {H : Type} : DataW H → Nat
  | .lit (.string bytes) => bytes.length + 1
  | .lit _ => 1
  | .nil => 1
  | .ptr d => uptoBulk d + 1
  | .slice elems spare => uptoBulkAll elems + uptoBulkAll spare + 1
  | .agg parts => uptoBulkAll parts + 1
  | .iface _ d => uptoBulk d + 1
  | .map entries => uptoBulkEntries entries + 1
  | .held _ => 1
def uptoBulkAll {H : Type} : List (DataW H) → Nat
  | [] => 0
  | d :: r => uptoBulk d + uptoBulkAll r
def uptoBulkEntries {H : Type} : List (Lit × DataW H) → Nat
  | [] => 0
  | x :: r => uptoBulkEntry x + uptoBulkEntries r
def uptoBulkEntry {H : Type} : Lit × DataW H → Nat
  | (.string bytes, d) => bytes.length + uptoBulk d + 1
  | (_, d) => uptoBulk d + 1
 end
def uptoSmall : (H : Type) → List (DataW H) → Bool := fun _ ds => decide (uptoBulkAll ds ≤ 1048576)
def OpenSpec.upto (s : _root_.Go.ChangeSpec) : _root_.Go.OpenSpec := { _root_.Go.OpenSpec.ofChange s with cond := some uptoSmall }

/-- 'torchonlaw19.TensionRoots', WHERE WHAT IT READS IS OF BULK AT MOST 1048576: true; the input reads as it did. -/
def tensionRootsUptoRow : OpenClaim := { program := "ytlmhgcllikcedaa", sum := "ed01f3b42adafa51a6e9ab4f6eb181667096a87382da0cf4cf880f0591a30a7c", func := "torchon/torchonlaw19.TensionRoots", spec := "tensionRoots", unfollowed := true, recurses := true, apart := false, narrowed := true }
def TensionRootsUptoSaid : Prop := tensionRootsUptoRow.holds Try.pinned (OpenSpec.upto tensionRootsSpec)

/-- 'torchonlaw19.TensionBounds', WHERE WHAT IT READS IS OF BULK AT MOST 1048576: true; the input reads as it did. -/
def tensionBoundsUptoRow : OpenClaim := { program := "ytlmhgcllikcedaa", sum := "ed01f3b42adafa51a6e9ab4f6eb181667096a87382da0cf4cf880f0591a30a7c", func := "torchon/torchonlaw19.TensionBounds", spec := "tensionBounds", unfollowed := true, recurses := true, apart := false, narrowed := true }
def TensionBoundsUptoSaid : Prop := tensionBoundsUptoRow.holds Try.pinned (OpenSpec.upto tensionBoundsSpec)

/-- 'torchonlaw19.TensionLengths', WHERE WHAT IT READS IS OF BULK AT MOST 1048576: true; the input reads as it did. -/
def tensionLengthsUptoRow : OpenClaim := { program := "ytlmhgcllikcedaa", sum := "ed01f3b42adafa51a6e9ab4f6eb181667096a87382da0cf4cf880f0591a30a7c", func := "torchon/torchonlaw19.TensionLengths", spec := "tensionLengths", unfollowed := true, recurses := true, apart := false, narrowed := true }
def TensionLengthsUptoSaid : Prop := tensionLengthsUptoRow.holds Try.pinned (OpenSpec.upto tensionLengthsSpec)

/-- 'torchonlaw19.TensionTaut', WHERE WHAT IT READS IS OF BULK AT MOST 1048576: true; the input reads as it did. -/
def tensionTautUptoRow : OpenClaim := { program := "ytlmhgcllikcedaa", sum := "ed01f3b42adafa51a6e9ab4f6eb181667096a87382da0cf4cf880f0591a30a7c", func := "torchon/torchonlaw19.TensionTaut", spec := "tensionTaut", unfollowed := true, recurses := true, apart := false, narrowed := true }
def TensionTautUptoSaid : Prop := tensionTautUptoRow.holds Try.pinned (OpenSpec.upto tensionTautSpec)

/-- 'torchonlaw19.TensionTight', WHERE WHAT IT READS IS OF BULK AT MOST 1048576: true; the input reads as it did. -/
def tensionTightUptoRow : OpenClaim := { program := "ytlmhgcllikcedaa", sum := "ed01f3b42adafa51a6e9ab4f6eb181667096a87382da0cf4cf880f0591a30a7c", func := "torchon/torchonlaw19.TensionTight", spec := "tensionTight", unfollowed := true, recurses := true, apart := false, narrowed := true }
def TensionTightUptoSaid : Prop := tensionTightUptoRow.holds Try.pinned (OpenSpec.upto tensionTightSpec)

/-- 'torchonlaw19.TensionWithin', WHERE WHAT IT READS IS OF BULK AT MOST 1048576: true; the input reads as it did. -/
def tensionWithinUptoRow : OpenClaim := { program := "ytlmhgcllikcedaa", sum := "ed01f3b42adafa51a6e9ab4f6eb181667096a87382da0cf4cf880f0591a30a7c", func := "torchon/torchonlaw19.TensionWithin", spec := "tensionWithin", unfollowed := true, recurses := true, apart := false, narrowed := true }
def TensionWithinUptoSaid : Prop := tensionWithinUptoRow.holds Try.pinned (OpenSpec.upto tensionWithinSpec)

/-- 'torchonlaw19.TensionShortest', WHERE WHAT IT READS IS OF BULK AT MOST 1048576: true; the input reads as it did. -/
def tensionShortestUptoRow : OpenClaim := { program := "ytlmhgcllikcedaa", sum := "ed01f3b42adafa51a6e9ab4f6eb181667096a87382da0cf4cf880f0591a30a7c", func := "torchon/torchonlaw19.TensionShortest", spec := "tensionShortest", unfollowed := true, recurses := true, apart := false, narrowed := true }
def TensionShortestUptoSaid : Prop := tensionShortestUptoRow.holds Try.pinned (OpenSpec.upto tensionShortestSpec)

/-- 'torchonlaw19.TensionTriangle', WHERE WHAT IT READS IS OF BULK AT MOST 1048576: true; the input reads as it did. -/
def tensionTriangleUptoRow : OpenClaim := { program := "ytlmhgcllikcedaa", sum := "ed01f3b42adafa51a6e9ab4f6eb181667096a87382da0cf4cf880f0591a30a7c", func := "torchon/torchonlaw19.TensionTriangle", spec := "tensionTriangle", unfollowed := true, recurses := true, apart := false, narrowed := true }
def TensionTriangleUptoSaid : Prop := tensionTriangleUptoRow.holds Try.pinned (OpenSpec.upto tensionTriangleSpec)

/-- 'torchonlaw19.TensionMoved', WHERE WHAT IT READS IS OF BULK AT MOST 1048576: true; the input reads as it did. -/
def tensionMovedUptoRow : OpenClaim := { program := "ytlmhgcllikcedaa", sum := "ed01f3b42adafa51a6e9ab4f6eb181667096a87382da0cf4cf880f0591a30a7c", func := "torchon/torchonlaw19.TensionMoved", spec := "tensionMoved", unfollowed := true, recurses := true, apart := false, narrowed := true }
def TensionMovedUptoSaid : Prop := tensionMovedUptoRow.holds Try.pinned (OpenSpec.upto tensionMovedSpec)

/-- 'torchonlaw19.TensionSums', WHERE WHAT IT READS IS OF BULK AT MOST 1048576: true; the input reads as it did. -/
def tensionSumsUptoRow : OpenClaim := { program := "ytlmhgcllikcedaa", sum := "ed01f3b42adafa51a6e9ab4f6eb181667096a87382da0cf4cf880f0591a30a7c", func := "torchon/torchonlaw19.TensionSums", spec := "tensionSums", unfollowed := true, recurses := true, apart := false, narrowed := true }
def TensionSumsUptoSaid : Prop := tensionSumsUptoRow.holds Try.pinned (OpenSpec.upto tensionSumsSpec)

/-- 'torchonlaw19.TensionExact', WHERE WHAT IT READS IS OF BULK AT MOST 1048576: true; the input reads as it did. -/
def tensionExactUptoRow : OpenClaim := { program := "ytlmhgcllikcedaa", sum := "ed01f3b42adafa51a6e9ab4f6eb181667096a87382da0cf4cf880f0591a30a7c", func := "torchon/torchonlaw19.TensionExact", spec := "tensionExact", unfollowed := true, recurses := true, apart := false, narrowed := true }
def TensionExactUptoSaid : Prop := tensionExactUptoRow.holds Try.pinned (OpenSpec.upto tensionExactSpec)

end Rows
end Go.Proofs.Ytlmhgcllikcedaa
