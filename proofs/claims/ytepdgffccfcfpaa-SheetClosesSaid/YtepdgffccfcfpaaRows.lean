/-
  No cell of these rows narrows 'for every input' (looked for: loops, veiled, ifaces, maps, wideKeys, modest, calm, conditions, laid).
  DERIVED. THE GIVEN ROWS OF THIS SEAT. 7 by the template 'for every input the law returns true; each argument reads behind the call as it read before'; 0 by the template 'total and deterministic' (their statements: YtepdgffccfcfpaaTotals.lean).
  GIVEN WITH THE SEED: the statements are not yours to turn. If you find one false, say at which input.
  Laid BY PROGRAM, IN A SANDBOX (cutbox-rows.mjs): the forced cells as the released guide's own fill.sh prints them over the translation eb332fece2905cc0… (all of the seat's roots in one cut). By AI agents, Wed Nov 11 2026. No macro, syntax, notation, axiom, sorry.
-/
import Derived.Test.YtepdgffccfcfpaaChecked
import GoSem.Claim
import GoSem.ClaimJoined
import GoSem.ClaimMapViews
import Derived.JoinedTies
import Derived.KernelRfl
namespace Go.Proofs.Ytepdgffccfcfpaa
/- THE CELL 'sum', in the pinned program and in every row, IS THE sha256 OF THE DUMP (.gsa) THAT YtepdgffccfcfpaaProg.lean LOADS. Nothing in Lean hashes anything: it is a label: what it is worth is what the hold of that sum in a sandbox is worth. -/
noncomputable def Try.pinned : Pinned := { name := "ytepdgffccfcfpaa", sum := "eb332fece2905cc0dfcec3af9d1ee9f08153473ff6241b8e29a2963231f17d10", checked := Try.checked }
namespace Rows
def none {H : Type} : Left H := { results := [], args := [] }

/-- 'torchonlaw04.SheetEdges': WHATEVER THE INPUT: true; the input reads as it did. -/
def sheetEdgesSpec : ChangeSpec := { name := "sheetEdges", fn := fun _ => fun
  | [d] => { results := [.lit (.bool true)], args := [d] }
  | _ => none }
def sheetEdgesRow : OpenClaim := { program := "ytepdgffccfcfpaa", sum := "eb332fece2905cc0dfcec3af9d1ee9f08153473ff6241b8e29a2963231f17d10", func := "torchon/torchonlaw04.SheetEdges", spec := "sheetEdges", inPlace := ["internal/bytealg.IndexByteString"], unfollowed := true, recurses := true, apart := false }
def SheetEdgesSaid : Prop := sheetEdgesRow.holds Try.pinned (OpenSpec.ofChange sheetEdgesSpec)

/-- ITS FALSE NEIGHBOUR: 'it returns false'. Refute it at one input. -/
def sheetEdgesWrong : ChangeSpec := { name := "sheetEdges", fn := fun _ => fun
  | [d] => { results := [.lit (.bool false)], args := [d] }
  | _ => none }
def SheetEdgesWrongFalsely : Prop := sheetEdgesRow.holds Try.pinned (OpenSpec.ofChange sheetEdgesWrong)

/-- 'torchonlaw04.SheetLines': WHATEVER THE INPUT: true; the input reads as it did. -/
def sheetLinesSpec : ChangeSpec := { name := "sheetLines", fn := fun _ => fun
  | [d1, d2] => { results := [.lit (.bool true)], args := [d1, d2] }
  | _ => none }
def sheetLinesRow : OpenClaim := { program := "ytepdgffccfcfpaa", sum := "eb332fece2905cc0dfcec3af9d1ee9f08153473ff6241b8e29a2963231f17d10", func := "torchon/torchonlaw04.SheetLines", spec := "sheetLines", inPlace := ["internal/bytealg.IndexByteString"], unfollowed := true, recurses := true, apart := false }
def SheetLinesSaid : Prop := sheetLinesRow.holds Try.pinned (OpenSpec.ofChange sheetLinesSpec)

/-- ITS FALSE NEIGHBOUR: 'it returns false'. Refute it at one input. -/
def sheetLinesWrong : ChangeSpec := { name := "sheetLines", fn := fun _ => fun
  | [d1, d2] => { results := [.lit (.bool false)], args := [d1, d2] }
  | _ => none }
def SheetLinesWrongFalsely : Prop := sheetLinesRow.holds Try.pinned (OpenSpec.ofChange sheetLinesWrong)

/-- 'torchonlaw04.SheetChains': WHATEVER THE INPUT: true; the input reads as it did. -/
def sheetChainsSpec : ChangeSpec := { name := "sheetChains", fn := fun _ => fun
  | [d1, d2, d3] => { results := [.lit (.bool true)], args := [d1, d2, d3] }
  | _ => none }
def sheetChainsRow : OpenClaim := { program := "ytepdgffccfcfpaa", sum := "eb332fece2905cc0dfcec3af9d1ee9f08153473ff6241b8e29a2963231f17d10", func := "torchon/torchonlaw04.SheetChains", spec := "sheetChains", inPlace := ["internal/bytealg.IndexByteString"], unfollowed := true, recurses := true, apart := false }
def SheetChainsSaid : Prop := sheetChainsRow.holds Try.pinned (OpenSpec.ofChange sheetChainsSpec)

/-- ITS FALSE NEIGHBOUR: 'it returns false'. Refute it at one input. -/
def sheetChainsWrong : ChangeSpec := { name := "sheetChains", fn := fun _ => fun
  | [d1, d2, d3] => { results := [.lit (.bool false)], args := [d1, d2, d3] }
  | _ => none }
def SheetChainsWrongFalsely : Prop := sheetChainsRow.holds Try.pinned (OpenSpec.ofChange sheetChainsWrong)

/-- 'torchonlaw04.SheetOrders': WHATEVER THE INPUT: true; the input reads as it did. -/
def sheetOrdersSpec : ChangeSpec := { name := "sheetOrders", fn := fun _ => fun
  | [d1, d2] => { results := [.lit (.bool true)], args := [d1, d2] }
  | _ => none }
def sheetOrdersRow : OpenClaim := { program := "ytepdgffccfcfpaa", sum := "eb332fece2905cc0dfcec3af9d1ee9f08153473ff6241b8e29a2963231f17d10", func := "torchon/torchonlaw04.SheetOrders", spec := "sheetOrders", inPlace := ["internal/bytealg.IndexByteString"], unfollowed := true, recurses := true, apart := false }
def SheetOrdersSaid : Prop := sheetOrdersRow.holds Try.pinned (OpenSpec.ofChange sheetOrdersSpec)

/-- ITS FALSE NEIGHBOUR: 'it returns false'. Refute it at one input. -/
def sheetOrdersWrong : ChangeSpec := { name := "sheetOrders", fn := fun _ => fun
  | [d1, d2] => { results := [.lit (.bool false)], args := [d1, d2] }
  | _ => none }
def SheetOrdersWrongFalsely : Prop := sheetOrdersRow.holds Try.pinned (OpenSpec.ofChange sheetOrdersWrong)

/-- 'torchonlaw04.SheetAny': WHATEVER THE INPUT: true; the input reads as it did. -/
def sheetAnySpec : ChangeSpec := { name := "sheetAny", fn := fun _ => fun
  | [d1, d2] => { results := [.lit (.bool true)], args := [d1, d2] }
  | _ => none }
def sheetAnyRow : OpenClaim := { program := "ytepdgffccfcfpaa", sum := "eb332fece2905cc0dfcec3af9d1ee9f08153473ff6241b8e29a2963231f17d10", func := "torchon/torchonlaw04.SheetAny", spec := "sheetAny", inPlace := ["internal/bytealg.IndexByteString"], unfollowed := true, recurses := true, apart := false }
def SheetAnySaid : Prop := sheetAnyRow.holds Try.pinned (OpenSpec.ofChange sheetAnySpec)

/-- ITS FALSE NEIGHBOUR: 'it returns false'. Refute it at one input. -/
def sheetAnyWrong : ChangeSpec := { name := "sheetAny", fn := fun _ => fun
  | [d1, d2] => { results := [.lit (.bool false)], args := [d1, d2] }
  | _ => none }
def SheetAnyWrongFalsely : Prop := sheetAnyRow.holds Try.pinned (OpenSpec.ofChange sheetAnyWrong)

/-- 'torchonlaw04.SheetCloses': WHATEVER THE INPUT: true; the input reads as it did. -/
def sheetClosesSpec : ChangeSpec := { name := "sheetCloses", fn := fun _ => fun
  | [d1, d2, d3] => { results := [.lit (.bool true)], args := [d1, d2, d3] }
  | _ => none }
def sheetClosesRow : OpenClaim := { program := "ytepdgffccfcfpaa", sum := "eb332fece2905cc0dfcec3af9d1ee9f08153473ff6241b8e29a2963231f17d10", func := "torchon/torchonlaw04.SheetCloses", spec := "sheetCloses", inPlace := ["internal/bytealg.IndexByteString"], unfollowed := true, recurses := true, apart := false }
def SheetClosesSaid : Prop := sheetClosesRow.holds Try.pinned (OpenSpec.ofChange sheetClosesSpec)

/-- ITS FALSE NEIGHBOUR: 'it returns false'. Refute it at one input. -/
def sheetClosesWrong : ChangeSpec := { name := "sheetCloses", fn := fun _ => fun
  | [d1, d2, d3] => { results := [.lit (.bool false)], args := [d1, d2, d3] }
  | _ => none }
def SheetClosesWrongFalsely : Prop := sheetClosesRow.holds Try.pinned (OpenSpec.ofChange sheetClosesWrong)

/-- 'torchonlaw04.SheetReady': WHATEVER THE INPUT: true; the input reads as it did. -/
def sheetReadySpec : ChangeSpec := { name := "sheetReady", fn := fun _ => fun
  | [d1, d2, d3] => { results := [.lit (.bool true)], args := [d1, d2, d3] }
  | _ => none }
def sheetReadyRow : OpenClaim := { program := "ytepdgffccfcfpaa", sum := "eb332fece2905cc0dfcec3af9d1ee9f08153473ff6241b8e29a2963231f17d10", func := "torchon/torchonlaw04.SheetReady", spec := "sheetReady", inPlace := ["internal/bytealg.IndexByteString"], unfollowed := true, recurses := true, apart := false }
def SheetReadySaid : Prop := sheetReadyRow.holds Try.pinned (OpenSpec.ofChange sheetReadySpec)

/-- ITS FALSE NEIGHBOUR: 'it returns false'. Refute it at one input. -/
def sheetReadyWrong : ChangeSpec := { name := "sheetReady", fn := fun _ => fun
  | [d1, d2, d3] => { results := [.lit (.bool false)], args := [d1, d2, d3] }
  | _ => none }
def SheetReadyWrongFalsely : Prop := sheetReadyRow.holds Try.pinned (OpenSpec.ofChange sheetReadyWrong)

/- THE SECOND FORM. 'bulk': how many values and letters a reading holds, each counted each time it is reached (what is shared counts as often as it is met; a slice's spare places count too). A statement '..UptoSaid' is the law's where the arguments, and the package variables that the reading takes, are together of bulk at most 1048576: NARROWER than '..Said'. Prove '..Said' where nothing that the law and all that it calls make is longer than what came in: it says more and counts as full. Else prove '..UptoSaid'. A law counts once. -/
mutual
def uptoBulk {H : Type} : DataW H → Nat
  | .lit (.string bytes) => bytes.length + 1
  | .lit _ => 1
  | .nil => 1
  | .ptr d => uptoBulk d + 1
  | .slice elems spare => uptoBulkAll elems + uptoBulkAll spare + 1
  | .agg parts => uptoBulkAll parts + 1
  | .iface _ d => uptoBulk d + 1
  | .map entries => uptoBulkEntries entries + 1
  | .held _ => 1
def uptoBulkAll {H : Type} : List (DataW H) → Nat
  | [] => 0
  | d :: r => uptoBulk d + uptoBulkAll r
def uptoBulkEntries {H : Type} : List (Lit × DataW H) → Nat
  | [] => 0
  | x :: r => uptoBulkEntry x + uptoBulkEntries r
def uptoBulkEntry {H : Type} : Lit × DataW H → Nat
  | (.string bytes, d) => bytes.length + uptoBulk d + 1
  | (_, d) => uptoBulk d + 1
 end
def uptoSmall : (H : Type) → List (DataW H) → Bool := fun _ ds => decide (uptoBulkAll ds ≤ 1048576)
def OpenSpec.upto (s : _root_.Go.ChangeSpec) : _root_.Go.OpenSpec := { _root_.Go.OpenSpec.ofChange s with cond := some uptoSmall }

/-- 'torchonlaw04.SheetEdges', WHERE WHAT IT READS IS OF BULK AT MOST 1048576: true; the input reads as it did. -/
def sheetEdgesUptoRow : OpenClaim := { program := "ytepdgffccfcfpaa", sum := "eb332fece2905cc0dfcec3af9d1ee9f08153473ff6241b8e29a2963231f17d10", func := "torchon/torchonlaw04.SheetEdges", spec := "sheetEdges", inPlace := ["internal/bytealg.IndexByteString"], unfollowed := true, recurses := true, apart := false, narrowed := true }
def SheetEdgesUptoSaid : Prop := sheetEdgesUptoRow.holds Try.pinned (OpenSpec.upto sheetEdgesSpec)

/-- 'torchonlaw04.SheetLines', WHERE WHAT IT READS IS OF BULK AT MOST 1048576: true; the input reads as it did. -/
def sheetLinesUptoRow : OpenClaim := { program := "ytepdgffccfcfpaa", sum := "eb332fece2905cc0dfcec3af9d1ee9f08153473ff6241b8e29a2963231f17d10", func := "torchon/torchonlaw04.SheetLines", spec := "sheetLines", inPlace := ["internal/bytealg.IndexByteString"], unfollowed := true, recurses := true, apart := false, narrowed := true }
def SheetLinesUptoSaid : Prop := sheetLinesUptoRow.holds Try.pinned (OpenSpec.upto sheetLinesSpec)

/-- 'torchonlaw04.SheetChains', WHERE WHAT IT READS IS OF BULK AT MOST 1048576: true; the input reads as it did. -/
def sheetChainsUptoRow : OpenClaim := { program := "ytepdgffccfcfpaa", sum := "eb332fece2905cc0dfcec3af9d1ee9f08153473ff6241b8e29a2963231f17d10", func := "torchon/torchonlaw04.SheetChains", spec := "sheetChains", inPlace := ["internal/bytealg.IndexByteString"], unfollowed := true, recurses := true, apart := false, narrowed := true }
def SheetChainsUptoSaid : Prop := sheetChainsUptoRow.holds Try.pinned (OpenSpec.upto sheetChainsSpec)

/-- 'torchonlaw04.SheetOrders', WHERE WHAT IT READS IS OF BULK AT MOST 1048576: true; the input reads as it did. -/
def sheetOrdersUptoRow : OpenClaim := { program := "ytepdgffccfcfpaa", sum := "eb332fece2905cc0dfcec3af9d1ee9f08153473ff6241b8e29a2963231f17d10", func := "torchon/torchonlaw04.SheetOrders", spec := "sheetOrders", inPlace := ["internal/bytealg.IndexByteString"], unfollowed := true, recurses := true, apart := false, narrowed := true }
def SheetOrdersUptoSaid : Prop := sheetOrdersUptoRow.holds Try.pinned (OpenSpec.upto sheetOrdersSpec)

/-- 'torchonlaw04.SheetAny', WHERE WHAT IT READS IS OF BULK AT MOST 1048576: true; the input reads as it did. -/
def sheetAnyUptoRow : OpenClaim := { program := "ytepdgffccfcfpaa", sum := "eb332fece2905cc0dfcec3af9d1ee9f08153473ff6241b8e29a2963231f17d10", func := "torchon/torchonlaw04.SheetAny", spec := "sheetAny", inPlace := ["internal/bytealg.IndexByteString"], unfollowed := true, recurses := true, apart := false, narrowed := true }
def SheetAnyUptoSaid : Prop := sheetAnyUptoRow.holds Try.pinned (OpenSpec.upto sheetAnySpec)

/-- 'torchonlaw04.SheetCloses', WHERE WHAT IT READS IS OF BULK AT MOST 1048576: true; the input reads as it did. -/
def sheetClosesUptoRow : OpenClaim := { program := "ytepdgffccfcfpaa", sum := "eb332fece2905cc0dfcec3af9d1ee9f08153473ff6241b8e29a2963231f17d10", func := "torchon/torchonlaw04.SheetCloses", spec := "sheetCloses", inPlace := ["internal/bytealg.IndexByteString"], unfollowed := true, recurses := true, apart := false, narrowed := true }
def SheetClosesUptoSaid : Prop := sheetClosesUptoRow.holds Try.pinned (OpenSpec.upto sheetClosesSpec)

/-- 'torchonlaw04.SheetReady', WHERE WHAT IT READS IS OF BULK AT MOST 1048576: true; the input reads as it did. -/
def sheetReadyUptoRow : OpenClaim := { program := "ytepdgffccfcfpaa", sum := "eb332fece2905cc0dfcec3af9d1ee9f08153473ff6241b8e29a2963231f17d10", func := "torchon/torchonlaw04.SheetReady", spec := "sheetReady", inPlace := ["internal/bytealg.IndexByteString"], unfollowed := true, recurses := true, apart := false, narrowed := true }
def SheetReadyUptoSaid : Prop := sheetReadyUptoRow.holds Try.pinned (OpenSpec.upto sheetReadySpec)

end Rows
end Go.Proofs.Ytepdgffccfcfpaa
