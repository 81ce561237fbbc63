/-
  No cell of these rows narrows 'for every input' (looked for: loops, veiled, ifaces, maps, wideKeys, modest, calm, conditions, laid).
  DERIVED. THE GIVEN ROWS OF THIS SEAT. 10 by the template 'for every input the law returns true; each argument reads behind the call as it read before'; 0 by the template 'total and deterministic' (their statements: YtifpkdajfdlgeaaTotals.lean).
  GIVEN WITH THE SEED: the statements are not yours to turn. If you find one false, say at which input.
  Laid BY PROGRAM, IN A SANDBOX (cutbox-rows.mjs): the forced cells as the released guide's own fill.sh prints them over the translation f88a9e0e376dc9f1… (all of the seat's roots in one cut). By AI agents, Wed Nov 11 2026. No macro, syntax, notation, axiom, sorry.
-/
import Derived.Test.YtifpkdajfdlgeaaChecked
import GoSem.Claim
import GoSem.ClaimJoined
import GoSem.ClaimMapViews
import Derived.JoinedTies
import Derived.KernelRfl
namespace Go.Proofs.Ytifpkdajfdlgeaa
/- THE CELL 'sum', in the pinned program and in every row, IS THE sha256 OF THE DUMP (.gsa) THAT YtifpkdajfdlgeaaProg.lean LOADS. Nothing in Lean hashes anything: it is a label: what it is worth is what the hold of that sum in a sandbox is worth. -/
noncomputable def Try.pinned : Pinned := { name := "ytifpkdajfdlgeaa", sum := "f88a9e0e376dc9f159acfd7392306053211bf863d9121e22fe176c1dba39b963", checked := Try.checked }
namespace Rows
def none {H : Type} : Left H := { results := [], args := [] }

/-- 'torchonlaw05.TracesSame': WHATEVER THE INPUT: true; the input reads as it did. -/
def tracesSameSpec : ChangeSpec := { name := "tracesSame", fn := fun _ => fun
  | [d1, d2] => { results := [.lit (.bool true)], args := [d1, d2] }
  | _ => none }
def tracesSameRow : OpenClaim := { program := "ytifpkdajfdlgeaa", sum := "f88a9e0e376dc9f159acfd7392306053211bf863d9121e22fe176c1dba39b963", func := "torchon/torchonlaw05.TracesSame", spec := "tracesSame", inPlace := ["internal/bytealg.IndexByteString"], unfollowed := true, recurses := true, apart := false }
def TracesSameSaid : Prop := tracesSameRow.holds Try.pinned (OpenSpec.ofChange tracesSameSpec)

/-- ITS FALSE NEIGHBOUR: 'it returns false'. Refute it at one input. -/
def tracesSameWrong : ChangeSpec := { name := "tracesSame", fn := fun _ => fun
  | [d1, d2] => { results := [.lit (.bool false)], args := [d1, d2] }
  | _ => none }
def TracesSameWrongFalsely : Prop := tracesSameRow.holds Try.pinned (OpenSpec.ofChange tracesSameWrong)

/-- 'torchonlaw05.TracesCloth': WHATEVER THE INPUT: true; the input reads as it did. -/
def tracesClothSpec : ChangeSpec := { name := "tracesCloth", fn := fun _ => fun
  | [d1, d2] => { results := [.lit (.bool true)], args := [d1, d2] }
  | _ => none }
def tracesClothRow : OpenClaim := { program := "ytifpkdajfdlgeaa", sum := "f88a9e0e376dc9f159acfd7392306053211bf863d9121e22fe176c1dba39b963", func := "torchon/torchonlaw05.TracesCloth", spec := "tracesCloth", inPlace := ["internal/bytealg.IndexByteString"], unfollowed := true, recurses := true, apart := false }
def TracesClothSaid : Prop := tracesClothRow.holds Try.pinned (OpenSpec.ofChange tracesClothSpec)

/-- ITS FALSE NEIGHBOUR: 'it returns false'. Refute it at one input. -/
def tracesClothWrong : ChangeSpec := { name := "tracesCloth", fn := fun _ => fun
  | [d1, d2] => { results := [.lit (.bool false)], args := [d1, d2] }
  | _ => none }
def TracesClothWrongFalsely : Prop := tracesClothRow.holds Try.pinned (OpenSpec.ofChange tracesClothWrong)

/-- 'torchonlaw05.TracesBeside': WHATEVER THE INPUT: true; the input reads as it did. -/
def tracesBesideSpec : ChangeSpec := { name := "tracesBeside", fn := fun _ => fun
  | [d1, d2] => { results := [.lit (.bool true)], args := [d1, d2] }
  | _ => none }
def tracesBesideRow : OpenClaim := { program := "ytifpkdajfdlgeaa", sum := "f88a9e0e376dc9f159acfd7392306053211bf863d9121e22fe176c1dba39b963", func := "torchon/torchonlaw05.TracesBeside", spec := "tracesBeside", inPlace := ["internal/bytealg.IndexByteString"], unfollowed := true, recurses := true, apart := false }
def TracesBesideSaid : Prop := tracesBesideRow.holds Try.pinned (OpenSpec.ofChange tracesBesideSpec)

/-- ITS FALSE NEIGHBOUR: 'it returns false'. Refute it at one input. -/
def tracesBesideWrong : ChangeSpec := { name := "tracesBeside", fn := fun _ => fun
  | [d1, d2] => { results := [.lit (.bool false)], args := [d1, d2] }
  | _ => none }
def TracesBesideWrongFalsely : Prop := tracesBesideRow.holds Try.pinned (OpenSpec.ofChange tracesBesideWrong)

/-- 'torchonlaw05.TracesSwaps': WHATEVER THE INPUT: true; the input reads as it did. -/
def tracesSwapsSpec : ChangeSpec := { name := "tracesSwaps", fn := fun _ => fun
  | [d1, d2] => { results := [.lit (.bool true)], args := [d1, d2] }
  | _ => none }
def tracesSwapsRow : OpenClaim := { program := "ytifpkdajfdlgeaa", sum := "f88a9e0e376dc9f159acfd7392306053211bf863d9121e22fe176c1dba39b963", func := "torchon/torchonlaw05.TracesSwaps", spec := "tracesSwaps", inPlace := ["internal/bytealg.IndexByteString"], unfollowed := true, recurses := true, apart := false }
def TracesSwapsSaid : Prop := tracesSwapsRow.holds Try.pinned (OpenSpec.ofChange tracesSwapsSpec)

/-- ITS FALSE NEIGHBOUR: 'it returns false'. Refute it at one input. -/
def tracesSwapsWrong : ChangeSpec := { name := "tracesSwaps", fn := fun _ => fun
  | [d1, d2] => { results := [.lit (.bool false)], args := [d1, d2] }
  | _ => none }
def TracesSwapsWrongFalsely : Prop := tracesSwapsRow.holds Try.pinned (OpenSpec.ofChange tracesSwapsWrong)

/-- 'torchonlaw05.TracesShortest': WHATEVER THE INPUT: true; the input reads as it did. -/
def tracesShortestSpec : ChangeSpec := { name := "tracesShortest", fn := fun _ => fun
  | [d1, d2] => { results := [.lit (.bool true)], args := [d1, d2] }
  | _ => none }
def tracesShortestRow : OpenClaim := { program := "ytifpkdajfdlgeaa", sum := "f88a9e0e376dc9f159acfd7392306053211bf863d9121e22fe176c1dba39b963", func := "torchon/torchonlaw05.TracesShortest", spec := "tracesShortest", inPlace := ["internal/bytealg.IndexByteString"], unfollowed := true, recurses := true, apart := false }
def TracesShortestSaid : Prop := tracesShortestRow.holds Try.pinned (OpenSpec.ofChange tracesShortestSpec)

/-- ITS FALSE NEIGHBOUR: 'it returns false'. Refute it at one input. -/
def tracesShortestWrong : ChangeSpec := { name := "tracesShortest", fn := fun _ => fun
  | [d1, d2] => { results := [.lit (.bool false)], args := [d1, d2] }
  | _ => none }
def TracesShortestWrongFalsely : Prop := tracesShortestRow.holds Try.pinned (OpenSpec.ofChange tracesShortestWrong)

/-- 'torchonlaw05.TracesLeast': WHATEVER THE INPUT: true; the input reads as it did. -/
def tracesLeastSpec : ChangeSpec := { name := "tracesLeast", fn := fun _ => fun
  | [d] => { results := [.lit (.bool true)], args := [d] }
  | _ => none }
def tracesLeastRow : OpenClaim := { program := "ytifpkdajfdlgeaa", sum := "f88a9e0e376dc9f159acfd7392306053211bf863d9121e22fe176c1dba39b963", func := "torchon/torchonlaw05.TracesLeast", spec := "tracesLeast", inPlace := ["internal/bytealg.IndexByteString"], unfollowed := true, recurses := true, apart := false }
def TracesLeastSaid : Prop := tracesLeastRow.holds Try.pinned (OpenSpec.ofChange tracesLeastSpec)

/-- ITS FALSE NEIGHBOUR: 'it returns false'. Refute it at one input. -/
def tracesLeastWrong : ChangeSpec := { name := "tracesLeast", fn := fun _ => fun
  | [d] => { results := [.lit (.bool false)], args := [d] }
  | _ => none }
def TracesLeastWrongFalsely : Prop := tracesLeastRow.holds Try.pinned (OpenSpec.ofChange tracesLeastWrong)

/-- 'torchonlaw05.TracesExchange': WHATEVER THE INPUT: true; the input reads as it did. -/
def tracesExchangeSpec : ChangeSpec := { name := "tracesExchange", fn := fun _ => fun
  | [d1, d2, d3] => { results := [.lit (.bool true)], args := [d1, d2, d3] }
  | _ => none }
def tracesExchangeRow : OpenClaim := { program := "ytifpkdajfdlgeaa", sum := "f88a9e0e376dc9f159acfd7392306053211bf863d9121e22fe176c1dba39b963", func := "torchon/torchonlaw05.TracesExchange", spec := "tracesExchange", inPlace := ["internal/bytealg.IndexByteString"], unfollowed := true, recurses := true, apart := false }
def TracesExchangeSaid : Prop := tracesExchangeRow.holds Try.pinned (OpenSpec.ofChange tracesExchangeSpec)

/-- ITS FALSE NEIGHBOUR: 'it returns false'. Refute it at one input. -/
def tracesExchangeWrong : ChangeSpec := { name := "tracesExchange", fn := fun _ => fun
  | [d1, d2, d3] => { results := [.lit (.bool false)], args := [d1, d2, d3] }
  | _ => none }
def TracesExchangeWrongFalsely : Prop := tracesExchangeRow.holds Try.pinned (OpenSpec.ofChange tracesExchangeWrong)

/-- 'torchonlaw05.TracesOrders': WHATEVER THE INPUT: true; the input reads as it did. -/
def tracesOrdersSpec : ChangeSpec := { name := "tracesOrders", fn := fun _ => fun
  | [d1, d2, d3] => { results := [.lit (.bool true)], args := [d1, d2, d3] }
  | _ => none }
def tracesOrdersRow : OpenClaim := { program := "ytifpkdajfdlgeaa", sum := "f88a9e0e376dc9f159acfd7392306053211bf863d9121e22fe176c1dba39b963", func := "torchon/torchonlaw05.TracesOrders", spec := "tracesOrders", inPlace := ["internal/bytealg.IndexByteString"], unfollowed := true, recurses := true, apart := false }
def TracesOrdersSaid : Prop := tracesOrdersRow.holds Try.pinned (OpenSpec.ofChange tracesOrdersSpec)

/-- ITS FALSE NEIGHBOUR: 'it returns false'. Refute it at one input. -/
def tracesOrdersWrong : ChangeSpec := { name := "tracesOrders", fn := fun _ => fun
  | [d1, d2, d3] => { results := [.lit (.bool false)], args := [d1, d2, d3] }
  | _ => none }
def TracesOrdersWrongFalsely : Prop := tracesOrdersRow.holds Try.pinned (OpenSpec.ofChange tracesOrdersWrong)

/-- 'torchonlaw05.TracesNumbers': WHATEVER THE INPUT: true; the input reads as it did. -/
def tracesNumbersSpec : ChangeSpec := { name := "tracesNumbers", fn := fun _ => fun
  | [d1, d2, d3] => { results := [.lit (.bool true)], args := [d1, d2, d3] }
  | _ => none }
def tracesNumbersRow : OpenClaim := { program := "ytifpkdajfdlgeaa", sum := "f88a9e0e376dc9f159acfd7392306053211bf863d9121e22fe176c1dba39b963", func := "torchon/torchonlaw05.TracesNumbers", spec := "tracesNumbers", inPlace := ["internal/bytealg.IndexByteString"], unfollowed := true, recurses := true, apart := false }
def TracesNumbersSaid : Prop := tracesNumbersRow.holds Try.pinned (OpenSpec.ofChange tracesNumbersSpec)

/-- ITS FALSE NEIGHBOUR: 'it returns false'. Refute it at one input. -/
def tracesNumbersWrong : ChangeSpec := { name := "tracesNumbers", fn := fun _ => fun
  | [d1, d2, d3] => { results := [.lit (.bool false)], args := [d1, d2, d3] }
  | _ => none }
def TracesNumbersWrongFalsely : Prop := tracesNumbersRow.holds Try.pinned (OpenSpec.ofChange tracesNumbersWrong)

/-- 'torchonlaw05.TracesKnown': WHATEVER THE INPUT: true; the input reads as it did. -/
def tracesKnownSpec : ChangeSpec := { name := "tracesKnown", fn := fun _ => fun
  | [] => { results := [.lit (.bool true)], args := [] }
  | _ => none }
def tracesKnownRow : OpenClaim := { program := "ytifpkdajfdlgeaa", sum := "f88a9e0e376dc9f159acfd7392306053211bf863d9121e22fe176c1dba39b963", func := "torchon/torchonlaw05.TracesKnown", spec := "tracesKnown", inPlace := ["internal/bytealg.IndexByteString"], unfollowed := true, recurses := true, apart := false }
def TracesKnownSaid : Prop := tracesKnownRow.holds Try.pinned (OpenSpec.ofChange tracesKnownSpec)

/-- ITS FALSE NEIGHBOUR: 'it returns false'. Refute it at one input. -/
def tracesKnownWrong : ChangeSpec := { name := "tracesKnown", fn := fun _ => fun
  | [] => { results := [.lit (.bool false)], args := [] }
  | _ => none }
def TracesKnownWrongFalsely : Prop := tracesKnownRow.holds Try.pinned (OpenSpec.ofChange tracesKnownWrong)

/- THE SECOND FORM. 'bulk': how many values and letters a reading holds, each counted each time it is reached (what is shared counts as often as it is met; a slice's spare places count too). A statement '..UptoSaid' is the law's where the arguments, and the package variables that the reading takes, are together of bulk at most 1048576: NARROWER than '..Said'. Prove '..Said' where nothing that the law and all that it calls make is longer than what came in: it says more and counts as full. Else prove '..UptoSaid'. A law counts once. -/
mutual
def uptoBulk {H : Type} : DataW H → Nat
  | .lit (.string bytes) => bytes.length + 1
  | .lit _ => 1
  | .nil => 1
  | .ptr d => uptoBulk d + 1
  | .slice elems spare => uptoBulkAll elems + uptoBulkAll spare + 1
  | .agg parts => uptoBulkAll parts + 1
  | .iface _ d => uptoBulk d + 1
  | .map entries => uptoBulkEntries entries + 1
  | .held _ => 1
def uptoBulkAll {H : Type} : List (DataW H) → Nat
  | [] => 0
  | d :: r => uptoBulk d + uptoBulkAll r
def uptoBulkEntries {H : Type} : List (Lit × DataW H) → Nat
  | [] => 0
  | x :: r => uptoBulkEntry x + uptoBulkEntries r
def uptoBulkEntry {H : Type} : Lit × DataW H → Nat
  | (.string bytes, d) => bytes.length + uptoBulk d + 1
  | (_, d) => uptoBulk d + 1
 end
def uptoSmall : (H : Type) → List (DataW H) → Bool := fun _ ds => decide (uptoBulkAll ds ≤ 1048576)
def OpenSpec.upto (s : _root_.Go.ChangeSpec) : _root_.Go.OpenSpec := { _root_.Go.OpenSpec.ofChange s with cond := some uptoSmall }

/-- 'torchonlaw05.TracesSame', WHERE WHAT IT READS IS OF BULK AT MOST 1048576: true; the input reads as it did. -/
def tracesSameUptoRow : OpenClaim := { program := "ytifpkdajfdlgeaa", sum := "f88a9e0e376dc9f159acfd7392306053211bf863d9121e22fe176c1dba39b963", func := "torchon/torchonlaw05.TracesSame", spec := "tracesSame", inPlace := ["internal/bytealg.IndexByteString"], unfollowed := true, recurses := true, apart := false, narrowed := true }
def TracesSameUptoSaid : Prop := tracesSameUptoRow.holds Try.pinned (OpenSpec.upto tracesSameSpec)

/-- 'torchonlaw05.TracesCloth', WHERE WHAT IT READS IS OF BULK AT MOST 1048576: true; the input reads as it did. -/
def tracesClothUptoRow : OpenClaim := { program := "ytifpkdajfdlgeaa", sum := "f88a9e0e376dc9f159acfd7392306053211bf863d9121e22fe176c1dba39b963", func := "torchon/torchonlaw05.TracesCloth", spec := "tracesCloth", inPlace := ["internal/bytealg.IndexByteString"], unfollowed := true, recurses := true, apart := false, narrowed := true }
def TracesClothUptoSaid : Prop := tracesClothUptoRow.holds Try.pinned (OpenSpec.upto tracesClothSpec)

/-- 'torchonlaw05.TracesBeside', WHERE WHAT IT READS IS OF BULK AT MOST 1048576: true; the input reads as it did. -/
def tracesBesideUptoRow : OpenClaim := { program := "ytifpkdajfdlgeaa", sum := "f88a9e0e376dc9f159acfd7392306053211bf863d9121e22fe176c1dba39b963", func := "torchon/torchonlaw05.TracesBeside", spec := "tracesBeside", inPlace := ["internal/bytealg.IndexByteString"], unfollowed := true, recurses := true, apart := false, narrowed := true }
def TracesBesideUptoSaid : Prop := tracesBesideUptoRow.holds Try.pinned (OpenSpec.upto tracesBesideSpec)

/-- 'torchonlaw05.TracesSwaps', WHERE WHAT IT READS IS OF BULK AT MOST 1048576: true; the input reads as it did. -/
def tracesSwapsUptoRow : OpenClaim := { program := "ytifpkdajfdlgeaa", sum := "f88a9e0e376dc9f159acfd7392306053211bf863d9121e22fe176c1dba39b963", func := "torchon/torchonlaw05.TracesSwaps", spec := "tracesSwaps", inPlace := ["internal/bytealg.IndexByteString"], unfollowed := true, recurses := true, apart := false, narrowed := true }
def TracesSwapsUptoSaid : Prop := tracesSwapsUptoRow.holds Try.pinned (OpenSpec.upto tracesSwapsSpec)

/-- 'torchonlaw05.TracesShortest', WHERE WHAT IT READS IS OF BULK AT MOST 1048576: true; the input reads as it did. -/
def tracesShortestUptoRow : OpenClaim := { program := "ytifpkdajfdlgeaa", sum := "f88a9e0e376dc9f159acfd7392306053211bf863d9121e22fe176c1dba39b963", func := "torchon/torchonlaw05.TracesShortest", spec := "tracesShortest", inPlace := ["internal/bytealg.IndexByteString"], unfollowed := true, recurses := true, apart := false, narrowed := true }
def TracesShortestUptoSaid : Prop := tracesShortestUptoRow.holds Try.pinned (OpenSpec.upto tracesShortestSpec)

/-- 'torchonlaw05.TracesLeast', WHERE WHAT IT READS IS OF BULK AT MOST 1048576: true; the input reads as it did. -/
def tracesLeastUptoRow : OpenClaim := { program := "ytifpkdajfdlgeaa", sum := "f88a9e0e376dc9f159acfd7392306053211bf863d9121e22fe176c1dba39b963", func := "torchon/torchonlaw05.TracesLeast", spec := "tracesLeast", inPlace := ["internal/bytealg.IndexByteString"], unfollowed := true, recurses := true, apart := false, narrowed := true }
def TracesLeastUptoSaid : Prop := tracesLeastUptoRow.holds Try.pinned (OpenSpec.upto tracesLeastSpec)

/-- 'torchonlaw05.TracesExchange', WHERE WHAT IT READS IS OF BULK AT MOST 1048576: true; the input reads as it did. -/
def tracesExchangeUptoRow : OpenClaim := { program := "ytifpkdajfdlgeaa", sum := "f88a9e0e376dc9f159acfd7392306053211bf863d9121e22fe176c1dba39b963", func := "torchon/torchonlaw05.TracesExchange", spec := "tracesExchange", inPlace := ["internal/bytealg.IndexByteString"], unfollowed := true, recurses := true, apart := false, narrowed := true }
def TracesExchangeUptoSaid : Prop := tracesExchangeUptoRow.holds Try.pinned (OpenSpec.upto tracesExchangeSpec)

/-- 'torchonlaw05.TracesOrders', WHERE WHAT IT READS IS OF BULK AT MOST 1048576: true; the input reads as it did. -/
def tracesOrdersUptoRow : OpenClaim := { program := "ytifpkdajfdlgeaa", sum := "f88a9e0e376dc9f159acfd7392306053211bf863d9121e22fe176c1dba39b963", func := "torchon/torchonlaw05.TracesOrders", spec := "tracesOrders", inPlace := ["internal/bytealg.IndexByteString"], unfollowed := true, recurses := true, apart := false, narrowed := true }
def TracesOrdersUptoSaid : Prop := tracesOrdersUptoRow.holds Try.pinned (OpenSpec.upto tracesOrdersSpec)

/-- 'torchonlaw05.TracesNumbers', WHERE WHAT IT READS IS OF BULK AT MOST 1048576: true; the input reads as it did. -/
def tracesNumbersUptoRow : OpenClaim := { program := "ytifpkdajfdlgeaa", sum := "f88a9e0e376dc9f159acfd7392306053211bf863d9121e22fe176c1dba39b963", func := "torchon/torchonlaw05.TracesNumbers", spec := "tracesNumbers", inPlace := ["internal/bytealg.IndexByteString"], unfollowed := true, recurses := true, apart := false, narrowed := true }
def TracesNumbersUptoSaid : Prop := tracesNumbersUptoRow.holds Try.pinned (OpenSpec.upto tracesNumbersSpec)

/-- 'torchonlaw05.TracesKnown', WHERE WHAT IT READS IS OF BULK AT MOST 1048576: true; the input reads as it did. -/
def tracesKnownUptoRow : OpenClaim := { program := "ytifpkdajfdlgeaa", sum := "f88a9e0e376dc9f159acfd7392306053211bf863d9121e22fe176c1dba39b963", func := "torchon/torchonlaw05.TracesKnown", spec := "tracesKnown", inPlace := ["internal/bytealg.IndexByteString"], unfollowed := true, recurses := true, apart := false, narrowed := true }
def TracesKnownUptoSaid : Prop := tracesKnownUptoRow.holds Try.pinned (OpenSpec.upto tracesKnownSpec)

end Rows
end Go.Proofs.Ytifpkdajfdlgeaa
