/-
  NARROWER THAN 'FOR EVERY INPUT', by the rows' own cells (each row's printed sentence says how): PairsHang: laid · PairsFewest: laid · PairsBound: laid · PairsLeast: laid · PairsShare: laid · PairsBeside: laid.
  DERIVED. THE GIVEN ROWS OF THIS SEAT. 6 by the template 'for every input the law returns true; each argument reads behind the call as it read before'; 0 by the template 'total and deterministic' (their statements: YtnplcephmidjbaaDoorTotals.lean).
  GIVEN WITH THE SEED: the statements are not yours to turn. If you find one false, say at which input.
  Laid BY PROGRAM, IN A SANDBOX (cutbox-rows.mjs): the forced cells as the released guide's own fill.sh prints them over the translation ba00c721a282cf0f… (all of the seat's roots in one cut). By AI agents, Wed Nov 11 2026. No macro, syntax, notation, axiom, sorry.
-/
import Derived.Test.YtnplcephmidjbaaDoorChecked
import GoSem.Claim
import GoSem.ClaimJoined
import GoSem.ClaimMapViews
import Derived.JoinedTies
import Derived.KernelRfl
namespace Go.Proofs.YtnplcephmidjbaaDoor
/- THE CELL 'sum', in the pinned program and in every row, IS THE sha256 OF THE DUMP (.gsa) THAT YtnplcephmidjbaaDoorProg.lean LOADS. Nothing in Lean hashes anything: it is a label: what it is worth is what the hold of that sum in a sandbox is worth. -/
noncomputable def Tryd.pinned : Pinned := { name := "ytnplcephmidjbaadoor", sum := "ba00c721a282cf0fbb1c613f1f782a96904df1d24994617b1bd98cec90f7bcc3", checked := Tryd.checked }
namespace Rows
def none {H : Type} : Left H := { results := [], args := [] }

/- WHAT THE LISTED PACKAGE-LEVEL VARIABLES READ AS WHEN THE CALL BEGINS. Each datum BY PROGRAM (the guide's laid-datum.mjs) off the statement by which the dump's own 'gosem.cut.vars' lays the variable. In a bare row this is a premise. The card (YtnplcephmidjbaaDoorCards.lean) ties it to the program's text. -/
def laid_math_bits_deBruijn32tab {H : Type} : DataW H := .agg [.lit (.int .u8 0), .lit (.int .u8 1), .lit (.int .u8 28), .lit (.int .u8 2), .lit (.int .u8 29), .lit (.int .u8 14), .lit (.int .u8 24), .lit (.int .u8 3), .lit (.int .u8 30), .lit (.int .u8 22), .lit (.int .u8 20), .lit (.int .u8 15), .lit (.int .u8 25), .lit (.int .u8 17), .lit (.int .u8 4), .lit (.int .u8 8), .lit (.int .u8 31), .lit (.int .u8 27), .lit (.int .u8 13), .lit (.int .u8 23), .lit (.int .u8 21), .lit (.int .u8 19), .lit (.int .u8 16), .lit (.int .u8 7), .lit (.int .u8 26), .lit (.int .u8 12), .lit (.int .u8 18), .lit (.int .u8 6), .lit (.int .u8 11), .lit (.int .u8 5), .lit (.int .u8 10), .lit (.int .u8 9)]
def laid_math_bits_deBruijn64tab {H : Type} : DataW H := .agg [.lit (.int .u8 0), .lit (.int .u8 1), .lit (.int .u8 56), .lit (.int .u8 2), .lit (.int .u8 57), .lit (.int .u8 49), .lit (.int .u8 28), .lit (.int .u8 3), .lit (.int .u8 61), .lit (.int .u8 58), .lit (.int .u8 42), .lit (.int .u8 50), .lit (.int .u8 38), .lit (.int .u8 29), .lit (.int .u8 17), .lit (.int .u8 4), .lit (.int .u8 62), .lit (.int .u8 47), .lit (.int .u8 59), .lit (.int .u8 36), .lit (.int .u8 45), .lit (.int .u8 43), .lit (.int .u8 51), .lit (.int .u8 22), .lit (.int .u8 53), .lit (.int .u8 39), .lit (.int .u8 33), .lit (.int .u8 30), .lit (.int .u8 24), .lit (.int .u8 18), .lit (.int .u8 12), .lit (.int .u8 5), .lit (.int .u8 63), .lit (.int .u8 55), .lit (.int .u8 48), .lit (.int .u8 27), .lit (.int .u8 60), .lit (.int .u8 41), .lit (.int .u8 37), .lit (.int .u8 16), .lit (.int .u8 46), .lit (.int .u8 35), .lit (.int .u8 44), .lit (.int .u8 21), .lit (.int .u8 52), .lit (.int .u8 32), .lit (.int .u8 23), .lit (.int .u8 11), .lit (.int .u8 54), .lit (.int .u8 26), .lit (.int .u8 40), .lit (.int .u8 15), .lit (.int .u8 34), .lit (.int .u8 20), .lit (.int .u8 31), .lit (.int .u8 10), .lit (.int .u8 25), .lit (.int .u8 14), .lit (.int .u8 19), .lit (.int .u8 9), .lit (.int .u8 13), .lit (.int .u8 8), .lit (.int .u8 7), .lit (.int .u8 6)]

/-- 'torchonlaw12.PairsHang': WHATEVER THE INPUT: true; the input reads as it did. -/
def pairsHangSpec : ChangeSpec := { name := "pairsHang", fn := fun _ => fun
  | [d1, d2] => { results := [.lit (.bool true)], args := [d1, d2] }
  | _ => none }
def pairsHangRow : OpenClaim := { program := "ytnplcephmidjbaadoor", sum := "ba00c721a282cf0fbb1c613f1f782a96904df1d24994617b1bd98cec90f7bcc3", func := "torchon/torchonlaw12.PairsHang", spec := "pairsHang", inPlace := ["internal/bytealg.IndexByteString"], unfollowed := true, recurses := true, named := ["math/bits.deBruijn32tab", "math/bits.deBruijn64tab"], apart := false, laid := [("math/bits.deBruijn32tab", laid_math_bits_deBruijn32tab), ("math/bits.deBruijn64tab", laid_math_bits_deBruijn64tab)] }
def PairsHangSaid : Prop := pairsHangRow.holds Tryd.pinned (OpenSpec.ofChange pairsHangSpec)

/-- ITS FALSE NEIGHBOUR: 'it returns false'. Refute it at one input. -/
def pairsHangWrong : ChangeSpec := { name := "pairsHang", fn := fun _ => fun
  | [d1, d2] => { results := [.lit (.bool false)], args := [d1, d2] }
  | _ => none }
def PairsHangWrongFalsely : Prop := pairsHangRow.holds Tryd.pinned (OpenSpec.ofChange pairsHangWrong)

/-- 'torchonlaw12.PairsFewest': WHATEVER THE INPUT: true; the input reads as it did. -/
def pairsFewestSpec : ChangeSpec := { name := "pairsFewest", fn := fun _ => fun
  | [d] => { results := [.lit (.bool true)], args := [d] }
  | _ => none }
def pairsFewestRow : OpenClaim := { program := "ytnplcephmidjbaadoor", sum := "ba00c721a282cf0fbb1c613f1f782a96904df1d24994617b1bd98cec90f7bcc3", func := "torchon/torchonlaw12.PairsFewest", spec := "pairsFewest", inPlace := ["internal/bytealg.IndexByteString"], unfollowed := true, recurses := true, named := ["math/bits.deBruijn32tab", "math/bits.deBruijn64tab"], apart := false, laid := [("math/bits.deBruijn32tab", laid_math_bits_deBruijn32tab), ("math/bits.deBruijn64tab", laid_math_bits_deBruijn64tab)] }
def PairsFewestSaid : Prop := pairsFewestRow.holds Tryd.pinned (OpenSpec.ofChange pairsFewestSpec)

/-- ITS FALSE NEIGHBOUR: 'it returns false'. Refute it at one input. -/
def pairsFewestWrong : ChangeSpec := { name := "pairsFewest", fn := fun _ => fun
  | [d] => { results := [.lit (.bool false)], args := [d] }
  | _ => none }
def PairsFewestWrongFalsely : Prop := pairsFewestRow.holds Tryd.pinned (OpenSpec.ofChange pairsFewestWrong)

/-- 'torchonlaw12.PairsBound': WHATEVER THE INPUT: true; the input reads as it did. -/
def pairsBoundSpec : ChangeSpec := { name := "pairsBound", fn := fun _ => fun
  | [d] => { results := [.lit (.bool true)], args := [d] }
  | _ => none }
def pairsBoundRow : OpenClaim := { program := "ytnplcephmidjbaadoor", sum := "ba00c721a282cf0fbb1c613f1f782a96904df1d24994617b1bd98cec90f7bcc3", func := "torchon/torchonlaw12.PairsBound", spec := "pairsBound", inPlace := ["internal/bytealg.IndexByteString"], unfollowed := true, recurses := true, named := ["math/bits.deBruijn32tab", "math/bits.deBruijn64tab"], apart := false, laid := [("math/bits.deBruijn32tab", laid_math_bits_deBruijn32tab), ("math/bits.deBruijn64tab", laid_math_bits_deBruijn64tab)] }
def PairsBoundSaid : Prop := pairsBoundRow.holds Tryd.pinned (OpenSpec.ofChange pairsBoundSpec)

/-- ITS FALSE NEIGHBOUR: 'it returns false'. Refute it at one input. -/
def pairsBoundWrong : ChangeSpec := { name := "pairsBound", fn := fun _ => fun
  | [d] => { results := [.lit (.bool false)], args := [d] }
  | _ => none }
def PairsBoundWrongFalsely : Prop := pairsBoundRow.holds Tryd.pinned (OpenSpec.ofChange pairsBoundWrong)

/-- 'torchonlaw12.PairsLeast': WHATEVER THE INPUT: true; the input reads as it did. -/
def pairsLeastSpec : ChangeSpec := { name := "pairsLeast", fn := fun _ => fun
  | [d1, d2] => { results := [.lit (.bool true)], args := [d1, d2] }
  | _ => none }
def pairsLeastRow : OpenClaim := { program := "ytnplcephmidjbaadoor", sum := "ba00c721a282cf0fbb1c613f1f782a96904df1d24994617b1bd98cec90f7bcc3", func := "torchon/torchonlaw12.PairsLeast", spec := "pairsLeast", inPlace := ["internal/bytealg.IndexByteString"], unfollowed := true, recurses := true, named := ["math/bits.deBruijn32tab", "math/bits.deBruijn64tab"], apart := false, laid := [("math/bits.deBruijn32tab", laid_math_bits_deBruijn32tab), ("math/bits.deBruijn64tab", laid_math_bits_deBruijn64tab)] }
def PairsLeastSaid : Prop := pairsLeastRow.holds Tryd.pinned (OpenSpec.ofChange pairsLeastSpec)

/-- ITS FALSE NEIGHBOUR: 'it returns false'. Refute it at one input. -/
def pairsLeastWrong : ChangeSpec := { name := "pairsLeast", fn := fun _ => fun
  | [d1, d2] => { results := [.lit (.bool false)], args := [d1, d2] }
  | _ => none }
def PairsLeastWrongFalsely : Prop := pairsLeastRow.holds Tryd.pinned (OpenSpec.ofChange pairsLeastWrong)

/-- 'torchonlaw12.PairsShare': WHATEVER THE INPUT: true; the input reads as it did. -/
def pairsShareSpec : ChangeSpec := { name := "pairsShare", fn := fun _ => fun
  | [d1, d2] => { results := [.lit (.bool true)], args := [d1, d2] }
  | _ => none }
def pairsShareRow : OpenClaim := { program := "ytnplcephmidjbaadoor", sum := "ba00c721a282cf0fbb1c613f1f782a96904df1d24994617b1bd98cec90f7bcc3", func := "torchon/torchonlaw12.PairsShare", spec := "pairsShare", inPlace := ["internal/bytealg.IndexByteString"], unfollowed := true, recurses := true, named := ["math/bits.deBruijn32tab", "math/bits.deBruijn64tab"], apart := false, laid := [("math/bits.deBruijn32tab", laid_math_bits_deBruijn32tab), ("math/bits.deBruijn64tab", laid_math_bits_deBruijn64tab)] }
def PairsShareSaid : Prop := pairsShareRow.holds Tryd.pinned (OpenSpec.ofChange pairsShareSpec)

/-- ITS FALSE NEIGHBOUR: 'it returns false'. Refute it at one input. -/
def pairsShareWrong : ChangeSpec := { name := "pairsShare", fn := fun _ => fun
  | [d1, d2] => { results := [.lit (.bool false)], args := [d1, d2] }
  | _ => none }
def PairsShareWrongFalsely : Prop := pairsShareRow.holds Tryd.pinned (OpenSpec.ofChange pairsShareWrong)

/-- 'torchonlaw12.PairsBeside': WHATEVER THE INPUT: true; the input reads as it did. -/
def pairsBesideSpec : ChangeSpec := { name := "pairsBeside", fn := fun _ => fun
  | [d1, d2, d3] => { results := [.lit (.bool true)], args := [d1, d2, d3] }
  | _ => none }
def pairsBesideRow : OpenClaim := { program := "ytnplcephmidjbaadoor", sum := "ba00c721a282cf0fbb1c613f1f782a96904df1d24994617b1bd98cec90f7bcc3", func := "torchon/torchonlaw12.PairsBeside", spec := "pairsBeside", inPlace := ["internal/bytealg.IndexByteString"], unfollowed := true, recurses := true, named := ["math/bits.deBruijn32tab", "math/bits.deBruijn64tab"], apart := false, laid := [("math/bits.deBruijn32tab", laid_math_bits_deBruijn32tab), ("math/bits.deBruijn64tab", laid_math_bits_deBruijn64tab)] }
def PairsBesideSaid : Prop := pairsBesideRow.holds Tryd.pinned (OpenSpec.ofChange pairsBesideSpec)

/-- ITS FALSE NEIGHBOUR: 'it returns false'. Refute it at one input. -/
def pairsBesideWrong : ChangeSpec := { name := "pairsBeside", fn := fun _ => fun
  | [d1, d2, d3] => { results := [.lit (.bool false)], args := [d1, d2, d3] }
  | _ => none }
def PairsBesideWrongFalsely : Prop := pairsBesideRow.holds Tryd.pinned (OpenSpec.ofChange pairsBesideWrong)

/- THE SECOND FORM. 'bulk': how many values and letters a reading holds, each counted each time it is reached (what is shared counts as often as it is met; a slice's spare places count too). A statement '..UptoSaid' is the law's where the arguments, and the package variables that the reading takes, are together of bulk at most 1048576: NARROWER than '..Said'. Prove '..Said' where nothing that the law and all that it calls make is longer than what came in: it says more and counts as full. Else prove '..UptoSaid'. A law counts once. -/
mutual
def uptoBulk {H : Type} : DataW H → Nat
  | .lit (.string bytes) => bytes.length + 1
  | .lit _ => 1
  | .nil => 1
  | .ptr d => uptoBulk d + 1
  | .slice elems spare => uptoBulkAll elems + uptoBulkAll spare + 1
  | .agg parts => uptoBulkAll parts + 1
  | .iface _ d => uptoBulk d + 1
  | .map entries => uptoBulkEntries entries + 1
  | .held _ => 1
def uptoBulkAll {H : Type} : List (DataW H) → Nat
  | [] => 0
  | d :: r => uptoBulk d + uptoBulkAll r
def uptoBulkEntries {H : Type} : List (Lit × DataW H) → Nat
  | [] => 0
  | x :: r => uptoBulkEntry x + uptoBulkEntries r
def uptoBulkEntry {H : Type} : Lit × DataW H → Nat
  | (.string bytes, d) => bytes.length + uptoBulk d + 1
  | (_, d) => uptoBulk d + 1
 end
def uptoSmall : (H : Type) → List (DataW H) → Bool := fun _ ds => decide (uptoBulkAll ds ≤ 1048576)
def OpenSpec.upto (s : _root_.Go.ChangeSpec) : _root_.Go.OpenSpec := { _root_.Go.OpenSpec.ofChange s with cond := some uptoSmall }

/-- 'torchonlaw12.PairsHang', WHERE WHAT IT READS IS OF BULK AT MOST 1048576: true; the input reads as it did. -/
def pairsHangUptoRow : OpenClaim := { program := "ytnplcephmidjbaadoor", sum := "ba00c721a282cf0fbb1c613f1f782a96904df1d24994617b1bd98cec90f7bcc3", func := "torchon/torchonlaw12.PairsHang", spec := "pairsHang", inPlace := ["internal/bytealg.IndexByteString"], unfollowed := true, recurses := true, named := ["math/bits.deBruijn32tab", "math/bits.deBruijn64tab"], apart := false, laid := [("math/bits.deBruijn32tab", laid_math_bits_deBruijn32tab), ("math/bits.deBruijn64tab", laid_math_bits_deBruijn64tab)], narrowed := true }
def PairsHangUptoSaid : Prop := pairsHangUptoRow.holds Tryd.pinned (OpenSpec.upto pairsHangSpec)

/-- 'torchonlaw12.PairsFewest', WHERE WHAT IT READS IS OF BULK AT MOST 1048576: true; the input reads as it did. -/
def pairsFewestUptoRow : OpenClaim := { program := "ytnplcephmidjbaadoor", sum := "ba00c721a282cf0fbb1c613f1f782a96904df1d24994617b1bd98cec90f7bcc3", func := "torchon/torchonlaw12.PairsFewest", spec := "pairsFewest", inPlace := ["internal/bytealg.IndexByteString"], unfollowed := true, recurses := true, named := ["math/bits.deBruijn32tab", "math/bits.deBruijn64tab"], apart := false, laid := [("math/bits.deBruijn32tab", laid_math_bits_deBruijn32tab), ("math/bits.deBruijn64tab", laid_math_bits_deBruijn64tab)], narrowed := true }
def PairsFewestUptoSaid : Prop := pairsFewestUptoRow.holds Tryd.pinned (OpenSpec.upto pairsFewestSpec)

/-- 'torchonlaw12.PairsBound', WHERE WHAT IT READS IS OF BULK AT MOST 1048576: true; the input reads as it did. -/
def pairsBoundUptoRow : OpenClaim := { program := "ytnplcephmidjbaadoor", sum := "ba00c721a282cf0fbb1c613f1f782a96904df1d24994617b1bd98cec90f7bcc3", func := "torchon/torchonlaw12.PairsBound", spec := "pairsBound", inPlace := ["internal/bytealg.IndexByteString"], unfollowed := true, recurses := true, named := ["math/bits.deBruijn32tab", "math/bits.deBruijn64tab"], apart := false, laid := [("math/bits.deBruijn32tab", laid_math_bits_deBruijn32tab), ("math/bits.deBruijn64tab", laid_math_bits_deBruijn64tab)], narrowed := true }
def PairsBoundUptoSaid : Prop := pairsBoundUptoRow.holds Tryd.pinned (OpenSpec.upto pairsBoundSpec)

/-- 'torchonlaw12.PairsLeast', WHERE WHAT IT READS IS OF BULK AT MOST 1048576: true; the input reads as it did. -/
def pairsLeastUptoRow : OpenClaim := { program := "ytnplcephmidjbaadoor", sum := "ba00c721a282cf0fbb1c613f1f782a96904df1d24994617b1bd98cec90f7bcc3", func := "torchon/torchonlaw12.PairsLeast", spec := "pairsLeast", inPlace := ["internal/bytealg.IndexByteString"], unfollowed := true, recurses := true, named := ["math/bits.deBruijn32tab", "math/bits.deBruijn64tab"], apart := false, laid := [("math/bits.deBruijn32tab", laid_math_bits_deBruijn32tab), ("math/bits.deBruijn64tab", laid_math_bits_deBruijn64tab)], narrowed := true }
def PairsLeastUptoSaid : Prop := pairsLeastUptoRow.holds Tryd.pinned (OpenSpec.upto pairsLeastSpec)

/-- 'torchonlaw12.PairsShare', WHERE WHAT IT READS IS OF BULK AT MOST 1048576: true; the input reads as it did. -/
def pairsShareUptoRow : OpenClaim := { program := "ytnplcephmidjbaadoor", sum := "ba00c721a282cf0fbb1c613f1f782a96904df1d24994617b1bd98cec90f7bcc3", func := "torchon/torchonlaw12.PairsShare", spec := "pairsShare", inPlace := ["internal/bytealg.IndexByteString"], unfollowed := true, recurses := true, named := ["math/bits.deBruijn32tab", "math/bits.deBruijn64tab"], apart := false, laid := [("math/bits.deBruijn32tab", laid_math_bits_deBruijn32tab), ("math/bits.deBruijn64tab", laid_math_bits_deBruijn64tab)], narrowed := true }
def PairsShareUptoSaid : Prop := pairsShareUptoRow.holds Tryd.pinned (OpenSpec.upto pairsShareSpec)

/-- 'torchonlaw12.PairsBeside', WHERE WHAT IT READS IS OF BULK AT MOST 1048576: true; the input reads as it did. -/
def pairsBesideUptoRow : OpenClaim := { program := "ytnplcephmidjbaadoor", sum := "ba00c721a282cf0fbb1c613f1f782a96904df1d24994617b1bd98cec90f7bcc3", func := "torchon/torchonlaw12.PairsBeside", spec := "pairsBeside", inPlace := ["internal/bytealg.IndexByteString"], unfollowed := true, recurses := true, named := ["math/bits.deBruijn32tab", "math/bits.deBruijn64tab"], apart := false, laid := [("math/bits.deBruijn32tab", laid_math_bits_deBruijn32tab), ("math/bits.deBruijn64tab", laid_math_bits_deBruijn64tab)], narrowed := true }
def PairsBesideUptoSaid : Prop := pairsBesideUptoRow.holds Tryd.pinned (OpenSpec.upto pairsBesideSpec)

end Rows
end Go.Proofs.YtnplcephmidjbaaDoor
