/-
  DERIVED. GIVEN WITH THE SEED: THE CARDS: each row of YtnplcephmidjbaaDoorRows.lean that lists a variable, with what it lists TIED to the program's text (the seventh form; the later family's looks); each row that meets fmt, with fmt's text TOLD by the authors' own Lean function (tested against real Go, not proved from fmt's source: count such statements apart). THE CARD IS WHAT COUNTS. Prove the row's statement (the work); the ties are given (YtnplcephmidjbaaDoorTie.lean); close each card by the builder's one call (the guide's Derived/Test/ToyasCard.lean, 'card_holds'). Laid BY PROGRAM, IN A SANDBOX (cutbox-door.mjs). By AI agents, Wed Nov 11 2026. No macro, syntax, notation, axiom, sorry.
-/
import Derived.Test.YtnplcephmidjbaaDoorRows
import GoSem.ClaimSeven
namespace Go.Proofs.YtnplcephmidjbaaDoor
namespace Rows

/-- THE TIED CARD OF 'torchonlaw12.PairsHang'. -/
def pairsHangCard : Claim7 := { stood := { row := pairsHangRow, standIns := [], harness := (true, "ac82e884acef33775f49e4e570ab1d80908846facb8897a819cbb9db78e57cda"), looks := false }, kinds := [], alts := [], laidByText := true, laidKinds := [.data, .data], laidTests := true, laidLooks := .later }
def PairsHangCardSaid : Prop := Claim7.holds Tryd.pinned (.plain (OpenSpec.ofChange pairsHangSpec)) pairsHangCard

/-- THE TIED CARD OF 'torchonlaw12.PairsFewest'. -/
def pairsFewestCard : Claim7 := { stood := { row := pairsFewestRow, standIns := [], harness := (true, "ac82e884acef33775f49e4e570ab1d80908846facb8897a819cbb9db78e57cda"), looks := false }, kinds := [], alts := [], laidByText := true, laidKinds := [.data, .data], laidTests := true, laidLooks := .later }
def PairsFewestCardSaid : Prop := Claim7.holds Tryd.pinned (.plain (OpenSpec.ofChange pairsFewestSpec)) pairsFewestCard

/-- THE TIED CARD OF 'torchonlaw12.PairsBound'. -/
def pairsBoundCard : Claim7 := { stood := { row := pairsBoundRow, standIns := [], harness := (true, "ac82e884acef33775f49e4e570ab1d80908846facb8897a819cbb9db78e57cda"), looks := false }, kinds := [], alts := [], laidByText := true, laidKinds := [.data, .data], laidTests := true, laidLooks := .later }
def PairsBoundCardSaid : Prop := Claim7.holds Tryd.pinned (.plain (OpenSpec.ofChange pairsBoundSpec)) pairsBoundCard

/-- THE TIED CARD OF 'torchonlaw12.PairsLeast'. -/
def pairsLeastCard : Claim7 := { stood := { row := pairsLeastRow, standIns := [], harness := (true, "ac82e884acef33775f49e4e570ab1d80908846facb8897a819cbb9db78e57cda"), looks := false }, kinds := [], alts := [], laidByText := true, laidKinds := [.data, .data], laidTests := true, laidLooks := .later }
def PairsLeastCardSaid : Prop := Claim7.holds Tryd.pinned (.plain (OpenSpec.ofChange pairsLeastSpec)) pairsLeastCard

/-- THE TIED CARD OF 'torchonlaw12.PairsShare'. -/
def pairsShareCard : Claim7 := { stood := { row := pairsShareRow, standIns := [], harness := (true, "ac82e884acef33775f49e4e570ab1d80908846facb8897a819cbb9db78e57cda"), looks := false }, kinds := [], alts := [], laidByText := true, laidKinds := [.data, .data], laidTests := true, laidLooks := .later }
def PairsShareCardSaid : Prop := Claim7.holds Tryd.pinned (.plain (OpenSpec.ofChange pairsShareSpec)) pairsShareCard

/-- THE TIED CARD OF 'torchonlaw12.PairsBeside'. -/
def pairsBesideCard : Claim7 := { stood := { row := pairsBesideRow, standIns := [], harness := (true, "ac82e884acef33775f49e4e570ab1d80908846facb8897a819cbb9db78e57cda"), looks := false }, kinds := [], alts := [], laidByText := true, laidKinds := [.data, .data], laidTests := true, laidLooks := .later }
def PairsBesideCardSaid : Prop := Claim7.holds Tryd.pinned (.plain (OpenSpec.ofChange pairsBesideSpec)) pairsBesideCard

/-- THE SECOND FORM's CARD OF 'torchonlaw12.PairsHang'. -/
def pairsHangUptoCard : Claim7 := { stood := { row := pairsHangUptoRow, standIns := [], harness := (true, "ac82e884acef33775f49e4e570ab1d80908846facb8897a819cbb9db78e57cda"), looks := false }, kinds := [], alts := [], laidByText := true, laidKinds := [.data, .data], laidTests := true, laidLooks := .later }
def PairsHangUptoCardSaid : Prop := Claim7.holds Tryd.pinned (.plain (OpenSpec.upto pairsHangSpec)) pairsHangUptoCard

/-- THE SECOND FORM's CARD OF 'torchonlaw12.PairsFewest'. -/
def pairsFewestUptoCard : Claim7 := { stood := { row := pairsFewestUptoRow, standIns := [], harness := (true, "ac82e884acef33775f49e4e570ab1d80908846facb8897a819cbb9db78e57cda"), looks := false }, kinds := [], alts := [], laidByText := true, laidKinds := [.data, .data], laidTests := true, laidLooks := .later }
def PairsFewestUptoCardSaid : Prop := Claim7.holds Tryd.pinned (.plain (OpenSpec.upto pairsFewestSpec)) pairsFewestUptoCard

/-- THE SECOND FORM's CARD OF 'torchonlaw12.PairsBound'. -/
def pairsBoundUptoCard : Claim7 := { stood := { row := pairsBoundUptoRow, standIns := [], harness := (true, "ac82e884acef33775f49e4e570ab1d80908846facb8897a819cbb9db78e57cda"), looks := false }, kinds := [], alts := [], laidByText := true, laidKinds := [.data, .data], laidTests := true, laidLooks := .later }
def PairsBoundUptoCardSaid : Prop := Claim7.holds Tryd.pinned (.plain (OpenSpec.upto pairsBoundSpec)) pairsBoundUptoCard

/-- THE SECOND FORM's CARD OF 'torchonlaw12.PairsLeast'. -/
def pairsLeastUptoCard : Claim7 := { stood := { row := pairsLeastUptoRow, standIns := [], harness := (true, "ac82e884acef33775f49e4e570ab1d80908846facb8897a819cbb9db78e57cda"), looks := false }, kinds := [], alts := [], laidByText := true, laidKinds := [.data, .data], laidTests := true, laidLooks := .later }
def PairsLeastUptoCardSaid : Prop := Claim7.holds Tryd.pinned (.plain (OpenSpec.upto pairsLeastSpec)) pairsLeastUptoCard

/-- THE SECOND FORM's CARD OF 'torchonlaw12.PairsShare'. -/
def pairsShareUptoCard : Claim7 := { stood := { row := pairsShareUptoRow, standIns := [], harness := (true, "ac82e884acef33775f49e4e570ab1d80908846facb8897a819cbb9db78e57cda"), looks := false }, kinds := [], alts := [], laidByText := true, laidKinds := [.data, .data], laidTests := true, laidLooks := .later }
def PairsShareUptoCardSaid : Prop := Claim7.holds Tryd.pinned (.plain (OpenSpec.upto pairsShareSpec)) pairsShareUptoCard

/-- THE SECOND FORM's CARD OF 'torchonlaw12.PairsBeside'. -/
def pairsBesideUptoCard : Claim7 := { stood := { row := pairsBesideUptoRow, standIns := [], harness := (true, "ac82e884acef33775f49e4e570ab1d80908846facb8897a819cbb9db78e57cda"), looks := false }, kinds := [], alts := [], laidByText := true, laidKinds := [.data, .data], laidTests := true, laidLooks := .later }
def PairsBesideUptoCardSaid : Prop := Claim7.holds Tryd.pinned (.plain (OpenSpec.upto pairsBesideSpec)) pairsBesideUptoCard
end Rows
end Go.Proofs.YtnplcephmidjbaaDoor
