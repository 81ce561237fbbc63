/-
  DERIVED. GIVEN WITH THE SEED: THE CARDS: each row of YtlpfecjkkgccgaaDoorRows.lean that lists a variable, with what it lists TIED to the program's text (the seventh form; the later family's looks); each row that meets fmt, with fmt's text TOLD by the authors' own Lean function (tested against real Go, not proved from fmt's source: count such statements apart). THE CARD IS WHAT COUNTS. Prove the row's statement (the work); the ties are given (YtlpfecjkkgccgaaDoorTie.lean); close each card by the builder's one call (the guide's Derived/Test/ToyasCard.lean, 'card_holds'). Laid BY PROGRAM, IN A SANDBOX (cutbox-door.mjs). By AI agents, Wed Nov 11 2026. No macro, syntax, notation, axiom, sorry.
-/
import Derived.Test.YtlpfecjkkgccgaaDoorRows
import GoSem.ClaimSeven
namespace Go.Proofs.YtlpfecjkkgccgaaDoor
namespace Rows

/-- THE TIED CARD OF 'torchonlaw13.OrderLeast'. -/
def orderLeastCard : Claim7 := { stood := { row := orderLeastRow, standIns := [], harness := (true, "0bfa4ebe3e2e9ee9d7806f5e1e2aee7eb1302b36a9c4555fcd637c8393ef9efe"), looks := true }, kinds := [], alts := [], laidByText := true, laidKinds := [.data, .data], laidTests := true, laidLooks := .later }
def OrderLeastCardSaid : Prop := Claim7.holds Tryd.pinned (.plain (OpenSpec.ofChange orderLeastSpec)) orderLeastCard

/-- THE TIED CARD OF 'torchonlaw13.OrderCounts'. -/
def orderCountsCard : Claim7 := { stood := { row := orderCountsRow, standIns := [], harness := (true, "0bfa4ebe3e2e9ee9d7806f5e1e2aee7eb1302b36a9c4555fcd637c8393ef9efe"), looks := true }, kinds := [], alts := [], laidByText := true, laidKinds := [.data, .data], laidTests := true, laidLooks := .later }
def OrderCountsCardSaid : Prop := Claim7.holds Tryd.pinned (.plain (OpenSpec.ofChange orderCountsSpec)) orderCountsCard

/-- THE TIED CARD OF 'torchonlaw13.OrderEither'. -/
def orderEitherCard : Claim7 := { stood := { row := orderEitherRow, standIns := [], harness := (true, "0bfa4ebe3e2e9ee9d7806f5e1e2aee7eb1302b36a9c4555fcd637c8393ef9efe"), looks := true }, kinds := [], alts := [], laidByText := true, laidKinds := [.data, .data], laidTests := true, laidLooks := .later }
def OrderEitherCardSaid : Prop := Claim7.holds Tryd.pinned (.plain (OpenSpec.ofChange orderEitherSpec)) orderEitherCard

/-- THE TIED CARD OF 'torchonlaw13.OrderWishes'. -/
def orderWishesCard : Claim7 := { stood := { row := orderWishesRow, standIns := [], harness := (true, "0bfa4ebe3e2e9ee9d7806f5e1e2aee7eb1302b36a9c4555fcd637c8393ef9efe"), looks := true }, kinds := [], alts := [], laidByText := true, laidKinds := [.data, .data], laidTests := true, laidLooks := .later }
def OrderWishesCardSaid : Prop := Claim7.holds Tryd.pinned (.plain (OpenSpec.ofChange orderWishesSpec)) orderWishesCard

/-- THE TIED CARD OF 'torchonlaw13.OrderNear'. -/
def orderNearCard : Claim7 := { stood := { row := orderNearRow, standIns := [], harness := (true, "0bfa4ebe3e2e9ee9d7806f5e1e2aee7eb1302b36a9c4555fcd637c8393ef9efe"), looks := true }, kinds := [], alts := [], laidByText := true, laidKinds := [.data, .data], laidTests := true, laidLooks := .later }
def OrderNearCardSaid : Prop := Claim7.holds Tryd.pinned (.plain (OpenSpec.ofChange orderNearSpec)) orderNearCard

/-- THE TIED CARD OF 'torchonlaw13.OrderAll'. -/
def orderAllCard : Claim7 := { stood := { row := orderAllRow, standIns := [], harness := (true, "0bfa4ebe3e2e9ee9d7806f5e1e2aee7eb1302b36a9c4555fcd637c8393ef9efe"), looks := true }, kinds := [], alts := [], laidByText := true, laidKinds := [.data, .data], laidTests := true, laidLooks := .later }
def OrderAllCardSaid : Prop := Claim7.holds Tryd.pinned (.plain (OpenSpec.ofChange orderAllSpec)) orderAllCard

/-- THE SECOND FORM's CARD OF 'torchonlaw13.OrderLeast'. -/
def orderLeastUptoCard : Claim7 := { stood := { row := orderLeastUptoRow, standIns := [], harness := (true, "0bfa4ebe3e2e9ee9d7806f5e1e2aee7eb1302b36a9c4555fcd637c8393ef9efe"), looks := true }, kinds := [], alts := [], laidByText := true, laidKinds := [.data, .data], laidTests := true, laidLooks := .later }
def OrderLeastUptoCardSaid : Prop := Claim7.holds Tryd.pinned (.plain (OpenSpec.upto orderLeastSpec)) orderLeastUptoCard

/-- THE SECOND FORM's CARD OF 'torchonlaw13.OrderCounts'. -/
def orderCountsUptoCard : Claim7 := { stood := { row := orderCountsUptoRow, standIns := [], harness := (true, "0bfa4ebe3e2e9ee9d7806f5e1e2aee7eb1302b36a9c4555fcd637c8393ef9efe"), looks := true }, kinds := [], alts := [], laidByText := true, laidKinds := [.data, .data], laidTests := true, laidLooks := .later }
def OrderCountsUptoCardSaid : Prop := Claim7.holds Tryd.pinned (.plain (OpenSpec.upto orderCountsSpec)) orderCountsUptoCard

/-- THE SECOND FORM's CARD OF 'torchonlaw13.OrderEither'. -/
def orderEitherUptoCard : Claim7 := { stood := { row := orderEitherUptoRow, standIns := [], harness := (true, "0bfa4ebe3e2e9ee9d7806f5e1e2aee7eb1302b36a9c4555fcd637c8393ef9efe"), looks := true }, kinds := [], alts := [], laidByText := true, laidKinds := [.data, .data], laidTests := true, laidLooks := .later }
def OrderEitherUptoCardSaid : Prop := Claim7.holds Tryd.pinned (.plain (OpenSpec.upto orderEitherSpec)) orderEitherUptoCard

/-- THE SECOND FORM's CARD OF 'torchonlaw13.OrderWishes'. -/
def orderWishesUptoCard : Claim7 := { stood := { row := orderWishesUptoRow, standIns := [], harness := (true, "0bfa4ebe3e2e9ee9d7806f5e1e2aee7eb1302b36a9c4555fcd637c8393ef9efe"), looks := true }, kinds := [], alts := [], laidByText := true, laidKinds := [.data, .data], laidTests := true, laidLooks := .later }
def OrderWishesUptoCardSaid : Prop := Claim7.holds Tryd.pinned (.plain (OpenSpec.upto orderWishesSpec)) orderWishesUptoCard

/-- THE SECOND FORM's CARD OF 'torchonlaw13.OrderNear'. -/
def orderNearUptoCard : Claim7 := { stood := { row := orderNearUptoRow, standIns := [], harness := (true, "0bfa4ebe3e2e9ee9d7806f5e1e2aee7eb1302b36a9c4555fcd637c8393ef9efe"), looks := true }, kinds := [], alts := [], laidByText := true, laidKinds := [.data, .data], laidTests := true, laidLooks := .later }
def OrderNearUptoCardSaid : Prop := Claim7.holds Tryd.pinned (.plain (OpenSpec.upto orderNearSpec)) orderNearUptoCard

/-- THE SECOND FORM's CARD OF 'torchonlaw13.OrderAll'. -/
def orderAllUptoCard : Claim7 := { stood := { row := orderAllUptoRow, standIns := [], harness := (true, "0bfa4ebe3e2e9ee9d7806f5e1e2aee7eb1302b36a9c4555fcd637c8393ef9efe"), looks := true }, kinds := [], alts := [], laidByText := true, laidKinds := [.data, .data], laidTests := true, laidLooks := .later }
def OrderAllUptoCardSaid : Prop := Claim7.holds Tryd.pinned (.plain (OpenSpec.upto orderAllSpec)) orderAllUptoCard
end Rows
end Go.Proofs.YtlpfecjkkgccgaaDoor
