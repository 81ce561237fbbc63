/- A region with calls that make memory. -/
import Derived.Test.YtepdgffccfcfpaaApp1
import Derived.Deep.RegionHeld3
namespace Go.Proofs.Ytepdgffccfcfpaa
open Go.RowKit
theorem bcell2 {w0 w1 : World} (h : Below w0.heap.size w0 w1) : Below w0.heap.size w0 w1 ∧ (∀ b o, b < w0.heap.size → w1.cell? ⟨b, o, none⟩ = w0.cell? ⟨b, o, none⟩) ∧ w0.heap.size ≤ w1.heap.size := ⟨h, fun b o hb => h.cell (p := ⟨b, o, none⟩) hb, h.size⟩
end Go.Proofs.Ytepdgffccfcfpaa
