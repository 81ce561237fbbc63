/- Texts of this claim, laid together: RSame4. -/
import Derived.Test.YtnplcephmidjbaaDoorMaA
import Derived.Test.YtnplcephmidjbaaDoorRows
/- The reference's Same, at two sheets that are the same. -/
namespace Go.Proofs.YtnplcephmidjbaaDoor
open Go.RowKit

def BoxS (w w1 : World) (p q : Int) (A B : Option Addr) (c d n m : Nat) : Prop :=
  w1.cell? ⟨w.heap.size, 0, none⟩ = some (.int .i64 p) ∧ w1.cell? ⟨w.heap.size, 1, none⟩ = some (.slice A n c) ∧ w1.cell? ⟨w.heap.size + 1, 0, none⟩ = some (.int .i64 q) ∧ w1.cell? ⟨w.heap.size + 1, 1, none⟩ = some (.slice B m d) ∧ w.heap.size < w1.heap.size ∧ w.heap.size + 1 < w1.heap.size
theorem BoxS.later {w w1 w2 : World} {p q : Int} {A B : Option Addr} {c d n m : Nat} (h : BoxS w w1 p q A B c d n m) (hb : Below w1.heap.size w1 w2) : BoxS w w2 p q A B c d n m :=
  ⟨below_at hb (Nat.le_refl _) h.1, below_at hb (Nat.le_refl _) h.2.1, below_at hb (Nat.le_refl _) h.2.2.1, below_at hb (Nat.le_refl _) h.2.2.2.1, Nat.lt_of_lt_of_le h.2.2.2.2.1 hb.size, Nat.lt_of_lt_of_le h.2.2.2.2.2 hb.size⟩
theorem BoxS.made (w : World) (p q : Int) (A B : Option Addr) (c d n m : Nat) : BoxS w ((w.alloc (.cells #[.int .i64 p, .slice A n c] 24)).alloc (.cells #[.int .i64 q, .slice B m d] 24)) p q A B c d n m :=
  ⟨by go_simp, by go_simp, by go_simp, by go_simp, by simp; omega, by simp⟩

end Go.Proofs.YtnplcephmidjbaaDoor
