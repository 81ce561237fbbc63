/- A valid sheet, part by part. -/
import Derived.Test.YtepdgffccfcfpaaBase
import Derived.Test.YtepdgffccfcfpaaSpec
namespace Go.Proofs.Ytepdgffccfcfpaa
open Go.RowKit

theorem okAll {p : Int} {ws : List GW} (h : errSheet p ws = 0) : 2 ≤ p ∧ p ≤ 24 ∧ ws.length ≤ 400 ∧ ∀ x ∈ ws, x.word.size ≤ 16 ∧ 0 ≤ x.pl ∧ x.pl ≤ p - 2 ∧ formW x.word = false := by
  unfold errSheet at h
  split at h
  · omega
  · rename_i h1
    split at h
    · omega
    · rename_i h2
      split at h
      · omega
      · rename_i h3
        split at h
        · omega
        · rename_i h4
          refine ⟨by omega, by omega, by omega, fun x hx => ?_⟩
          have e1 := List.any_eq_false.1 (by simpa using (show ¬ ws.any longW = true from fun h => h1 (.inr (.inr h)))) x hx
          have e3 := List.any_eq_false.1 (by simpa using h3) x hx
          have e4 := List.any_eq_false.1 (by simpa using h4) x hx
          unfold longW at e1
          unfold badW at e3
          simp only [decide_eq_true_eq, not_or] at e1 e3
          exact ⟨by omega, by omega, by omega, by simpa using e4⟩
theorem rdW_lt {w : World} {A : Option Addr} {ws : List GW} (h : RdW w A ws) (h0 : 0 < ws.length) (b off : Nat) (e : A = some ⟨b, off, none⟩) : b < w.heap.size := by
  obtain ⟨b', off', e', hlt, _⟩ := h.2.2 (by omega)
  rw [e] at e'
  have := congrArg Addr.block (Option.some.inj e')
  simp at this
  omega
def Box1 (w w1 : World) (p : Int) (A : Option Addr) (c n : Nat) : Prop :=
  w1.cell? ⟨w.heap.size, 0, none⟩ = some (.int .i64 p) ∧ w1.cell? ⟨w.heap.size, 1, none⟩ = some (.slice A n c) ∧ w.heap.size < w1.heap.size
theorem Box1.later {w w1 w2 : World} {p : Int} {A : Option Addr} {c n : Nat} (h : Box1 w w1 p A c n) (hb : Below w1.heap.size w1 w2) : Box1 w w2 p A c n :=
  ⟨below_at hb (Nat.le_refl _) h.1, below_at hb (Nat.le_refl _) h.2.1, Nat.lt_of_lt_of_le h.2.2 hb.size⟩
theorem Box1.made (w : World) (p : Int) (A : Option Addr) (c n T : Nat) : Box1 w (w.alloc (.cells #[.int .i64 p, .slice A n c] T)) p A c n :=
  ⟨by go_simp, by go_simp, by simp⟩
end Go.Proofs.Ytepdgffccfcfpaa
