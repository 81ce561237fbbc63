/- How far each work is, found backwards as the reference does: plain. -/
import Derived.Test.YtepdgffccfcfpaaChn
namespace Go.Proofs.Ytepdgffccfcfpaa

/-- A number in the list of the reference: 0 for none, or the steps. -/
def FarOk (T : Nat → Nat → Bool) (b : Nat) (v : Int) (j : Nat) : Prop := (v = 0 ∧ ∀ n, ¬ Rch T b (n + 1) j) ∨ ∃ n : Nat, v = n + 1 ∧ Dst T b (n + 1) j
/-- The same, of the works before k alone. -/
def PartI (T : Nat → Nat → Bool) (b i k : Nat) (v : Int) : Prop :=
  (v = 0 ∧ ∀ x, i < x → x < k → T i x = true → ∀ n, ¬ Dst T b n x) ∨
  ∃ n : Nat, v = n + 1 ∧ (∃ x, i < x ∧ x < k ∧ x ≤ b ∧ T i x = true ∧ Dst T b n x) ∧ ∀ x, i < x → x < k → T i x = true → ∀ m, Dst T b m x → n ≤ m
/-- Is the work k nearer by so many? As the list says it. -/
def Near (b k : Nat) (v : Int) : Prop := k = b ∨ 0 < v
section
variable {T : Nat → Nat → Bool} {b : Nat}
theorem partI_start (i : Nat) : PartI T b i (i + 1) 0 := .inl ⟨rfl, fun x h1 h2 => by omega⟩
/-- What the list holds of k, read as a distance. -/
theorem near_dst {k : Nat} {v : Int} (hk : k ≤ b) (hv : k = b → v = 0) (hf : k < b → FarOk T b v k) : (Near b k v ∧ ∃ n : Nat, v = n ∧ Dst T b n k) ∨ (¬ Near b k v ∧ v = 0 ∧ ∀ n, ¬ Dst T b n k) := by
  by_cases h : k = b
  · exact .inl ⟨.inl h, 0, by rw [hv h]; rfl, dst_zero.2 h⟩
  · rcases hf (by omega) with ⟨h1, h2⟩ | ⟨n, h1, h2⟩
    · refine .inr ⟨fun hn => by rcases hn with hn | hn <;> omega, h1, fun n hd => ?_⟩
      rcases n with _ | n
      · exact h (dst_zero.1 hd)
      · exact h2 n hd.1
    · exact .inl ⟨.inr (by omega), n + 1, by omega, h2⟩
theorem partI_skip {i k : Nat} {v : Int} (h : PartI T b i k v) (hs : T i k = true → ∀ n, ¬ Dst T b n k) : PartI T b i (k + 1) v := by
  have key : ∀ x, x < k + 1 → x < k ∨ x = k := fun x h => by omega
  rcases h with ⟨h1, h2⟩ | ⟨n, h1, ⟨x, g1, g2, g3, g4, g5⟩, h3⟩
  · exact .inl ⟨h1, fun x q1 q2 q3 => by
      rcases key x q2 with e | e
      · exact h2 x q1 e q3
      · subst e; exact hs q3⟩
  · exact .inr ⟨n, h1, ⟨x, g1, by omega, g3, g4, g5⟩, fun y q1 q2 q3 m q4 => by
      rcases key y q2 with e | e
      · exact h3 y q1 e q3 m q4
      · subst e; exact absurd q4 (hs q3 m)⟩
theorem partI_more {i k n : Nat} {v : Int} (h : PartI T b i k v) (hd : Dst T b n k) (hv : v ≠ 0) (hm : ¬ (n : Int) + 1 < v) : PartI T b i (k + 1) v := by
  rcases h with ⟨h1, _⟩ | ⟨n', h1, ⟨x, g1, g2, g3, g4, g5⟩, h3⟩
  · exact absurd h1 hv
  · refine .inr ⟨n', h1, ⟨x, g1, by omega, g3, g4, g5⟩, fun y q1 q2 q3 m q4 => ?_⟩
    by_cases e : y = k
    · subst e
      have := dst_uniq hd q4
      omega
    · exact h3 y q1 (by omega) q3 m q4
theorem partI_put {i k n : Nat} {v : Int} (h : PartI T b i k v) (hik : i < k) (hkb : k ≤ b) (ht : T i k = true) (hd : Dst T b n k) (hm : v = 0 ∨ (n : Int) + 1 < v) : PartI T b i (k + 1) ((n : Int) + 1) := by
  refine .inr ⟨n, rfl, ⟨k, hik, by omega, hkb, ht, hd⟩, fun y q1 q2 q3 m q4 => ?_⟩
  by_cases e : y = k
  · subst e
    have := dst_uniq hd q4
    omega
  · rcases h with ⟨h1, h2⟩ | ⟨n', h1, _, h3⟩
    · exact absurd q4 (h2 y q1 (by omega) q3 m)
    · have := h3 y q1 (by omega) q3 m q4
      omega
theorem partI_end {i : Nat} {v : Int} (hi : i < b) (h : PartI T b i (b + 1) v) : FarOk T b v i := by
  rcases h with ⟨h1, h2⟩ | ⟨n, h1, ⟨x, g1, g2, g3, g4, g5⟩, h3⟩
  · refine .inl ⟨h1, fun n hr => ?_⟩
    obtain ⟨k, q1, q2, q3, q4⟩ := hr
    obtain ⟨m, _, hd⟩ := dst_of_rch q4
    exact h2 k q1 (by omega) q3 m hd
  · refine .inr ⟨n, h1, ⟨x, g1, g3, g4, g5.1⟩, fun m hm hr => ?_⟩
    rcases m with _ | m
    · have : i = b := hr
      omega
    · obtain ⟨k, q1, q2, q3, q4⟩ := hr
      obtain ⟨m', hm', hd⟩ := dst_of_rch q4
      have := h3 k q1 (by omega) q3 m' hd
      omega
end
end Go.Proofs.Ytepdgffccfcfpaa
