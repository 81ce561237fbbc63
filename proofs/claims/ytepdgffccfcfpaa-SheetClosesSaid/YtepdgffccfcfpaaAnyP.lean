/- In whatever order the works are done, each one finds its edges: plain. -/
import Derived.Test.YtepdgffccfcfpaaREdges
import Derived.Test.YtepdgffccfcfpaaROrder
import Derived.Test.YtepdgffccfcfpaaSLine
namespace Go.Proofs.Ytepdgffccfcfpaa
open Go.RowKit

/-- The works that are done and take the place are before f, and the last of them is f - 1. -/
def LastS (pls : Nat → Nat) (S q f : Nat) : Prop := (∀ t, S.testBit t = true → tk pls t q → t < f) ∧ (f = 0 ∨ S.testBit (f - 1) = true ∧ tk pls (f - 1) q)
/-- The line after a set of works. -/
def LnS (P n : Nat) (pls : Nat → Nat) (S : Nat) (g : Nat → Int) : Prop :=
  ∀ q, q < P → ∃ (i f : Nat) (fr out : Int), g q = (i : Int) ∧ Sta P pls i f q fr out ∧ f ≤ n ∧ LastS pls S q f
section
variable {P n : Nat} {pls : Nat → Nat}
theorem lnS_start {g : Nat → Int} (hg : ∀ q, q < P → g q = (q : Int)) : LnS P n pls 0 g := fun q hq =>
  ⟨q, 0, -1, q, hg q hq, .inl ⟨hq, rfl, rfl, rfl, rfl⟩, Nat.zero_le _, fun t h => by simp at h, .inl rfl⟩
theorem sta_lt {i f q : Nat} {fr out : Int} (h : Sta P pls i f q fr out) (hf : f ≤ n) : i < P + 2 * n := by
  rcases h with ⟨h1, _⟩ | ⟨j, sd, h1, h2, h3, _⟩ <;> omega
/-- The work that is done next is the one where the edges in its places end. -/
theorem lnS_next {S k q f : Nat} (hc : ClS pls S) (hk : S.testBit k = false) (hb : ∀ a, a < k → tP (pls a) (pls k) = true → S.testBit a = true) (hq : tk pls k q) (hl : LastS pls S q f) : f ≤ k ∧ Free pls f k q := by
  obtain ⟨h1, h2⟩ := hl
  have hfk : f ≤ k := by
    rcases h2 with h2 | ⟨h2, h3⟩
    · omega
    · rcases Nat.lt_or_ge k f with h | h
      · by_cases e : f - 1 = k
        · rw [e, hk] at h2; cases h2
        · have := hc (f - 1) h2 k (.one (by omega) (tk_touch hq h3))
          rw [hk] at this; cases this
      · exact h
  refine ⟨hfk, fun t ht htk htq => ?_⟩
  have := h1 t (hb t htk (tk_touch htq hq)) htq
  omega
theorem lnS_put {S k : Nat} {g g' : Nat → Int} (hc : ClS pls S) (hk : S.testBit k = false) (hkn : k < n) (h : LnS P n pls S g)
    (h0 : g' (pls k) = (P : Int) + 2 * k + (0 : Nat)) (h1 : g' (pls k + 1) = (P : Int) + 2 * k + (1 : Nat)) (ho : ∀ q, ¬ tk pls k q → g' q = g q) : LnS P n pls (S ||| 2 ^ k) g' := fun q hq => by
  have hbit : ∀ t, (S ||| 2 ^ k).testBit t = true ↔ S.testBit t = true ∨ k = t := fun t => by
    rw [Nat.testBit_or, Nat.testBit_two_pow, Bool.or_eq_true, decide_eq_true_eq]
  by_cases hq2 : tk pls k q
  · have hlast : LastS pls (S ||| 2 ^ k) q (k + 1) := ⟨fun t ht htq => by
      rcases (hbit t).1 ht with h2 | h2
      · rcases Nat.lt_or_ge k t with h3 | h3
        · have := hc t h2 k (.one h3 (tk_touch hq2 htq))
          rw [hk] at this; cases this
        · omega
      · omega, .inr ⟨by rw [Nat.add_sub_cancel]; exact (hbit k).2 (.inr rfl), by rw [Nat.add_sub_cancel]; exact hq2⟩⟩
    rcases hq2 with e | e
    · subst e
      exact ⟨P + 2 * k + 0, k + 1, k, (0 : Nat), by rw [h0]; omega, .inr ⟨k, 0, by omega, rfl, rfl, rfl, rfl, rfl⟩, by omega, hlast⟩
    · subst e
      exact ⟨P + 2 * k + 1, k + 1, k, (1 : Nat), by rw [h1]; omega, .inr ⟨k, 1, by omega, rfl, rfl, rfl, rfl, rfl⟩, by omega, hlast⟩
  · obtain ⟨i, f, fr, out, g1, g2, g3, g4, g5⟩ := h q hq
    refine ⟨i, f, fr, out, by rw [ho q hq2]; exact g1, g2, g3, fun t ht htq => ?_, ?_⟩
    · rcases (hbit t).1 ht with h2 | h2
      · exact g4 t h2 htq
      · subst h2; exact absurd htq hq2
    · rcases g5 with g5 | ⟨g5, g6⟩
      · exact .inl g5
      · exact .inr ⟨(hbit _).2 (.inl g5), g6⟩
theorem popB_all {S : Nat} : ∀ {n : Nat}, popB S n = n → ∀ t, t < n → S.testBit t = true
  | 0, _ => fun t h => by omega
  | n + 1, h => fun t ht => by
    have hle := popB_le S n
    have he : popB S (n + 1) = popB S n + if S.testBit n = true then 1 else 0 := rfl
    rw [he] at h
    split at h
    · rename_i hb
      by_cases e : t = n
      · subst e; exact hb
      · exact popB_all (n := n) (by omega) t (by omega)
    · omega
end
/-- What an edge in a place is, read of the edges. -/
theorem edG_at {P : Nat} {ws : List GW} {i f q : Nat} {fr out tw inn : Int} (hok : errSheet P ws = 0) (hq : q < P) (hst : Sta P (plsOf ws) i f q fr out) (hf : f ≤ ws.length) (he : EndsAt (plsOf ws) f ws.length q tw inn) : edG P ws i = ⟨fr, out, tw, inn⟩ := by
  obtain ⟨_, _, _, hall⟩ := okAll hok
  obtain ⟨tw', inn', h1, h2⟩ := all_ends (n := ws.length) (pls_le (fun x hx => ⟨(hall x hx).2.1, (hall x hx).2.2.1⟩)) hq hst hf
  obtain ⟨rfl, rfl⟩ := endsAt_uniq he h2
  exact h1
theorem edG_born {P : Nat} {ws : List GW} {i f q : Nat} {fr out : Int} (hok : errSheet P ws = 0) (hq : q < P) (hst : Sta P (plsOf ws) i f q fr out) (hf : f ≤ ws.length) : (edG P ws i).fr = fr ∧ (edG P ws i).out = out := by
  obtain ⟨_, _, _, hall⟩ := okAll hok
  obtain ⟨tw', inn', h1, h2⟩ := all_ends (n := ws.length) (pls_le (fun x hx => ⟨(hall x hx).2.1, (hall x hx).2.2.1⟩)) hq hst hf
  have : edG P ws i = ⟨fr, out, tw', inn'⟩ := h1
  rw [this]
  exact ⟨rfl, rfl⟩
/-- Every work is done at the end of an order. -/
theorem oRun_full {P : Nat} {ws : List GW} {l : List Int} {S : Nat} (hn : ws.length ≤ 400) (h : oRun ws.length (plsOf ws) 0 l = some S) (hl : l.length = ws.length) : ∀ t, t < ws.length → S.testBit t = true := by
  have h1 := re_oRun (P := P) hn l 0 (fun b hb => by simp at hb)
  rw [h] at h1
  have h2 := reRun_pop _ _ l 0 S h1
  rw [popB_zero] at h2
  exact popB_all (n := ws.length) (by omega)
theorem oRun_cl {n : Nat} {pls : Nat → Nat} {S S' : Nat} {x : Int} (hc : ClS pls S) (h : oStep n pls S x = some S') : ClS pls S' := by
  obtain ⟨⟨_, _, _, h4⟩, rfl⟩ := oStep_some h
  exact hc.put ((bef_touch hc).2 h4)
end Go.Proofs.Ytepdgffccfcfpaa
