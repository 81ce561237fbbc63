/- How many orders there are: counted over sets of works, with a limit. Plain functions. -/
import Derived.Test.YtifpkdajfdlgeaaSpec
namespace Go.Proofs.Ytifpkdajfdlgeaa

def freeB (bef : Nat → Nat) (s i : Nat) : Bool := !s.testBit i && decide (bef i &&& s = bef i)
def accF (g : Nat → Int) (bef : Nat → Nat) (s : Nat) : Nat → Int
  | 0 => 0
  | k + 1 => if freeB bef s k = true then min (accF g bef s k + g (s ||| 2 ^ k)) 1000000001 else accF g bef s k
def cntF (n : Nat) (bef : Nat → Nat) : Nat → Nat → Int
  | 0, _ => 0
  | f + 1, s => if s = 2 ^ n - 1 then 1 else accF (cntF n bef f) bef s n
/-- How many orders of the rest there are, at most one more than the limit. -/
def cntN (n : Nat) (bef : Nat → Nat) (s : Nat) : Int := cntF n bef (n + 1) s
/-- The works that are not done. -/
def miss (n s : Nat) : Nat := (List.range n).countP fun i => !s.testBit i

theorem testBit_set (s k i : Nat) : (s ||| 2 ^ k).testBit i = (s.testBit i || decide (k = i)) := by
  rw [Nat.testBit_or, Nat.testBit_two_pow]
theorem miss_le (n s : Nat) : miss n s ≤ n := by
  unfold miss; have := List.countP_le_length (p := fun i => !s.testBit i) (l := List.range n); simpa using this
theorem countP_lt {l : List Nat} {p q : Nat → Bool} {k : Nat} (hk : k ∈ l) (hpq : ∀ i, q i = true → p i = true) (h1 : p k = true) (h2 : q k = false) : l.countP q < l.countP p := by
  induction l with
  | nil => cases hk
  | cons a l ih =>
    have hle : l.countP q ≤ l.countP p := List.countP_mono_left fun i _ h => hpq i h
    rw [List.countP_cons, List.countP_cons]
    rcases List.mem_cons.1 hk with rfl | hk
    · rw [h1, h2]; simp; omega
    · have := ih hk
      by_cases hq : q a = true
      · rw [hq, hpq a hq]; simp; omega
      · have hq' : q a = false := by simpa using hq
        rw [hq']; simp; split <;> omega
theorem miss_set {n s k : Nat} (hk : k < n) (h : s.testBit k = false) : miss n (s ||| 2 ^ k) < miss n s := by
  unfold miss
  refine countP_lt (k := k) (by simpa using hk) (fun i hi => ?_) (by simp [h]) (by simp)
  simp only [testBit_set, Bool.not_or, Bool.and_eq_true] at hi
  exact hi.1
theorem freeB_bit {bef : Nat → Nat} {s k : Nat} (h : freeB bef s k = true) : s.testBit k = false := by
  unfold freeB at h; simp at h; exact h.1
theorem accF_congr {g g' : Nat → Int} {bef : Nat → Nat} {s : Nat} : ∀ n, (∀ k, k < n → freeB bef s k = true → g (s ||| 2 ^ k) = g' (s ||| 2 ^ k)) → accF g bef s n = accF g' bef s n
  | 0, _ => rfl
  | k + 1, h => by
    have := accF_congr (g := g) (g' := g') (bef := bef) (s := s) k (fun j hj => h j (by omega))
    unfold accF
    split
    · rename_i hf; rw [this, h k (by omega) hf]
    · exact this
theorem cntF_stable (n : Nat) (bef : Nat → Nat) : ∀ f f' s, miss n s < f → miss n s < f' → cntF n bef f s = cntF n bef f' s
  | 0, _, _, h, _ => absurd h (by omega)
  | _ + 1, 0, _, _, h => absurd h (by omega)
  | f + 1, f' + 1, s, h, h' => by
    unfold cntF
    split
    · rfl
    · refine accF_congr n fun k hk hf => ?_
      have := miss_set hk (freeB_bit hf)
      exact cntF_stable n bef f f' _ (by omega) (by omega)
theorem cntN_full (n : Nat) (bef : Nat → Nat) : cntN n bef (2 ^ n - 1) = 1 := by unfold cntN cntF; rw [if_pos rfl]
theorem cntN_step (n : Nat) (bef : Nat → Nat) (s : Nat) (h : s ≠ 2 ^ n - 1) : cntN n bef s = accF (cntN n bef) bef s n := by
  unfold cntN
  rw [cntF, if_neg h]
  refine accF_congr n fun k hk hf => ?_
  have := miss_set hk (freeB_bit hf)
  have := miss_le n s
  exact cntF_stable n bef _ _ _ (by omega) (by omega)
theorem accF_bounds {g : Nat → Int} {bef : Nat → Nat} {s : Nat} (hg : ∀ t, 0 ≤ g t) : ∀ n, 0 ≤ accF g bef s n ∧ accF g bef s n ≤ 1000000001
  | 0 => by unfold accF; omega
  | k + 1 => by
    have := accF_bounds (bef := bef) (s := s) hg k
    have := hg (s ||| 2 ^ k)
    unfold accF
    split <;> omega
theorem cntF_bounds (n : Nat) (bef : Nat → Nat) : ∀ f s, 0 ≤ cntF n bef f s ∧ cntF n bef f s ≤ 1000000001
  | 0, _ => by unfold cntF; omega
  | f + 1, s => by
    unfold cntF
    split
    · omega
    · exact accF_bounds (fun t => (cntF_bounds n bef f t).1) n
theorem cntN_bounds (n : Nat) (bef : Nat → Nat) (s : Nat) : 0 ≤ cntN n bef s ∧ cntN n bef s ≤ 1000000001 := cntF_bounds n bef _ s
end Go.Proofs.Ytifpkdajfdlgeaa
