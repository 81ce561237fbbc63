/- What a chain's answer is; small laws on lists of the call's own. -/
import Derived.Test.YtepdgffccfcfpaaChn
import Derived.Test.YtepdgffccfcfpaaHeld
import Derived.Test.YtepdgffccfcfpaaMapI
import Derived.Test.YtepdgffccfcfpaaSBefore
namespace Go.Proofs.Ytepdgffccfcfpaa
open Go.RowKit

def tch (ws : List GW) (i k : Nat) : Bool := touchB (ws.getD i gwE).pl (ws.getD k gwE).pl
def castL (l : List Nat) : List Int := l.map fun (i : Nat) => (i : Int)
/-- What Chain answers. -/
def ChnIs (p : Int) (ws : List GW) (a b : Int) (x : Int) (l : List Int) : Prop :=
  (askErr p ws [a, b] ≠ 0 ∧ x = askErr p ws [a, b] ∧ l = []) ∨
  (askErr p ws [a, b] = 0 ∧ ((x = 4 ∧ l = [] ∧ (a = b ∨ ∀ m, ¬ Rch (tch ws) b.toNat m a.toNat)) ∨
    (x = 0 ∧ a ≠ b ∧ ∃ n l', Dst (tch ws) b.toNat (n + 1) a.toNat ∧ Chn (tch ws) b.toNat (n + 1) a.toNat l' ∧ l = a :: l')))
theorem chnIs_uniq {p a b x x' : Int} {ws : List GW} {l l' : List Int} (h : ChnIs p ws a b x l) (h' : ChnIs p ws a b x' l') : x = x' ∧ l = l' := by
  rcases h with ⟨h1, rfl, rfl⟩ | ⟨h1, ⟨rfl, rfl, h2⟩ | ⟨rfl, h2, n, m, h3, h4, rfl⟩⟩ <;> rcases h' with ⟨g1, rfl, rfl⟩ | ⟨g1, ⟨rfl, rfl, g2⟩ | ⟨rfl, g2, n', m', g3, g4, rfl⟩⟩
  all_goals first | exact ⟨rfl, rfl⟩ | exact absurd h1 g1 | exact absurd g1 h1 | skip
  · rcases h2 with h2 | h2
    · exact absurd h2 g2
    · exact absurd g3.1 (h2 _)
  · rcases g2 with g2 | g2
    · exact absurd g2 h2
    · exact absurd h3.1 (g2 _)
  · have := dst_uniq h3 g3
    obtain rfl : n = n' := by omega
    exact ⟨rfl, by rw [chn_uniq h4 g4]⟩
def ChPost (p : Int) (ws : List GW) (a b : Int) (w : World) (e : Ending) (w' : World) : Prop :=
  ∃ v x l, e = .returned (.tuple #[v, .int .i64 x]) ∧ RdV w' v l ∧ Below w.heap.size w w' ∧ ChnIs p ws a b x l

theorem own_one {w : World} {B : Nat} {z : Int} (h : w.heap[B]? = some (.cells #[.int .i64 z] 3 (0, 0))) : w.ownsRow B 3 1 (.slice (some ⟨B, 0, none⟩) 1 1) 1 (ints [z]) :=
  ⟨rfl, .inr ⟨B, 1, _, rfl, Nat.le_refl _, h, Nat.le_refl _, by unfold maxLen; omega, rfl, rfl⟩⟩
theorem upF_ne {f : Nat → Option Nat} {i j n : Nat} (h : j ≠ i) : upF f i n j = f j := if_neg h
theorem upF_eq (f : Nat → Option Nat) (i n : Nat) : upF f i n i = some n := if_pos rfl
/-- How many of the first m are known. -/
def cntS (f : Nat → Option Nat) : Nat → Nat
  | 0 => 0
  | m + 1 => cntS f m + if (f m).isSome = true then 1 else 0
theorem cntS_le (f : Nat → Option Nat) : ∀ m, cntS f m ≤ m
  | 0 => Nat.le_refl _
  | m + 1 => by unfold cntS; have := cntS_le f m; split <;> omega
theorem cntS_same {f : Nat → Option Nat} {i n : Nat} : ∀ m, m ≤ i → cntS (upF f i n) m = cntS f m
  | 0, _ => rfl
  | m + 1, h => by
    unfold cntS
    rw [cntS_same m (by omega), upF_ne (by omega)]
theorem cntS_put {f : Nat → Option Nat} {i n : Nat} (hf : f i = none) : ∀ m, i < m → cntS (upF f i n) m = cntS f m + 1
  | 0, h => absurd h (by omega)
  | m + 1, h => by
    unfold cntS
    by_cases hm : m = i
    · subst hm
      rw [cntS_same m (Nat.le_refl _), hf, upF_eq]
      simp
    · rw [cntS_put hf m (by omega), upF_ne (fun e => hm e)]
      omega
theorem castL_len (l : List Nat) : (castL l).length = l.length := by unfold castL; simp
theorem castL_get {l : List Nat} {j : Nat} (h : j < (castL l).length) : (castL l)[j] = ((l[j]'(by rw [castL_len] at h; exact h) : Nat) : Int) := List.getElem_map ..
theorem castL_snoc (l : List Nat) (i : Nat) : castL (l ++ [i]) = castL l ++ [(i : Int)] := by unfold castL; simp
theorem grown_of_below {a w : World} {row : Option Nat} (h : Below a.heap.size a w) : a.grownBy w row := ⟨h.os, h.tape, h.output, h.size, fun i hi _ => h.block i hi⟩
theorem grown_below {a w : World} {m B : Nat} (hg : a.grownBy w (some m)) (hB : B ≤ m) (hs : B ≤ a.heap.size := by omega) : Below B a w :=
  ⟨hg.os, hg.tape, hg.output, hg.size, fun k hk => hg.block k (by omega) (by simp; omega)⟩
theorem grown_trans {w0 w1 w2 : World} {r : Option Nat} (h : w0.grownBy w1 r) (h' : w1.grownBy w2 r) : w0.grownBy w2 r :=
  ⟨h'.os.trans h.os, h'.tape.trans h.tape, h'.output.trans h.output, Nat.le_trans h.size h'.size, fun i hi hne => (h'.block i (Nat.lt_of_lt_of_le hi h.size) hne).trans (h.block i hi hne)⟩
end Go.Proofs.Ytepdgffccfcfpaa
