/- Chains of works, plainly: how far a work is from another one, the search backwards by levels, and the walk forward. No program. -/
import Derived.Test.YtepdgffccfcfpaaApp1
namespace Go.Proofs.Ytepdgffccfcfpaa
open Go.RowKit

/-- Is b so many works after i, each touching the one before? -/
def Rch (T : Nat → Nat → Bool) (b : Nat) : Nat → Nat → Prop
  | 0, i => i = b
  | n + 1, i => ∃ k, i < k ∧ k ≤ b ∧ T i k = true ∧ Rch T b n k
/-- And not less. -/
def Dst (T : Nat → Nat → Bool) (b n i : Nat) : Prop := Rch T b n i ∧ ∀ m, m < n → ¬ Rch T b m i
/-- The least work that is nearer. -/
def Nx (T : Nat → Nat → Bool) (b n i k : Nat) : Prop := i < k ∧ k ≤ b ∧ T i k = true ∧ Dst T b n k ∧ ∀ j, i < j → j < k → T i j = true → ¬ Dst T b n j
def Chn (T : Nat → Nat → Bool) (b : Nat) : Nat → Nat → List Int → Prop
  | 0, _, l => l = []
  | n + 1, i, l => ∃ k l', Nx T b n i k ∧ l = (k : Int) :: l' ∧ Chn T b n k l'

section
variable {T : Nat → Nat → Bool} {a b : Nat}
theorem rch_le : ∀ {n i : Nat}, Rch T b n i → n + i ≤ b
  | 0, i, h => by have : i = b := h; omega
  | n + 1, i, h => by obtain ⟨k, h1, h2, _, h4⟩ := h; have := rch_le h4; omega
theorem dst_le {n i : Nat} (h : Dst T b n i) : n + i ≤ b := rch_le h.1
theorem dst_zero {i : Nat} : Dst T b 0 i ↔ i = b := ⟨fun h => h.1, fun h => ⟨h, fun m hm => absurd hm (by omega)⟩⟩
theorem dst_uniq {n m i : Nat} (h : Dst T b n i) (h' : Dst T b m i) : n = m := by
  rcases Nat.lt_trichotomy n m with h1 | h1 | h1
  · exact absurd h.1 (h'.2 n h1)
  · exact h1
  · exact absurd h'.1 (h.2 m h1)
theorem dst_of_rch : ∀ {n i : Nat}, Rch T b n i → ∃ m, m ≤ n ∧ Dst T b m i := by
  intro n
  induction n using Nat.strongRecOn with
  | _ n ih =>
    intro i h
    by_cases hm : ∃ m, m < n ∧ Rch T b m i
    · obtain ⟨m, h1, h2⟩ := hm
      obtain ⟨m', h3, h4⟩ := ih m h1 h2
      exact ⟨m', by omega, h4⟩
    · exact ⟨n, Nat.le_refl _, h, fun m h1 h2 => hm ⟨m, h1, h2⟩⟩
theorem dst_next {n i : Nat} (h : Dst T b (n + 1) i) : ∃ k, i < k ∧ k ≤ b ∧ T i k = true ∧ Dst T b n k := by
  obtain ⟨⟨k, h1, h2, h3, h4⟩, h5⟩ := h
  exact ⟨k, h1, h2, h3, h4, fun m hm hr => h5 (m + 1) (by omega) ⟨k, h1, h2, h3, hr⟩⟩
theorem dst_suffix : ∀ {n i : Nat}, Dst T b n i → ∀ m, m ≤ n → ∃ k, i ≤ k ∧ Dst T b m k
  | 0, i, h, m, hm => ⟨i, Nat.le_refl _, by obtain rfl : m = 0 := by omega
                                            exact h⟩
  | n + 1, i, h, m, hm => by
    by_cases he : m = n + 1
    · exact ⟨i, Nat.le_refl _, by rw [he]; exact h⟩
    · obtain ⟨k, h1, _, _, h4⟩ := dst_next h
      obtain ⟨k', h5, h6⟩ := dst_suffix h4 m (by omega)
      exact ⟨k', by omega, h6⟩
theorem least_of (Q : Nat → Prop) : ∀ n, Q n → ∃ k, k ≤ n ∧ Q k ∧ ∀ j, j < k → ¬ Q j := by
  intro n
  induction n using Nat.strongRecOn with
  | _ n ih =>
    intro h
    by_cases hm : ∃ m, m < n ∧ Q m
    · obtain ⟨m, h1, h2⟩ := hm
      obtain ⟨k, h3, h4⟩ := ih m h1 h2
      exact ⟨k, by omega, h4⟩
    · exact ⟨n, Nat.le_refl _, h, fun j h1 h2 => hm ⟨j, h1, h2⟩⟩
theorem nx_exists {n i : Nat} (h : Dst T b (n + 1) i) : ∃ k, Nx T b n i k := by
  obtain ⟨k, h1, h2, h3, h4⟩ := dst_next h
  obtain ⟨k', h5, ⟨h6, h7, h8⟩, h9⟩ := least_of (fun j => i < j ∧ T i j = true ∧ Dst T b n j) k ⟨h1, h3, h4⟩
  exact ⟨k', h6, by omega, h7, h8, fun j g1 g2 g3 g4 => h9 j g2 ⟨g1, g3, g4⟩⟩
theorem nx_uniq {n i k k' : Nat} (h : Nx T b n i k) (h' : Nx T b n i k') : k = k' := by
  obtain ⟨h1, h2, h3, h4, h5⟩ := h
  obtain ⟨g1, g2, g3, g4, g5⟩ := h'
  rcases Nat.lt_trichotomy k k' with q | q | q
  · exact absurd h4 (g5 k h1 q h3)
  · exact q
  · exact absurd g4 (h5 k' g1 q g3)
theorem chn_exists : ∀ {n i : Nat}, Dst T b n i → ∃ l, Chn T b n i l
  | 0, _, _ => ⟨[], rfl⟩
  | n + 1, i, h => by
    obtain ⟨k, hk⟩ := nx_exists h
    obtain ⟨l, hl⟩ := chn_exists hk.2.2.2.1
    exact ⟨(k : Int) :: l, k, l, hk, rfl, hl⟩
theorem chn_uniq : ∀ {n i : Nat} {l l' : List Int}, Chn T b n i l → Chn T b n i l' → l = l'
  | 0, _, _, _, h, h' => by rw [show _ = [] from h, show _ = [] from h']
  | n + 1, i, l, l', h, h' => by
    obtain ⟨k, m, h1, rfl, h3⟩ := h
    obtain ⟨k', m', g1, rfl, g3⟩ := h'
    obtain rfl := nx_uniq h1 g1
    rw [chn_uniq h3 g3]
theorem chn_len : ∀ {n i : Nat} {l : List Int}, Chn T b n i l → l.length = n
  | 0, _, _, h => by rw [show _ = [] from h]; rfl
  | n + 1, i, l, h => by
    obtain ⟨k, m, h1, rfl, h3⟩ := h
    simp [chn_len h3]

/-- Does a work of the list touch i, behind it? -/
def Hit (T : Nat → Nat → Bool) (lv : List Nat) (i : Nat) : Prop := ∃ k, k ∈ lv ∧ i < k ∧ T i k = true
def InR (a b i : Nat) : Prop := a ≤ i ∨ i = b
/-- Before a level is searched. -/
structure LvI (T : Nat → Nat → Bool) (a b n : Nat) (f : Nat → Option Nat) (lv : List Nat) : Prop where
  pos : 1 ≤ n
  kn : ∀ i m, f i = some m ↔ InR a b i ∧ m < n ∧ Dst T b m i
  lev : ∀ i, i ∈ lv ↔ InR a b i ∧ Dst T b (n - 1) i
  no : ∀ m, f a = some m → a = b
/-- While it is searched. -/
structure MdI (T : Nat → Nat → Bool) (a b n : Nat) (f : Nat → Option Nat) (pre : List Nat) (X : Nat → Prop) : Prop where
  kn : ∀ i m, f i = some m ↔ InR a b i ∧ ((m < n ∧ Dst T b m i) ∨ (m = n ∧ Dst T b n i ∧ (Hit T pre i ∨ X i)))
def XI (T : Nat → Nat → Bool) (k i0 i : Nat) : Prop := i < k ∧ T i k = true ∧ i < i0
def upF (f : Nat → Option Nat) (i n : Nat) : Nat → Option Nat := fun j => if j = i then some n else f j
def NxL (n : Nat) (f : Nat → Option Nat) (nx : List Nat) : Prop := ∀ i, i ∈ nx ↔ f i = some n
def NoA (a b : Nat) (f : Nat → Option Nat) : Prop := ∀ m, f a = some m → a = b

theorem lv_first : LvI T a b 1 (upF (fun _ => none) b 0) [b] where
  pos := Nat.le_refl _
  kn i m := by
    unfold upF
    by_cases h : i = b
    · subst h
      simp only [if_true, Option.some.injEq]
      constructor
      · rintro rfl; exact ⟨.inr rfl, by omega, dst_zero.2 rfl⟩
      · rintro ⟨_, h1, _⟩; omega
    · simp only [h, if_false]
      constructor
      · intro h; cases h
      · rintro ⟨_, h1, h2⟩
        obtain rfl : m = 0 := by omega
        exact absurd (dst_zero.1 h2) h
  lev i := by
    simp only [List.mem_singleton, Nat.sub_self, dst_zero]
    exact ⟨fun h => ⟨.inr h, h⟩, fun h => h.2⟩
  no m h := by
    unfold upF at h
    by_cases h1 : a = b
    · exact h1
    · simp [h1] at h
theorem md_start {n : Nat} {f : Nat → Option Nat} {lv : List Nat} (h : LvI T a b n f lv) : MdI T a b n f [] (fun _ => False) where
  kn i m := by
    rw [h.kn]
    constructor
    · rintro ⟨h1, h2⟩; exact ⟨h1, .inl h2⟩
    · rintro ⟨h1, h2 | ⟨_, _, ⟨k, hk, _⟩ | hx⟩⟩
      · exact ⟨h1, h2⟩
      · cases hk
      · cases hx
theorem nx_start {n : Nat} {f : Nat → Option Nat} {lv : List Nat} (h : LvI T a b n f lv) : NxL n f [] := fun i => by
  rw [h.kn]
  constructor
  · intro h; cases h
  · rintro ⟨_, h1, _⟩; omega
theorem md_in {n k : Nat} {f : Nat → Option Nat} {pre : List Nat} (h : MdI T a b n f pre (fun _ => False)) (hk : k ≤ b) : MdI T a b n f pre (XI T k a) where
  kn i m := by
    rw [h.kn]
    constructor
    · rintro ⟨h1, h2 | ⟨h2, h3, h4 | h4⟩⟩
      · exact ⟨h1, .inl h2⟩
      · exact ⟨h1, .inr ⟨h2, h3, .inl h4⟩⟩
      · cases h4
    · rintro ⟨h1, h2 | ⟨h2, h3, h4 | ⟨h4, h5, h6⟩⟩⟩
      · exact ⟨h1, .inl h2⟩
      · exact ⟨h1, .inr ⟨h2, h3, .inl h4⟩⟩
      · rcases h1 with h1 | h1 <;> omega
theorem md_out {n k i0 : Nat} {f : Nat → Option Nat} {pre : List Nat} (h : MdI T a b n f pre (XI T k i0)) (hk : k ≤ i0) : MdI T a b n f (pre ++ [k]) (fun _ => False) where
  kn i m := by
    rw [h.kn]
    constructor
    · rintro ⟨h1, h2 | ⟨h2, h3, ⟨k', h4, h5⟩ | ⟨h4, h5, h6⟩⟩⟩
      · exact ⟨h1, .inl h2⟩
      · exact ⟨h1, .inr ⟨h2, h3, .inl ⟨k', by simp [h4], h5⟩⟩⟩
      · exact ⟨h1, .inr ⟨h2, h3, .inl ⟨k, by simp, h4, h5⟩⟩⟩
    · rintro ⟨h1, h2 | ⟨h2, h3, ⟨k', h4, h5, h6⟩ | h4⟩⟩
      · exact ⟨h1, .inl h2⟩
      · rcases List.mem_append.1 h4 with h4 | h4
        · exact ⟨h1, .inr ⟨h2, h3, .inl ⟨k', h4, h5, h6⟩⟩⟩
        · obtain rfl : k' = k := by simpa using h4
          exact ⟨h1, .inr ⟨h2, h3, .inr ⟨h5, h6, by omega⟩⟩⟩
      · cases h4
theorem md_skip {n k i0 : Nat} {f : Nat → Option Nat} {pre : List Nat} (h : MdI T a b n f pre (XI T k i0)) (hs : f i0 ≠ none ∨ T i0 k = false) : MdI T a b n f pre (XI T k (i0 + 1)) where
  kn i m := by
    rw [h.kn]
    constructor
    · rintro ⟨h1, h2 | ⟨h2, h3, h4 | ⟨h4, h5, h6⟩⟩⟩
      · exact ⟨h1, .inl h2⟩
      · exact ⟨h1, .inr ⟨h2, h3, .inl h4⟩⟩
      · exact ⟨h1, .inr ⟨h2, h3, .inr ⟨h4, h5, by omega⟩⟩⟩
    · rintro ⟨h1, h2 | ⟨h2, h3, h4 | ⟨h4, h5, h6⟩⟩⟩
      · exact ⟨h1, .inl h2⟩
      · exact ⟨h1, .inr ⟨h2, h3, .inl h4⟩⟩
      · by_cases hi : i = i0
        · subst hi
          rcases hs with hs | hs
          · obtain ⟨m', hm'⟩ := Option.ne_none_iff_exists'.1 hs
            obtain ⟨g1, ⟨g2, g3⟩ | ⟨g2, g3⟩⟩ := (h.kn i m').1 hm'
            · have := dst_uniq g3 h3; omega
            · exact ⟨h1, .inr ⟨h2, g3⟩⟩
          · rw [hs] at h5; cases h5
        · exact ⟨h1, .inr ⟨h2, h3, .inr ⟨h4, h5, by omega⟩⟩⟩
theorem md_dst {n k i0 : Nat} {f : Nat → Option Nat} {pre : List Nat} (h : MdI T a b n f pre (XI T k i0)) (hn : 1 ≤ n) (hf : f i0 = none) (ha : a ≤ i0) (hik : i0 < k) (hT : T i0 k = true) (hk : Dst T b (n - 1) k) : Dst T b n i0 := by
  obtain ⟨n, rfl⟩ : ∃ n', n = n' + 1 := ⟨n - 1, by omega⟩
  have hkb := dst_le hk
  refine ⟨⟨k, hik, by omega, hT, hk.1⟩, fun m hm hr => ?_⟩
  obtain ⟨m', h1, h2⟩ := dst_of_rch hr
  have := (h.kn i0 m').2 ⟨.inl ha, .inl ⟨by omega, h2⟩⟩
  rw [hf] at this; cases this
theorem md_put {n k i0 : Nat} {f : Nat → Option Nat} {pre : List Nat} (h : MdI T a b n f pre (XI T k i0)) (hn : 1 ≤ n) (hf : f i0 = none) (ha : a ≤ i0) (hik : i0 < k) (hT : T i0 k = true) (hk : Dst T b (n - 1) k) :
    MdI T a b n (upF f i0 n) pre (XI T k (i0 + 1)) where
  kn i m := by
    have hd := md_dst h hn hf ha hik hT hk
    unfold upF
    by_cases hi : i = i0
    · subst hi
      simp only [if_true, Option.some.injEq]
      constructor
      · rintro rfl; exact ⟨.inl ha, .inr ⟨rfl, hd, .inr ⟨hik, hT, by omega⟩⟩⟩
      · rintro ⟨_, ⟨h1, h2⟩ | ⟨h1, _⟩⟩
        · exact dst_uniq hd h2
        · exact h1.symm
    · simp only [hi, if_false]
      rw [h.kn]
      constructor
      · rintro ⟨h1, h2 | ⟨h2, h3, h4 | ⟨h4, h5, h6⟩⟩⟩
        · exact ⟨h1, .inl h2⟩
        · exact ⟨h1, .inr ⟨h2, h3, .inl h4⟩⟩
        · exact ⟨h1, .inr ⟨h2, h3, .inr ⟨h4, h5, by omega⟩⟩⟩
      · rintro ⟨h1, h2 | ⟨h2, h3, h4 | ⟨h4, h5, h6⟩⟩⟩
        · exact ⟨h1, .inl h2⟩
        · exact ⟨h1, .inr ⟨h2, h3, .inl h4⟩⟩
        · exact ⟨h1, .inr ⟨h2, h3, .inr ⟨h4, h5, by omega⟩⟩⟩
theorem nx_put {n i0 : Nat} {f : Nat → Option Nat} {nx : List Nat} (h : NxL n f nx) : NxL n (upF f i0 n) (nx ++ [i0]) := fun i => by
  unfold upF
  by_cases hi : i = i0
  · simp [hi]
  · simp only [List.mem_append, List.mem_singleton, hi, or_false, if_false]; exact h i
theorem no_put {n i0 : Nat} {f : Nat → Option Nat} (h : NoA a b f) (hi : i0 ≠ a) : NoA a b (upF f i0 n) := fun m hm => by
  unfold upF at hm
  rw [if_neg (fun e => hi e.symm)] at hm
  exact h m hm
theorem lv_next {n : Nat} {f : Nat → Option Nat} {lv nx : List Nat} (hn : 1 ≤ n) (hlv : ∀ i, i ∈ lv ↔ InR a b i ∧ Dst T b (n - 1) i) (h : MdI T a b n f lv (fun _ => False)) (hx : NxL n f nx) (hno : NoA a b f) : LvI T a b (n + 1) f nx where
  pos := by omega
  kn i m := by
    rw [h.kn]
    constructor
    · rintro ⟨h1, ⟨h2, h3⟩ | ⟨h2, h3, _⟩⟩
      · exact ⟨h1, by omega, h3⟩
      · subst h2; exact ⟨h1, by omega, h3⟩
    · rintro ⟨h1, h2, h3⟩
      refine ⟨h1, ?_⟩
      by_cases hm : m < n
      · exact .inl ⟨hm, h3⟩
      · obtain rfl : m = n := by omega
        refine .inr ⟨rfl, h3, .inl ?_⟩
        obtain ⟨m, rfl⟩ : ∃ m', m = m' + 1 := ⟨m - 1, by omega⟩
        obtain ⟨k, g1, g2, g3, g4⟩ := dst_next h3
        refine ⟨k, (hlv k).2 ⟨?_, by simpa using g4⟩, g1, g3⟩
        rcases h1 with h1 | h1
        · exact .inl (by omega)
        · omega
  lev i := by
    rw [hx i, h.kn, Nat.add_sub_cancel]
    constructor
    · rintro ⟨h1, ⟨h2, h3⟩ | ⟨h2, h3, _⟩⟩
      · omega
      · exact ⟨h1, h3⟩
    · rintro ⟨h1, h3⟩
      refine ⟨h1, .inr ⟨rfl, h3, .inl ?_⟩⟩
      obtain ⟨m, rfl⟩ : ∃ m', n = m' + 1 := ⟨n - 1, by omega⟩
      obtain ⟨k, g1, g2, g3, g4⟩ := dst_next h3
      refine ⟨k, (hlv k).2 ⟨?_, by simpa using g4⟩, g1, g3⟩
      rcases h1 with h1 | h1
      · exact .inl (by omega)
      · omega
  no := hno
theorem lv_none {n : Nat} {f : Nat → Option Nat} (h : LvI T a b n f []) (hab : a ≠ b) : f a = none ∧ ∀ m, ¬ Rch T b m a := by
  have h1 : f a = none := by
    cases hf : f a with
    | none => rfl
    | some m => exact absurd (h.no m hf) hab
  refine ⟨h1, fun m hr => ?_⟩
  obtain ⟨m', h2, h3⟩ := dst_of_rch hr
  by_cases hm : m' < n
  · have := (h.kn a m').2 ⟨.inl (Nat.le_refl _), hm, h3⟩
    rw [h1] at this; cases this
  · obtain ⟨k, h4, h5⟩ := dst_suffix h3 (n - 1) (by omega)
    have := (h.lev k).2 ⟨.inl h4, h5⟩
    cases this
/-- What is known when the search has found its end. -/
theorem md_known {n k i0 : Nat} {f : Nat → Option Nat} {pre : List Nat} (h : MdI T a b n f pre (XI T k i0)) {i m : Nat} (hi : a ≤ i) (hm : m < n) : f i = some m ↔ Dst T b m i := by
  rw [h.kn]
  constructor
  · rintro ⟨_, ⟨_, h3⟩ | ⟨h2, _⟩⟩
    · exact h3
    · omega
  · intro h3; exact ⟨.inl hi, .inl ⟨hm, h3⟩⟩
theorem lv_mem {n : Nat} {f : Nat → Option Nat} {lv : List Nat} (h : LvI T a b n f lv) {k : Nat} (hk : k ∈ lv) : Dst T b (n - 1) k ∧ k ≤ b ∧ n - 1 + k ≤ b := by
  have h1 := ((h.lev k).1 hk).2
  have := dst_le h1
  exact ⟨h1, by omega, this⟩
end
end Go.Proofs.Ytepdgffccfcfpaa
