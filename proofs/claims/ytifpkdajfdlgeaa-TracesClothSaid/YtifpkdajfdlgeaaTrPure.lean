/- The greedy match by ready works is the match by rows. -/
import Derived.Test.YtifpkdajfdlgeaaTrRefS
namespace Go.Proofs.Ytifpkdajfdlgeaa
open Go.RowKit

theorem least_true (p : Nat → Bool) : ∀ a, p a = true → ∃ m, m ≤ a ∧ p m = true ∧ ∀ k, k < m → p k = false := by
  intro a
  induction a using Nat.strongRecOn with
  | _ a ih =>
    intro h
    by_cases hex : ∃ k, k < a ∧ p k = true
    · obtain ⟨k, hk, hp⟩ := hex
      obtain ⟨m, h1, h2, h3⟩ := ih k hk hp
      exact ⟨m, by omega, h2, h3⟩
    · refine ⟨a, Nat.le_refl _, h, fun k hk => ?_⟩
      cases hp : p k with
      | false => rfl
      | true => exact absurd ⟨k, hk, hp⟩ hex
theorem filt_head {p : Nat → Bool} : ∀ {n i : Nat}, i < n → p i = true → (∀ k, k < i → p k = false) → (List.range n).filter p = i :: (List.range n).filter (fun k => p k && !(k == i))
  | 0, i, hi, _, _ => by omega
  | n + 1, i, hi, hp, hno => by
    rw [List.range_succ, List.filter_append, List.filter_append]
    rcases Nat.lt_or_ge i n with h | h
    · rw [filt_head h hp hno]
      have : (n == i) = false := by simp; omega
      simp [List.filter_cons, this]
    · obtain rfl : i = n := by omega
      have h1 : (List.range i).filter p = [] := List.filter_eq_nil_iff.2 fun k hk => by rw [hno k (List.mem_range.1 hk)]; simp
      have h2 : (List.range i).filter (fun k => p k && !(k == i)) = [] := List.filter_eq_nil_iff.2 fun k hk => by rw [hno k (List.mem_range.1 hk)]; simp
      rw [h1, h2]
      simp [hp]
theorem head_filt {p : Nat → Bool} {n a : Nat} {t : List Nat} (h : (List.range n).filter p = a :: t) : a < n ∧ p a = true ∧ ∀ k, k < a → p k = false := by
  have hm : a ∈ (List.range n).filter p := by rw [h]; simp
  obtain ⟨h1, h2⟩ := List.mem_filter.1 hm
  have h1 := List.mem_range.1 h1
  obtain ⟨m, hle, h3, h4⟩ := least_true p a h2
  have h5 := filt_head (n := n) (by omega) h3 h4
  rw [h] at h5
  injection h5 with h6
  subst h6
  exact ⟨h1, h2, h4⟩

def tk (ws : List GW) (p i : Nat) : Bool := match ws[i]? with | some x => takesB x p | none => false
def prD (ws : List GW) (ds : List Bool) (p k : Nat) : Bool := !(ds.getD k false) && tk ws p k
/-- The works that are not done, by place. -/
def rowD (ws : List GW) (ds : List Bool) (p : Nat) : List Int := ((List.range ws.length).filter (prD ws ds p)).map Int.ofNat
theorem rowD_none (ws : List GW) (p : Nat) : rowD ws (List.replicate ws.length false) p = rowK ws ws.length p := by
  unfold rowD rowK
  congr 1
  apply List.filter_congr
  intro k hk
  have := List.mem_range.1 hk
  simp [prD, tk, List.getD_eq_getElem?_getD, this]

theorem noTouch_iff (ws : List GW) (ds : List Bool) (i : Nat) : ∀ n, noTouch ws ds i n = true ↔ ∀ k, k < n → ds.getD k false = true ∨ touchB (ws.getD k ⟨0, 0, ByteArray.empty⟩).pl (ws.getD i ⟨0, 0, ByteArray.empty⟩).pl = false
  | 0 => by simp [noTouch]
  | n + 1 => by
    rw [noTouch, Bool.and_eq_true, noTouch_iff ws ds i n, Bool.or_eq_true, Bool.not_eq_true']
    constructor
    · rintro ⟨h1, h2⟩ k hk
      rcases Nat.lt_or_ge k n with h | h
      · exact h1 k h
      · obtain rfl : k = n := by omega
        exact h2
    · intro h
      exact ⟨fun k hk => h k (by omega), h n (by omega)⟩

theorem touch_rows (y x : GW) (hx : 0 ≤ x.pl) : touchB y.pl x.pl = (takesB y x.pl.toNat || takesB y (x.pl.toNat + 1)) := by
  unfold touchB takesB
  rw [← Bool.decide_or, decide_eq_decide]
  omega

theorem hit_iff (ws : List GW) (ds : List Bool) (x : GW) (hx : 0 ≤ x.pl) {i : Nat} (hi : i < ws.length) :
    hitB ws ds x i = true ↔ ws[i]? = some x ∧ ds.getD i false = false ∧ ∀ k, k < i → prD ws ds x.pl.toNat k = false ∧ prD ws ds (x.pl.toNat + 1) k = false := by
  have hg : ws.getD i ⟨0, 0, ByteArray.empty⟩ = ws[i] := by simp [List.getD_eq_getElem?_getD, hi]
  unfold hitB readyB
  rw [Bool.and_eq_true, Bool.and_eq_true, decide_eq_true_eq, noTouch_iff, Bool.not_eq_true', hg, List.getElem?_eq_getElem hi, Option.some.injEq]
  constructor
  · rintro ⟨rfl, h1, h2⟩
    refine ⟨rfl, h2, fun k hk => ?_⟩
    have hkw : k < ws.length := by omega
    have hgk : ws.getD k ⟨0, 0, ByteArray.empty⟩ = ws[k] := by simp [List.getD_eq_getElem?_getD, hkw]
    have h3 := h1 k hk
    rw [hgk, touch_rows _ _ hx] at h3
    unfold prD tk
    rw [List.getElem?_eq_getElem hkw]
    rcases h3 with h3 | h3
    · rw [h3]; simp
    · rw [Bool.or_eq_false_iff] at h3
      simp only [h3.1, h3.2, Bool.and_false, and_self]
  · rintro ⟨rfl, h2, h1⟩
    refine ⟨rfl, fun k hk => ?_, h2⟩
    have hkw : k < ws.length := by omega
    have hgk : ws.getD k ⟨0, 0, ByteArray.empty⟩ = ws[k] := by simp [List.getD_eq_getElem?_getD, hkw]
    obtain ⟨h3, h4⟩ := h1 k hk
    unfold prD tk at h3 h4
    rw [List.getElem?_eq_getElem hkw] at h3 h4
    rw [hgk, touch_rows _ _ hx]
    cases hd : ds.getD k false with
    | true => exact .inl rfl
    | false => rw [hd] at h3 h4; simp at h3 h4; exact .inr (by rw [h3, h4]; rfl)

theorem prD_self (ws : List GW) (ds : List Bool) (x : GW) (hx : 0 ≤ x.pl) {i q : Nat} (h : ws[i]? = some x) (hd : ds.getD i false = false) : prD ws ds q i = decide (q = x.pl.toNat ∨ q = x.pl.toNat + 1) := by
  unfold prD tk takesB
  rw [h, hd]
  simp only [Bool.not_false, Bool.true_and, decide_eq_decide]
  omega
theorem prD_set (ws : List GW) (ds : List Bool) {i q k : Nat} (hi : i < ds.length) : prD ws (ds.set i true) q k = (prD ws ds q k && !(k == i)) := by
  unfold prD
  rw [List.getD_eq_getElem?_getD, List.getElem?_set]
  by_cases h : i = k
  · subst h; simp [hi]
  · have : (k == i) = false := by simp; omega
    simp [h, this, List.getD_eq_getElem?_getD]

theorem mRun_gRun (ws : List GW) : ∀ (l : List GW) (ds : List Bool), ds.length = ws.length → (∀ x ∈ l, 0 ≤ x.pl) → mRun ws (rowD ws ds) l = gRun ws ds l
  | [], _, _, _ => rfl
  | x :: l, ds, hl, hpl => by
    have hx : 0 ≤ x.pl := hpl x (by simp)
    rw [mRun, gRun]
    by_cases hs : seek ws ds x ws.length < 0
    · rw [if_pos hs]
      have hnone : mStep ws (rowD ws ds) x = none := by
        unfold mStep
        split
        · rename_i a la b lb h1 h2
          rw [if_neg]
          rintro ⟨rfl, hax⟩
          obtain ⟨m, t, h3, h4, _⟩ := List.map_eq_cons_iff.1 h1
          obtain ⟨m', t', h5, h6, _⟩ := List.map_eq_cons_iff.1 h2
          have hmm : m = m' := by rw [← h4] at h6; exact (Int.ofNat.inj h6).symm
          subst hmm
          obtain ⟨g1, g2, g3⟩ := head_filt h3
          obtain ⟨g4, g5, g6⟩ := head_filt h5
          have hd : ds.getD m false = false := by
            unfold prD at g2; rw [Bool.and_eq_true] at g2; simpa using g2.1
          have := (hit_iff ws ds x hx g1).2 ⟨by rw [← h4] at hax; exact hax, hd, fun k hk => ⟨g3 k hk, g6 k hk⟩⟩
          rw [seek_none _ hs m g1] at this
          cases this
        · rfl
      rw [hnone]
    · obtain ⟨i, hsi, hil, hhit⟩ := seek_some (ws := ws) (ds := ds) (x := x) ws.length (by omega)
      rw [hsi, if_neg (by omega), Int.toNat_natCast]
      obtain ⟨h1, h2, h3⟩ := (hit_iff ws ds x hx hil).1 hhit
      have f1 := filt_head hil (show prD ws ds x.pl.toNat i = true by rw [prD_self ws ds x hx h1 h2]; simp) (fun k hk => (h3 k hk).1)
      have f2 := filt_head hil (show prD ws ds (x.pl.toNat + 1) i = true by rw [prD_self ws ds x hx h1 h2]; simp) (fun k hk => (h3 k hk).2)
      have e1 : rowD ws ds x.pl.toNat = (i : Int) :: rowD ws (ds.set i true) x.pl.toNat := by
        unfold rowD; rw [f1, List.map_cons]; congr 2; apply List.filter_congr; intro k _; rw [prD_set ws ds (by omega)]
      have e2 : rowD ws ds (x.pl.toNat + 1) = (i : Int) :: rowD ws (ds.set i true) (x.pl.toNat + 1) := by
        unfold rowD; rw [f2, List.map_cons]; congr 2; apply List.filter_congr; intro k _; rw [prD_set ws ds (by omega)]
      have hstep : mStep ws (rowD ws ds) x = some ((i : Int), rowD ws (ds.set i true)) := by
        unfold mStep
        rw [e1, e2]
        simp only [Int.toNat_natCast, h1, and_self, if_true, Option.some.injEq, Prod.mk.injEq, true_and]
        funext q
        split
        · rename_i h; rw [h]
        · split
          · rename_i h; rw [h]
          · rename_i hq1 hq2
            unfold rowD
            congr 1
            apply List.filter_congr
            intro k _
            rw [prD_set ws ds (by omega)]
            by_cases hk : k = i
            · subst hk
              rw [prD_self ws ds x hx h1 h2]
              simp; omega
            · have : (k == i) = false := by simp; omega
              simp [this]
      rw [hstep]
      simp only
      rw [mRun_gRun ws l (ds.set i true) (by simpa using hl) (fun y hy => hpl y (by simp [hy]))]

theorem matchG_P {p q : Int} {ws vs : List GW} (hv : ∀ x ∈ vs, 0 ≤ x.pl) : matchG p ws q vs = matchP p ws q vs := by
  unfold matchG matchP
  split
  · rw [← mRun_gRun ws vs _ (by simp) hv]
    congr 1
    funext k
    exact rowD_none ws k
  · rfl
theorem sameG_E (p : Int) (ws : List GW) (q : Int) (vs : List GW) : sameG p ws q vs = sameE p ws q vs := by
  unfold sameG sameE
  by_cases h : bothErr p ws q vs = 0
  · rw [matchG_P fun x hx => ((bothErr_ok h).2.all.2.2.2 x hx).2.1]
  · rw [decide_eq_false h]; rfl
theorem matchErrG_E (p : Int) (ws : List GW) (q : Int) (vs : List GW) : matchErrG p ws q vs = matchErr p ws q vs := by
  unfold matchErrG matchErr
  split
  · rename_i h; rw [matchG_P fun x hx => ((bothErr_ok h).2.all.2.2.2 x hx).2.1]
  · rfl
theorem matchLG_E (p : Int) (ws : List GW) (q : Int) (vs : List GW) : matchLG p ws q vs = matchL p ws q vs := by
  unfold matchLG matchL
  split
  · rename_i h; rw [matchG_P fun x hx => ((bothErr_ok h).2.all.2.2.2 x hx).2.1]
  · rfl
end Go.Proofs.Ytifpkdajfdlgeaa
