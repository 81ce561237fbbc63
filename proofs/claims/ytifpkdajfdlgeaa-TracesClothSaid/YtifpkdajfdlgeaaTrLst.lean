/- The least order: the reference's way (the ready work with the least place) and rows (heads from the left). -/
import Derived.Test.YtifpkdajfdlgeaaTrLev
namespace Go.Proofs.Ytifpkdajfdlgeaa
open Go.RowKit

/-- The ready work with the least place among the first k, or -1. -/
def bst (ws : List GW) (ds : List Bool) : Nat → Int
  | 0 => -1
  | k + 1 => if (bst ws ds k < 0 ∨ (ws.getD k gw0).pl < (ws.getD (bst ws ds k).toNat gw0).pl) ∧ readyB ws ds k = true then (k : Int) else bst ws ds k
def lRun (ws : List GW) : Nat → List Bool → List Int
  | 0, _ => []
  | n + 1, ds => bst ws ds ws.length :: lRun ws n (ds.set (bst ws ds ws.length).toNat true)
def leastL (ws : List GW) : List Int := lRun ws ws.length (List.replicate ws.length false)

def leastR (p : Int) (ws : List GW) : List Int := if errSheet p ws = 0 then leastL ws else []

theorem bst_bd (ws : List GW) (ds : List Bool) : ∀ k, bst ws ds k = -1 ∨ ∃ i : Nat, bst ws ds k = i ∧ i < k ∧ readyB ws ds i = true
  | 0 => .inl rfl
  | k + 1 => by
    rw [bst]; split
    · rename_i h; exact .inr ⟨k, rfl, by omega, h.2⟩
    · rcases bst_bd ws ds k with h | ⟨i, h1, h2, h3⟩
      · exact .inl h
      · exact .inr ⟨i, h1, by omega, h3⟩
/-- The only ready work with the least place is the best one. -/
theorem bst_is {ws : List GW} {ds : List Bool} {i : Nat} (hr : readyB ws ds i = true) (hall : ∀ k, k < ws.length → readyB ws ds k = true → k ≠ i → (ws.getD i gw0).pl < (ws.getD k gw0).pl) :
    ∀ n, i < n → n ≤ ws.length → bst ws ds n = i
  | 0, h, _ => by omega
  | n + 1, h, hn => by
    rw [bst]
    rcases Nat.lt_or_ge i n with h1 | h1
    · have ih := bst_is hr hall n h1 (by omega)
      rw [if_neg, ih]
      rw [ih]
      rintro ⟨h2 | h2, h3⟩
      · omega
      · have := hall n (by omega) h3 (by omega)
        rw [Int.toNat_natCast] at h2
        omega
    · obtain rfl : i = n := by omega
      rw [if_pos]
      refine ⟨?_, hr⟩
      rcases bst_bd ws ds i with h2 | ⟨k, h2, h3, h4⟩
      · left; omega
      · right
        rw [h2, Int.toNat_natCast]
        exact hall k (by omega) h4 (by omega)

def doneN (ds : List Bool) : Nat := ds.count true
theorem doneN_set {ds : List Bool} {i : Nat} (hi : i < ds.length) (h : ds.getD i false = false) : doneN (ds.set i true) = doneN ds + 1 := by
  unfold doneN
  rw [List.getD_eq_getElem?_getD, List.getElem?_eq_getElem hi] at h
  simp at h
  rw [List.count_set hi]
  simp [h]
/-- If not all is done, some work is ready. -/
theorem some_ready {ws : List GW} {ds : List Bool} (hl : ds.length = ws.length) (h : doneN ds < ws.length) : ∃ i, i < ws.length ∧ readyB ws ds i = true := by
  have hex : ∃ k, k < ds.length ∧ ds.getD k false = false := by
    by_cases hx : ∃ k, k < ds.length ∧ ds.getD k false = false
    · exact hx
    · exfalso
      have hall : ∀ b ∈ ds, true = b := fun b hb => by
        obtain ⟨k, hk, rfl⟩ := List.getElem_of_mem hb
        have : ¬ ds.getD k false = false := fun h => hx ⟨k, hk, h⟩
        rw [List.getD_eq_getElem?_getD, List.getElem?_eq_getElem hk] at this
        simp at this
        exact this.symm
      have := List.count_eq_length.2 hall
      unfold doneN at h
      omega
  obtain ⟨a, ha, hd⟩ := hex
  obtain ⟨m, h1, h2, h3⟩ := least_true (fun k => !ds.getD k false) a (by simpa using hd)
  refine ⟨m, by omega, ?_⟩
  unfold readyB
  rw [Bool.and_eq_true]
  refine ⟨(noTouch_iff ws ds m m).2 fun k hk => .inl ?_, h2⟩
  have := h3 k hk
  simpa using this

theorem ready_iff (ws : List GW) (ds : List Bool) {i : Nat} (hi : i < ws.length) (hx : 0 ≤ ws[i].pl) :
    readyB ws ds i = true ↔ ds.getD i false = false ∧ ∀ k, k < i → prD ws ds ws[i].pl.toNat k = false ∧ prD ws ds (ws[i].pl.toNat + 1) k = false := by
  have h := hit_iff ws ds ws[i] hx hi
  unfold hitB at h
  rw [show ws.getD i ⟨0, 0, ByteArray.empty⟩ = ws[i] by simp [List.getD_eq_getElem?_getD, hi]] at h
  simpa [hi] using h

/-- A ready work stands at the head of both of its rows; when it is done, they go on behind it. -/
theorem ready_rows {ws : List GW} {ds : List Bool} {i : Nat} (hi : i < ws.length) (hdl : ds.length = ws.length) (hx : 0 ≤ ws[i].pl) (hr : readyB ws ds i = true) :
    rowD ws ds ws[i].pl.toNat = (i : Int) :: rowD ws (ds.set i true) ws[i].pl.toNat ∧ rowD ws ds (ws[i].pl.toNat + 1) = (i : Int) :: rowD ws (ds.set i true) (ws[i].pl.toNat + 1) ∧
    ∀ q, q ≠ ws[i].pl.toNat → q ≠ ws[i].pl.toNat + 1 → rowD ws (ds.set i true) q = rowD ws ds q := by
  obtain ⟨h2, h3⟩ := (ready_iff ws ds hi hx).1 hr
  have h1 : ws[i]? = some ws[i] := List.getElem?_eq_getElem hi
  have f1 := filt_head hi (show prD ws ds ws[i].pl.toNat i = true by rw [prD_self ws ds _ hx h1 h2]; simp) (fun k hk => (h3 k hk).1)
  have f2 := filt_head hi (show prD ws ds (ws[i].pl.toNat + 1) i = true by rw [prD_self ws ds _ hx h1 h2]; simp) (fun k hk => (h3 k hk).2)
  refine ⟨?_, ?_, fun q hq1 hq2 => ?_⟩
  · unfold rowD; rw [f1, List.map_cons]; congr 2; apply List.filter_congr; intro k _; rw [prD_set ws ds (by omega)]
  · unfold rowD; rw [f2, List.map_cons]; congr 2; apply List.filter_congr; intro k _; rw [prD_set ws ds (by omega)]
  · unfold rowD
    congr 1
    apply List.filter_congr
    intro k _
    rw [prD_set ws ds (by omega)]
    by_cases hk : k = i
    · subst hk
      rw [prD_self ws ds _ hx h1 h2]
      simp; omega
    · have : (k == i) = false := by simp; omega
      simp [this]
/-- If two rows beside each other have one head, it is a ready work of that place. -/
theorem rows_ready {ws : List GW} {ds : List Bool} {P : Nat} {a : Int} {la lb : List Int} (hpl : ∀ x ∈ ws, 0 ≤ x.pl) (h1 : rowD ws ds P = a :: la) (h2 : rowD ws ds (P + 1) = a :: lb) :
    ∃ (i : Nat) (hi : i < ws.length), a = i ∧ ws[i].pl = P ∧ readyB ws ds i = true := by
  obtain ⟨m, t, h3, h4, _⟩ := List.map_eq_cons_iff.1 h1
  obtain ⟨m', t', h5, h6, _⟩ := List.map_eq_cons_iff.1 h2
  have hmm : m = m' := by rw [← h4] at h6; exact (Int.ofNat.inj h6).symm
  subst hmm
  obtain ⟨g1, g2, g3⟩ := head_filt h3
  obtain ⟨g4, g5, g6⟩ := head_filt h5
  have hx := hpl ws[m] (List.getElem_mem g1)
  have hd : ds.getD m false = false ∧ takesB ws[m] P = true := by
    unfold prD tk at g2; rw [Bool.and_eq_true, List.getElem?_eq_getElem g1] at g2; simpa using g2
  have hd2 : takesB ws[m] (P + 1) = true := by
    unfold prD tk at g5; rw [Bool.and_eq_true, List.getElem?_eq_getElem g1] at g5; exact g5.2
  have hP : ws[m].pl = P := by
    have := hd.2
    unfold takesB at this hd2
    simp only [decide_eq_true_eq] at this hd2
    omega
  refine ⟨m, g1, h4.symm, hP, (ready_iff ws ds g1 hx).2 ⟨hd.1, fun k hk => ?_⟩⟩
  rw [hP, Int.toNat_natCast]
  exact ⟨g3 k hk, g6 k hk⟩
theorem getD_pl {ws : List GW} {i : Nat} (hi : i < ws.length) : ws.getD i gw0 = ws[i] := by simp [List.getD_eq_getElem?_getD, hi]
/-- Two ready works have different places. -/
theorem ready_apart {ws : List GW} {ds : List Bool} {i k : Nat} (hri : readyB ws ds i = true) (hrk : readyB ws ds k = true) (hne : k ≠ i) : (ws.getD i gw0).pl ≠ (ws.getD k gw0).pl := by
  intro he
  unfold readyB at hri hrk
  rw [Bool.and_eq_true] at hri hrk
  have htt : ∀ a : Int, touchB a a = true := fun a => by unfold touchB; simp
  rcases Nat.lt_or_ge k i with h | h
  · rcases (noTouch_iff ws ds i i).1 hri.1 k h with h1 | h1
    · have h2 := hrk.2; rw [h1] at h2; cases h2
    · rw [he, htt] at h1; cases h1
  · rcases (noTouch_iff ws ds k k).1 hrk.1 i (by omega) with h1 | h1
    · have h2 := hri.2; rw [h1] at h2; cases h2
    · rw [he, htt] at h1; cases h1
/-- What becomes ready when a work is done touches it. -/
theorem ready_new {ws : List GW} {ds : List Bool} {i k : Nat} (hid : i < ds.length) (h : readyB ws (ds.set i true) k = true) : k ≠ i ∧ (readyB ws ds k = true ∨ touchB (ws.getD i gw0).pl (ws.getD k gw0).pl = true) := by
  unfold readyB at h ⊢
  rw [Bool.and_eq_true] at h
  have hki : k ≠ i := by
    rintro rfl
    have := h.2
    rw [List.getD_eq_getElem?_getD, List.getElem?_set, if_pos rfl, if_pos hid] at this
    simp at this
  refine ⟨hki, ?_⟩
  by_cases ht : touchB (ws.getD i gw0).pl (ws.getD k gw0).pl = true
  · exact .inr ht
  · left
    have hget : ∀ q, q ≠ i → (ds.set i true).getD q false = ds.getD q false := fun q hq => by
      rw [List.getD_eq_getElem?_getD, List.getElem?_set, if_neg (Ne.symm hq), List.getD_eq_getElem?_getD]
    rw [Bool.and_eq_true, noTouch_iff]
    rw [noTouch_iff, hget k hki] at h
    refine ⟨fun q hq => ?_, h.2⟩
    by_cases hqi : q = i
    · subst hqi; right; simpa using ht
    · have := h.1 q hq
      rwa [hget q hqi] at this
/-- At a place left of which nothing is ready: its work, if it has one, is the best. -/
theorem bst_at {ws : List GW} {ds : List Bool} {i : Nat} (hi : i < ws.length) (hr : readyB ws ds i = true) (hat : ∀ k, k < ws.length → readyB ws ds k = true → (ws.getD i gw0).pl ≤ (ws.getD k gw0).pl) : bst ws ds ws.length = i :=
  bst_is hr (fun k hk hrk hne => by
    have h1 := hat k hk hrk
    have h2 := ready_apart hr hrk hne
    omega) ws.length hi (Nat.le_refl _)
theorem bst_none {ws : List GW} {ds : List Bool} : ∀ n, bst ws ds n < 0 → ∀ i, i < n → readyB ws ds i = false
  | 0, _, i, hi => by omega
  | n + 1, h, i, hi => by
    rw [bst] at h
    split at h
    · omega
    · rename_i h1
      rcases Nat.lt_or_ge i n with h2 | h2
      · exact bst_none n h i h2
      · obtain rfl : i = n := by omega
        cases hh : readyB ws ds i with
        | false => rfl
        | true => exact absurd ⟨.inl h, hh⟩ h1
/-- If not all is done, the best work is there, ready and not done. -/
theorem bst_ok {ws : List GW} {ds : List Bool} (hl : ds.length = ws.length) (h : doneN ds < ws.length) : ∃ i : Nat, bst ws ds ws.length = i ∧ i < ws.length ∧ ds.getD i false = false := by
  obtain ⟨j, h1, h2⟩ := some_ready hl h
  rcases bst_bd ws ds ws.length with h3 | ⟨i, h3, h4, h5⟩
  · have := bst_none (ws := ws) (ds := ds) ws.length (by omega) j h1
    rw [h2] at this; cases this
  · refine ⟨i, h3, h4, ?_⟩
    unfold readyB at h5
    rw [Bool.and_eq_true] at h5
    simpa using h5.2
theorem lRun_length (ws : List GW) : ∀ n ds, (lRun ws n ds).length = n
  | 0, _ => rfl
  | n + 1, ds => by rw [lRun, List.length_cons, lRun_length ws n]
end Go.Proofs.Ytifpkdajfdlgeaa
