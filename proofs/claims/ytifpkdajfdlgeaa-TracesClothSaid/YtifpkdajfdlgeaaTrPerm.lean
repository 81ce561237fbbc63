/- The list of Match names each work once; where each work must go. -/
import Derived.Test.YtifpkdajfdlgeaaTrPure
import Derived.Test.YtifpkdajfdlgeaaTrBub
namespace Go.Proofs.Ytifpkdajfdlgeaa

theorem len_sub {α : Type} [BEq α] [LawfulBEq α] : ∀ (l m : List α), l.Nodup → (∀ x ∈ l, x ∈ m) → l.length ≤ m.length
  | [], _, _, _ => by simp
  | a :: l, m, hn, hs => by
    have ha : a ∈ m := hs a (by simp)
    obtain ⟨h1, h2⟩ := List.nodup_cons.1 hn
    have := len_sub l (m.erase a) h2 fun x hx => (List.mem_erase_of_ne (fun he => h1 (by rw [← he]; exact hx))).2 (hs x (by simp [hx]))
    have hp := List.length_pos_of_mem ha
    rw [List.length_erase_of_mem ha] at this
    simp only [List.length_cons]
    omega

/-- The list names each number below its length once. -/
def PermL (l : List Int) : Prop := (∀ x ∈ l, ∃ i : Nat, x = i ∧ i < l.length) ∧ l.Nodup
theorem PermL.all {l : List Int} (h : PermL l) {i : Nat} (hi : i < l.length) : (i : Int) ∈ l := by
  by_cases hm : (i : Int) ∈ l
  · exact hm
  · have h1 := len_sub ((i : Int) :: l) ((List.range l.length).map Int.ofNat) (List.nodup_cons.2 ⟨hm, h.2⟩) (by
      intro x hx
      rw [List.mem_map]
      rcases List.mem_cons.1 hx with rfl | hx
      · exact ⟨i, List.mem_range.2 hi, rfl⟩
      · obtain ⟨k, rfl, hk⟩ := h.1 x hx
        exact ⟨k, List.mem_range.2 hk, rfl⟩)
    simp at h1
    omega
theorem PermL.at_ {l : List Int} (h : PermL l) {k : Nat} (hk : k < l.length) : ∃ i : Nat, l[k] = i ∧ i < l.length := h.1 _ (List.getElem_mem hk)

theorem gRun_perm (ws : List GW) : ∀ (l : List GW) (ds : List Bool) (out : List Int), ds.length = ws.length → gRun ws ds l = some out →
    out.length = l.length ∧ (∀ x ∈ out, ∃ i : Nat, x = i ∧ i < ws.length ∧ ds.getD i false = false) ∧ out.Nodup
  | [], ds, out, _, h => by
    simp only [gRun, Option.some.injEq] at h
    subst h; simp
  | x :: l, ds, out, hd, h => by
    rw [gRun] at h
    split at h
    · cases h
    · rename_i hs
      obtain ⟨i, hsi, hil, hhit⟩ := seek_some (ws := ws) (ds := ds) (x := x) ws.length (by omega)
      rw [hsi, Int.toNat_natCast] at h
      obtain ⟨o, ho, rfl⟩ := Option.map_eq_some_iff.1 h
      obtain ⟨h1, h2, h3⟩ := gRun_perm ws l (ds.set i true) o (by simpa using hd) ho
      have hid : ds.getD i false = false := by
        unfold hitB readyB at hhit
        simp only [Bool.and_eq_true, Bool.not_eq_true'] at hhit
        exact hhit.2.2
      refine ⟨by simp [h1], ?_, List.nodup_cons.2 ⟨?_, h3⟩⟩
      · intro y hy
        rcases List.mem_cons.1 hy with rfl | hy
        · exact ⟨i, rfl, hil, hid⟩
        · obtain ⟨k, rfl, hk, hkd⟩ := h2 y hy
          refine ⟨k, rfl, hk, ?_⟩
          rw [List.getD_eq_getElem?_getD, List.getElem?_set] at hkd
          by_cases hik : i = k
          · subst hik; rw [if_pos rfl, if_pos (by omega)] at hkd; simp at hkd
          · rw [if_neg hik] at hkd; rw [List.getD_eq_getElem?_getD]; exact hkd
      · intro hm
        obtain ⟨k, hk, _, hkd⟩ := h2 _ hm
        have : i = k := by omega
        subst this
        rw [List.getD_eq_getElem?_getD, List.getElem?_set, if_pos rfl, if_pos (by omega)] at hkd
        simp at hkd

theorem matchL_perm (p : Int) (ws : List GW) (q : Int) (vs : List GW) : PermL (matchL p ws q vs) ∧ (matchL p ws q vs).length ≤ 400 := by
  rw [← matchLG_E]
  unfold matchLG
  split
  · rename_i h
    unfold matchG
    split
    · rename_i hpq
      cases hg : gRun ws (List.replicate ws.length false) vs with
      | none => simp [PermL]
      | some out =>
        obtain ⟨h1, h2, h3⟩ := gRun_perm ws vs _ out (by simp) hg
        have hv := (bothErr_ok h).2.all.2.2.1
        refine ⟨⟨fun x hx => ?_, h3⟩, by simpa [h1] using hv⟩
        obtain ⟨i, hi, hil, _⟩ := h2 x hx
        exact ⟨i, hi, by simp only [Option.getD_some]; omega⟩
    · simp [PermL]
  · simp [PermL]

/-- Where the works named by the first k entries must go. -/
def toK (l : List Int) : Nat → List Int
  | 0 => List.replicate l.length 0
  | k + 1 => (toK l k).set (l.getD k 0).toNat k
theorem toK_length (l : List Int) : ∀ k, (toK l k).length = l.length
  | 0 => by simp [toK]
  | k + 1 => by rw [toK, List.length_set, toK_length l k]
theorem toK_at {l : List Int} (h : PermL l) : ∀ k j, k ≤ l.length → j < k → (toK l k).getD (l.getD j 0).toNat 0 = j
  | 0, _, _, hj => by omega
  | k + 1, j, hk, hj => by
    have gk : l.getD k 0 = l[k] := by simp [List.getD_eq_getElem?_getD, show k < l.length by omega]
    have gj : l.getD j 0 = l[j]'(by omega) := by simp [List.getD_eq_getElem?_getD, show j < l.length by omega]
    obtain ⟨a, ha, hal⟩ := h.at_ (k := k) (by omega)
    obtain ⟨b, hb, hbl⟩ := h.at_ (k := j) (by omega)
    rw [toK, List.getD_eq_getElem?_getD, List.getElem?_set, toK_length]
    rcases Nat.lt_or_ge j k with h1 | h1
    · have ih := toK_at h k j (by omega) h1
      have hne : ¬ (l.getD k 0).toNat = (l.getD j 0).toNat := by
        rw [gk, gj, ha, hb]
        intro he
        have hab : l[k] = l[j]'(by omega) := by rw [ha, hb]; simp at he; rw [he]
        exact (List.pairwise_iff_getElem.1 h.2) j k (by omega) (by omega) h1 hab.symm
      rw [if_neg hne]
      rw [List.getD_eq_getElem?_getD] at ih
      exact ih
    · obtain rfl : j = k := by omega
      rw [if_pos rfl, gk, ha, if_pos (by simpa using hal)]
      rfl
theorem toK_inj {l : List Int} (h : PermL l) : InjL (toK l l.length) := by
  intro i j hi hj he
  rw [toK_length] at hi hj
  obtain ⟨a, ha, hal⟩ := List.getElem_of_mem (h.all hi)
  obtain ⟨b, hb, hbl⟩ := List.getElem_of_mem (h.all hj)
  have h1 := toK_at h l.length a (Nat.le_refl _) ha
  have h2 := toK_at h l.length b (Nat.le_refl _) hb
  rw [List.getD_eq_getElem?_getD, List.getD_eq_getElem?_getD, List.getElem?_eq_getElem ha, Option.getD_some, hal, Int.toNat_natCast] at h1
  rw [List.getD_eq_getElem?_getD, List.getD_eq_getElem?_getD, List.getElem?_eq_getElem hb, Option.getD_some, hbl, Int.toNat_natCast] at h2
  rw [List.getD_eq_getElem?_getD, List.getD_eq_getElem?_getD, h1, h2] at he
  have : a = b := by omega
  subst this
  rw [hal] at hbl
  omega
end Go.Proofs.Ytifpkdajfdlgeaa
