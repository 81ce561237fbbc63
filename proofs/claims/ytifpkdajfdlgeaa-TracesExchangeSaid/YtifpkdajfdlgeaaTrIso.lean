/- An order of a sheet: what is ready, the levels and the least order go with it; a changed work leaves none. -/
import Derived.Test.YtifpkdajfdlgeaaTrSho2
import Derived.Test.YtifpkdajfdlgeaaTrLst
import Derived.Test.YtifpkdajfdlgeaaTrReo
import Derived.Test.YtifpkdajfdlgeaaTrNum
namespace Go.Proofs.Ytifpkdajfdlgeaa

theorem touch_comm (a b : Int) : touchB a b = touchB b a := by
  unfold touchB; rw [Bool.eq_iff_iff]; simp only [decide_eq_true_eq]; omega
/-- vs is ws in another order; s says where its works were. -/
structure Iso (ws vs : List GW) (s : Nat → Nat) : Prop where
  len : vs.length = ws.length
  rng : ∀ k, k < vs.length → s k < vs.length
  inj : ∀ j k, j < vs.length → k < vs.length → s j = s k → j = k
  sur : ∀ q, q < vs.length → ∃ k, k < vs.length ∧ s k = q
  at_ : ∀ k, k < vs.length → vs.getD k gw0 = ws.getD (s k) gw0
  tch : ∀ j k, j < vs.length → k < vs.length → touchB (vs.getD j gw0).pl (vs.getD k gw0).pl = true → s j < s k → j < k
theorem Laid.iso {ws vs : List GW} {l : List Int} (h : Laid ws vs l) (hp : PermL l) : Iso ws vs (fun k => (l.getD k 0).toNat) := by
  obtain ⟨hl1, hl2⟩ := h.length
  have hat : ∀ k, k < l.length → ∃ i : Nat, l.getD k 0 = i ∧ i < l.length := fun k hk => by
    obtain ⟨i, h1, h2⟩ := hp.at_ hk
    exact ⟨i, by rw [List.getD_eq_getElem?_getD, List.getElem?_eq_getElem hk, Option.getD_some, h1], h2⟩
  have hinj : ∀ j k, j < l.length → k < l.length → (l.getD j 0).toNat = (l.getD k 0).toNat → j = k := fun j k hj hk he => by
    obtain ⟨i, h1, h2⟩ := hat j hj
    obtain ⟨i', h3, h4⟩ := hat k hk
    rw [h1, h3] at he
    have hll : l[j] = l[k] := by
      rw [List.getD_eq_getElem?_getD, List.getElem?_eq_getElem hj, Option.getD_some] at h1
      rw [List.getD_eq_getElem?_getD, List.getElem?_eq_getElem hk, Option.getD_some] at h3
      rw [h1, h3]; simp only [Int.toNat_natCast] at he; rw [he]
    rcases Nat.lt_trichotomy j k with g | g | g
    · exact absurd hll (List.pairwise_iff_getElem.1 hp.2 j k hj hk g)
    · exact g
    · exact absurd hll.symm (List.pairwise_iff_getElem.1 hp.2 k j hk hj g)
  have hmap : ∀ k, k < vs.length → vs.getD k gw0 = ws.getD (l.getD k 0).toNat gw0 := fun k hk => by
    rw [h.2]
    have hk' : k < l.length := by omega
    simp [List.getD_eq_getElem?_getD, hk', nw]
  refine ⟨hl2, fun k hk => ?_, fun j k hj hk => hinj j k (by omega) (by omega), fun q hq => ?_, hmap, fun j k hj hk ht hs => ?_⟩
  · obtain ⟨i, h1, h2⟩ := hat k (by omega)
    show (l.getD k 0).toNat < _
    rw [h1]; simpa using (by omega : i < vs.length)
  · obtain ⟨k, hk, he⟩ := List.getElem_of_mem (hp.all (show q < l.length by omega))
    exact ⟨k, by omega, by show (l.getD k 0).toNat = q; rw [List.getD_eq_getElem?_getD, List.getElem?_eq_getElem hk, Option.getD_some, he]; rfl⟩
  · have ho := h.1
    unfold ordB at ho
    rw [Bool.and_eq_true] at ho
    rw [hmap j hj, hmap k hk] at ht
    rcases ord_before ws l _ (by simp [hl1]) ho.2 k (by omega) _ hs ht with g | ⟨j', j1, j2⟩
    · simp [List.getD_eq_getElem?_getD, List.getElem?_replicate] at g
      split at g <;> simp at g
    · have := hinj j' j (by omega) (by omega) j2
      omega
theorem Iso.ord {ws vs : List GW} {s : Nat → Nat} (h : Iso ws vs s) {j k : Nat} (hj : j < vs.length) (hk : k < vs.length) (ht : touchB (vs.getD j gw0).pl (vs.getD k gw0).pl = true) (hlt : j < k) : s j < s k := by
  rcases Nat.lt_trichotomy (s j) (s k) with g | g | g
  · exact g
  · have := h.inj j k hj hk g; omega
  · have := h.tch k j hk hj (by rw [touch_comm]; exact ht) g; omega
theorem Iso.ready {ws vs : List GW} {s : Nat → Nat} (h : Iso ws vs s) {ds es : List Bool} (hd : ∀ k, k < vs.length → ds.getD k false = es.getD (s k) false) {k : Nat} (hk : k < vs.length) : readyB vs ds k = readyB ws es (s k) := by
  rw [Bool.eq_iff_iff, rdy_iff, rdy_iff, hd k hk]
  refine and_congr ⟨fun g q hq => ?_, fun g j hj => ?_⟩ Iff.rfl
  · obtain ⟨j, hj, rfl⟩ := h.sur q (by have := h.rng k hk; omega)
    have e1 : touchB (ws.getD (s j) nw).pl (ws.getD (s k) nw).pl = touchB (vs.getD j gw0).pl (vs.getD k gw0).pl := by rw [h.at_ j hj, h.at_ k hk]; rfl
    rw [e1]
    cases ht : touchB (vs.getD j gw0).pl (vs.getD k gw0).pl with
    | false => exact .inr rfl
    | true =>
      have hjk := h.tch j k hj hk ht hq
      rcases g j hjk with g | g
      · exact .inl (by rw [← hd j hj]; exact g)
      · rw [show touchB (vs.getD j nw).pl (vs.getD k nw).pl = touchB (vs.getD j gw0).pl (vs.getD k gw0).pl from rfl, ht] at g; cases g
  · have hj' : j < vs.length := by omega
    cases ht : touchB (vs.getD j nw).pl (vs.getD k nw).pl with
    | false => exact .inr rfl
    | true =>
      have hs := h.ord hj' hk ht hj
      have e1 : touchB (ws.getD (s j) nw).pl (ws.getD (s k) nw).pl = touchB (vs.getD j gw0).pl (vs.getD k gw0).pl := by rw [h.at_ j hj', h.at_ k hk]; rfl
      rcases g (s j) hs with g | g
      · exact .inl (by rw [hd j hj']; exact g)
      · rw [e1, show touchB (vs.getD j gw0).pl (vs.getD k gw0).pl = touchB (vs.getD j nw).pl (vs.getD k nw).pl from rfl, ht] at g; cases g
/-- Levels. -/
theorem Iso.lev {ws vs : List GW} {s : Nat → Nat} (h : Iso ws vs s) (hv : ∀ k, k < vs.length → 0 ≤ (vs.getD k gw0).pl) : ∀ n k, k < n → k < vs.length → lvK vs k = lvK ws (s k)
  | 0, k, hk, _ => by omega
  | n + 1, k, hkn, hk => by
    have hw0 : 0 ≤ (ws.getD (s k) gw0).pl := by rw [← h.at_ k hk]; exact hv k hk
    have b1 := lvK_bd vs k
    have b2 := lvK_bd ws (s k)
    have h1 : lvK vs k ≤ lvK ws (s k) := by
      rcases lev_below (hv k hk) with g | ⟨j, g1, g2, g3⟩
      · omega
      · have hj : j < vs.length := by omega
        have ih := h.lev hv n j (by omega) hj
        have hs := h.ord hj hk g2 g1
        have := lev_less (ws := ws) (i := s k) (k := s j) hw0 hs (by rw [← h.at_ j hj, ← h.at_ k hk]; exact g2)
        omega
    have h2 : lvK ws (s k) ≤ lvK vs k := by
      rcases lev_below hw0 with g | ⟨q, g1, g2, g3⟩
      · omega
      · obtain ⟨j, hj, rfl⟩ := h.sur q (by have := h.rng k hk; omega)
        have ht : touchB (vs.getD j gw0).pl (vs.getD k gw0).pl = true := by rw [h.at_ j hj, h.at_ k hk]; exact g2
        have hjk := h.tch j k hj hk ht g1
        have ih := h.lev hv n j (by omega) hj
        have := lev_less (ws := vs) (i := k) (k := j) (hv k hk) hjk ht
        omega
    omega
/-- The best ready work has the least place. -/
theorem bst_min {ws : List GW} {ds : List Bool} : ∀ (n i : Nat), bst ws ds n = i → ∀ k, k < n → readyB ws ds k = true → (ws.getD i gw0).pl ≤ (ws.getD k gw0).pl
  | 0, _, _, k, hk, _ => by omega
  | n + 1, i, hb, k, hk, hr => by
    rw [bst] at hb
    split at hb
    · rename_i hc
      obtain rfl : n = i := by omega
      rcases Nat.lt_or_ge k n with g | g
      · rcases bst_bd ws ds n with g2 | ⟨i', g2, g3, _⟩
        · have := bst_none (ws := ws) (ds := ds) n (by omega) k g
          rw [hr] at this; cases this
        · have ih := bst_min n i' g2 k g hr
          rw [g2, Int.toNat_natCast] at hc
          rcases hc.1 with g4 | g4 <;> omega
      · obtain rfl : k = n := by omega
        omega
    · rename_i hc
      rcases Nat.lt_or_ge k n with g | g
      · exact bst_min n i hb k g hr
      · obtain rfl : k = n := by omega
        rw [hb, Int.toNat_natCast] at hc
        have : ¬ (ws.getD k gw0).pl < (ws.getD i gw0).pl := fun g2 => hc ⟨.inr g2, hr⟩
        omega
theorem bst_ready {ws : List GW} {ds : List Bool} (hl : ds.length = ws.length) (h : doneN ds < ws.length) : ∃ i : Nat, bst ws ds ws.length = i ∧ i < ws.length ∧ readyB ws ds i = true := by
  obtain ⟨j, h1, h2⟩ := some_ready hl h
  rcases bst_bd ws ds ws.length with h3 | ⟨i, h3, h4, h5⟩
  · have := bst_none (ws := ws) (ds := ds) ws.length (by omega) j h1
    rw [h2] at this; cases this
  · exact ⟨i, h3, h4, h5⟩
theorem ready_not {ws : List GW} {ds : List Bool} {i : Nat} (h : readyB ws ds i = true) : ds.getD i false = false := by
  unfold readyB at h
  rw [Bool.and_eq_true] at h
  simpa using h.2
/-- The least order is an order. -/
theorem lRun_ord (ws : List GW) : ∀ n ds, ds.length = ws.length → doneN ds + n ≤ ws.length → ordRun ws ds (lRun ws n ds) = true
  | 0, _, _, _ => rfl
  | n + 1, ds, hl, hd => by
    obtain ⟨i, h1, h2, h3⟩ := bst_ready hl (by omega)
    rw [lRun, ordRun, h1, Int.toNat_natCast, h3, decide_eq_true ⟨by omega, by omega⟩, Bool.and_self, Bool.true_and]
    exact lRun_ord ws n _ (by simpa using hl) (by rw [doneN_set (by omega) (ready_not h3)]; omega)
theorem doneN_none (n : Nat) : doneN (List.replicate n false) = 0 := by unfold doneN; simp [List.count_replicate]
theorem least_ord (ws : List GW) : ordB ws (leastL ws) = true := by
  unfold ordB leastL
  rw [lRun_length, decide_eq_true rfl, Bool.true_and]
  exact lRun_ord ws _ _ (by simp) (by rw [doneN_none]; omega)
theorem Iso.run {ws vs : List GW} {s : Nat → Nat} (h : Iso ws vs s) : ∀ n ds es, ds.length = vs.length → es.length = ws.length → (∀ k, k < vs.length → ds.getD k false = es.getD (s k) false) → doneN ds + n ≤ vs.length →
    lRun ws n es = (lRun vs n ds).map fun x => (s x.toNat : Int)
  | 0, _, _, _, _, _, _ => rfl
  | n + 1, ds, es, hl, hl2, hd, hn => by
    obtain ⟨i, h1, h2, h3⟩ := bst_ready hl (by omega)
    have hb : bst ws es ws.length = (s i : Int) := by
      refine bst_at (by have := h.rng i h2; have := h.len; omega) (by rw [← h.ready hd h2]; exact h3) fun q hq hrq => ?_
      obtain ⟨j, hj, rfl⟩ := h.sur q (by have := h.len; omega)
      rw [← h.ready hd hj] at hrq
      rw [← h.at_ i h2, ← h.at_ j hj]
      exact bst_min vs.length i h1 j hj hrq
    rw [lRun, lRun, List.map_cons, h1, hb, Int.toNat_natCast, Int.toNat_natCast]
    congr 1
    refine h.run n _ _ (by simpa using hl) (by simpa using hl2) (fun k hk => ?_) (by rw [doneN_set (by omega) (ready_not h3)]; omega)
    by_cases hik : i = k
    · subst hik
      rw [getD_set_eq (by omega), getD_set_eq (by have := h.rng i h2; have := h.len; omega)]
    · rw [getD_set_ne hik, getD_set_ne (fun g => hik (h.inj i k h2 hk g)), hd k hk]
/-- The sheets in the least order are equal. -/
theorem Iso.least {ws vs : List GW} {s : Nat → Nat} (h : Iso ws vs s) : reoL ws (leastL ws) = reoL vs (leastL vs) := by
  have e : leastL ws = (leastL vs).map fun x => (s x.toNat : Int) := by
    unfold leastL
    rw [h.len]
    exact h.run _ _ _ (by simp [h.len]) (by simp) (fun k hk => by simp [List.getD_eq_getElem?_getD, List.getElem?_replicate]; split <;> split <;> rfl) (by rw [doneN_none]; have := h.len; omega)
  have hr : ∀ x ∈ leastL vs, 0 ≤ x ∧ x < vs.length := by
    have := least_ord vs
    unfold ordB at this
    rw [Bool.and_eq_true] at this
    exact ord_range this.2
  unfold reoL
  rw [e, List.map_map]
  refine List.map_congr_left fun x hx => ?_
  have := hr x hx
  show ws.getD (((s x.toNat : Nat) : Int)).toNat gw0 = _
  rw [Int.toNat_natCast, h.at_ x.toNat (by omega)]
/-- What Match finds are the works of the other sheet. -/
theorem gRun_map (ws : List GW) : ∀ (vs : List GW) (ds : List Bool) (l : List Int), gRun ws ds vs = some l → vs = l.map fun x => ws.getD x.toNat gw0
  | [], _, l, h => by rw [gRun] at h; obtain rfl := Option.some.inj h; rfl
  | x :: vs, ds, l, h => by
    rw [gRun] at h
    split at h
    · cases h
    · rename_i hs
      obtain ⟨m, h1, h2⟩ := Option.map_eq_some_iff.1 h
      obtain ⟨i, g1, g2, g3⟩ := seek_some (ws := ws) (ds := ds) (x := x) ws.length (by omega)
      have ih := gRun_map ws vs _ m h1
      rw [← h2, List.map_cons, ← ih, g1, Int.toNat_natCast]
      unfold hitB at g3
      rw [Bool.and_eq_true, decide_eq_true_eq] at g3
      rw [← g3.1]
theorem PermL.nat {l : List Int} (h : PermL l) : (l.map Int.toNat).Perm (List.range l.length) := by
  refine perm_range ?_ (fun x hx => ?_) fun i hi => ?_
  · refine List.pairwise_map.2 (h.2.imp_of_mem fun {a b} ha hb hab => ?_)
    obtain ⟨i, h1, _⟩ := h.1 a ha
    obtain ⟨j, h2, _⟩ := h.1 b hb
    subst h1; subst h2
    intro g
    simp only [Int.toNat_natCast] at g
    exact hab (by rw [g])
  · obtain ⟨y, hy, rfl⟩ := List.mem_map.1 hx
    obtain ⟨i, h1, h2⟩ := h.1 y hy
    subst h1; simpa using h2
  · exact List.mem_map.2 ⟨(i : Int), h.all hi, by simp⟩
theorem PermL.works {l : List Int} (h : PermL l) {ws : List GW} (hl : l.length = ws.length) : (l.map fun x => ws.getD x.toNat gw0).Perm ws := by
  have h1 := (h.nat).map fun i => ws.getD i gw0
  rw [List.map_map] at h1
  refine h1.trans ?_
  rw [hl]
  have e : (List.range ws.length).map (fun i => ws.getD i gw0) = ws := by
    apply List.ext_getElem
    · simp
    · intro i h1 h2; simp [List.getD_eq_getElem?_getD, h2]
  rw [e]
/-- After a change of one work there is no order. -/
theorem match_changed {p : Int} {ws vs : List GW} {l : List Int} (h : Laid ws vs l) (hp : PermL l) {k : Nat} (hk : k < vs.length) {z : GW} (hz : z ≠ vs.getD k gw0) (hz0 : 0 ≤ z.pl) (hv : ∀ x ∈ vs, 0 ≤ x.pl)
    (hb : bothErr p ws p (vs.set k z) = 0) : matchP p ws p (vs.set k z) = none := by
  obtain ⟨hl1, hl2⟩ := h.length
  cases hm : matchP p ws p (vs.set k z) with
  | none => rfl
  | some l2 =>
    exfalso
    have hv2 : ∀ x ∈ vs.set k z, 0 ≤ x.pl := fun x hx => by
      rcases List.mem_or_eq_of_mem_set hx with g | g
      · exact hv x g
      · rw [g]; exact hz0
    have h2 := (matchL_perm p ws p (vs.set k z)).1
    have e2 : matchL p ws p (vs.set k z) = l2 := by unfold matchL; rw [if_pos hb, hm]; rfl
    rw [e2] at h2
    rw [← matchG_P hv2] at hm
    unfold matchG at hm
    rw [if_pos ⟨rfl, by simp [hl2]⟩] at hm
    have h3 := gRun_map ws _ _ _ hm
    have h4 : l2.length = ws.length := by have := congrArg List.length h3; simp at this; omega
    have p1 : (vs.set k z).Perm ws := by rw [h3]; exact h2.works h4
    have p2 : vs.Perm ws := by
      have e := h.2
      have := hp.works (ws := ws) hl1
      rw [e]; exact this
    have c := (p1.trans p2.symm).count_eq z
    rw [List.count_set hk] at c
    have hne : ¬ vs[k] = z := fun g => hz (by rw [← g]; simp [List.getD_eq_getElem?_getD, hk])
    simp [hne] at c
end Go.Proofs.Ytifpkdajfdlgeaa
