/- Texts of this claim, laid together: PrShP, PrLShare. -/
import Derived.Test.YtnplcephmidjbaaDoorMaL
import Derived.Test.YtnplcephmidjbaaDoorMaQ
import Derived.Test.YtnplcephmidjbaaDoorMaT
import Derived.Test.YtnplcephmidjbaaDoorMaY
import Derived.BigRegion
/- Share in plain Lean: bobbins are below the need, and no two places have one at one time. -/
namespace Go.Proofs.YtnplcephmidjbaaDoor

theorem hld_cnt (u : Nat → Bool) (out : Nat → Int) : ∀ m, (hldL u out m).length = cntP (fun p => decide (0 ≤ out p) && u p) m
  | 0 => rfl
  | m + 1 => by
    have ih := hld_cnt u out m
    have e : cntP (fun p => decide (0 ≤ out p) && u p) (m + 1) = cntP (fun p => decide (0 ≤ out p) && u p) m + if (decide (0 ≤ out m) && u m) = true then 1 else 0 := rfl
    rw [e]
    unfold hldL
    by_cases hc : 0 ≤ out m ∧ u m = true
    · rw [if_pos hc, if_pos (by rw [decide_eq_true hc.1, hc.2]; rfl)]
      simp [ih]
    · rw [if_neg hc, if_neg (by simpa using hc), ih]
      rfl
theorem cntP_lt {f g : Nat → Bool} {p0 : Nat} (hf : f p0 = false) (hg : g p0 = true) : ∀ m, (∀ p, p < m → f p = true → g p = true) → p0 < m → cntP f m < cntP g m
  | 0, _, h0 => absurd h0 (by omega)
  | m + 1, h, h0 => by
    have e1 : cntP f (m + 1) = cntP f m + if f m = true then 1 else 0 := rfl
    have e2 : cntP g (m + 1) = cntP g m + if g m = true then 1 else 0 := rfl
    rw [e1, e2]
    by_cases hm : p0 = m
    · subst hm
      have := cntP_mono (f := f) (g := g) p0 fun p hp => h p (by omega)
      rw [hf, hg, if_neg (by decide), if_pos rfl]
      omega
    · have ih := cntP_lt hf hg m (fun p hp => h p (by omega)) (by omega)
      by_cases hc : f m = true
      · rw [if_pos hc, if_pos (h m (by omega) hc)]; omega
      · rw [if_neg hc]; omega
theorem fs_is {q : Nat → Nat} {n k p : Nat} (hk : k < n) (ht : tkB (q k) p = true) (hl : ∀ i, i < k → tkB (q i) p = false) : fsI q n p = k := by
  obtain ⟨h1, h2⟩ := (fsI_le q p k n).2 ⟨k, hk, Nat.le_refl _, ht⟩
  rcases Nat.eq_zero_or_pos k with h0 | h0
  · omega
  · have h3 : ¬ (0 ≤ fsI q n p ∧ fsI q n p ≤ ((k - 1 : Nat) : Int)) := fun h => by
      obtain ⟨i, _, hi, hti⟩ := (fsI_le q p (k - 1) n).1 h
      rw [hl i (by omega)] at hti; cases hti
    omega
/-- What holds of the bobbins within work k, behind j of its places. -/
structure ShI (n : Nat) (q : Nat → Nat) (k j : Nat) (out : Nat → Int) : Prop where
  rng : ∀ p, -1 ≤ out p
  beg : ∀ p, 0 ≤ out p ↔ (∃ i, i < k ∧ tkB (q i) p = true) ∨ ∃ i, i < j ∧ p = q k + i
  need : ∀ p, 0 ≤ out p → out p < needQ q n n
  dis : ∀ p r, p ≠ r → 0 ≤ out p → out p = out r → ¬ (fsI q n p ≤ laI q n r ∧ fsI q n r ≤ laI q n p)
theorem tk_own (c j : Nat) (hj : j < 2) : tkB c (c + j) = true := by
  unfold tkB
  obtain rfl | rfl : j = 0 ∨ j = 1 := by omega
  · simp
  · simp
theorem ShI.step {P n k j : Nat} {q : Nat → Nat} {out : Nat → Int} (h : ShI n q k j out) (hj : j < 2) (hk : k < n) (hq : ∀ i, i < n → q i + 2 ≤ P) (hP : P ≤ 24) : ShI n q k (j + 1) (shV P (shU q n k) out (q k + j)) := by
  have ht := tk_own (q k) j hj
  unfold shV
  by_cases h0 : 0 ≤ out (q k + j)
  · rw [if_pos h0]
    refine ⟨h.rng, fun p => ?_, h.need, h.dis⟩
    rw [h.beg p]
    constructor
    · rintro (hp | ⟨i, hi, hp⟩)
      · exact .inl hp
      · exact .inr ⟨i, by omega, hp⟩
    · rintro (hp | ⟨i, hi, hp⟩)
      · exact .inl hp
      · rcases Nat.lt_succ_iff_lt_or_eq.1 hi with hi | rfl
        · exact .inr ⟨i, hi, hp⟩
        · rw [hp]; exact (h.beg _).1 h0
  · rw [if_neg h0]
    have hno : ∀ i, i < k → tkB (q i) (q k + j) = false := fun i hi => by
      cases hti : tkB (q i) (q k + j) with
      | false => rfl
      | true => exact absurd ((h.beg _).2 (.inl ⟨i, hi, hti⟩)) h0
    have hfs := fs_is hk ht hno
    obtain ⟨g1, g2⟩ := leastL_mex (hldL (shU q n k) out P)
    have hlt : ∀ p, 0 ≤ out p → p < P := fun p hp => by
      rcases (h.beg p).1 hp with ⟨i, hi, hti⟩ | ⟨i, hi, rfl⟩
      · have := hq i (by omega)
        unfold tkB at hti
        simp at hti
        omega
      · have := hq k hk; omega
    have hla : ∀ p, out p = (leastL (hldL (shU q n k) out P) : Int) → laI q n p < k := fun p hp => by
      have hp0 : 0 ≤ out p := by omega
      rcases Int.lt_or_le (laI q n p) k with hh | hh
      · exact hh
      · refine absurd ((hldL_mem _ _ _ P).2 ⟨p, hlt p hp0, hp0, ?_, hp⟩) g1
        unfold shU; rw [decide_eq_true_eq]; exact hh
    have hcnt : (leastL (hldL (shU q n k) out P) : Int) < needQ q n n := by
      have h1 := leastL_le (hldL (shU q n k) out P)
      rw [hld_cnt] at h1
      have h2 : cntP (fun p => decide (0 ≤ out p) && shU q n k p) P < cntP (hgQ q n k) P := by
        refine cntP_lt (p0 := q k + j) ?_ ?_ P (fun p hp hf => ?_) (by have := hq k hk; omega)
        · rw [decide_eq_false h0]; rfl
        · rw [hgQ_iff]; exact ⟨⟨k, hk, Nat.le_refl _, ht⟩, k, hk, Nat.le_refl _, ht⟩
        · simp only [Bool.and_eq_true, decide_eq_true_eq] at hf
          rw [hgQ_iff]
          refine ⟨?_, ?_⟩
          · rcases (h.beg p).1 hf.1 with ⟨i, hi, hti⟩ | ⟨i, hi, rfl⟩
            · exact ⟨i, by omega, by omega, hti⟩
            · exact ⟨k, hk, Nat.le_refl _, tk_own _ _ (by omega)⟩
          · have h3 := hf.2
            unfold shU at h3
            rw [decide_eq_true_eq] at h3
            exact (laI_le q p k n).1 h3
      have h3 : cntP (hgQ q n k) P = hngN q n k := by
        unfold hngN
        have := cntP_more (f := hgQ q n k) (m := P) (24 - P) fun p h1 _ => hgQ_out hq k h1
        rw [show P + (24 - P) = 24 by omega] at this
        exact this.symm
      have h4 := needQ_ge q n n k hk
      omega
    refine ⟨fun p => ?_, fun p => ?_, fun p hp => ?_, fun p r hpr hp he => ?_⟩
    · unfold updF
      split
      · omega
      · exact h.rng p
    · unfold updF
      by_cases hp : p = q k + j
      · rw [if_pos hp]
        exact ⟨fun _ => .inr ⟨j, by omega, hp⟩, fun _ => Int.natCast_nonneg _⟩
      · rw [if_neg hp, h.beg p]
        constructor
        · rintro (hh | ⟨i, hi, hh⟩)
          · exact .inl hh
          · exact .inr ⟨i, by omega, hh⟩
        · rintro (hh | ⟨i, hi, hh⟩)
          · exact .inl hh
          · rcases Nat.lt_succ_iff_lt_or_eq.1 hi with hi | rfl
            · exact .inr ⟨i, hi, hh⟩
            · exact absurd hh hp
    · unfold updF at hp ⊢
      by_cases hpp : p = q k + j
      · rw [if_pos hpp]; exact hcnt
      · rw [if_neg hpp] at hp ⊢; exact h.need p hp
    · unfold updF at hp he
      by_cases hpp : p = q k + j
      · rw [if_pos hpp, if_neg (fun e => hpr (hpp.trans e.symm))] at he
        have := hla r he.symm
        rw [hpp, hfs]
        omega
      · rw [if_neg hpp] at hp he
        by_cases hrr : r = q k + j
        · rw [if_pos hrr] at he
          have := hla p he
          rw [hrr, hfs]
          omega
        · rw [if_neg hrr] at he
          exact h.dis p r hpr hp he
theorem ShI.all {P n : Nat} {q : Nat → Nat} (hq : ∀ i, i < n → q i + 2 ≤ P) (hP : P ≤ 24) : ∀ k, k ≤ n → ShI n q k 0 (shR P q (shU q n) k)
  | 0, _ => by
    refine ⟨fun p => ?_, fun p => ?_, fun p hp => ?_, fun p r _ hp _ => ?_⟩
    · unfold shR; omega
    · unfold shR
      constructor
      · intro h; omega
      · rintro (⟨i, hi, _⟩ | ⟨i, hi, _⟩) <;> omega
    · unfold shR at hp; omega
    · unfold shR at hp; omega
  | k + 1, hk => by
    have ih := ShI.all hq hP k (by omega)
    have h2 := (ih.step (by omega) (by omega) hq hP).step (by omega) (by omega) hq hP
    have e : shR P q (shU q n) (k + 1) = shV P (shU q n k) (shV P (shU q n k) (shR P q (shU q n) k) (q k + 0)) (q k + 1) := rfl
    rw [e]
    refine ⟨h2.rng, fun p => ?_, h2.need, h2.dis⟩
    rw [h2.beg p]
    constructor
    · rintro (⟨i, hi, ht⟩ | ⟨i, hi, rfl⟩)
      · exact .inl ⟨i, by omega, ht⟩
      · exact .inl ⟨k, by omega, tk_own _ _ hi⟩
    · rintro (⟨i, hi, ht⟩ | ⟨i, hi, _⟩)
      · rcases Nat.lt_succ_iff_lt_or_eq.1 hi with hi | rfl
        · exact .inl ⟨i, hi, ht⟩
        · refine .inr ⟨p - q i, ?_, ?_⟩
          · unfold tkB at ht; simp at ht; omega
          · unfold tkB at ht; simp at ht; omega
      · omega
/-- What the law asks of Share. -/
theorem share_ok {P n : Nat} {q : Nat → Nat} (hq : ∀ i, i < n → q i + 2 ≤ P) (hP : P ≤ 24) :
    (∀ p, -1 ≤ shareG P q n p ∧ (fsI q n p < 0 ↔ shareG P q n p = -1)) ∧ (∀ p, 0 ≤ shareG P q n p → shareG P q n p < needQ q n n) ∧
      ∀ p r, p ≠ r → 0 ≤ shareG P q n p → shareG P q n p = shareG P q n r → ¬ (fsI q n p ≤ laI q n r ∧ fsI q n r ≤ laI q n p) := by
  have h := ShI.all hq hP n (Nat.le_refl _)
  refine ⟨fun p => ⟨h.rng p, ?_⟩, h.need, h.dis⟩
  have h1 := h.rng p
  have h2 := h.beg p
  rw [fsI_neg]
  constructor
  · intro hn
    have : ¬ 0 ≤ shR P q (shU q n) n p := fun h0 => by
      rcases h2.1 h0 with ⟨i, hi, ht⟩ | ⟨i, hi, _⟩
      · rw [hn i hi] at ht; cases ht
      · omega
    show shR P q (shU q n) n p = -1
    omega
  · intro he i hi
    cases ht : tkB (q i) p with
    | false => rfl
    | true =>
      have h3 := h2.2 (.inl ⟨i, hi, ht⟩)
      have h4 : shR P q (shU q n) n p = -1 := he
      omega
end Go.Proofs.YtnplcephmidjbaaDoor
/- The law PairsShare returns true. -/
namespace Go.Proofs.YtnplcephmidjbaaDoor
open Go.RowKit

/-- The law's last: 0 where there is none. -/
def lsZ (q : Nat → Nat) (k p : Nat) : Int := if laI q k p < 0 then 0 else laI q k p
theorem lsZ_yes {q : Nat → Nat} {k p : Nat} (h : tkB (q k) p = true) : lsZ q (k + 1) p = (k : Int) := by
  unfold lsZ laI
  rw [if_pos h, if_neg (by omega)]
theorem lsZ_no {q : Nat → Nat} {k p : Nat} (h : tkB (q k) p = false) : lsZ q (k + 1) p = lsZ q k p := by
  unfold lsZ
  have e : laI q (k + 1) p = laI q k p := by
    show (if tkB (q k) p = true then (k : Int) else laI q k p) = _
    rw [h]; rfl
  rw [e]
theorem fs_no {q : Nat → Nat} {k p : Nat} (h : tkB (q k) p = false) : fsI q (k + 1) p = fsI q k p := by
  show (if tkB (q k) p = true ∧ fsI q k p < 0 then (k : Int) else fsI q k p) = _
  rw [h, if_neg (by simp)]
theorem fs_yes {q : Nat → Nat} {k p : Nat} (h : tkB (q k) p = true) : fsI q (k + 1) p = if fsI q k p < 0 then (k : Int) else fsI q k p := by
  show (if tkB (q k) p = true ∧ fsI q k p < 0 then (k : Int) else fsI q k p) = _
  rw [h]
  exact ifc (by simp) _ _
theorem lsZ_used {q : Nat → Nat} {n p : Nat} (h : 0 ≤ fsI q n p) : lsZ q n p = laI q n p := by
  have h1 : ¬ fsI q n p < 0 := by omega
  rw [fsI_neg] at h1
  have h2 : 0 ≤ laI q n p := by
    refine Classical.byContradiction fun hn => h1 fun i hi => ?_
    cases ht : tkB (q i) p with
    | false => rfl
    | true =>
      have := (laI_le q p 0 n).2 ⟨i, hi, by omega, ht⟩
      omega
  unfold lsZ
  rw [if_neg (by omega)]
theorem idB_made (w : World) (m : Nat) : IdB (w.alloc (.cells (madeCells #[.int .i64 0] m) 3)) w.heap.size m (fun _ => 0) := by
  unfold IdB
  rw [heap_alloc_new, idCells_zero]
theorem idB_made2 (w : World) (o : Obj) (m : Nat) : IdB ((w.alloc o).alloc (.cells (madeCells #[.int .i64 0] m) 3)) (w.heap.size + 1) m (fun _ => 0) := by
  have := idB_made (w.alloc o) m
  simpa using this
theorem idB_other {w : World} {R m : Nat} {g : Nat → Int} (h : IdB w R m g) {b : Nat} (hne : R ≠ b) (o : Nat) (x : Value) : IdB (w.setCell ⟨b, o, none⟩ x) R m g := (heap_setCell_other w ⟨b, o, none⟩ R x hne).trans h
theorem idB_lat2 {B : Nat} {w w' : World} {R m : Nat} {g : Nat → Int} (h : IdB w R m g) (hb : Below B w w') (hB : w.heap.size ≤ B) : IdB w' R m g := (hb.block R (Nat.lt_of_lt_of_le (lt_of_block h) hB)).trans h
/-- The places before p have their value, the others 0. -/
def lnF (f : Nat → Int) (p : Nat) : Nat → Int := fun x => if x < p then f x else 0
theorem lnF_upd (f : Nat → Int) (k : Nat) : updF (lnF f k) k (f k) = lnF f (k + 1) := by
  funext p
  unfold updF lnF
  by_cases h : p = k
  · subst h; simp
  · rw [if_neg h]
    by_cases h2 : p < k
    · rw [if_pos h2, if_pos (by omega)]
    · rw [if_neg h2, if_neg (by omega)]
theorem lnF_zero (f : Nat → Int) (k : Nat) : updF (lnF f k) k 0 = lnF f k := by
  funext p
  unfold updF lnF
  by_cases h : p = k
  · subst h; simp
  · rw [if_neg h]
theorem updF_twice (g : Nat → Int) (k : Nat) (a b : Int) : updF (updF g k a) k b = updF g k b := by
  funext p
  unfold updF
  by_cases h : p = k
  · rw [if_pos h, if_pos h]
  · rw [if_neg h, if_neg h, if_neg h]
theorem updF_slf (g : Nat → Int) (k : Nat) (a : Int) : updF g k a k = a := if_pos rfl

set_option maxRecDepth 100000 in
set_option maxHeartbeats 8000000 in
theorem lawShare_ (p : Int) (A L : Option Addr) (c lc : Nat) (ws : List GW) (l : List Int) (w : World) (ha : ShIn w p A ws) (hl : RdI w L l) (hT : Tz w) :
    Calls Tryd.prog 7 #[.agg #[.int .i64 p, .slice A ws.length c], .slice L l.length lc] w fun e w' => e = .returned (.bool true) ∧ Below w.heap.size w w' := by
  have hb2 : Below w.heap.size w (w.alloc (.cells #[.int .i64 p, .slice A ws.length c] 24)) := (Below.refl _ _).alloc (Nat.le_refl _) _
  have Y0 := Lib.hid hb2; clear hb2
  have X0 := Lib.hid (Box1.made w p A c ws.length 24)
  have HA := Lib.hid ha; have HL := Lib.hid hl; have HT := Lib.hid hT; clear ha hl hT
  by_cases h2 : 2000 < (l.length : Int)
  · go_enter Tryd.func7, Tryd.ntmps7
    go_wp2_with fail
    refine (far12_ p A c ws _ (HA.out.rd.later Y0.out (Nat.le_refl _))).mono ?_; rintro e w1 ⟨z, rfl, _, hb1⟩
    cases z
    all_goals
      have X1 := Lib.hid (X0.out.later hb1); have Y1 := Lib.hid (Y0.out.trans (hb1.mono Y0.out.size)); clear hb1; obtain ⟨c1, c2, s1⟩ := X1.out
      go_wp2_with fail
      clear c1 c2 s1
      refine (shown_ _ (HT.out.later Y1.out (Nat.le_refl _))).mono ?_; rintro e w8 ⟨rfl, hb1⟩
      go_wp2
      go_ret
      exact ⟨rfl, Y1.out.trans (hb1.mono Y1.out.size)⟩
  go_enter Tryd.func7, Tryd.ntmps7
  go_wp2_with fail
  refine (far12_ p A c ws _ (HA.out.rd.later Y0.out (Nat.le_refl _))).mono ?_; rintro e w1 ⟨z, rfl, _, hb1⟩
  cases z
  rotate_left
  · have X1 := Lib.hid (X0.out.later hb1); have Y1 := Lib.hid (Y0.out.trans (hb1.mono Y0.out.size)); clear hb1; obtain ⟨c1, c2, s1⟩ := X1.out
    go_wp2_with fail
    clear c1 c2 s1
    refine (shown_ _ (HT.out.later Y1.out (Nat.le_refl _))).mono ?_; rintro e w8 ⟨rfl, hb1⟩
    go_wp2
    go_ret
    exact ⟨rfl, Y1.out.trans (hb1.mono Y1.out.size)⟩
  have X1 := Lib.hid (X0.out.later hb1); have Y1 := Lib.hid (Y0.out.trans (hb1.mono Y0.out.size)); clear hb1; obtain ⟨c1, c2, s1⟩ := X1.out
  go_wp2_with fail
  clear c1 c2 s1
  refine (rCheck_ p A c ws _ HA.out.lo HA.out.hi (HA.out.rd.later Y1.out (Nat.le_refl _))).mono ?_; rintro e w2 ⟨rfl, hb1⟩
  by_cases he : errSheet p ws = 0
  rotate_left
  · have heb : (errSheet p ws != 0) = true := by simpa using he
    generalize errSheet p ws = E at *
    clear he
    have X2 := Lib.hid (X1.out.later hb1); have Y2 := Lib.hid (Y1.out.trans (hb1.mono Y1.out.size)); clear hb1; obtain ⟨c1, c2, s1⟩ := X2.out
    go_wp2_with fail
    clear c1 c2 s1
    refine (shown_ _ (HT.out.later Y2.out (Nat.le_refl _))).mono ?_; rintro e w8 ⟨rfl, hb1⟩
    go_wp2
    go_ret
    exact ⟨rfl, Y2.out.trans (hb1.mono Y2.out.size)⟩
  have hE := Lib.hid he
  rw [he]
  clear he
  have X2 := Lib.hid (X1.out.later hb1); have Y2 := Lib.hid (Y1.out.trans (hb1.mono Y1.out.size)); clear hb1; obtain ⟨c1, c2, s1⟩ := X2.out
  go_wp2_with fail
  clear c1 c2 s1
  refine (rOrder_ p A L c lc ws l _ hE.out (HA.out.rd.later Y2.out (Nat.le_refl _)) (HL.out.later Y2.out (Nat.le_refl _))).mono ?_; rintro e w3 ⟨rfl, hb1⟩
  by_cases ho : ordQ ws l = true
  rotate_left
  · rw [show ordQ ws l = false by simpa using ho]
    clear ho
    have X3 := Lib.hid (X2.out.later hb1); have Y3 := Lib.hid (Y2.out.trans (hb1.mono Y2.out.size)); clear hb1; obtain ⟨c1, c2, s1⟩ := X3.out
    go_wp2_with fail
    clear c1 c2 s1
    refine (shown_ _ (HT.out.later Y3.out (Nat.le_refl _))).mono ?_; rintro e w8 ⟨rfl, hb1⟩
    go_wp2
    go_ret
    exact ⟨rfl, Y3.out.trans (hb1.mono Y3.out.size)⟩
  have hO := Lib.hid ho
  rw [ho]
  clear ho
  have hr0 : reoX p ws l = 0 := by unfold reoX; rw [if_pos hE.out, if_pos hO.out]
  have hhN : hangN p ws l = needQ (plsOf (reoG ws l)) l.length l.length := by unfold hangN; rw [if_pos hr0]
  have hln := (ord_val hO.out).1
  have hp2 := (okAll hE.out).1
  have hp24 := (okAll hE.out).2.1
  have hn4 := (okAll hE.out).2.2.1
  obtain ⟨P, rfl⟩ := Int.eq_ofNat_of_zero_le (show 0 ≤ p by omega)
  have hqP := reo_q (l := l) hE.out
  have hsh := share_ok hqP (by omega)
  have hsl : shareL (P : Int) ws l = (List.range P).map (shareG P (plsOf (reoG ws l)) l.length) := by unfold shareL; rw [if_pos hr0]; rfl
  have hqr : ∀ i, (h : i < l.length) → ∃ y : Nat, y < ws.length ∧ l[i] = (y : Int) ∧ plsOf (reoG ws l) i = plsOf ws y := fun i h => by
    have := (oRun_fol _ _ l 0 (ord_val hO.out).2 i h).1
    exact ⟨(l[i]).toNat, by omega, by omega, plsOf_reo ws l h⟩
  have hwq : ∀ i, (h : i < ws.length) → ws[i].pl = (plsOf ws i : Int) ∧ plsOf ws i ≤ 22 := fun i h => by
    have h1 := pl22 hE.out _ (List.getElem_mem h)
    have e : plsOf ws i = ws[i].pl.toNat := by unfold plsOf; simp [List.getD_eq_getElem?_getD, h]
    omega
  have hl400 : l.length ≤ 400 := by omega
  have HR0 := Lib.hid hr0; have HHN := Lib.hid hhN; have HLN := Lib.hid hln; have HQP := Lib.hid hqP; have HSH := Lib.hid hsh; have HSL := Lib.hid hsl; have HQR := Lib.hid hqr; have HWQ := Lib.hid hwq; clear hr0 hhN hln hqP hsh hsl hqr hwq
  have X3 := Lib.hid (X2.out.later hb1); have Y3 := Lib.hid (Y2.out.trans (hb1.mono Y2.out.size)); clear hb1; obtain ⟨c1, c2, s1⟩ := X3.out
  go_wp2_with fail
  clear c1 c2 s1
  refine (pHanging_ (P : Int) A L c lc ws l _ (HA.out.later Y3.out (Nat.le_refl _)) (HL.out.later Y3.out (Nat.le_refl _))).mono ?_
  rw [HR0.out, HHN.out]
  rintro e w4 ⟨v1, rfl, hv1, hb1⟩
  clear hv1
  have X4 := Lib.hid (X3.out.later hb1); have Y4 := Lib.hid (Y3.out.trans (hb1.mono Y3.out.size)); clear hb1; obtain ⟨c1, c2, s1⟩ := X4.out
  go_wp2_with fail
  clear c1 c2 s1
  refine (pShare_ (P : Int) A L c lc ws l _ (HA.out.later Y4.out (Nat.le_refl _)) (HL.out.later Y4.out (Nat.le_refl _)) (HT.out.later Y4.out (Nat.le_refl _))).mono ?_
  rw [HR0.out, HSL.out]
  rintro e w5 ⟨v2, rfl, hv2, hb1⟩
  have Y5 := Lib.hid (Y4.out.trans (hb1.mono Y4.out.size))
  have X5 := Lib.hid (X4.out.later hb1)
  clear hb1
  obtain ⟨B2, d2, rfl, hv2⟩ := hv2
  rw [show ((List.range P).map (shareG P (plsOf (reoG ws l)) l.length)).length = P by simp]
  have hS : ∀ x, x < P → ((List.range P).map (shareG P (plsOf (reoG ws l)) l.length)).getD x 0 = shareG P (plsOf (reoG ws l)) l.length x := fun x hx => by simp [List.getD_eq_getElem?_getD, hx]
  have hSr : ∀ W, RdI W B2 ((List.range P).map (shareG P (plsOf (reoG ws l)) l.length)) → ∀ x, x < P → ∃ b off, B2 = some ⟨b, off, none⟩ ∧ b < W.heap.size ∧ W.cell? ⟨b, off + x, none⟩ = some (.int .i64 (shareG P (plsOf (reoG ws l)) l.length x)) := fun W hW x hx => by
    obtain ⟨b, off, h1, h2, h3⟩ := hW.at_ (show x < ((List.range P).map (shareG P (plsOf (reoG ws l)) l.length)).length by simpa using hx)
    exact ⟨b, off, h1, h2, by rw [h3]; simp⟩
  generalize needQ (plsOf (reoG ws l)) l.length l.length = N at *
  generalize (List.range P).map (shareG P (plsOf (reoG ws l)) l.length) = SL at *
  generalize shareG P (plsOf (reoG ws l)) l.length = sg at *
  generalize plsOf (reoG ws l) = qr at *
  have hmk := run_make_row' (P := Tryd.prog) 25 3 (.int .i64 0) 8 Tryd.underlying25 infoI_Tryd rfl .i64 .i64 P (by omega) (by omega)
  obtain ⟨c1, c2, s1⟩ := X5.out
  have V5 := Lib.hid hv2
  clear hv2 hS
  have HSR := Lib.hid hSr; clear hSr
  go_upto_region 7 with fail
  go_cut [10, 11] (fun uv dv wx => ∃ U D : Nat, uv = .slice (some ⟨U, 0, none⟩) P P ∧ dv = .slice (some ⟨D, 0, none⟩) P P ∧ IdB wx U P (fun _ => 0) ∧ IdB wx D P (fun _ => 0) ∧ U ≠ D ∧ w5.heap.size ≤ U ∧ w5.heap.size ≤ D ∧ Below w5.heap.size w5 wx)
  case first =>
    go_region
    all_goals
      go_wp2_with fail
      go_meet
      first
      | exact ⟨w5.heap.size, w5.heap.size + 1, rfl, rfl, idB_alloc (idB_made w5 _) _, idB_made2 w5 _ _, by omega, Nat.le_refl _, by omega, (((Below.refl _ _).alloc (Nat.le_refl _) _).alloc (by simp) _).drew⟩
      | exact ⟨w5.heap.size + 1, w5.heap.size, rfl, rfl, idB_made2 w5 _ _, idB_alloc (idB_made w5 _) _, by omega, by omega, Nat.le_refl _, (((Below.refl _ _).alloc (Nat.le_refl _) _).alloc (by simp) _).drew⟩
  case rest =>
    obtain ⟨U, D, rfl, rfl, hU, hD, hne, hUl, hDl, hbc⟩ := hcut
    have C1 := Lib.hid c1
    have C2 := Lib.hid c2
    clear hmk c1 c2 s1
    have hU0 : IdB wc U P (lnF (fsI qr l.length) 0) := hU.congr fun x _ => by unfold lnF; rw [if_neg (by omega)]
    have hD0 : IdB wc D P (lnF (lsZ qr l.length) 0) := hD.congr fun x _ => by unfold lnF; rw [if_neg (by omega)]
    have HU0 := Lib.hid hU0; have HD0 := Lib.hid hD0; have HBC := Lib.hid hbc; clear hU0 hD0 hbc
    clear hU hD
    go_wp2
    go_loopw [12] (fun iv wr => ∃ i : Nat, iv = .int .i64 i ∧ i ≤ P ∧ IdB wr U P (lnF (fsI qr l.length) i) ∧ IdB wr D P (lnF (lsZ qr l.length) i) ∧ Below w5.heap.size w5 wr) (fun iv _ => P - (intOf iv).toNat)
    case atStart => exact ⟨0, rfl, Nat.zero_le _, HU0.out, HD0.out, HBC.out⟩
    case round =>
      obtain ⟨i, rfl, hi, hU, hD, hbr⟩ := hrel
      have c1 := below_at hbr (Nat.le_refl _) C1.out
      have c2 := below_at hbr (Nat.le_refl _) C2.out
      have s1 : w.heap.size < wr.heap.size := World.block_lt_of_cell? _ _ c1
      have sU := lt_of_block hU
      have sD := lt_of_block hD
      by_cases hiP : i < P
      · have x1 : (0 : Int) ≤ (i : Int) := by omega
        have x2 : (i : Int) < (P : Int) := by omega
        have u0 := hU.at_ hiP
        have u1 := hU.free i
        have nU : IdB (wr.setCell ⟨U, i, none⟩ (.int .i64 (-1))) U P (updF (lnF (fsI qr l.length) i) i (fsI qr 0 i)) := hU.put i (-1)
        have nD : IdB (wr.setCell ⟨U, i, none⟩ (.int .i64 (-1))) D P (updF (lnF (lsZ qr l.length) i) i (lsZ qr 0 i)) := by
          rw [show lsZ qr 0 i = 0 from rfl, lnF_zero]
          exact idB_other hD (Ne.symm hne) _ _
        have nB : Below w5.heap.size w5 (wr.setCell ⟨U, i, none⟩ (.int .i64 (-1))) := hbr.setCell hUl _
        have HU := Lib.hid hU; have HD := Lib.hid hD; have HBR := Lib.hid hbr; have NU := Lib.hid nU; have ND := Lib.hid nD; have NB := Lib.hid nB; clear hU hD hbr nU nD nB
        go_wp2
        clear c1 c2 s1 sU sD u0 u1
        go_loopw [13] (fun kv wr => ∃ k : Nat, kv = .int .i64 k ∧ k ≤ l.length ∧ IdB wr U P (updF (lnF (fsI qr l.length) i) i (fsI qr k i)) ∧ IdB wr D P (updF (lnF (lsZ qr l.length) i) i (lsZ qr k i)) ∧ Below w5.heap.size w5 wr) (fun kv _ => l.length - (intOf kv).toNat)
        case atStart => exact ⟨0, rfl, Nat.zero_le _, NU.out, ND.out, NB.out⟩
        case round =>
          obtain ⟨k, rfl, hk, hU, hD, hbk⟩ := hrel
          have c1 := below_at hbk (Nat.le_refl _) C1.out
          have c2 := below_at hbk (Nat.le_refl _) C2.out
          have s1 : w.heap.size < wr.heap.size := World.block_lt_of_cell? _ _ c1
          have sU := lt_of_block hU
          have sD := lt_of_block hD
          have hbw := Y5.out.trans (hbk.mono Y5.out.size)
          by_cases hkl : k < l.length
          · obtain ⟨y, hy, hly, hqk⟩ := HQR.out k hkl
            obtain ⟨bl, ol, rfl, hbl, l1⟩ := (HL.out.later hbw (Nat.le_refl _)).at_ hkl
            obtain ⟨ba, oa, rfl, hba, t1, t2, t3⟩ := (HA.out.rd.later hbw (Nat.le_refl _)).at_ hy
            obtain ⟨p1, p2⟩ := HWQ.out y hy
            rw [hly] at l1
            rw [p1] at t2
            have hcall := fun kk ss W => rTakes_ kk (plsOf ws y : Int) (i : Int) ss W (by omega) (by omega)
            rw [takes_tk] at hcall
            have y1 : (0 : Int) ≤ (k : Int) := by omega
            have y2 : (k : Int) < (l.length : Int) := by omega
            have y5 : (0 : Int) ≤ (y : Int) := by omega
            have y6 : (y : Int) < (ws.length : Int) := by omega
            have fn1 : tkB (plsOf ws y) i = false → fsI qr (k + 1) i = fsI qr k i := fun h => fs_no (by rw [hqk]; exact h)
            have fn2 : tkB (plsOf ws y) i = false → lsZ qr (k + 1) i = lsZ qr k i := fun h => lsZ_no (by rw [hqk]; exact h)
            have fy1 : tkB (plsOf ws y) i = true → fsI qr (k + 1) i = if fsI qr k i < 0 then (k : Int) else fsI qr k i := fun h => fs_yes (by rw [hqk]; exact h)
            have fy2 : tkB (plsOf ws y) i = true → lsZ qr (k + 1) i = (k : Int) := fun h => lsZ_yes (by rw [hqk]; exact h)
            generalize ws[y].kind = kd at *
            generalize ws[y].word = wd0 at *
            generalize tkB (plsOf ws y) i = tk at *
            generalize plsOf ws y = qy at *
            clear hly p1 hqk
            have HU := Lib.hid hU; have HD := Lib.hid hD; have HBK := Lib.hid hbk; have HBW := Lib.hid hbw; have HCALL := Lib.hid hcall; have FN1 := Lib.hid fn1; have FN2 := Lib.hid fn2; have FY1 := Lib.hid fy1; have FY2 := Lib.hid fy2; clear hU hD hbk hbw hcall fn1 fn2 fy1 fy2
            go_wp2
            have hbelc : ∀ (u : Bel wr.heap.size wr) b o, b < wr.heap.size → u.wd.cell? ⟨b, o, none⟩ = wr.cell? ⟨b, o, none⟩ := fun u b o h => u.h.cell (p := ⟨b, o, none⟩) h
            have hbeln : Nonempty (Bel wr.heap.size wr) := ⟨⟨wr, Below.refl _ _⟩⟩
            refine wp_region_bel wr.heap.size (by kernel_rfl) (by kernel_rfl) ?_
            repeat (go_big_quiet_step ((go_at_call 23; exact quiet_bel (Nat.le_refl _) (HCALL.out _ _ _))))
            refine wpQuiet_nil ?_
            intro wB hB0; obtain ⟨uB, hu⟩ := hB0; have hbB0 := uB.h; rw [← hu] at hbB0; clear hu uB hbelc hbeln
            obtain ⟨hbB, hcB, hsB⟩ := bcell2 hbB0; clear hbB0
            have hbB2 : Below w5.heap.size w5 wB := HBK.out.trans (hbB.mono HBK.out.size)
            have vU := idB_lat2 HU.out hbB (Nat.le_refl _)
            have vD := idB_lat2 HD.out hbB (Nat.le_refl _)
            clear c1 c2 s1 l1 t1 t2 t3 hcB hsB hbB HCALL HU HD sU sD hba hbl
            have sU := lt_of_block vU
            have sD := lt_of_block vD
            cases tk
            · have e1 := FN1.out rfl
              have e2 := FN2.out rfl
              rw [← e1] at vU
              rw [← e2] at vD
              clear FN1 FN2 FY1 FY2 e1 e2
              have VU := Lib.hid vU; have VD := Lib.hid vD; have HBB2 := Lib.hid hbB2; clear vU vD hbB2
              go_wp2
              go_roundw
              case rel => exact ⟨k + 1, by go_num, by omega, VU.out, VD.out, HBB2.out⟩
              case measure => simp [intOf]; omega
            · have e1 := FY1.out rfl
              have e2 := FY2.out rfl
              have d0 := vD.at_ hiP
              have d1 := vD.free i
              have vD2 : IdB (wB.setCell ⟨D, i, none⟩ (.int .i64 (k : Int))) D P (updF (lnF (lsZ qr l.length) i) i (lsZ qr (k + 1) i)) := by
                have := vD.put i (k : Int)
                rw [updF_twice] at this
                rw [e2]; exact this
              have vU2 := idB_other vU hne i (.int .i64 (k : Int))
              have u0 := vU2.at_ hiP
              have u1 := vU2.free i
              rw [updF_slf] at u0
              have sU2 := lt_of_block vU2
              have bB : Below w5.heap.size w5 (wB.setCell ⟨D, i, none⟩ (.int .i64 (k : Int))) := hbB2.setCell hDl _
              clear FN1 FN2 FY1 FY2 e2
              by_cases hf : fsI qr k i < 0
              · rw [if_pos hf] at e1
                have vU3 : IdB ((wB.setCell ⟨D, i, none⟩ (.int .i64 (k : Int))).setCell ⟨U, i, none⟩ (.int .i64 (k : Int))) U P (updF (lnF (fsI qr l.length) i) i (fsI qr (k + 1) i)) := by
                  have := vU2.put i (k : Int)
                  rw [updF_twice] at this
                  rw [e1]; exact this
                have vD3 := idB_other vD2 (Ne.symm hne) i (.int .i64 (k : Int))
                have bC : Below w5.heap.size w5 ((wB.setCell ⟨D, i, none⟩ (.int .i64 (k : Int))).setCell ⟨U, i, none⟩ (.int .i64 (k : Int))) := bB.setCell hUl _
                generalize fsI qr k i = fk at *
                have E1 := Lib.hid e1; have VU := Lib.hid vU; have VD := Lib.hid vD; have VU2 := Lib.hid vU2; have VD2 := Lib.hid vD2; have VU3 := Lib.hid vU3; have VD3 := Lib.hid vD3; have HBB2 := Lib.hid hbB2; have BB := Lib.hid bB; have BC := Lib.hid bC; clear e1 vU vD vU2 vD2 vU3 vD3 hbB2 bB bC
                go_wp2
                go_roundw
                case rel => exact ⟨k + 1, by go_num, by omega, VU3.out, VD3.out, BC.out⟩
                case measure => simp [intOf]; omega
              · rw [if_neg hf] at e1
                rw [← e1] at vU2
                generalize fsI qr k i = fk at *
                have hf2 : 0 ≤ fk := by omega
                have E1 := Lib.hid e1; have VU := Lib.hid vU; have VD := Lib.hid vD; have VU2 := Lib.hid vU2; have VD2 := Lib.hid vD2; have HBB2 := Lib.hid hbB2; have BB := Lib.hid bB; clear e1 vU vD vU2 vD2 hbB2 bB
                go_wp2
                go_roundw
                case rel => exact ⟨k + 1, by go_num, by omega, VU2.out, VD2.out, BB.out⟩
                case measure => simp [intOf]; omega
          · obtain rfl : k = l.length := by omega
            have u0 := hU.at_ hiP
            rw [updF_slf] at u0
            rw [lnF_upd] at hU hD
            obtain ⟨g1, g2, g3⟩ := HSH.out
            obtain ⟨g1a, g1b⟩ := g1 i
            have g2 := g2 i
            obtain ⟨bs, os, rfl, hbs, v0⟩ := HSR.out wr (V5.out.later hbk (Nat.le_refl _)) i hiP
            clear g3
            generalize fsI qr l.length i = f at *
            generalize sg i = sv at *
            have x1 : (0 : Int) ≤ (i : Int) := by omega
            have x2 : (i : Int) < (P : Int) := by omega
            by_cases hf : f < 0
            · have q1 : sv = -1 := g1b.1 hf
              subst q1
              have q2 : decide (f < 0) = true := by simpa using hf
              have q3 : decide ((N : Int) ≤ -1) = false := by simp; omega
              clear g1a g1b g2 hf
              have HU := Lib.hid hU; have HD := Lib.hid hD; have HBK := Lib.hid hbk; have HBW := Lib.hid hbw; clear hU hD hbk hbw
              go_wp2
              go_quiet (fail)
              go_wp2
              go_roundw
              case rel => exact ⟨i + 1, by go_num, by omega, HU.out, HD.out, below_drewN HBK.out _⟩
              case measure => simp [intOf]; omega
            · have q1 : sv ≠ -1 := fun h => hf (g1b.2 h)
              have q2 : decide (f < 0) = false := by simpa using hf
              have q4 : (sv == -1) = false := by simpa using q1
              have q5 : decide (sv < -1) = false := by simp; omega
              have q3 : decide ((N : Int) ≤ sv) = false := by have := g2 (by omega); simp; omega
              clear g1a g1b g2 hf q1
              have HU := Lib.hid hU; have HD := Lib.hid hD; have HBK := Lib.hid hbk; have HBW := Lib.hid hbw; clear hU hD hbk hbw
              go_wp2
              go_quiet (fail)
              go_wp2
              go_roundw
              case rel => exact ⟨i + 1, by go_num, by omega, HU.out, HD.out, below_drewN HBK.out _⟩
              case measure => simp [intOf]; omega
      · obtain rfl : i = P := by omega
        have hgt : ∀ W, Below wr.heap.size wr W → ∀ x, x < i → U < W.heap.size ∧ D < W.heap.size ∧ W.cell? ⟨U, x, none⟩ = some (.int .i64 (fsI qr l.length x)) ∧ W.cell? ⟨D, x, none⟩ = some (.int .i64 (lsZ qr l.length x)) := fun W hb x hx => by
          have hU2 := idB_lat2 hU hb (Nat.le_refl _)
          have hD2 := idB_lat2 hD hb (Nat.le_refl _)
          have e1 := hU2.at_ hx
          have e2 := hD2.at_ hx
          unfold lnF at e1 e2
          rw [if_pos hx] at e1 e2
          exact ⟨lt_of_block hU2, lt_of_block hD2, e1, e2⟩
        have hno : ∀ x y, x ≠ y → 0 ≤ sg x → sg x = sg y → fsI qr l.length x ≤ lsZ qr l.length y → fsI qr l.length y ≤ lsZ qr l.length x → False := fun x y hxy h0 he h1 h2 => by
          obtain ⟨g1, _, g3⟩ := HSH.out
          have a1 : 0 ≤ fsI qr l.length x := by have := (g1 x).2; omega
          have a2 : 0 ≤ fsI qr l.length y := by have := (g1 y).2; omega
          rw [lsZ_used a2] at h1
          rw [lsZ_used a1] at h2
          exact g3 x y hxy h0 he ⟨h1, h2⟩
        obtain ⟨wz, rfl⟩ : ∃ wz : World, wz = wr := ⟨_, rfl⟩
        have HGT := Lib.hid hgt; have HNO := Lib.hid hno; have HBR := Lib.hid hbr; have HU := Lib.hid hU; have HD := Lib.hid hD; clear hgt hno hbr hU hD
        go_wp2
        clear c1 c2 s1 sU sD HU HD
        go_loopw [14] (fun xv wr => ∃ x : Nat, xv = .int .i64 x ∧ x ≤ i ∧ Below wz.heap.size wz wr) (fun xv _ => i - (intOf xv).toNat)
        case atStart => exact ⟨0, rfl, Nat.zero_le _, Below.refl _ _⟩
        case round =>
          obtain ⟨x, rfl, hx, hbx⟩ := hrel
          have hbw := HBR.out.trans (hbx.mono HBR.out.size)
          have c1 := below_at hbw (Nat.le_refl _) C1.out
          have s1 : w.heap.size < wr.heap.size := World.block_lt_of_cell? _ _ c1
          by_cases hxP : x < i
          · have x2 : (x : Int) < (i : Int) := by omega
            have HBX := Lib.hid hbx; have HBW := Lib.hid hbw; clear hbx hbw
            obtain ⟨wo, rfl⟩ : ∃ wo : World, wo = wr := ⟨_, rfl⟩
            go_wp2
            clear c1 s1
            go_loopw [15] (fun yv wr => ∃ y : Nat, yv = .int .i64 y ∧ y ≤ x ∧ Below wz.heap.size wz wr) (fun yv _ => x - (intOf yv).toNat)
            case atStart => exact ⟨0, rfl, Nat.zero_le _, HBX.out⟩
            case round =>
              obtain ⟨y, rfl, hy, hby⟩ := hrel
              by_cases hyx : y < x
              · have y1 : (0 : Int) ≤ (y : Int) := by omega
                have y2 : (y : Int) < (x : Int) := by omega
                have y3 : (y : Int) < (i : Int) := by omega
                have x1 : (0 : Int) ≤ (x : Int) := by omega
                obtain ⟨r1, r2, r3, r4⟩ := HGT.out wr hby x hxP
                obtain ⟨_, _, r5, r6⟩ := HGT.out wr hby y (by omega)
                have hn := HNO.out x y (by omega)
                have hbv := HBR.out.trans (hby.mono HBR.out.size)
                obtain ⟨bs, os, hSe, hbs, v0⟩ := HSR.out wr (V5.out.later hbv (Nat.le_refl _)) x hxP
                obtain ⟨bs2, os2, hSe2, _, v1⟩ := HSR.out wr (V5.out.later hbv (Nat.le_refl _)) y (by omega)
                subst hSe
                injection hSe2 with hSe3; injection hSe3 with hS1 hS2; subst hS1; subst hS2
                generalize fsI qr l.length x = fx at *
                generalize fsI qr l.length y = fy at *
                generalize lsZ qr l.length x = lx at *
                generalize lsZ qr l.length y = ly at *
                generalize sg x = sx at *
                generalize sg y = sy at *
                by_cases h0 : 0 ≤ sx
                · have q0 : decide (0 ≤ sx) = true := by simpa using h0
                  by_cases h1 : sx = sy
                  · have q1 : (sx == sy) = true := by simpa using h1
                    by_cases h2 : fx ≤ ly
                    · have q2 : decide (fx ≤ ly) = true := by simpa using h2
                      have q3 : decide (fy ≤ lx) = false := by
                        have : ¬ fy ≤ lx := fun h => hn h0 h1 h2 h
                        simpa using this
                      clear hn h0 h1 h2
                      have HBY := Lib.hid hby; have HBV := Lib.hid hbv; clear hby hbv
                      go_wp2
                      go_quiet (fail)
                      go_wp2
                      go_roundw
                      case rel => exact ⟨y + 1, by go_num, by omega, below_drewN HBY.out _⟩
                      case measure => simp [intOf]; omega
                    · have q2 : decide (fx ≤ ly) = false := by simpa using h2
                      clear hn h0 h1 h2
                      have HBY := Lib.hid hby; have HBV := Lib.hid hbv; clear hby hbv
                      go_wp2
                      go_quiet (fail)
                      go_wp2
                      go_roundw
                      case rel => exact ⟨y + 1, by go_num, by omega, below_drewN HBY.out _⟩
                      case measure => simp [intOf]; omega
                  · have q1 : (sx == sy) = false := by simpa using h1
                    clear hn h0 h1
                    have HBY := Lib.hid hby; have HBV := Lib.hid hbv; clear hby hbv
                    go_wp2
                    go_quiet (fail)
                    go_wp2
                    go_roundw
                    case rel => exact ⟨y + 1, by go_num, by omega, below_drewN HBY.out _⟩
                    case measure => simp [intOf]; omega
                · have q0 : decide (0 ≤ sx) = false := by simpa using h0
                  clear hn h0
                  have HBY := Lib.hid hby; have HBV := Lib.hid hbv; clear hby hbv
                  go_wp2
                  go_quiet (fail)
                  go_wp2
                  go_roundw
                  case rel => exact ⟨y + 1, by go_num, by omega, below_drewN HBY.out _⟩
                  case measure => simp [intOf]; omega
              · obtain rfl : y = x := by omega
                have HBY := Lib.hid hby; clear hby
                clear hyx hy
                go_wp2
                go_roundw
                case rel => exact ⟨y + 1, by go_num, by omega, HBY.out⟩
                case measure => simp [intOf]; omega
          · obtain rfl : x = i := by omega
            have hTr := HT.out.later (Y5.out.trans (hbw.mono Y5.out.size)) (Nat.le_refl _)
            clear hxP hx
            have HBX := Lib.hid hbx; have HBW := Lib.hid hbw; have HTR := Lib.hid hTr; clear hbx hbw hTr
            go_wp2_with (go_at_call 10; refine (shown_ _ HTR.out).mono ?_; rintro e wq ⟨rfl, hbq⟩)
            go_ret
            exact ⟨rfl, Y5.out.trans ((HBW.out.trans (hbq.mono HBW.out.size)).mono Y5.out.size)⟩
end Go.Proofs.YtnplcephmidjbaaDoor
