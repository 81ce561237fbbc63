/- Texts of this claim, laid together: BoOdo, BoRSp, BoRRest, BoRSp2, BoLSp. -/
import Derived.Test.YtdimaapiloojeaaMaI
import Derived.Test.YtdimaapiloojeaaMaJ
import Derived.Deep.CutBlock
/- The next plan, in the order of lists: pure. -/
namespace Go.Proofs.Ytdimaapiloojeaa
open Go.RowKit

/-- Less at the first place where they differ. -/
def lexF (L : Nat) (q p : Nat → Nat) : Prop := ∃ k, k < L ∧ (∀ j, j < k → q j = p j) ∧ q k < p k
theorem lexLo_F : ∀ (l m : List Nat), l.length = m.length → (lexLo l m ↔ lexF l.length (fun j => l.getD j 0) (fun j => m.getD j 0))
  | [], [], _ => ⟨fun h => by unfold lexLo at h; exact h.elim, fun ⟨k, hk, _⟩ => absurd hk (by simp)⟩
  | [], _ :: _, h => by cases h
  | _ :: _, [], h => by cases h
  | a :: l, b :: m, h => by
    have hl : l.length = m.length := by simpa using h
    unfold lexLo
    rw [lexLo_F l m hl]
    constructor
    · rintro (h1 | ⟨h1, k, hk, h2, h3⟩)
      · exact ⟨0, by simp, fun j hj => absurd hj (by omega), by simpa using h1⟩
      · refine ⟨k + 1, by simpa using hk, fun j hj => ?_, by simpa using h3⟩
        cases j with
        | zero => simpa using h1
        | succ j => simpa using h2 j (by omega)
    · rintro ⟨k, hk, h2, h3⟩
      cases k with
      | zero => exact .inl (by simpa using h3)
      | succ k =>
        refine .inr ⟨by simpa using h2 0 (by omega), k, by simpa using hk, fun j hj => ?_, by simpa using h3⟩
        simpa using h2 (j + 1) (by omega)
theorem eq_or_diff (q p : Nat → Nat) (i : Nat) : ∀ d, (∀ j, i ≤ j → j < i + d → q j = p j) ∨ ∃ k, i ≤ k ∧ k < i + d ∧ (∀ j, i ≤ j → j < k → q j = p j) ∧ q k ≠ p k
  | 0 => .inl fun j h1 h2 => absurd h2 (by omega)
  | d + 1 => by
    rcases eq_or_diff q p i d with h | ⟨k, h1, h2, h3, h4⟩
    · by_cases e : q (i + d) = p (i + d)
      · refine .inl fun j h1 h2 => ?_
        rcases Nat.lt_or_ge j (i + d) with h5 | h5
        · exact h j h1 h5
        · rw [show j = i + d by omega]; exact e
      · exact .inr ⟨i + d, by omega, by omega, h, e⟩
    · exact .inr ⟨k, h1, by omega, h3, h4⟩
/-- The next list: one more at i, nothing behind it. -/
def nxF (p : Nat → Nat) (i : Nat) (j : Nat) : Nat := if j < i then p j else if j = i then p i + 1 else 0
theorem nx_lex {L n i : Nat} {p q : Nat → Nat} (hi : i < L) (hmax : ∀ j, i < j → j < L → p j + 1 = n) (hq : ∀ j, j < L → q j < n) : lexF L q (nxF p i) ↔ lexF L q p ∨ ∀ j, j < L → q j = p j := by
  constructor
  · rintro ⟨k, hk, h1, h2⟩
    rcases Nat.lt_trichotomy k i with h | h | h
    · refine .inl ⟨k, hk, fun j hj => ?_, ?_⟩
      · rw [h1 j hj]; unfold nxF; rw [if_pos (by omega)]
      · unfold nxF at h2; rw [if_pos h] at h2; exact h2
    · subst h
      have hb : ∀ j, j < k → q j = p j := fun j hj => by rw [h1 j hj]; unfold nxF; rw [if_pos hj]
      have hk2 : q k < p k + 1 := by unfold nxF at h2; rw [if_neg (by omega), if_pos rfl] at h2; exact h2
      by_cases e : q k = p k
      · rcases eq_or_diff q p (k + 1) (L - (k + 1)) with h3 | ⟨m, m1, m2, m3, m4⟩
        · refine .inr fun j hj => ?_
          rcases Nat.lt_trichotomy j k with h4 | h4 | h4
          · exact hb j h4
          · rw [h4]; exact e
          · exact h3 j h4 (by omega)
        · refine .inl ⟨m, by omega, fun j hj => ?_, ?_⟩
          · rcases Nat.lt_trichotomy j k with h4 | h4 | h4
            · exact hb j h4
            · rw [h4]; exact e
            · exact m3 j h4 hj
          · have := hmax m (by omega) (by omega)
            have := hq m (by omega)
            omega
      · exact .inl ⟨k, hk, hb, by omega⟩
    · unfold nxF at h2
      rw [if_neg (by omega), if_neg (by omega)] at h2
      omega
  · rintro (⟨k, hk, h1, h2⟩ | h)
    · rcases Nat.lt_or_ge k i with h3 | h3
      · refine ⟨k, hk, fun j hj => ?_, ?_⟩
        · rw [h1 j hj]; unfold nxF; rw [if_pos (by omega)]
        · unfold nxF; rw [if_pos h3]; exact h2
      · refine ⟨i, hi, fun j hj => ?_, ?_⟩
        · rw [h1 j (by omega)]; unfold nxF; rw [if_pos hj]
        · unfold nxF
          rw [if_neg (by omega), if_pos rfl]
          rcases Nat.lt_or_ge i k with h4 | h4
          · rw [h1 i h4]; omega
          · have e : i = k := by omega
            subst e
            omega
    · refine ⟨i, hi, fun j hj => ?_, ?_⟩
      · rw [h j (by omega)]; unfold nxF; rw [if_pos hj]
      · unfold nxF; rw [if_neg (by omega), if_pos rfl, h i hi]; omega
theorem last_lex {L n : Nat} {p q : Nat → Nat} (hmax : ∀ j, j < L → p j + 1 = n) (hq : ∀ j, j < L → q j < n) : lexF L q p ∨ ∀ j, j < L → q j = p j := by
  rcases eq_or_diff q p 0 L with h | ⟨m, m1, m2, m3, m4⟩
  · exact .inr fun j hj => h j (by omega) (by omega)
  · refine .inl ⟨m, by omega, fun j hj => m3 j (by omega) hj, ?_⟩
    have := hmax m (by omega)
    have := hq m (by omega)
    omega
def lsF (L : Nat) (p : Nat → Nat) : List Nat := (List.range L).map p
theorem lsF_len (L : Nat) (p : Nat → Nat) : (lsF L p).length = L := by unfold lsF; simp
theorem lsF_get {L : Nat} {p : Nat → Nat} {j : Nat} (hj : j < L) : (lsF L p).getD j 0 = p j := by unfold lsF; simp [List.getD_eq_getElem?_getD, hj]
theorem lsF_of {L : Nat} {l : List Nat} (h : l.length = L) : lsF L (fun j => l.getD j 0) = l := by
  unfold lsF
  apply List.ext_getElem
  · simp [h]
  · intro j h1 h2
    simp [List.getD_eq_getElem?_getD, h2]
theorem lexF_congr {L : Nat} {q q' p p' : Nat → Nat} (hq : ∀ j, j < L → q j = q' j) (hp : ∀ j, j < L → p j = p' j) : lexF L q p → lexF L q' p' := fun ⟨k, hk, h1, h2⟩ =>
  ⟨k, hk, fun j hj => by rw [← hq j (by omega), ← hp j (by omega)]; exact h1 j hj, by rw [← hq k hk, ← hp k hk]; exact h2⟩
/-- All lists before this one. -/
def befD (n L : Nat) (p : Nat → Nat) : List (List Nat) := (allD n L).filter fun q => lexB q (lsF L p)
theorem lexB_iff : ∀ l m, lexB l m = true ↔ lexLo l m := fun l m => ⟨lexB_lo l m, by
  induction l generalizing m with
  | nil => intro h; unfold lexLo at h; exact h.elim
  | cons a l ih =>
    intro h
    cases m with
    | nil => unfold lexLo at h; exact h.elim
    | cons b m =>
      unfold lexLo at h
      unfold lexB
      simp only [Bool.or_eq_true, Bool.and_eq_true, decide_eq_true_eq]
      rcases h with h | h
      · exact .inl h
      · exact .inr ⟨h.1, ih m h.2⟩⟩
theorem befD_mem {n L : Nat} {p : Nat → Nat} {q : List Nat} : q ∈ befD n L p ↔ q ∈ allD n L ∧ lexF L (fun j => q.getD j 0) p := by
  unfold befD
  rw [List.mem_filter, lexB_iff]
  constructor
  · rintro ⟨h1, h2⟩
    have hl := ((allD_mem n L q).1 h1).1
    refine ⟨h1, ?_⟩
    have h3 := (lexLo_F q (lsF L p) (by rw [lsF_len, hl])).1 h2
    rw [hl] at h3
    exact lexF_congr (fun j _ => rfl) (fun j hj => lsF_get hj) h3
  · rintro ⟨h1, h2⟩
    have hl := ((allD_mem n L q).1 h1).1
    refine ⟨h1, (lexLo_F q (lsF L p) (by rw [lsF_len, hl])).2 ?_⟩
    rw [hl]
    exact lexF_congr (fun j _ => rfl) (fun j hj => (lsF_get hj).symm) h2
theorem BestP.congr {needs spools : List Int} {A B : List (List Nat)} {p : List Nat} (h : ∀ q, q ∈ A ↔ q ∈ B) (hb : BestP needs spools A p) : BestP needs spools B p := ⟨(h p).1 hb.1, hb.2.1, fun q hq => hb.2.2 q ((h q).2 hq)⟩
theorem stIs_congr {needs spools : List Int} {A B : List (List Nat)} {st : StS} (h : ∀ q, q ∈ A ↔ q ∈ B) (hs : StIs needs spools A st) : StIs needs spools B st := by
  unfold StIs at hs ⊢
  cases hb : st.best with
  | none => rw [hb] at hs; exact fun q hq => hs q ((h q).2 hq)
  | some p => rw [hb] at hs; exact ⟨hs.1.congr h, hs.2⟩
theorem allD_get {n L : Nat} {q : List Nat} (h : q ∈ allD n L) : ∀ j, j < L → q.getD j 0 < n := fun j hj => by
  obtain ⟨h1, h2⟩ := (allD_mem n L q).1 h
  rw [List.getD_eq_getElem?_getD, List.getElem?_eq_getElem (by omega)]
  exact h2 _ (List.getElem_mem _)
theorem allD_lsF {n L : Nat} {p : Nat → Nat} (h : ∀ j, j < L → p j < n) : lsF L p ∈ allD n L := (allD_mem n L _).2 ⟨lsF_len L p, fun k hk => by
  unfold lsF at hk
  obtain ⟨j, hj, rfl⟩ := List.mem_map.1 hk
  exact h j (List.mem_range.1 hj)⟩
theorem eq_lsF {L : Nat} {p : Nat → Nat} {q : List Nat} (hl : q.length = L) : (∀ j, j < L → q.getD j 0 = p j) ↔ q = lsF L p := by
  constructor
  · intro h
    rw [← lsF_of hl]
    unfold lsF
    exact List.map_congr_left fun j hj => h j (List.mem_range.1 hj)
  · rintro rfl j hj
    exact lsF_get hj
/-- Nothing is before the first list. -/
theorem bef_first {needs spools : List Int} (n L : Nat) : StIs needs spools (befD n L fun _ => 0) ⟨none, 0, 0⟩ := by
  unfold StIs
  intro q hq
  obtain ⟨_, k, hk, _, h⟩ := befD_mem.1 hq
  exact absurd h (Nat.not_lt_zero _)
theorem bef_step {needs spools : List Int} {n L i : Nat} {p : Nat → Nat} {st : StS} (h : StIs needs spools (befD n L p) st) (hp : ∀ j, j < L → p j < n) (hi : i < L) (hmax : ∀ j, i < j → j < L → p j + 1 = n) : StIs needs spools (befD n L (nxF p i)) (stepS needs spools st (lsF L p)) := by
  refine stIs_congr (fun q => ?_) (stIs_step h (lsF L p) fun r hr => ?_)
  · rw [List.mem_append, List.mem_singleton, befD_mem, befD_mem]
    constructor
    · rintro (⟨h1, h2⟩ | rfl)
      · exact ⟨h1, (nx_lex hi hmax (allD_get h1)).2 (.inl h2)⟩
      · have h1 := allD_lsF (n := n) hp
        exact ⟨h1, (nx_lex hi hmax (allD_get h1)).2 (.inr fun j hj => lsF_get hj)⟩
    · rintro ⟨h1, h2⟩
      rcases (nx_lex hi hmax (allD_get h1)).1 h2 with h3 | h3
      · exact .inl ⟨h1, h3⟩
      · exact .inr ((eq_lsF ((allD_mem n L q).1 h1).1).1 h3)
  · obtain ⟨h1, h2⟩ := befD_mem.1 hr
    have hl := ((allD_mem n L r).1 h1).1
    refine (lexLo_F r (lsF L p) (by rw [lsF_len, hl])).2 ?_
    rw [hl]
    exact lexF_congr (fun j _ => rfl) (fun j hj => (lsF_get hj).symm) h2
theorem bef_last {needs spools : List Int} {n L : Nat} {p : Nat → Nat} {st : StS} (h : StIs needs spools (befD n L p) st) (hp : ∀ j, j < L → p j < n) (hmax : ∀ j, j < L → p j + 1 = n) : StIs needs spools (allD n L) (stepS needs spools st (lsF L p)) := by
  refine stIs_congr (fun q => ?_) (stIs_step h (lsF L p) fun r hr => ?_)
  · rw [List.mem_append, List.mem_singleton, befD_mem]
    constructor
    · rintro (⟨h1, _⟩ | rfl)
      · exact h1
      · exact allD_lsF hp
    · intro h1
      rcases last_lex hmax (allD_get h1) with h3 | h3
      · exact .inl ⟨h1, h3⟩
      · exact .inr ((eq_lsF ((allD_mem n L q).1 h1).1).1 h3)
  · obtain ⟨h1, h2⟩ := befD_mem.1 hr
    have hl := ((allD_mem n L r).1 h1).1
    refine (lexLo_F r (lsF L p) (by rw [lsF_len, hl])).2 ?_
    rw [hl]
    exact lexF_congr (fun j _ => rfl) (fun j hj => (lsF_get hj).symm) h2
/-- What the whole search finds is fixed. -/
theorem stIs_best {needs spools : List Int} {L : List (List Nat)} {a b : StS} (ha : StIs needs spools L a) (hb : StIs needs spools L b) : a.best = b.best := by
  unfold StIs at ha hb
  cases h1 : a.best with
  | none =>
    rw [h1] at ha
    cases h2 : b.best with
    | none => rfl
    | some q => rw [h2] at hb; exact absurd hb.1.2.1 (ha q hb.1.1)
  | some p =>
    rw [h1] at ha
    cases h2 : b.best with
    | none => rw [h2] at hb; exact absurd ha.1.2.1 (hb p ha.1.1)
    | some q => rw [h2] at hb; rw [ha.1.uniq hb.1]
end Go.Proofs.Ytdimaapiloojeaa
/- The reference's Spools and Rest. -/
namespace Go.Proofs.Ytdimaapiloojeaa
open Go.RowKit

set_option maxRecDepth 100000 in
set_option maxHeartbeats 2000000 in
theorem rFrom20_ (n lo hi : Int) (w : World) : Calls Try.prog 44 #[.int .i64 n, .int .i64 lo, .int .i64 hi] w (BoolPost (!outR n lo hi) w) := by
  have hb := Below.refl w.heap.size w
  obtain ⟨R, hR⟩ : ∃ R, R = !outR n lo hi := ⟨_, rfl⟩
  rw [← hR]
  unfold outR at hR
  by_cases h1 : lo ≤ n
  · have d1 : decide (lo ≤ n) = true := decide_eq_true h1
    have d3 : decide (n < lo) = false := decide_eq_false (by omega)
    by_cases h2 : n ≤ hi
    · have d2 : decide (n ≤ hi) = true := decide_eq_true h2
      rw [d3, decide_eq_false (show ¬ hi < n by omega)] at hR
      have HB := Lib.hid hb; clear hb
      subst hR
      clear d3
      go_enter Try.func44, Try.ntmps44
      go_wp2
      go_ret
      exact ⟨rfl, HB.out⟩
    · have d2 : decide (n ≤ hi) = false := decide_eq_false h2
      rw [d3, decide_eq_true (show hi < n by omega)] at hR
      have HB := Lib.hid hb; clear hb
      subst hR
      clear d3
      go_enter Try.func44, Try.ntmps44
      go_wp2
      go_ret
      exact ⟨rfl, HB.out⟩
  · have d1 : decide (lo ≤ n) = false := decide_eq_false h1
    rw [decide_eq_true (show n < lo by omega), Bool.true_or] at hR
    have HB := Lib.hid hb; clear hb
    subst hR
    go_enter Try.func44, Try.ntmps44
    go_wp2
    go_ret
    exact ⟨rfl, HB.out⟩
set_option maxRecDepth 100000 in
set_option maxHeartbeats 4000000 in
theorem rasked20_ (A B : Option Addr) (c d : Nat) (xs ys : List Int) (w : World) (hx : RdI w A xs) (hy : RdI w B ys) :
    Calls Try.prog 52 #[.slice A xs.length c, .slice B ys.length d] w (IntPost (wrgE xs ys) w) := by
  have hln := hx.1
  have hln2 := hy.1
  have hb := Below.refl w.heap.size w
  obtain ⟨E, hE⟩ : ∃ E, E = wrgE xs ys := ⟨_, rfl⟩
  rw [← hE]
  unfold wrgE at hE
  by_cases h1 : 8 < xs.length
  · have d1 : decide ((8 : Int) < (xs.length : Int)) = true := decide_eq_true (by omega)
    rw [if_pos (.inl h1)] at hE
    have HB := Lib.hid hb; have HE := Lib.hid hE; have HX := Lib.hid hx; have HY := Lib.hid hy; clear hb hE hx hy
    go_enter Try.func52, Try.ntmps52
    go_wp2
    go_ret
    exact ⟨by rw [HE.out]; rfl, HB.out⟩
  have d1 : decide ((8 : Int) < (xs.length : Int)) = false := decide_eq_false (by omega)
  by_cases h2 : 6 < ys.length
  · have d2 : decide ((6 : Int) < (ys.length : Int)) = true := decide_eq_true (by omega)
    rw [if_pos (.inr h2)] at hE
    have HB := Lib.hid hb; have HE := Lib.hid hE; have HX := Lib.hid hx; have HY := Lib.hid hy; clear hb hE hx hy
    go_enter Try.func52, Try.ntmps52
    go_wp2
    go_ret
    exact ⟨by rw [HE.out]; rfl, HB.out⟩
  have d2 : decide ((6 : Int) < (ys.length : Int)) = false := decide_eq_false (by omega)
  rw [if_neg (by omega)] at hE
  have HB := Lib.hid hb; have HE := Lib.hid hE; have HX := Lib.hid hx; have HY := Lib.hid hy; clear hb hE hx hy
  go_enter Try.func52, Try.ntmps52
  go_wp2
  clear d1 d2
  go_loopw [5] (fun iv wr => ∃ k : Nat, iv = .int .i64 (k : Int) ∧ k ≤ xs.length ∧ (xs.take k).any wrgI = false ∧ Below w.heap.size w wr) (fun iv _ => xs.length - (intOf iv).toNat)
  case atStart => exact ⟨0, rfl, Nat.zero_le _, rfl, HB.out⟩
  case round =>
    obtain ⟨k, rfl, hk, hno, hbw⟩ := hrel
    by_cases hlt : k < xs.length
    · obtain ⟨bl, ol, rfl, hbl, l1⟩ := (HX.out.later hbw (Nat.le_refl _)).at_ hlt
      have hts := any_succI xs wrgI k hlt
      have hhit : wrgI xs[k] = true → xs.any wrgI = true := fun h => List.any_eq_true.2 ⟨_, List.getElem_mem hlt, h⟩
      have hcall := fun W => rFrom20_ xs[k] 1 1000000000000 W
      have x1 : (0 : Int) ≤ (k : Int) := by omega
      have x2 : (k : Int) < (xs.length : Int) := by omega
      generalize xs[k] = x at *
      obtain ⟨g, hg⟩ : ∃ g, g = wrgI x := ⟨_, rfl⟩
      have hg2 : outR x 1 1000000000000 = g := hg.symm
      rw [hg2] at hcall
      rw [← hg] at hts hhit
      cases g with
      | true =>
        have hres : E = 2 := by rw [HE.out, if_pos (.inl (hhit rfl))]
        clear hhit
        have HNO := Lib.hid hno; have HTS := Lib.hid hts; have HRES := Lib.hid hres; have HBW := Lib.hid hbw; have HCALL := Lib.hid hcall; have HG := Lib.hid hg; have HG2 := Lib.hid hg2; clear hno hts hres hbw hcall hg hg2
        go_wp2_with fail
        refine (HCALL.out _).mono ?_
        rintro e w1 ⟨rfl, b1⟩
        have hb1 := HBW.out.trans (b1.mono HBW.out.size)
        clear b1
        have HB1 := Lib.hid hb1; clear hb1
        go_wp2
        go_ret
        exact ⟨by rw [HRES.out]; rfl, HB1.out⟩
      | false =>
        have hno2 : (xs.take (k + 1)).any wrgI = false := by rw [hts, hno]; rfl
        clear hhit
        have HNO := Lib.hid hno; have HTS := Lib.hid hts; have HNO2 := Lib.hid hno2; have HBW := Lib.hid hbw; have HCALL := Lib.hid hcall; have HG := Lib.hid hg; have HG2 := Lib.hid hg2; clear hno hts hno2 hbw hcall hg hg2
        go_wp2_with fail
        refine (HCALL.out _).mono ?_
        rintro e w1 ⟨rfl, b1⟩
        have hb1 := HBW.out.trans (b1.mono HBW.out.size)
        clear b1
        have HB1 := Lib.hid hb1; clear hb1
        go_wp2
        go_roundw
        case rel => exact ⟨k + 1, by go_num, by omega, HNO2.out, HB1.out⟩
        case measure => simp [intOf]; omega
    · have hno2 : xs.any wrgI = false := by rw [List.take_of_length_le (by omega)] at hno; exact hno
      have x3 : ¬ (k : Int) < (xs.length : Int) := by omega
      have HNO := Lib.hid hno; have HNO2 := Lib.hid hno2; clear hno hno2
      have HBW0 := Lib.hid hbw
      clear hbw
      go_wp2
      go_loopw [6] (fun iv wr => ∃ k : Nat, iv = .int .i64 (k : Int) ∧ k ≤ ys.length ∧ (ys.take k).any wrgI = false ∧ Below w.heap.size w wr) (fun iv _ => ys.length - (intOf iv).toNat)
      case atStart => exact ⟨0, rfl, Nat.zero_le _, rfl, HBW0.out⟩
      case round =>
        obtain ⟨k, rfl, hk, hno, hbw⟩ := hrel
        by_cases hlt : k < ys.length
        · obtain ⟨bl, ol, rfl, hbl, l1⟩ := (HY.out.later hbw (Nat.le_refl _)).at_ hlt
          have hts := any_succI ys wrgI k hlt
          have hhit : wrgI ys[k] = true → ys.any wrgI = true := fun h => List.any_eq_true.2 ⟨_, List.getElem_mem hlt, h⟩
          have hcall := fun W => rFrom20_ ys[k] 1 1000000000000 W
          have x1 : (0 : Int) ≤ (k : Int) := by omega
          have x2 : (k : Int) < (ys.length : Int) := by omega
          generalize ys[k] = x at *
          obtain ⟨g, hg⟩ : ∃ g, g = wrgI x := ⟨_, rfl⟩
          have hg2 : outR x 1 1000000000000 = g := hg.symm
          rw [hg2] at hcall
          rw [← hg] at hts hhit
          cases g with
          | true =>
            have hres : E = 2 := by rw [HE.out, if_pos (.inr (hhit rfl))]
            clear hhit
            have HNO := Lib.hid hno; have HTS := Lib.hid hts; have HRES := Lib.hid hres; have HBW := Lib.hid hbw; have HCALL := Lib.hid hcall; have HG := Lib.hid hg; have HG2 := Lib.hid hg2; clear hno hts hres hbw hcall hg hg2
            go_wp2_with fail
            refine (HCALL.out _).mono ?_
            rintro e w1 ⟨rfl, b1⟩
            have hb1 := HBW.out.trans (b1.mono HBW.out.size)
            clear b1
            have HB1 := Lib.hid hb1; clear hb1
            go_wp2
            go_ret
            exact ⟨by rw [HRES.out]; rfl, HB1.out⟩
          | false =>
            have hno2 : (ys.take (k + 1)).any wrgI = false := by rw [hts, hno]; rfl
            clear hhit
            have HNO3 := Lib.hid hno2
            clear hno2
            have HNO := Lib.hid hno; have HTS := Lib.hid hts; have HBW := Lib.hid hbw; have HCALL := Lib.hid hcall; have HG := Lib.hid hg; have HG2 := Lib.hid hg2; clear hno hts hbw hcall hg hg2
            go_wp2_with fail
            refine (HCALL.out _).mono ?_
            rintro e w1 ⟨rfl, b1⟩
            have hb1 := HBW.out.trans (b1.mono HBW.out.size)
            clear b1
            have HB1 := Lib.hid hb1; clear hb1
            go_wp2
            go_roundw
            case rel => exact ⟨k + 1, by go_num, by omega, HNO3.out, HB1.out⟩
            case measure => simp [intOf]; omega
        · have hno4 : ys.any wrgI = false := by rw [List.take_of_length_le (by omega)] at hno; exact hno
          have hres : E = 0 := by rw [HE.out, HNO2.out, hno4]; rfl
          have x4 : ¬ (k : Int) < (ys.length : Int) := by omega
          have HNO := Lib.hid hno; have HNO4 := Lib.hid hno4; have HBW := Lib.hid hbw; have HRES := Lib.hid hres; clear hno hno4 hbw hres
          go_wp2
          go_ret
          exact ⟨by rw [HRES.out]; rfl, HBW.out⟩
/-- The number in a cell. -/
def cellI (w : World) (P j : Nat) : Int := intOf ((w.cell? ⟨P, j, none⟩).getD (.int .i64 0))
theorem BI.cellI {w : World} {R T n : Nat} {g : Nat → Int} (h : BI w R T n g) {p : Nat} (hp : p < n) : cellI w R p = g p := by
  unfold Go.Proofs.Ytdimaapiloojeaa.cellI; rw [h.at_ hp]; rfl
theorem count_lt {α : Type} {P Q : α → Bool} : ∀ {l : List α}, (∀ a, a ∈ l → P a = true → Q a = true) → (∃ a, a ∈ l ∧ P a = false ∧ Q a = true) → (l.filter P).length < (l.filter Q).length
  | [], _, ⟨a, h, _⟩ => absurd h (by simp)
  | x :: l, h1, ⟨a, h, h2, h3⟩ => by
    have hle : ∀ m : List α, (∀ a, a ∈ m → P a = true → Q a = true) → (m.filter P).length ≤ (m.filter Q).length := by
      intro m
      induction m with
      | nil => exact fun _ => Nat.le_refl _
      | cons y m ih =>
        intro hm
        have h4 := ih fun a ha => hm a (by simp [ha])
        have h5 := hm y (by simp)
        rw [List.filter_cons, List.filter_cons]
        cases hp : P y with
        | true => rw [h5 hp]; simp; omega
        | false => cases Q y <;> simp <;> omega
    rcases List.mem_cons.1 h with rfl | h
    · have h4 := hle l fun a ha => h1 a (by simp [ha])
      rw [List.filter_cons, List.filter_cons, h2, h3]
      simp
      omega
    · have h4 := count_lt (fun a ha => h1 a (by simp [ha])) ⟨a, h, h2, h3⟩
      have h5 := h1 x (by simp)
      rw [List.filter_cons, List.filter_cons]
      cases hp : P x with
      | true => rw [h5 hp]; simp; omega
      | false => cases Q x <;> simp <;> omega
theorem bef_lt {n L i : Nat} {p : Nat → Nat} (hp : ∀ j, j < L → p j < n) (hi : i < L) (hmax : ∀ j, i < j → j < L → p j + 1 = n) : (befD n L p).length < (befD n L (nxF p i)).length := by
  have hm := allD_lsF (n := n) hp
  have hself : ∀ q : List Nat, q ∈ allD n L → (lexB q (lsF L p) = true ↔ lexF L (fun j => q.getD j 0) p) := fun q hq => ⟨fun h => (befD_mem.1 (List.mem_filter.2 ⟨hq, h⟩)).2, fun h => (List.mem_filter.1 (befD_mem.2 ⟨hq, h⟩)).2⟩
  have hself2 : ∀ q : List Nat, q ∈ allD n L → (lexB q (lsF L (nxF p i)) = true ↔ lexF L (fun j => q.getD j 0) (nxF p i)) := fun q hq => ⟨fun h => (befD_mem.1 (List.mem_filter.2 ⟨hq, h⟩)).2, fun h => (List.mem_filter.1 (befD_mem.2 ⟨hq, h⟩)).2⟩
  refine count_lt (fun q hq h => ?_) ⟨lsF L p, hm, ?_, ?_⟩
  · exact (hself2 q hq).2 ((nx_lex hi hmax (allD_get hq)).2 (.inl ((hself q hq).1 h)))
  · cases h : lexB (lsF L p) (lsF L p) with
    | false => rfl
    | true => exact absurd (lexB_lo _ _ h) (lexLo_irr _)
  · exact (hself2 _ hm).2 ((nx_lex hi hmax (allD_get hm)).2 (.inr fun j hj => lsF_get hj))
theorem bef_le (n L : Nat) (p : Nat → Nat) : (befD n L p).length ≤ (allD n L).length := List.length_filter_le _ _
theorem befD_congr {n L : Nat} {p p' : Nat → Nat} (h : ∀ j, j < L → p j = p' j) : befD n L p = befD n L p' := by
  unfold befD lsF
  rw [List.map_congr_left fun j hj => h j (List.mem_range.1 hj)]
/-- The best plan so far, in memory. -/
def BvI (w : World) (base P L : Nat) (st : StS) (bv : Value) : Prop := (st.best = none ∧ bv = .slice none 0 0) ∨ ∃ q, st.best = some q ∧ q.length = L ∧ w.ownsRow base 3 1 bv q.length (ints (nats q)) ∧ bv.ownBlock ≠ some P
theorem BvI.kept {w w' : World} {base P L : Nat} {st : StS} {bv : Value} (h : BvI w base P L st bv) (hg : w.grownBy w' (some P)) : BvI w' base P L st bv := by
  rcases h with h | ⟨q, h1, h2, h3, h4⟩
  · exact .inl h
  · exact .inr ⟨q, h1, h2, h3.kept hg (.inr h4), h4⟩
theorem BvI.later {w w' : World} {base P L : Nat} {st : StS} {bv : Value} (h : BvI w base P L st bv) (hb : Below w.heap.size w w') : BvI w' base P L st bv := by
  rcases h with h | ⟨q, h1, h2, h3, h4⟩
  · exact .inl h
  · exact .inr ⟨q, h1, h2, own_below3 h3 hb, h4⟩
theorem rdI_of_bi {w : World} {P L : Nat} {p : Nat → Nat} (h : BI w P 3 L (fun j => (p j : Int))) (hL : L ≤ 1000) : RdI w (some ⟨P, 0, none⟩) (nats (lsF L p)) := by
  have hl : (nats (lsF L p)).length = L := by rw [nats_len, lsF_len]
  refine ⟨by omega, fun _ => ⟨P, 0, rfl, h.lt, fun j hj => ?_⟩⟩
  have hj2 : j < L := by omega
  rw [Nat.zero_add, h.at_ hj2]
  have hj3 : j < (nats (lsF L p)).length := by omega
  show _ = some (Value.int .i64 ((nats (lsF L p)).getD j 0))
  rw [List.getD_eq_getElem?_getD, List.getElem?_eq_getElem hj3]
  simp [nats, lsF]
theorem sp_empty {needs spools : List Int} (hz : wrgE needs spools = 0) (h : needs = []) : spE needs spools = 0 ∧ spL needs spools = [] := by
  have e : spE needs spools = 0 := by unfold spE; rw [if_neg (fun h => h hz), if_neg (by rw [h]; simp)]
  have hb := sp_some hz e
  refine ⟨e, ?_⟩
  have := ((allD_mem _ _ _).1 hb.1).1
  have h2 : needs.length = 0 := by rw [h]; rfl
  exact List.eq_nil_of_length_eq_zero (by omega)
theorem sp_noSpool {needs spools : List Int} (hz : wrgE needs spools = 0) (h : 0 < needs.length) (h0 : spools = []) : spE needs spools = 4 ∧ spL needs spools = [] := by
  have e : spE needs spools ≠ 0 := fun e => by
    have hb := (sp_some hz e).1
    obtain ⟨h1, h2⟩ := (allD_mem _ _ _).1 hb
    cases hp : spL needs spools with
    | nil => rw [hp] at h1; simp at h1; omega
    | cons a l => have := h2 a (by rw [hp]; simp); rw [h0] at this; simp at this
  exact ⟨(sp_none hz e).1, (sp_none hz e).2.1⟩
theorem sp_of {needs spools : List Int} (hz : wrgE needs spools = 0) (h : 0 < needs.length) {st : StS} (hs : StIs needs spools (allD spools.length needs.length) st) :
    (st.best = none → spE needs spools = 4 ∧ spL needs spools = []) ∧ (∀ q, st.best = some q → spE needs spools = 0 ∧ spL needs spools = q) := by
  have hb := stIs_best (spO_is needs spools) hs
  refine ⟨fun h1 => ?_, fun q h1 => ?_⟩
  · rw [h1] at hb
    refine ⟨by unfold spE; rw [if_neg (fun h => h hz), if_pos ⟨hb, h⟩], by unfold spL; rw [if_pos hz, hb]; rfl⟩
  · rw [h1] at hb
    refine ⟨by unfold spE; rw [if_neg (fun h => h hz), if_neg (by rw [hb]; simp)], by unfold spL; rw [if_pos hz, hb]; rfl⟩
end Go.Proofs.Ytdimaapiloojeaa
/- The reference's Rest. -/
namespace Go.Proofs.Ytdimaapiloojeaa
open Go.RowKit

set_option maxRecDepth 100000 in
set_option maxHeartbeats 8000000 in
theorem rRest20_ (NA SA PA : Option Addr) (nc sc pc : Nat) (needs spools plan : List Int) (w : World) (hn : RdI w NA needs) (hs : RdI w SA spools) (hp : RdI w PA plan) :
    Calls Try.prog 28 #[.slice NA needs.length nc, .slice SA spools.length sc, .slice PA plan.length pc] w (LListPost (rsL needs spools plan) (rsE needs spools plan) w) := by
  have hpl := hp.1
  have hnl9 := hn.1
  obtain ⟨E, hE⟩ : ∃ E, E = rsE needs spools plan := ⟨_, rfl⟩
  obtain ⟨l, hl⟩ : ∃ l, l = rsL needs spools plan := ⟨_, rfl⟩
  have HEQ := Lib.hid hE
  have HLQ := Lib.hid hl
  unfold rsL at hl
  rw [← hE] at hl
  unfold rsE at hE
  have HN := Lib.hid hn; have HS := Lib.hid hs; have HP := Lib.hid hp; clear hn hs hp
  go_enter Try.func28, Try.ntmps28
  go_wp2_with fail
  refine (rasked20_ NA SA nc sc needs spools _ HN.out HS.out).mono ?_
  rintro e w2 ⟨rfl, hb2⟩
  have hok := @wrg_ok needs spools
  by_cases hz : wrgE needs spools = 0
  rotate_left
  · rw [if_pos hz] at hE
    generalize wrgE needs spools = E0 at *
    have e1 : (E0 == 0) = false := by rw [beq_eq_false_iff_ne]; exact hz
    have e2 : (E0 != 0) = true := by simp [hz]
    rw [if_neg (by omega)] at hl
    have ho := own_nilI w2 w.heap.size 2
    have HB2 := Lib.hid hb2; have HE := Lib.hid hE; have HL := Lib.hid hl; have HZ := Lib.hid hz; have HOK := Lib.hid hok; have HO := Lib.hid ho; clear hb2 hE hl hz hok ho
    go_wp2
    go_loopw [8, 9] (fun ev iv wr => ev = .int .i64 E0 ∧ iv = .int .i64 0 ∧ wr = w2) (fun _ _ _ => 0)
    case atStart => exact ⟨rfl, rfl, rfl⟩
    case round =>
      obtain ⟨rfl, rfl, rfl⟩ := hrel
      by_cases hp0 : 0 < plan.length
      · have d1 : decide (0 < plan.length) = true := decide_eq_true hp0
        have d2 : decide ((0 : Int) < (plan.length : Int)) = true := decide_eq_true (by omega)
        have HP0 := Lib.hid hp0; clear hp0
        go_wp2
        go_ret2
        rw [← HLQ.out, ← HEQ.out, HL.out, HE.out]
        exact ⟨_, rfl, HO.out, HB2.out⟩
      · have d1 : decide (0 < plan.length) = false := decide_eq_false hp0
        have d2 : decide ((0 : Int) < (plan.length : Int)) = false := decide_eq_false (by omega)
        have HP0 := Lib.hid hp0; clear hp0
        go_wp2
        go_ret2
        rw [← HLQ.out, ← HEQ.out, HL.out, HE.out]
        exact ⟨_, rfl, HO.out, HB2.out⟩
  rw [if_neg (fun h => h hz)] at hE
  obtain ⟨hn8, hs6, hnr, hsr⟩ := hok hz
  clear hok
  rw [hz]
  by_cases hlen : plan.length = needs.length
  rotate_left
  · have q1 : (plan.length == needs.length) = false := by rw [beq_eq_false_iff_ne]; exact hlen
    have q2 : ((plan.length : Int) == (needs.length : Int)) = false := by rw [beq_eq_false_iff_ne]; omega
    have q3 : ((plan.length : Int) != (needs.length : Int)) = true := by rw [bne, q2]; rfl
    have q4 : (plan.length != needs.length) = true := by rw [bne, q1]; rfl
    rw [if_pos (.inl hlen)] at hE
    rw [if_neg (by omega)] at hl
    have ho := own_nilI w2 w.heap.size 2
    have HB2 := Lib.hid hb2; have HE := Lib.hid hE; have HL := Lib.hid hl; have HZ := Lib.hid hz; have HNR := Lib.hid hnr; have HSR := Lib.hid hsr; have HO := Lib.hid ho; have HLEN := Lib.hid hlen; clear hb2 hE hl hz hnr hsr ho hlen
    go_wp2
    go_loopw [8, 9] (fun ev iv wr => ev = .int .i64 2 ∧ iv = .int .i64 0 ∧ wr = w2) (fun _ _ _ => 0)
    case atStart => exact ⟨rfl, rfl, rfl⟩
    case round =>
      obtain ⟨rfl, rfl, rfl⟩ := hrel
      by_cases hp0 : 0 < plan.length
      · have d1 : decide (0 < plan.length) = true := decide_eq_true hp0
        have d2 : decide ((0 : Int) < (plan.length : Int)) = true := decide_eq_true (by omega)
        have HP0 := Lib.hid hp0; clear hp0
        go_wp2
        go_ret2
        rw [← HLQ.out, ← HEQ.out, HL.out, HE.out]
        exact ⟨_, rfl, HO.out, HB2.out⟩
      · have d1 : decide (0 < plan.length) = false := decide_eq_false hp0
        have d2 : decide ((0 : Int) < (plan.length : Int)) = false := decide_eq_false (by omega)
        have HP0 := Lib.hid hp0; clear hp0
        go_wp2
        go_ret2
        rw [← HLQ.out, ← HEQ.out, HL.out, HE.out]
        exact ⟨_, rfl, HO.out, HB2.out⟩
  have q1 : (plan.length == needs.length) = true := by rw [hlen]; simp
  have q2 : ((plan.length : Int) == (needs.length : Int)) = true := by rw [hlen]; simp
  have q3 : ((plan.length : Int) != (needs.length : Int)) = false := by rw [bne, q2]; rfl
  have q4 : (plan.length != needs.length) = false := by rw [bne, q1]; rfl
  have hp8 : plan.length ≤ 8 := by omega
  have hE1 : plan.any (offI spools.length) = true → E = 2 := fun h => by rw [hE, if_pos (.inr h)]
  have hE0 : plan.any (offI spools.length) = false → E = if (leftL needs spools plan).any negI = true then 9 else 0 := fun h => by rw [hE, if_neg (by rintro (h' | h'); exact h' hlen; rw [h] at h'; cases h')]
  clear hE
  have HB2 := Lib.hid hb2; have HE0 := Lib.hid hE0; have HE1 := Lib.hid hE1; have HL := Lib.hid hl; have HZ := Lib.hid hz; have HNR := Lib.hid hnr; have HSR := Lib.hid hsr; have HLEN := Lib.hid hlen; clear hb2 hE0 hE1 hl hz hnr hsr hlen
  go_wp2
  clear q1 q2 q3 q4
  go_loopw [8, 9] (fun ev iv wr => ∃ (i : Nat) (e : Int), ev = .int .i64 e ∧ iv = .int .i64 (i : Int) ∧ i ≤ plan.length ∧ ((e = 0 ∧ (plan.take i).any (offI spools.length) = false) ∨ (e = 2 ∧ plan.any (offI spools.length) = true)) ∧ Below w.heap.size w wr) (fun _ iv _ => plan.length - (intOf iv).toNat)
  case atStart => exact ⟨0, 0, rfl, rfl, Nat.zero_le _, .inl ⟨rfl, rfl⟩, HB2.out⟩
  case round =>
    obtain ⟨i, e, rfl, rfl, hi, hor, hbw⟩ := hrel
    rcases hor with ⟨rfl, hno⟩ | ⟨rfl, hany⟩
    rotate_left
    · have hE2 := HE1.out hany
      have hl2 : l = [] := by rw [HL.out, if_neg (by omega)]
      have ho := own_nilI wr w.heap.size 2
      by_cases hlt : i < plan.length
      · have d1 : decide (i < plan.length) = true := decide_eq_true hlt
        have d2 : decide ((i : Int) < (plan.length : Int)) = true := decide_eq_true (by omega)
        have HANY := Lib.hid hany; have HE2 := Lib.hid hE2; have HL2 := Lib.hid hl2; have HO := Lib.hid ho; have HBW := Lib.hid hbw; clear hany hE2 hl2 ho hbw
        go_wp2
        go_ret2
        rw [← HLQ.out, ← HEQ.out, HL2.out, HE2.out]
        exact ⟨_, rfl, HO.out, HBW.out⟩
      · have d1 : decide (i < plan.length) = false := decide_eq_false hlt
        have d2 : decide ((i : Int) < (plan.length : Int)) = false := decide_eq_false (by omega)
        have HANY := Lib.hid hany; have HE2 := Lib.hid hE2; have HL2 := Lib.hid hl2; have HO := Lib.hid ho; have HBW := Lib.hid hbw; clear hany hE2 hl2 ho hbw
        go_wp2
        go_ret2
        rw [← HLQ.out, ← HEQ.out, HL2.out, HE2.out]
        exact ⟨_, rfl, HO.out, HBW.out⟩
    by_cases hlt : i < plan.length
    · have d1 : decide (i < plan.length) = true := decide_eq_true hlt
      have d2 : decide ((i : Int) < (plan.length : Int)) = true := decide_eq_true (by omega)
      obtain ⟨bp, op, rfl, hbp, l1⟩ := (HP.out.later hbw (Nat.le_refl _)).at_ hlt
      have hoi : offI spools.length plan[i] = (decide (plan[i] < 0) || decide ((spools.length : Int) ≤ plan[i])) := rfl
      have hts := any_succI plan (offI spools.length) i hlt
      have hhit : offI spools.length plan[i] = true → plan.any (offI spools.length) = true := fun h => List.any_eq_true.2 ⟨_, List.getElem_mem hlt, h⟩
      rw [hno, Bool.false_or] at hts
      generalize plan[i] = pv at *
      have x1 : (0 : Int) ≤ (i : Int) := by omega
      have x2 : (i : Int) < (plan.length : Int) := by omega
      by_cases h1 : pv < 0
      · have d3 : decide (pv < 0) = true := decide_eq_true h1
        have hany := hhit (by rw [hoi, d3]; rfl)
        clear hhit
        have HNO := Lib.hid hno; have HTS := Lib.hid hts; have HOI := Lib.hid hoi; have HANY := Lib.hid hany; have HBW := Lib.hid hbw; have H1 := Lib.hid h1; clear hno hts hoi hany hbw h1
        go_wp2
        go_roundw
        case rel => exact ⟨i + 1, 2, rfl, by go_num, by omega, .inr ⟨rfl, HANY.out⟩, HBW.out⟩
        case measure => simp [intOf]; omega
      have d3 : decide (pv < 0) = false := decide_eq_false h1
      by_cases h2 : (spools.length : Int) ≤ pv
      · have d4 : decide ((spools.length : Int) ≤ pv) = true := decide_eq_true h2
        have hany := hhit (by rw [hoi, d4, Bool.or_true])
        clear hhit
        have HNO := Lib.hid hno; have HTS := Lib.hid hts; have HOI := Lib.hid hoi; have HANY := Lib.hid hany; have HBW := Lib.hid hbw; have H1 := Lib.hid h1; have H2 := Lib.hid h2; clear hno hts hoi hany hbw h1 h2
        go_wp2
        go_roundw
        case rel => exact ⟨i + 1, 2, rfl, by go_num, by omega, .inr ⟨rfl, HANY.out⟩, HBW.out⟩
        case measure => simp [intOf]; omega
      · have d4 : decide ((spools.length : Int) ≤ pv) = false := decide_eq_false h2
        rw [hoi, d3, d4] at hts
        clear hhit
        have HNO := Lib.hid hno; have HTS := Lib.hid hts; have HOI := Lib.hid hoi; have HBW := Lib.hid hbw; have H1 := Lib.hid h1; have H2 := Lib.hid h2; clear hno hts hoi hbw h1 h2
        go_wp2
        go_roundw
        case rel => exact ⟨i + 1, 0, rfl, by go_num, by omega, .inl ⟨rfl, HTS.out⟩, HBW.out⟩
        case measure => simp [intOf]; omega
    · have d1 : decide (i < plan.length) = false := decide_eq_false hlt
      have d2 : decide ((i : Int) < (plan.length : Int)) = false := decide_eq_false (by omega)
      have hpk : plan.any (offI spools.length) = false := by rw [List.take_of_length_le (by omega)] at hno; exact hno
      have hE3 := HE0.out hpk
      obtain ⟨pl, hple, hks9⟩ := nats_of hpk
      have hlf9 : leftL needs spools plan = lfl needs spools pl needs.length := by unfold leftL; rw [hple, nats_toNat]
      have hl3 := HL.out
      rw [hlf9] at hE3 hl3
      have hsw := HS.out.later hbw (Nat.le_refl _)
      have hszw := hbw.size
      obtain ⟨w5, rfl⟩ : ∃ w5, w5 = wr := ⟨_, rfl⟩
      have HNO := Lib.hid hno; have HPK := Lib.hid hpk; have HE3 := Lib.hid hE3; have HL3 := Lib.hid hl3; have HPLE := Lib.hid hple; have HKS9 := Lib.hid hks9; have HLF9 := Lib.hid hlf9; have HSW := Lib.hid hsw; have HBW := Lib.hid hbw; clear hno hpk hE3 hl3 hple hks9 hlf9 hsw hbw
      go_wp2_with (
        at_builtin
        go_must (refine wpList_appAllL_Try (by rfl) _ _ (by rfl) w5.heap.size (.slice (some ⟨w5.heap.size, 0, none⟩) 0 0) [] (by rfl) (own_emptyI (heap_alloc_new _ _) (Nat.le_refl _)) SA sc spools (by rfl) (HSW.out.later ((Below.refl _ _).alloc (Nat.le_refl _) _) (Nat.le_refl _)) (by simp; omega) (by simp) ?_)
        intro A9 c9 w7 ho7 hg7 hat7
        have hb7 : Below w5.heap.size w5 w7 := ((Below.refl _ _).alloc (Nat.le_refl _) _).grown hg7 (by simp) (fun k hk => by have e := Option.some.inj hk; have : w5.heap.size = k := e; omega)
        have hbx7 := HBW.out.trans (hb7.mono hszw)
        have hown7 : w7.ownsRow w5.heap.size 2 1 (.slice A9 spools.length c9) spools.length (ints (lfl needs spools pl 0)) := by rw [lfl_0]; exact ho7
        clear ho7 hg7 hat7
        have HB7 := Lib.hid hb7; have HBX7 := Lib.hid hbx7; have HOWN7 := Lib.hid hown7; clear hb7 hbx7 hown7
        skip)
      clear d1 d2
      go_loopw [11] (fun iv wr => ∃ i : Nat, iv = .int .i64 (i : Int) ∧ i ≤ plan.length ∧ wr.ownsRow w5.heap.size 2 1 (.slice A9 spools.length c9) spools.length (ints (lfl needs spools pl i)) ∧ Below w5.heap.size w5 wr) (fun iv _ => plan.length - (intOf iv).toNat)
      case atStart => exact ⟨0, rfl, Nat.zero_le _, HOWN7.out, HB7.out⟩
      case round =>
        clear HOWN7 HB7 HBX7
        obtain ⟨i, rfl, hi, hown, hbw9⟩ := hrel
        have hbz := HBW.out.trans (hbw9.mono hszw)
        by_cases hlt : i < plan.length
        · have hpll : pl.length = plan.length := by rw [HPLE.out, nats_len]
          have hil : i < pl.length := by omega
          have hmem : pl[i] ∈ pl := List.getElem_mem hil
          have hks := HKS9.out _ hmem
          have hgd : pl.getD i 0 = pl[i] := by simp [List.getD_eq_getElem?_getD, hil]
          obtain ⟨bl, ol, rfl, hbl, l1⟩ := (HP.out.later hbz (Nat.le_refl _)).at_ (k := i) hlt
          have hpe9 : plan[i] = (pl[i] : Int) := by
            have h9 := nats_get pl hil
            have h8 : plan[i] = (nats pl)[i]'(by rw [nats_len]; exact hil) := by simp [HPLE.out]
            rw [h8, h9]
          rw [hpe9] at l1
          have hin : i < needs.length := by have := HLEN.out; omega
          obtain ⟨bn, on, rfl, hbn, l2⟩ := (HN.out.later hbz (Nat.le_refl _)).at_ hin
          have hng : needs.getD i 0 = needs[i] := by simp [List.getD_eq_getElem?_getD, hin]
          have hnrg := HNR.out _ (List.getElem_mem hin)
          have hset := lfl_set needs spools pl i hgd
          have hget := lfl_get needs spools pl i hks
          have hrng := lft_rng (plan := pl) HNR.out HSR.out i pl[i]
          rw [hng] at hset
          obtain ⟨g, cap, hv, hgw, hgl⟩ := hown.form (by omega)
          injection hv with hv1 hv2 hv3
          subst hv1
          subst hv3
          have c3 := hown.cellAt pl[i] (by omega)
          have f3 := hown.frozenAt pl[i]
          have hstd := fun z => (show wr.drew.ownsRow w5.heap.size 2 1 (.slice (some ⟨g, 0, none⟩) spools.length _) spools.length (ints (lfl needs spools pl i)) from hown).stored pl[i] (.int .i64 z)
          rw [hget] at c3
          clear hpe9
          generalize pl[i] = k at *
          generalize needs[i] = nd at *
          generalize lftF needs spools pl i k = lv at *
          have hwr : IntKind.i64.wrap (lv - nd) = lv - nd := IntWalk.i64_in _ (by omega)
          have x1 : (0 : Int) ≤ (i : Int) := by omega
          have x2 : (i : Int) < (plan.length : Int) := by omega
          have x3 : (0 : Int) ≤ (k : Int) := by omega
          have x4 : (k : Int) < (spools.length : Int) := by omega
          have x5 : (i : Int) < (needs.length : Int) := by omega
          have HOWN := Lib.hid hown; have HBW9 := Lib.hid hbw9; have HBZ := Lib.hid hbz; have HMEM := Lib.hid hmem; have HGD := Lib.hid hgd; have HNG := Lib.hid hng; have HSET := Lib.hid hset; have HGET := Lib.hid hget; have HRNG := Lib.hid hrng; have HSTD := Lib.hid hstd; have HNRG := Lib.hid hnrg; have HPLL := Lib.hid hpll; clear hown hbw9 hbz hmem hgd hng hset hget hrng hstd hnrg hpll
          go_upto_region 15 with fail
          go_still_tail 18, (by kernel_rfl)
          change wpList _ _ _ _ _ wr.drew
          go_wp2
          go_roundw
          case rel => exact ⟨i + 1, by go_num, by omega, by rw [← HSET.out]; exact (HSTD.out _).1, HBW9.out.drew.setCell (p := ⟨g, k, none⟩) hgw _⟩
          case measure => simp [intOf]; omega
        · have hin : i = needs.length := by have := HLEN.out; omega
          rw [hin] at hown
          have x3 : ¬ (i : Int) < (plan.length : Int) := by omega
          obtain ⟨w8, rfl⟩ : ∃ w8, w8 = wr := ⟨_, rfl⟩
          have hown9 : w8.ownsRow w.heap.size 2 1 (.slice A9 spools.length c9) (lfl needs spools pl needs.length).length (ints (lfl needs spools pl needs.length)) := by rw [lfl_len]; exact own_base hown hszw
          have hrl : RdI w8 A9 (lfl needs spools pl needs.length) := rdI_of_own9 hown (by rw [lfl_len]; omega)
          have hlfl := lfl_len needs spools pl needs.length
          obtain ⟨xs, hxs⟩ : ∃ xs, xs = lfl needs spools pl needs.length := ⟨_, rfl⟩
          rw [← hxs] at hown9 hrl hlfl
          have hE4 := HE3.out
          have hl4 := HL3.out
          rw [← hxs] at hE4 hl4
          have hxl6 : xs.length ≤ 6 := by omega
          rw [← hlfl] at hown9 ⊢
          have HOWN := Lib.hid hown; have HBW9 := Lib.hid hbw9; have HBZ := Lib.hid hbz; have HIN := Lib.hid hin; have HOWN9 := Lib.hid hown9; have HRL := Lib.hid hrl; have HLFL := Lib.hid hlfl; have HXS := Lib.hid hxs; have HE4 := Lib.hid hE4; have HL4 := Lib.hid hl4; clear hown hbw9 hbz hin hown9 hrl hlfl hxs hE4 hl4
          go_wp2
          go_loopw [12] (fun iv wr => ∃ k : Nat, iv = .int .i64 (k : Int) ∧ k ≤ xs.length ∧ (xs.take k).any negI = false ∧ Below w8.heap.size w8 wr) (fun iv _ => xs.length - (intOf iv).toNat)
          case atStart => exact ⟨0, rfl, Nat.zero_le _, rfl, Below.refl _ _⟩
          case round =>
            obtain ⟨k, rfl, hk, hno, hbk⟩ := hrel
            have hbY := HBZ.out.trans (hbk.mono HBZ.out.size)
            by_cases hlt : k < xs.length
            · obtain ⟨bl, ol, rfl, hbl, l1⟩ := (HRL.out.later hbk (Nat.le_refl _)).at_ hlt
              have hts := any_succI xs negI k hlt
              have hhit : negI xs[k] = true → xs.any negI = true := fun h => List.any_eq_true.2 ⟨_, List.getElem_mem hlt, h⟩
              have hoi : negI xs[k] = decide (xs[k] < 0) := rfl
              rw [hno, Bool.false_or] at hts
              generalize xs[k] = xv at *
              have x1 : (0 : Int) ≤ (k : Int) := by omega
              have x2 : (k : Int) < (xs.length : Int) := by omega
              by_cases h1 : xv < 0
              · have d3 : decide (xv < 0) = true := decide_eq_true h1
                have hE5 : E = 9 := by rw [HE4.out, if_pos (hhit (by rw [hoi, d3]))]
                have hl5 : l = [] := by rw [HL4.out, if_neg (by omega)]
                have ho := own_nilI wr w.heap.size 2
                clear hhit
                have HNO := Lib.hid hno; have HTS := Lib.hid hts; have HOI := Lib.hid hoi; have HBK := Lib.hid hbk; have HBY := Lib.hid hbY; have HE5 := Lib.hid hE5; have HL5 := Lib.hid hl5; have HO := Lib.hid ho; have H1 := Lib.hid h1; clear hno hts hoi hbk hbY hE5 hl5 ho h1
                go_wp2
                go_ret2
                rw [← HLQ.out, ← HEQ.out, HL5.out, HE5.out]
                exact ⟨_, rfl, HO.out, HBY.out⟩
              · have d3 : decide (xv < 0) = false := decide_eq_false h1
                rw [hoi, d3] at hts
                clear hhit
                have HNO := Lib.hid hno; have HTS := Lib.hid hts; have HOI := Lib.hid hoi; have HBK := Lib.hid hbk; have HBY := Lib.hid hbY; have H1 := Lib.hid h1; clear hno hts hoi hbk hbY h1
                go_wp2
                go_roundw
                case rel => exact ⟨k + 1, by go_num, by omega, HTS.out, HBK.out⟩
                case measure => simp [intOf]; omega
            · have hno2 : xs.any negI = false := by rw [List.take_of_length_le (by omega)] at hno; exact hno
              have hE5 : E = 0 := by rw [HE4.out, hno2]; rfl
              have hl5 : l = xs := by rw [HL4.out, if_pos hE5]
              have ho := own_below3 HOWN9.out hbk
              have x4 : ¬ (k : Int) < (xs.length : Int) := by omega
              have HNO := Lib.hid hno; have HNO2 := Lib.hid hno2; have HBK := Lib.hid hbk; have HBY := Lib.hid hbY; have HE5 := Lib.hid hE5; have HL5 := Lib.hid hl5; have HO := Lib.hid ho; clear hno hno2 hbk hbY hE5 hl5 ho
              go_wp2
              go_ret2
              rw [← HLQ.out, ← HEQ.out, HL5.out, HE5.out]
              exact ⟨_, rfl, HO.out, HBY.out⟩
end Go.Proofs.Ytdimaapiloojeaa
/- The reference's Spools: the walk. -/
namespace Go.Proofs.Ytdimaapiloojeaa
open Go.RowKit

set_option maxRecDepth 100000 in
set_option maxHeartbeats 8000000 in
theorem rSpools20_ (NA SA : Option Addr) (nc sc : Nat) (needs spools : List Int) (w : World) (hn : RdI w NA needs) (hs : RdI w SA spools) :
    Calls Try.prog 27 #[.slice NA needs.length nc, .slice SA spools.length sc] w (OListPost (nats (spL needs spools)) (spE needs spools) w) := by
  have hln := hn.1
  have hln2 := hs.1
  obtain ⟨E, hE⟩ : ∃ E, E = spE needs spools := ⟨_, rfl⟩
  obtain ⟨l, hl⟩ : ∃ l, l = spL needs spools := ⟨_, rfl⟩
  have HEQ := Lib.hid hE
  have HLQ := Lib.hid hl
  have HN := Lib.hid hn; have HS := Lib.hid hs; clear hn hs
  go_enter Try.func27, Try.ntmps27
  go_wp2_with fail
  refine (rasked20_ NA SA nc sc needs spools _ HN.out HS.out).mono ?_
  rintro e w2 ⟨rfl, hb2⟩
  have hok := @wrg_ok needs spools
  by_cases hz : wrgE needs spools = 0
  rotate_left
  · have hE2 : E = wrgE needs spools := by rw [hE]; unfold spE; rw [if_pos hz]
    have hl2 : l = [] := by rw [hl]; unfold spL; rw [if_neg hz]
    generalize wrgE needs spools = E0 at *
    have e1 : (E0 == 0) = false := by rw [beq_eq_false_iff_ne]; exact hz
    have e2 : (E0 != 0) = true := by simp [hz]
    have ho := own_nilI w2 w.heap.size 3
    clear hE hl
    have HB2 := Lib.hid hb2; have HE2 := Lib.hid hE2; have HL2 := Lib.hid hl2; have HZ := Lib.hid hz; have HOK := Lib.hid hok; have HO := Lib.hid ho; clear hb2 hE2 hl2 hz hok ho
    go_wp2
    go_ret2
    rw [← HLQ.out, ← HEQ.out, HL2.out, HE2.out]
    exact ⟨_, rfl, HO.out, HB2.out⟩
  rw [hz]
  obtain ⟨hn8, hs6, hnr, hsr⟩ := hok hz
  clear hok
  by_cases h0 : 0 < needs.length
  rotate_left
  · obtain ⟨q1, q2⟩ := sp_empty hz (List.eq_nil_of_length_eq_zero (by omega))
    have hnz : needs.length = 0 := by omega
    have d1 : (needs.length == 0) = true := by rw [hnz]; rfl
    have d2 : ((needs.length : Int) == 0) = true := by rw [hnz]; rfl
    rw [q1] at hE
    rw [q2] at hl
    have ho := own_nilI w2 w.heap.size 3
    have HB2 := Lib.hid hb2; have HE := Lib.hid hE; have HL := Lib.hid hl; have HZ := Lib.hid hz; have HNR := Lib.hid hnr; have HSR := Lib.hid hsr; have HO := Lib.hid ho; have HNZ := Lib.hid hnz; clear hb2 hE hl hz hnr hsr ho hnz
    go_wp2
    go_ret2
    rw [← HLQ.out, ← HEQ.out, HL.out, HE.out]
    exact ⟨_, rfl, HO.out, HB2.out⟩
  have d1 : (needs.length == 0) = false := by rw [beq_eq_false_iff_ne]; omega
  have d2 : ((needs.length : Int) == 0) = false := by rw [beq_eq_false_iff_ne]; omega
  by_cases h1 : 0 < spools.length
  rotate_left
  · obtain ⟨q1, q2⟩ := sp_noSpool hz h0 (List.eq_nil_of_length_eq_zero (by omega))
    have hnz : spools.length = 0 := by omega
    have d3 : (spools.length == 0) = true := by rw [hnz]; rfl
    have d4 : ((spools.length : Int) == 0) = true := by rw [hnz]; rfl
    rw [q1] at hE
    rw [q2] at hl
    have ho := own_nilI w2 w.heap.size 3
    have HB2 := Lib.hid hb2; have HE := Lib.hid hE; have HL := Lib.hid hl; have HZ := Lib.hid hz; have HNR := Lib.hid hnr; have HSR := Lib.hid hsr; have HO := Lib.hid ho; have HNZ := Lib.hid hnz; clear hb2 hE hl hz hnr hsr ho hnz
    go_wp2
    go_ret2
    rw [← HLQ.out, ← HEQ.out, HL.out, HE.out]
    exact ⟨_, rfl, HO.out, HB2.out⟩
  have d3 : (spools.length == 0) = false := by rw [beq_eq_false_iff_ne]; omega
  have d4 : ((spools.length : Int) == 0) = false := by rw [beq_eq_false_iff_ne]; omega
  obtain ⟨L, hLe⟩ : ∃ L, L = needs.length := ⟨_, rfl⟩
  obtain ⟨n, hne⟩ : ∃ n, n = spools.length := ⟨_, rfl⟩
  have hmk := run_make_row' (P := Try.prog) 23 3 (.int .i64 0) 8 Try.underlying23 info_int_Try rfl .i64 .i64 needs.length (by omega) (by omega)
  have hbw := hb2.trans (((Below.refl w2.heap.size w2).alloc (Nat.le_refl _) (.cells (madeCells #[.int .i64 0] needs.length) 3)).mono hb2.size)
  have hP : BI (w2.alloc (.cells (madeCells #[.int .i64 0] needs.length) 3)) w2.heap.size 3 L (fun j => (((fun _ => 0) : Nat → Nat) j : Int)) := by rw [hLe]; exact bI_zero w2 needs.length 3
  have hst0 := bef_first (needs := needs) (spools := spools) n L
  have hfin : ∀ st : StS, StIs needs spools (allD n L) st → (st.best = none → spE needs spools = 4 ∧ spL needs spools = []) ∧ (∀ q, st.best = some q → spE needs spools = 0 ∧ spL needs spools = q) := by rw [hne, hLe]; exact fun st h => sp_of hz h0 h
  have hplan := fun (plan : List Int) (A : Option Addr) (c : Nat) (W : World) (hW : Below w.heap.size w W) (hp : RdI W A plan) => rPlan20_ NA SA A nc sc c needs spools plan W (HN.out.later hW (Nat.le_refl _)) (HS.out.later hW (Nat.le_refl _)) hp hn8 hs6 hnr hsr
  have hsz2 := hb2.size
  clear hE hl
  have HB2 := Lib.hid hb2; have HZ := Lib.hid hz; have HNR := Lib.hid hnr; have HSR := Lib.hid hsr; have HBW := Lib.hid hbw; have HP := Lib.hid hP; have HST0 := Lib.hid hst0; have HFIN := Lib.hid hfin; have HPLAN := Lib.hid hplan; have HLE := Lib.hid hLe; have HNE := Lib.hid hne; clear hb2 hz hnr hsr hbw hP hst0 hfin hplan hLe hne
  go_wp2
  clear d1 d2 d3 d4 hmk
  obtain ⟨P, hPe⟩ : ∃ P, P = w2.heap.size := ⟨_, rfl⟩
  rw [← hPe]
  have HP2 := HP.out
  rw [← hPe] at HP2
  have HP3 := Lib.hid HP2
  clear HP2 HP
  rw [← HLE.out] at HP3 HBW ⊢
  have hL0 : 0 < L := by have := HLE.out; omega
  have hn0 : 0 < n := by have := HNE.out; omega
  have hL8 : L ≤ 8 := by have := HLE.out; omega
  have hn6 : n ≤ 6 := by have := HNE.out; omega
  have HPE := Lib.hid hPe
  have hPw : w.heap.size ≤ P := by omega
  clear hPe
  go_loopw [8, 9, 10, 11, 12, 13, 14] (fun bv mv lv _ _ _ _ wr => ∃ (p : Nat → Nat) (st : StS), mv = .int .i64 st.beg ∧ lv = .int .i64 st.lon ∧ (∀ j, j < L → p j < n) ∧ StIs needs spools (befD n L p) st ∧ BI wr P 3 L (fun j => (p j : Int)) ∧ BvI wr w.heap.size P L st bv ∧ Below w.heap.size w wr) (fun _ _ _ _ _ _ _ wr => (allD n L).length - (befD n L (fun j => (cellI wr P j).toNat)).length)
  case atStart => exact ⟨fun _ => 0, ⟨none, 0, 0⟩, rfl, rfl, fun j hj => hn0, HST0.out, HP3.out, .inl ⟨rfl, rfl⟩, HBW.out⟩
  case round =>
    clear HST0 HP3 HBW
    obtain ⟨p, st, rfl, rfl, hpn, hst, hP, hbv, hbw⟩ := hrel
    obtain ⟨w5, rfl⟩ : ∃ w5, w5 = wr := ⟨_, rfl⟩
    have hms : befD n L (fun j => (cellI w5 P j).toNat) = befD n L p := befD_congr fun j hj => by rw [hP.cellI hj]; simp
    have hrp := rdI_of_bi hP (by omega)
    have hl9 : (nats (lsF L p)).length = L := by rw [nats_len, lsF_len]
    have hcall := HPLAN.out (nats (lsF L p)) (some ⟨P, 0, none⟩) L w5 hbw hrp
    rw [hl9, ← HLE.out] at hcall
    have HPN := Lib.hid hpn; have HST := Lib.hid hst; have HP := Lib.hid hP; have HBV := Lib.hid hbv; have HBW := Lib.hid hbw; have HMS := Lib.hid hms; have HRP := Lib.hid hrp; have HL9 := Lib.hid hl9; have HCALL := Lib.hid hcall; clear hpn hst hP hbv hbw hms hrp hl9 hcall
    go_wp2_with fail
    refine HCALL.out.mono ?_
    rintro e w6 ⟨hy, hno, b6⟩
    have hPx := BI.later HP.out b6
    have hbv6 := HBV.out.later b6
    have hbx := HBW.out.trans (b6.mono HBW.out.size)
    rw [nats_toNat] at hy
    by_cases hT : PlT needs spools (nats (lsF L p))
    rotate_left
    · obtain rfl := hno hT
      have hngood : ¬ GoodP needs spools (lsF L p) := fun h => hT (plT_of (by rw [← HLE.out, ← HNE.out]; exact allD_lsF HPN.out) h)
      have hstep : stepS needs spools st (lsF L p) = st := step_no fun h => hngood h.1
      have hbvx := hbv6
      clear hy hno b6 hbv6 hT
      have HNGOOD := Lib.hid hngood; have HSTEP := Lib.hid hstep; clear hngood hstep
      have hP9 := hPx.eqv (g' := fun j => if j < L - 0 then (p j : Int) else 0) (fun j hj => by rw [if_pos (by omega)])
      have hw1 : IntKind.i64.wrap ((L : Int) - 1) = (L : Int) - 1 := IntWalk.i64_in _ (by omega)
      clear hPx
      have HP9 := Lib.hid hP9; have HBVX := Lib.hid hbvx; have HBX := Lib.hid hbx; clear hP9 hbvx hbx
      go_wp2
      clear hw1
      go_loopw [14] (fun iv wr => ∃ (t : Nat) (z : Int), iv = .int .i64 z ∧ z = (L : Int) - 1 - (t : Int) ∧ t ≤ L ∧ (∀ j, L - t ≤ j → j < L → p j + 1 = n) ∧ BI wr P 3 L (fun j => if j < L - t then (p j : Int) else 0) ∧ BvI wr w.heap.size P L st u8 ∧ Below w.heap.size w wr) (fun iv _ => (intOf iv + 1).toNat)
      case atStart => exact ⟨0, _, rfl, by omega, by omega, fun j h1 h2 => absurd h1 (by omega), HP9.out, HBVX.out, HBX.out⟩
      case round =>
        clear HP9 HBVX HBX
        obtain ⟨t, z, rfl, hz9, htL, hmax, hPt, hbt, hbw9⟩ := hrel
        by_cases htl : t = L
        · obtain rfl : z = -1 := by omega
          have hall := fun j (hj : j < L) => hmax j (by omega) hj
          have hlast := bef_last HST.out HPN.out hall
          rw [HSTEP.out] at hlast
          have hfn := HFIN.out st hlast
          have hnl := fun (B : Option Addr) (n c : Nat) (W : World) => Lib.run_eql_slice_nil (P := Try.prog) W 23 3 B n c 0 0 Try.underlying23
          rcases hbt with ⟨hb0, hbe⟩ | ⟨q, hq, hqL, hqo, hqn⟩
          · subst hbe
            obtain ⟨k1, k2⟩ := hfn.1 hb0
            have hnl2 : ∀ W, (binOp .eql 23 (.slice none 0 0) (.slice none 0 0)).run Try.prog W = .ok (.bool true) W := fun W => hnl none 0 0 W
            have ho := own_nilI wr w.heap.size 3
            clear hnl
            have HZ9 := Lib.hid hz9; have HMAX := Lib.hid hmax; have HPT := Lib.hid hPt; have HBW9 := Lib.hid hbw9; have HALL := Lib.hid hall; have HLAST := Lib.hid hlast; have HFN := Lib.hid hfn; have HB0 := Lib.hid hb0; have K1 := Lib.hid k1; have K2 := Lib.hid k2; have HO := Lib.hid ho; have HTL := Lib.hid htl; clear hz9 hmax hPt hbw9 hall hlast hfn hb0 k1 k2 ho htl
            go_wp2
            go_ret2
            rw [K1.out, K2.out]
            exact ⟨_, rfl, HO.out, HBW9.out⟩
          · obtain ⟨k1, k2⟩ := hfn.2 q hq
            obtain ⟨gb, cb, hbe, _, hgb⟩ := hqo.form (by omega)
            subst hbe
            have ho : wr.ownsRow w.heap.size 3 1 (.slice (some ⟨gb, 0, none⟩) q.length cb) (nats q).length (ints (nats q)) := by rw [nats_len]; exact hqo
            have hnl2 : ∀ W, (binOp .eql 23 (.slice (some ⟨gb, 0, none⟩) q.length cb) (.slice none 0 0)).run Try.prog W = .ok (.bool false) W := fun W => hnl _ _ _ W
            clear hnl
            have HZ9 := Lib.hid hz9; have HMAX := Lib.hid hmax; have HPT := Lib.hid hPt; have HBW9 := Lib.hid hbw9; have HALL := Lib.hid hall; have HLAST := Lib.hid hlast; have HFN := Lib.hid hfn; have HQ := Lib.hid hq; have HQL := Lib.hid hqL; have HQO := Lib.hid hqo; have HQN := Lib.hid hqn; have K1 := Lib.hid k1; have K2 := Lib.hid k2; have HO := Lib.hid ho; have HTL := Lib.hid htl; clear hz9 hmax hPt hbw9 hall hlast hfn hq hqL hqo hqn k1 k2 ho htl
            go_wp2
            go_ret2
            rw [K1.out, K2.out]
            exact ⟨_, rfl, HO.out, HBW9.out⟩
        · obtain ⟨k, hke⟩ : ∃ k, k = L - 1 - t := ⟨_, rfl⟩
          obtain rfl : z = (k : Int) := by omega
          have hkL : k < L := by omega
          have ck := hPt.at_ hkL
          rw [if_pos (by omega)] at ck
          have fk := hPt.free k
          have lk := hPt.lt
          have hpk := HPN.out k hkL
          have x1 : (0 : Int) ≤ (k : Int) := by omega
          have x2 : (k : Int) < (L : Int) := by omega
          have d0 : decide ((0 : Int) ≤ (k : Int)) = true := decide_eq_true (by omega)
          obtain ⟨pk, hpke⟩ : ∃ pk, pk = p k := ⟨_, rfl⟩
          rw [← hpke] at ck hpk
          obtain ⟨n1, hn1⟩ : ∃ n1 : Int, n1 = (n : Int) - 1 := ⟨_, rfl⟩
          have hwn : IntKind.i64.wrap ((spools.length : Int) - 1) = n1 := (IntWalk.i64_in _ (by omega)).trans (by have := HNE.out; omega)
          by_cases hpm : pk + 1 = n
          · have e1 : ((pk : Int) == n1) = true := by rw [hn1]; simp; omega
            have hwk : IntKind.i64.wrap ((k : Int) - 1) = (k : Int) - 1 := IntWalk.i64_in _ (by omega)
            have hP2 := (hPt.put k 0).eqv (g' := fun j => if j < L - (t + 1) then (p j : Int) else 0) (fun j hj => by
              by_cases e : j = k
              · rw [e, upD_same, if_neg (by omega)]
              · rw [upD_other _ _ e]
                by_cases h9 : j < L - t
                · rw [if_pos h9, if_pos (by omega)]
                · rw [if_neg h9, if_neg (by omega)])
            have hg2 := gb_set0 (w := wr) (S := P) (j := k) (.int .i64 0)
            have hb2 := hbt.kept hg2
            have hbw2 := hbw9.setCell (p := ⟨P, k, none⟩) hPw (.int .i64 0)
            have hmax2 : ∀ j, L - (t + 1) ≤ j → j < L → p j + 1 = n := fun j h1 h2 => by
              rcases Nat.lt_or_ge j (L - t) with h3 | h3
              · rw [show j = k by omega, ← hpke]; exact hpm
              · exact hmax j h3 h2
            have HZ9 := Lib.hid hz9; have HMAX := Lib.hid hmax; have HPT := Lib.hid hPt; have HBT := Lib.hid hbt; have HBW9 := Lib.hid hbw9; have HPKE := Lib.hid hpke; have HN1 := Lib.hid hn1; have HPM := Lib.hid hpm; have HP2 := Lib.hid hP2; have HG2 := Lib.hid hg2; have HB2 := Lib.hid hb2; have HBW2 := Lib.hid hbw2; have HMAX2 := Lib.hid hmax2; have HKE := Lib.hid hke; have HTL := Lib.hid htl; clear hz9 hmax hPt hbt hbw9 hpke hn1 hpm hP2 hg2 hb2 hbw2 hmax2 hke htl
            go_wp2
            go_roundw
            case rel => exact ⟨t + 1, _, rfl, by have := HZ9.out; omega, by have := HTL.out; omega, HMAX2.out, HP2.out, HB2.out, HBW2.out⟩
            case measure => first | (simp [intOf]; done) | (simp [intOf]; omega)
          · have e1 : ((pk : Int) == n1) = false := by rw [beq_eq_false_iff_ne]; omega
            have d5 : decide ((k : Int) < 0) = false := decide_eq_false (by omega)
            have hwk : IntKind.i64.wrap ((pk : Int) + 1) = (pk : Int) + 1 := IntWalk.i64_in _ (by omega)
            have hmaxk : ∀ j, k < j → j < L → p j + 1 = n := fun j h1 h2 => hmax j (by omega) h2
            have hP2 := (hPt.put k ((pk : Int) + 1)).eqv (g' := fun j => (nxF p k j : Int)) (fun j hj => by
              unfold nxF
              by_cases e : j = k
              · rw [e, upD_same, if_neg (by omega), if_pos rfl, hpke]; rfl
              · rw [upD_other _ _ e]
                by_cases h9 : j < k
                · rw [if_pos (by omega), if_pos h9]
                · rw [if_neg (by omega), if_neg h9, if_neg e]; rfl)
            have hg2 := gb_set0 (w := wr) (S := P) (j := k) (.int .i64 ((pk : Int) + 1))
            have hb2 := hbt.kept hg2
            have hbw2 := hbw9.setCell (p := ⟨P, k, none⟩) hPw (.int .i64 ((pk : Int) + 1))
            have hnst := bef_step HST.out HPN.out hkL hmaxk
            rw [HSTEP.out] at hnst
            have hpn2 : ∀ j, j < L → nxF p k j < n := fun j hj => by
              unfold nxF
              split
              · exact HPN.out j hj
              · split
                · rw [← hpke]; omega
                · exact hn0
            have hlt9 := bef_lt HPN.out hkL hmaxk
            have hle9 := bef_le n L (nxF p k)
            have hme : befD n L (fun j => (cellI (wr.setCell ⟨P, k, none⟩ (.int .i64 ((pk : Int) + 1))) P j).toNat) = befD n L (nxF p k) := befD_congr fun j hj => by rw [hP2.cellI hj]; simp
            have HZ9 := Lib.hid hz9; have HMAX := Lib.hid hmax; have HPT := Lib.hid hPt; have HBT := Lib.hid hbt; have HBW9 := Lib.hid hbw9; have HPKE := Lib.hid hpke; have HN1 := Lib.hid hn1; have HPM := Lib.hid hpm; have HP2 := Lib.hid hP2; have HG2 := Lib.hid hg2; have HB2 := Lib.hid hb2; have HBW2 := Lib.hid hbw2; have HKE := Lib.hid hke; have HTL := Lib.hid htl; have HMAXK := Lib.hid hmaxk; have HNST := Lib.hid hnst; have HPN2 := Lib.hid hpn2; have HLT9 := Lib.hid hlt9; have HLE9 := Lib.hid hle9; have HME := Lib.hid hme; clear hz9 hmax hPt hbt hbw9 hpke hn1 hpm hP2 hg2 hb2 hbw2 hke htl hmaxk hnst hpn2 hlt9 hle9 hme
            go_wp2
            go_roundw
            case rel => exact ⟨nxF p k, st, rfl, rfl, HPN2.out, HNST.out, HP2.out, HB2.out, HBW2.out⟩
            case measure => rw [HME.out, HMS.out]; have := HLT9.out; have := HLE9.out; omega
    obtain rfl := hy hT
    have hgood : GoodP needs spools (lsF L p) := by have := hT.2.2; rw [nats_toNat] at this; exact this
    have hyes := fun h => step_yes (st := st) hgood h
    have hnot := fun (h : ¬ BetS st (begP needs spools (lsF L p)) (lonP needs spools (lsF L p))) => step_no (needs := needs) (spools := spools) (st := st) (p := lsF L p) (fun h' => h h'.2)
    generalize begP needs spools (lsF L p) = bp at *
    generalize lonP needs spools (lsF L p) = lp at *
    have hrp6 := HRP.out.later b6 (Nat.le_refl _)
    have hsz := hbx.size
    have hlP := hPx.lt
    clear hy hno hT
    have hnl := fun (B : Option Addr) (n c : Nat) (W : World) => Lib.run_eql_slice_nil (P := Try.prog) W 23 3 B n c 0 0 Try.underlying23
    rcases id hbv6 with ⟨hb0, rfl⟩ | ⟨q0, hq, hqL, hqo, hqn⟩
    · have hnl2 : ∀ W, (binOp .eql 23 (.slice none 0 0) (.slice none 0 0)).run Try.prog W = .ok (.bool true) W := fun W => hnl none 0 0 W
      have hbet : BetS st bp lp := .inl hb0
      clear hb0
      have hstep := hyes (hbet)
      clear hyes hnot hnl b6 hbv6
      have HBX6 := Lib.hid hbx
      clear hbx
      have HGOOD := Lib.hid hgood; have HSTEP := Lib.hid hstep; have HPX := Lib.hid hPx; have HRP6 := Lib.hid hrp6; have HBET := Lib.hid hbet; clear hgood hstep hPx hrp6 hbet
      go_upto_region 14 with (
        at_builtin
        go_must (refine wpList_appAllI_Try (by rfl) _ _ (by rfl) w6.heap.size (.slice (some ⟨w6.heap.size, 0, none⟩) 0 0) [] (by rfl) (own_emptyI (heap_alloc_new _ _) (Nat.le_refl _)) (some ⟨P, 0, none⟩) L (nats (lsF L p)) (by rw [HL9.out]; rfl) (HRP6.out.later ((Below.refl _ _).alloc (Nat.le_refl _) _) (Nat.le_refl _)) (by rw [HL9.out]; simp; omega) (by simp) ?_)
        intro A9 c9 w7 ho7 hg7 hat7
        have hb7 : Below w6.heap.size w6 w7 := ((Below.refl _ _).alloc (Nat.le_refl _) _).grown hg7 (by simp) (fun k hk => by have e := Option.some.inj hk; have : w6.heap.size = k := e; omega)
        have hPx7 := BI.later HPX.out hb7
        have hbx7 := HBX6.out.trans (hb7.mono HBX6.out.size)
        have hown7 : w7.ownsRow w.heap.size 3 1 (.slice A9 L c9) L (ints (nats (lsF L p))) := by
          have h := own_base (base' := w.heap.size) ho7 hsz
          rw [List.nil_append, HL9.out] at h
          exact h
        have hne7 : (Value.slice A9 L c9).ownBlock ≠ some P := fun e => by
          have h := ho7
          rw [List.nil_append, HL9.out] at h
          have := (h.lt P e).1
          omega
        have hlen7 : ([] ++ nats (lsF L p)).length = L := by rw [List.nil_append, HL9.out]
        clear ho7 hg7 hat7
        have HB7 := Lib.hid hb7; have HPX7 := Lib.hid hPx7; have HBX7 := Lib.hid hbx7; have HOWN7 := Lib.hid hown7; have HNE7 := Lib.hid hne7; have HLEN7 := Lib.hid hlen7; clear hb7 hPx7 hbx7 hown7 hne7 hlen7
        skip)
      rw [HL9.out]
      have hPx := HPX7.out
      have hbx := HBX7.out
      have hbvx : BvI w7 w.heap.size P L ⟨some (lsF L p), bp, lp⟩ (.slice A9 L c9) := .inr ⟨lsF L p, rfl, lsF_len L p, by rw [lsF_len]; exact HOWN7.out, HNE7.out⟩
      have hP9 := hPx.eqv (g' := fun j => if j < L - 0 then (p j : Int) else 0) (fun j hj => by rw [if_pos (by omega)])
      have hw1 : IntKind.i64.wrap ((L : Int) - 1) = (L : Int) - 1 := IntWalk.i64_in _ (by omega)
      clear hPx
      have HP9 := Lib.hid hP9; have HBVX := Lib.hid hbvx; have HBX := Lib.hid hbx; clear hP9 hbvx hbx
      go_wp2
      clear hw1
      go_loopw [14] (fun iv wr => ∃ (t : Nat) (z : Int), iv = .int .i64 z ∧ z = (L : Int) - 1 - (t : Int) ∧ t ≤ L ∧ (∀ j, L - t ≤ j → j < L → p j + 1 = n) ∧ BI wr P 3 L (fun j => if j < L - t then (p j : Int) else 0) ∧ BvI wr w.heap.size P L ⟨some (lsF L p), bp, lp⟩ (.slice A9 L c9) ∧ Below w.heap.size w wr) (fun iv _ => (intOf iv + 1).toNat)
      case atStart => exact ⟨0, _, rfl, by omega, by omega, fun j h1 h2 => absurd h1 (by omega), HP9.out, HBVX.out, HBX.out⟩
      case round =>
        clear HP9 HBVX HBX
        obtain ⟨t, z, rfl, hz9, htL, hmax, hPt, hbt, hbw9⟩ := hrel
        by_cases htl : t = L
        · obtain rfl : z = -1 := by omega
          have hall := fun j (hj : j < L) => hmax j (by omega) hj
          have hlast := bef_last HST.out HPN.out hall
          rw [HSTEP.out] at hlast
          have hfn := HFIN.out ⟨some (lsF L p), bp, lp⟩ hlast
          have hnl := fun (B : Option Addr) (n c : Nat) (W : World) => Lib.run_eql_slice_nil (P := Try.prog) W 23 3 B n c 0 0 Try.underlying23
          rcases hbt with ⟨hb0, hbe⟩ | ⟨q, hq, hqL, hqo, hqn⟩
          · cases hb0
          · obtain ⟨k1, k2⟩ := hfn.2 q hq
            obtain ⟨gb, cb, hbe, _, hgb⟩ := hqo.form (by omega)
            injection hbe with e1 e2 e3
            subst e1
            clear e2 e3
            have ho : wr.ownsRow w.heap.size 3 1 (.slice (some ⟨gb, 0, none⟩) L c9) (nats q).length (ints (nats q)) := by rw [nats_len]; exact hqo
            have hnl2 : ∀ W, (binOp .eql 23 (.slice (some ⟨gb, 0, none⟩) L c9) (.slice none 0 0)).run Try.prog W = .ok (.bool false) W := fun W => hnl _ _ _ W
            clear hnl
            have HZ9 := Lib.hid hz9; have HMAX := Lib.hid hmax; have HPT := Lib.hid hPt; have HBW9 := Lib.hid hbw9; have HALL := Lib.hid hall; have HLAST := Lib.hid hlast; have HFN := Lib.hid hfn; have HQ := Lib.hid hq; have HQL := Lib.hid hqL; have HQO := Lib.hid hqo; have HQN := Lib.hid hqn; have K1 := Lib.hid k1; have K2 := Lib.hid k2; have HO := Lib.hid ho; have HTL := Lib.hid htl; clear hz9 hmax hPt hbw9 hall hlast hfn hq hqL hqo hqn k1 k2 ho htl
            go_wp2
            go_ret2
            rw [K1.out, K2.out]
            exact ⟨_, rfl, HO.out, HBW9.out⟩
        · obtain ⟨k, hke⟩ : ∃ k, k = L - 1 - t := ⟨_, rfl⟩
          obtain rfl : z = (k : Int) := by omega
          have hkL : k < L := by omega
          have ck := hPt.at_ hkL
          rw [if_pos (by omega)] at ck
          have fk := hPt.free k
          have lk := hPt.lt
          have hpk := HPN.out k hkL
          have x1 : (0 : Int) ≤ (k : Int) := by omega
          have x2 : (k : Int) < (L : Int) := by omega
          have d0 : decide ((0 : Int) ≤ (k : Int)) = true := decide_eq_true (by omega)
          obtain ⟨pk, hpke⟩ : ∃ pk, pk = p k := ⟨_, rfl⟩
          rw [← hpke] at ck hpk
          obtain ⟨n1, hn1⟩ : ∃ n1 : Int, n1 = (n : Int) - 1 := ⟨_, rfl⟩
          have hwn : IntKind.i64.wrap ((spools.length : Int) - 1) = n1 := (IntWalk.i64_in _ (by omega)).trans (by have := HNE.out; omega)
          by_cases hpm : pk + 1 = n
          · have e1 : ((pk : Int) == n1) = true := by rw [hn1]; simp; omega
            have hwk : IntKind.i64.wrap ((k : Int) - 1) = (k : Int) - 1 := IntWalk.i64_in _ (by omega)
            have hP2 := (hPt.put k 0).eqv (g' := fun j => if j < L - (t + 1) then (p j : Int) else 0) (fun j hj => by
              by_cases e : j = k
              · rw [e, upD_same, if_neg (by omega)]
              · rw [upD_other _ _ e]
                by_cases h9 : j < L - t
                · rw [if_pos h9, if_pos (by omega)]
                · rw [if_neg h9, if_neg (by omega)])
            have hg2 := gb_set0 (w := wr) (S := P) (j := k) (.int .i64 0)
            have hb2 := hbt.kept hg2
            have hbw2 := hbw9.setCell (p := ⟨P, k, none⟩) hPw (.int .i64 0)
            have hmax2 : ∀ j, L - (t + 1) ≤ j → j < L → p j + 1 = n := fun j h1 h2 => by
              rcases Nat.lt_or_ge j (L - t) with h3 | h3
              · rw [show j = k by omega, ← hpke]; exact hpm
              · exact hmax j h3 h2
            have HZ9 := Lib.hid hz9; have HMAX := Lib.hid hmax; have HPT := Lib.hid hPt; have HBT := Lib.hid hbt; have HBW9 := Lib.hid hbw9; have HPKE := Lib.hid hpke; have HN1 := Lib.hid hn1; have HPM := Lib.hid hpm; have HP2 := Lib.hid hP2; have HG2 := Lib.hid hg2; have HB2 := Lib.hid hb2; have HBW2 := Lib.hid hbw2; have HMAX2 := Lib.hid hmax2; have HKE := Lib.hid hke; have HTL := Lib.hid htl; clear hz9 hmax hPt hbt hbw9 hpke hn1 hpm hP2 hg2 hb2 hbw2 hmax2 hke htl
            go_wp2
            go_roundw
            case rel => exact ⟨t + 1, _, rfl, by have := HZ9.out; omega, by have := HTL.out; omega, HMAX2.out, HP2.out, HB2.out, HBW2.out⟩
            case measure => first | (simp [intOf]; done) | (simp [intOf]; omega)
          · have e1 : ((pk : Int) == n1) = false := by rw [beq_eq_false_iff_ne]; omega
            have d5 : decide ((k : Int) < 0) = false := decide_eq_false (by omega)
            have hwk : IntKind.i64.wrap ((pk : Int) + 1) = (pk : Int) + 1 := IntWalk.i64_in _ (by omega)
            have hmaxk : ∀ j, k < j → j < L → p j + 1 = n := fun j h1 h2 => hmax j (by omega) h2
            have hP2 := (hPt.put k ((pk : Int) + 1)).eqv (g' := fun j => (nxF p k j : Int)) (fun j hj => by
              unfold nxF
              by_cases e : j = k
              · rw [e, upD_same, if_neg (by omega), if_pos rfl, hpke]; rfl
              · rw [upD_other _ _ e]
                by_cases h9 : j < k
                · rw [if_pos (by omega), if_pos h9]
                · rw [if_neg (by omega), if_neg h9, if_neg e]; rfl)
            have hg2 := gb_set0 (w := wr) (S := P) (j := k) (.int .i64 ((pk : Int) + 1))
            have hb2 := hbt.kept hg2
            have hbw2 := hbw9.setCell (p := ⟨P, k, none⟩) hPw (.int .i64 ((pk : Int) + 1))
            have hnst := bef_step HST.out HPN.out hkL hmaxk
            rw [HSTEP.out] at hnst
            have hpn2 : ∀ j, j < L → nxF p k j < n := fun j hj => by
              unfold nxF
              split
              · exact HPN.out j hj
              · split
                · rw [← hpke]; omega
                · exact hn0
            have hlt9 := bef_lt HPN.out hkL hmaxk
            have hle9 := bef_le n L (nxF p k)
            have hme : befD n L (fun j => (cellI (wr.setCell ⟨P, k, none⟩ (.int .i64 ((pk : Int) + 1))) P j).toNat) = befD n L (nxF p k) := befD_congr fun j hj => by rw [hP2.cellI hj]; simp
            have HZ9 := Lib.hid hz9; have HMAX := Lib.hid hmax; have HPT := Lib.hid hPt; have HBT := Lib.hid hbt; have HBW9 := Lib.hid hbw9; have HPKE := Lib.hid hpke; have HN1 := Lib.hid hn1; have HPM := Lib.hid hpm; have HP2 := Lib.hid hP2; have HG2 := Lib.hid hg2; have HB2 := Lib.hid hb2; have HBW2 := Lib.hid hbw2; have HKE := Lib.hid hke; have HTL := Lib.hid htl; have HMAXK := Lib.hid hmaxk; have HNST := Lib.hid hnst; have HPN2 := Lib.hid hpn2; have HLT9 := Lib.hid hlt9; have HLE9 := Lib.hid hle9; have HME := Lib.hid hme; clear hz9 hmax hPt hbt hbw9 hpke hn1 hpm hP2 hg2 hb2 hbw2 hke htl hmaxk hnst hpn2 hlt9 hle9 hme
            go_wp2
            go_roundw
            case rel => exact ⟨nxF p k, ⟨some (lsF L p), bp, lp⟩, rfl, rfl, HPN2.out, HNST.out, HP2.out, HB2.out, HBW2.out⟩
            case measure => rw [HME.out, HMS.out]; have := HLT9.out; have := HLE9.out; omega
    · obtain ⟨g0, c0, rfl, _, hgb⟩ := hqo.form (by omega)
      have hnl2 : ∀ W, (binOp .eql 23 (.slice (some ⟨g0, 0, none⟩) q0.length c0) (.slice none 0 0)).run Try.prog W = .ok (.bool false) W := fun W => hnl _ _ _ W
      clear hqo hqn hqL hgb
      by_cases h1 : bp < st.beg
      · have e5 : decide (bp < st.beg) = true := decide_eq_true h1
        have hbet : BetS st bp lp := .inr (.inl h1)
        clear hq h1
        have hstep := hyes (hbet)
        clear hyes hnot hnl b6 hbv6
        have HBX6 := Lib.hid hbx
        clear hbx
        have HGOOD := Lib.hid hgood; have HSTEP := Lib.hid hstep; have HPX := Lib.hid hPx; have HRP6 := Lib.hid hrp6; have HBET := Lib.hid hbet; clear hgood hstep hPx hrp6 hbet
        go_upto_region 14 with (
          at_builtin
          go_must (refine wpList_appAllI_Try (by rfl) _ _ (by rfl) w6.heap.size (.slice (some ⟨w6.heap.size, 0, none⟩) 0 0) [] (by rfl) (own_emptyI (heap_alloc_new _ _) (Nat.le_refl _)) (some ⟨P, 0, none⟩) L (nats (lsF L p)) (by rw [HL9.out]; rfl) (HRP6.out.later ((Below.refl _ _).alloc (Nat.le_refl _) _) (Nat.le_refl _)) (by rw [HL9.out]; simp; omega) (by simp) ?_)
          intro A9 c9 w7 ho7 hg7 hat7
          have hb7 : Below w6.heap.size w6 w7 := ((Below.refl _ _).alloc (Nat.le_refl _) _).grown hg7 (by simp) (fun k hk => by have e := Option.some.inj hk; have : w6.heap.size = k := e; omega)
          have hPx7 := BI.later HPX.out hb7
          have hbx7 := HBX6.out.trans (hb7.mono HBX6.out.size)
          have hown7 : w7.ownsRow w.heap.size 3 1 (.slice A9 L c9) L (ints (nats (lsF L p))) := by
            have h := own_base (base' := w.heap.size) ho7 hsz
            rw [List.nil_append, HL9.out] at h
            exact h
          have hne7 : (Value.slice A9 L c9).ownBlock ≠ some P := fun e => by
            have h := ho7
            rw [List.nil_append, HL9.out] at h
            have := (h.lt P e).1
            omega
          have hlen7 : ([] ++ nats (lsF L p)).length = L := by rw [List.nil_append, HL9.out]
          clear ho7 hg7 hat7
          have HB7 := Lib.hid hb7; have HPX7 := Lib.hid hPx7; have HBX7 := Lib.hid hbx7; have HOWN7 := Lib.hid hown7; have HNE7 := Lib.hid hne7; have HLEN7 := Lib.hid hlen7; clear hb7 hPx7 hbx7 hown7 hne7 hlen7
          skip)
        rw [HL9.out]
        have hPx := HPX7.out
        have hbx := HBX7.out
        have hbvx : BvI w7 w.heap.size P L ⟨some (lsF L p), bp, lp⟩ (.slice A9 L c9) := .inr ⟨lsF L p, rfl, lsF_len L p, by rw [lsF_len]; exact HOWN7.out, HNE7.out⟩
        have hP9 := hPx.eqv (g' := fun j => if j < L - 0 then (p j : Int) else 0) (fun j hj => by rw [if_pos (by omega)])
        have hw1 : IntKind.i64.wrap ((L : Int) - 1) = (L : Int) - 1 := IntWalk.i64_in _ (by omega)
        clear hPx
        have HP9 := Lib.hid hP9; have HBVX := Lib.hid hbvx; have HBX := Lib.hid hbx; clear hP9 hbvx hbx
        go_wp2
        clear hw1
        go_loopw [14] (fun iv wr => ∃ (t : Nat) (z : Int), iv = .int .i64 z ∧ z = (L : Int) - 1 - (t : Int) ∧ t ≤ L ∧ (∀ j, L - t ≤ j → j < L → p j + 1 = n) ∧ BI wr P 3 L (fun j => if j < L - t then (p j : Int) else 0) ∧ BvI wr w.heap.size P L ⟨some (lsF L p), bp, lp⟩ (.slice A9 L c9) ∧ Below w.heap.size w wr) (fun iv _ => (intOf iv + 1).toNat)
        case atStart => exact ⟨0, _, rfl, by omega, by omega, fun j h1 h2 => absurd h1 (by omega), HP9.out, HBVX.out, HBX.out⟩
        case round =>
          clear HP9 HBVX HBX
          obtain ⟨t, z, rfl, hz9, htL, hmax, hPt, hbt, hbw9⟩ := hrel
          by_cases htl : t = L
          · obtain rfl : z = -1 := by omega
            have hall := fun j (hj : j < L) => hmax j (by omega) hj
            have hlast := bef_last HST.out HPN.out hall
            rw [HSTEP.out] at hlast
            have hfn := HFIN.out ⟨some (lsF L p), bp, lp⟩ hlast
            have hnl := fun (B : Option Addr) (n c : Nat) (W : World) => Lib.run_eql_slice_nil (P := Try.prog) W 23 3 B n c 0 0 Try.underlying23
            rcases hbt with ⟨hb0, hbe⟩ | ⟨q, hq, hqL, hqo, hqn⟩
            · cases hb0
            · obtain ⟨k1, k2⟩ := hfn.2 q hq
              obtain ⟨gb, cb, hbe, _, hgb⟩ := hqo.form (by omega)
              injection hbe with e1 e2 e3
              subst e1
              clear e2 e3
              have ho : wr.ownsRow w.heap.size 3 1 (.slice (some ⟨gb, 0, none⟩) L c9) (nats q).length (ints (nats q)) := by rw [nats_len]; exact hqo
              have hnl2 : ∀ W, (binOp .eql 23 (.slice (some ⟨gb, 0, none⟩) L c9) (.slice none 0 0)).run Try.prog W = .ok (.bool false) W := fun W => hnl _ _ _ W
              clear hnl
              have HZ9 := Lib.hid hz9; have HMAX := Lib.hid hmax; have HPT := Lib.hid hPt; have HBW9 := Lib.hid hbw9; have HALL := Lib.hid hall; have HLAST := Lib.hid hlast; have HFN := Lib.hid hfn; have HQ := Lib.hid hq; have HQL := Lib.hid hqL; have HQO := Lib.hid hqo; have HQN := Lib.hid hqn; have K1 := Lib.hid k1; have K2 := Lib.hid k2; have HO := Lib.hid ho; have HTL := Lib.hid htl; clear hz9 hmax hPt hbw9 hall hlast hfn hq hqL hqo hqn k1 k2 ho htl
              go_wp2
              go_ret2
              rw [K1.out, K2.out]
              exact ⟨_, rfl, HO.out, HBW9.out⟩
          · obtain ⟨k, hke⟩ : ∃ k, k = L - 1 - t := ⟨_, rfl⟩
            obtain rfl : z = (k : Int) := by omega
            have hkL : k < L := by omega
            have ck := hPt.at_ hkL
            rw [if_pos (by omega)] at ck
            have fk := hPt.free k
            have lk := hPt.lt
            have hpk := HPN.out k hkL
            have x1 : (0 : Int) ≤ (k : Int) := by omega
            have x2 : (k : Int) < (L : Int) := by omega
            have d0 : decide ((0 : Int) ≤ (k : Int)) = true := decide_eq_true (by omega)
            obtain ⟨pk, hpke⟩ : ∃ pk, pk = p k := ⟨_, rfl⟩
            rw [← hpke] at ck hpk
            obtain ⟨n1, hn1⟩ : ∃ n1 : Int, n1 = (n : Int) - 1 := ⟨_, rfl⟩
            have hwn : IntKind.i64.wrap ((spools.length : Int) - 1) = n1 := (IntWalk.i64_in _ (by omega)).trans (by have := HNE.out; omega)
            by_cases hpm : pk + 1 = n
            · have e1 : ((pk : Int) == n1) = true := by rw [hn1]; simp; omega
              have hwk : IntKind.i64.wrap ((k : Int) - 1) = (k : Int) - 1 := IntWalk.i64_in _ (by omega)
              have hP2 := (hPt.put k 0).eqv (g' := fun j => if j < L - (t + 1) then (p j : Int) else 0) (fun j hj => by
                by_cases e : j = k
                · rw [e, upD_same, if_neg (by omega)]
                · rw [upD_other _ _ e]
                  by_cases h9 : j < L - t
                  · rw [if_pos h9, if_pos (by omega)]
                  · rw [if_neg h9, if_neg (by omega)])
              have hg2 := gb_set0 (w := wr) (S := P) (j := k) (.int .i64 0)
              have hb2 := hbt.kept hg2
              have hbw2 := hbw9.setCell (p := ⟨P, k, none⟩) hPw (.int .i64 0)
              have hmax2 : ∀ j, L - (t + 1) ≤ j → j < L → p j + 1 = n := fun j h1 h2 => by
                rcases Nat.lt_or_ge j (L - t) with h3 | h3
                · rw [show j = k by omega, ← hpke]; exact hpm
                · exact hmax j h3 h2
              have HZ9 := Lib.hid hz9; have HMAX := Lib.hid hmax; have HPT := Lib.hid hPt; have HBT := Lib.hid hbt; have HBW9 := Lib.hid hbw9; have HPKE := Lib.hid hpke; have HN1 := Lib.hid hn1; have HPM := Lib.hid hpm; have HP2 := Lib.hid hP2; have HG2 := Lib.hid hg2; have HB2 := Lib.hid hb2; have HBW2 := Lib.hid hbw2; have HMAX2 := Lib.hid hmax2; have HKE := Lib.hid hke; have HTL := Lib.hid htl; clear hz9 hmax hPt hbt hbw9 hpke hn1 hpm hP2 hg2 hb2 hbw2 hmax2 hke htl
              go_wp2
              go_roundw
              case rel => exact ⟨t + 1, _, rfl, by have := HZ9.out; omega, by have := HTL.out; omega, HMAX2.out, HP2.out, HB2.out, HBW2.out⟩
              case measure => first | (simp [intOf]; done) | (simp [intOf]; omega)
            · have e1 : ((pk : Int) == n1) = false := by rw [beq_eq_false_iff_ne]; omega
              have d5 : decide ((k : Int) < 0) = false := decide_eq_false (by omega)
              have hwk : IntKind.i64.wrap ((pk : Int) + 1) = (pk : Int) + 1 := IntWalk.i64_in _ (by omega)
              have hmaxk : ∀ j, k < j → j < L → p j + 1 = n := fun j h1 h2 => hmax j (by omega) h2
              have hP2 := (hPt.put k ((pk : Int) + 1)).eqv (g' := fun j => (nxF p k j : Int)) (fun j hj => by
                unfold nxF
                by_cases e : j = k
                · rw [e, upD_same, if_neg (by omega), if_pos rfl, hpke]; rfl
                · rw [upD_other _ _ e]
                  by_cases h9 : j < k
                  · rw [if_pos (by omega), if_pos h9]
                  · rw [if_neg (by omega), if_neg h9, if_neg e]; rfl)
              have hg2 := gb_set0 (w := wr) (S := P) (j := k) (.int .i64 ((pk : Int) + 1))
              have hb2 := hbt.kept hg2
              have hbw2 := hbw9.setCell (p := ⟨P, k, none⟩) hPw (.int .i64 ((pk : Int) + 1))
              have hnst := bef_step HST.out HPN.out hkL hmaxk
              rw [HSTEP.out] at hnst
              have hpn2 : ∀ j, j < L → nxF p k j < n := fun j hj => by
                unfold nxF
                split
                · exact HPN.out j hj
                · split
                  · rw [← hpke]; omega
                  · exact hn0
              have hlt9 := bef_lt HPN.out hkL hmaxk
              have hle9 := bef_le n L (nxF p k)
              have hme : befD n L (fun j => (cellI (wr.setCell ⟨P, k, none⟩ (.int .i64 ((pk : Int) + 1))) P j).toNat) = befD n L (nxF p k) := befD_congr fun j hj => by rw [hP2.cellI hj]; simp
              have HZ9 := Lib.hid hz9; have HMAX := Lib.hid hmax; have HPT := Lib.hid hPt; have HBT := Lib.hid hbt; have HBW9 := Lib.hid hbw9; have HPKE := Lib.hid hpke; have HN1 := Lib.hid hn1; have HPM := Lib.hid hpm; have HP2 := Lib.hid hP2; have HG2 := Lib.hid hg2; have HB2 := Lib.hid hb2; have HBW2 := Lib.hid hbw2; have HKE := Lib.hid hke; have HTL := Lib.hid htl; have HMAXK := Lib.hid hmaxk; have HNST := Lib.hid hnst; have HPN2 := Lib.hid hpn2; have HLT9 := Lib.hid hlt9; have HLE9 := Lib.hid hle9; have HME := Lib.hid hme; clear hz9 hmax hPt hbt hbw9 hpke hn1 hpm hP2 hg2 hb2 hbw2 hke htl hmaxk hnst hpn2 hlt9 hle9 hme
              go_wp2
              go_roundw
              case rel => exact ⟨nxF p k, ⟨some (lsF L p), bp, lp⟩, rfl, rfl, HPN2.out, HNST.out, HP2.out, HB2.out, HBW2.out⟩
              case measure => rw [HME.out, HMS.out]; have := HLT9.out; have := HLE9.out; omega
      · have e5 : decide (bp < st.beg) = false := decide_eq_false h1
        by_cases h2 : bp = st.beg
        · have e6 : (bp == st.beg) = true := by rw [h2]; simp
          by_cases h3 : lp < st.lon
          · have e7 : decide (lp < st.lon) = true := decide_eq_true h3
            have hbet : BetS st bp lp := .inr (.inr ⟨h2, h3⟩)
            clear hq h1 h2 h3
            have hstep := hyes (hbet)
            clear hyes hnot hnl b6 hbv6
            have HBX6 := Lib.hid hbx
            clear hbx
            have HGOOD := Lib.hid hgood; have HSTEP := Lib.hid hstep; have HPX := Lib.hid hPx; have HRP6 := Lib.hid hrp6; have HBET := Lib.hid hbet; clear hgood hstep hPx hrp6 hbet
            go_upto_region 14 with (
              at_builtin
              go_must (refine wpList_appAllI_Try (by rfl) _ _ (by rfl) w6.heap.size (.slice (some ⟨w6.heap.size, 0, none⟩) 0 0) [] (by rfl) (own_emptyI (heap_alloc_new _ _) (Nat.le_refl _)) (some ⟨P, 0, none⟩) L (nats (lsF L p)) (by rw [HL9.out]; rfl) (HRP6.out.later ((Below.refl _ _).alloc (Nat.le_refl _) _) (Nat.le_refl _)) (by rw [HL9.out]; simp; omega) (by simp) ?_)
              intro A9 c9 w7 ho7 hg7 hat7
              have hb7 : Below w6.heap.size w6 w7 := ((Below.refl _ _).alloc (Nat.le_refl _) _).grown hg7 (by simp) (fun k hk => by have e := Option.some.inj hk; have : w6.heap.size = k := e; omega)
              have hPx7 := BI.later HPX.out hb7
              have hbx7 := HBX6.out.trans (hb7.mono HBX6.out.size)
              have hown7 : w7.ownsRow w.heap.size 3 1 (.slice A9 L c9) L (ints (nats (lsF L p))) := by
                have h := own_base (base' := w.heap.size) ho7 hsz
                rw [List.nil_append, HL9.out] at h
                exact h
              have hne7 : (Value.slice A9 L c9).ownBlock ≠ some P := fun e => by
                have h := ho7
                rw [List.nil_append, HL9.out] at h
                have := (h.lt P e).1
                omega
              have hlen7 : ([] ++ nats (lsF L p)).length = L := by rw [List.nil_append, HL9.out]
              clear ho7 hg7 hat7
              have HB7 := Lib.hid hb7; have HPX7 := Lib.hid hPx7; have HBX7 := Lib.hid hbx7; have HOWN7 := Lib.hid hown7; have HNE7 := Lib.hid hne7; have HLEN7 := Lib.hid hlen7; clear hb7 hPx7 hbx7 hown7 hne7 hlen7
              skip)
            rw [HL9.out]
            have hPx := HPX7.out
            have hbx := HBX7.out
            have hbvx : BvI w7 w.heap.size P L ⟨some (lsF L p), bp, lp⟩ (.slice A9 L c9) := .inr ⟨lsF L p, rfl, lsF_len L p, by rw [lsF_len]; exact HOWN7.out, HNE7.out⟩
            have hP9 := hPx.eqv (g' := fun j => if j < L - 0 then (p j : Int) else 0) (fun j hj => by rw [if_pos (by omega)])
            have hw1 : IntKind.i64.wrap ((L : Int) - 1) = (L : Int) - 1 := IntWalk.i64_in _ (by omega)
            clear hPx
            have HP9 := Lib.hid hP9; have HBVX := Lib.hid hbvx; have HBX := Lib.hid hbx; clear hP9 hbvx hbx
            go_wp2
            clear hw1
            go_loopw [14] (fun iv wr => ∃ (t : Nat) (z : Int), iv = .int .i64 z ∧ z = (L : Int) - 1 - (t : Int) ∧ t ≤ L ∧ (∀ j, L - t ≤ j → j < L → p j + 1 = n) ∧ BI wr P 3 L (fun j => if j < L - t then (p j : Int) else 0) ∧ BvI wr w.heap.size P L ⟨some (lsF L p), bp, lp⟩ (.slice A9 L c9) ∧ Below w.heap.size w wr) (fun iv _ => (intOf iv + 1).toNat)
            case atStart => exact ⟨0, _, rfl, by omega, by omega, fun j h1 h2 => absurd h1 (by omega), HP9.out, HBVX.out, HBX.out⟩
            case round =>
              clear HP9 HBVX HBX
              obtain ⟨t, z, rfl, hz9, htL, hmax, hPt, hbt, hbw9⟩ := hrel
              by_cases htl : t = L
              · obtain rfl : z = -1 := by omega
                have hall := fun j (hj : j < L) => hmax j (by omega) hj
                have hlast := bef_last HST.out HPN.out hall
                rw [HSTEP.out] at hlast
                have hfn := HFIN.out ⟨some (lsF L p), bp, lp⟩ hlast
                have hnl := fun (B : Option Addr) (n c : Nat) (W : World) => Lib.run_eql_slice_nil (P := Try.prog) W 23 3 B n c 0 0 Try.underlying23
                rcases hbt with ⟨hb0, hbe⟩ | ⟨q, hq, hqL, hqo, hqn⟩
                · cases hb0
                · obtain ⟨k1, k2⟩ := hfn.2 q hq
                  obtain ⟨gb, cb, hbe, _, hgb⟩ := hqo.form (by omega)
                  injection hbe with e1 e2 e3
                  subst e1
                  clear e2 e3
                  have ho : wr.ownsRow w.heap.size 3 1 (.slice (some ⟨gb, 0, none⟩) L c9) (nats q).length (ints (nats q)) := by rw [nats_len]; exact hqo
                  have hnl2 : ∀ W, (binOp .eql 23 (.slice (some ⟨gb, 0, none⟩) L c9) (.slice none 0 0)).run Try.prog W = .ok (.bool false) W := fun W => hnl _ _ _ W
                  clear hnl
                  have HZ9 := Lib.hid hz9; have HMAX := Lib.hid hmax; have HPT := Lib.hid hPt; have HBW9 := Lib.hid hbw9; have HALL := Lib.hid hall; have HLAST := Lib.hid hlast; have HFN := Lib.hid hfn; have HQ := Lib.hid hq; have HQL := Lib.hid hqL; have HQO := Lib.hid hqo; have HQN := Lib.hid hqn; have K1 := Lib.hid k1; have K2 := Lib.hid k2; have HO := Lib.hid ho; have HTL := Lib.hid htl; clear hz9 hmax hPt hbw9 hall hlast hfn hq hqL hqo hqn k1 k2 ho htl
                  go_wp2
                  go_ret2
                  rw [K1.out, K2.out]
                  exact ⟨_, rfl, HO.out, HBW9.out⟩
              · obtain ⟨k, hke⟩ : ∃ k, k = L - 1 - t := ⟨_, rfl⟩
                obtain rfl : z = (k : Int) := by omega
                have hkL : k < L := by omega
                have ck := hPt.at_ hkL
                rw [if_pos (by omega)] at ck
                have fk := hPt.free k
                have lk := hPt.lt
                have hpk := HPN.out k hkL
                have x1 : (0 : Int) ≤ (k : Int) := by omega
                have x2 : (k : Int) < (L : Int) := by omega
                have d0 : decide ((0 : Int) ≤ (k : Int)) = true := decide_eq_true (by omega)
                obtain ⟨pk, hpke⟩ : ∃ pk, pk = p k := ⟨_, rfl⟩
                rw [← hpke] at ck hpk
                obtain ⟨n1, hn1⟩ : ∃ n1 : Int, n1 = (n : Int) - 1 := ⟨_, rfl⟩
                have hwn : IntKind.i64.wrap ((spools.length : Int) - 1) = n1 := (IntWalk.i64_in _ (by omega)).trans (by have := HNE.out; omega)
                by_cases hpm : pk + 1 = n
                · have e1 : ((pk : Int) == n1) = true := by rw [hn1]; simp; omega
                  have hwk : IntKind.i64.wrap ((k : Int) - 1) = (k : Int) - 1 := IntWalk.i64_in _ (by omega)
                  have hP2 := (hPt.put k 0).eqv (g' := fun j => if j < L - (t + 1) then (p j : Int) else 0) (fun j hj => by
                    by_cases e : j = k
                    · rw [e, upD_same, if_neg (by omega)]
                    · rw [upD_other _ _ e]
                      by_cases h9 : j < L - t
                      · rw [if_pos h9, if_pos (by omega)]
                      · rw [if_neg h9, if_neg (by omega)])
                  have hg2 := gb_set0 (w := wr) (S := P) (j := k) (.int .i64 0)
                  have hb2 := hbt.kept hg2
                  have hbw2 := hbw9.setCell (p := ⟨P, k, none⟩) hPw (.int .i64 0)
                  have hmax2 : ∀ j, L - (t + 1) ≤ j → j < L → p j + 1 = n := fun j h1 h2 => by
                    rcases Nat.lt_or_ge j (L - t) with h3 | h3
                    · rw [show j = k by omega, ← hpke]; exact hpm
                    · exact hmax j h3 h2
                  have HZ9 := Lib.hid hz9; have HMAX := Lib.hid hmax; have HPT := Lib.hid hPt; have HBT := Lib.hid hbt; have HBW9 := Lib.hid hbw9; have HPKE := Lib.hid hpke; have HN1 := Lib.hid hn1; have HPM := Lib.hid hpm; have HP2 := Lib.hid hP2; have HG2 := Lib.hid hg2; have HB2 := Lib.hid hb2; have HBW2 := Lib.hid hbw2; have HMAX2 := Lib.hid hmax2; have HKE := Lib.hid hke; have HTL := Lib.hid htl; clear hz9 hmax hPt hbt hbw9 hpke hn1 hpm hP2 hg2 hb2 hbw2 hmax2 hke htl
                  go_wp2
                  go_roundw
                  case rel => exact ⟨t + 1, _, rfl, by have := HZ9.out; omega, by have := HTL.out; omega, HMAX2.out, HP2.out, HB2.out, HBW2.out⟩
                  case measure => first | (simp [intOf]; done) | (simp [intOf]; omega)
                · have e1 : ((pk : Int) == n1) = false := by rw [beq_eq_false_iff_ne]; omega
                  have d5 : decide ((k : Int) < 0) = false := decide_eq_false (by omega)
                  have hwk : IntKind.i64.wrap ((pk : Int) + 1) = (pk : Int) + 1 := IntWalk.i64_in _ (by omega)
                  have hmaxk : ∀ j, k < j → j < L → p j + 1 = n := fun j h1 h2 => hmax j (by omega) h2
                  have hP2 := (hPt.put k ((pk : Int) + 1)).eqv (g' := fun j => (nxF p k j : Int)) (fun j hj => by
                    unfold nxF
                    by_cases e : j = k
                    · rw [e, upD_same, if_neg (by omega), if_pos rfl, hpke]; rfl
                    · rw [upD_other _ _ e]
                      by_cases h9 : j < k
                      · rw [if_pos (by omega), if_pos h9]
                      · rw [if_neg (by omega), if_neg h9, if_neg e]; rfl)
                  have hg2 := gb_set0 (w := wr) (S := P) (j := k) (.int .i64 ((pk : Int) + 1))
                  have hb2 := hbt.kept hg2
                  have hbw2 := hbw9.setCell (p := ⟨P, k, none⟩) hPw (.int .i64 ((pk : Int) + 1))
                  have hnst := bef_step HST.out HPN.out hkL hmaxk
                  rw [HSTEP.out] at hnst
                  have hpn2 : ∀ j, j < L → nxF p k j < n := fun j hj => by
                    unfold nxF
                    split
                    · exact HPN.out j hj
                    · split
                      · rw [← hpke]; omega
                      · exact hn0
                  have hlt9 := bef_lt HPN.out hkL hmaxk
                  have hle9 := bef_le n L (nxF p k)
                  have hme : befD n L (fun j => (cellI (wr.setCell ⟨P, k, none⟩ (.int .i64 ((pk : Int) + 1))) P j).toNat) = befD n L (nxF p k) := befD_congr fun j hj => by rw [hP2.cellI hj]; simp
                  have HZ9 := Lib.hid hz9; have HMAX := Lib.hid hmax; have HPT := Lib.hid hPt; have HBT := Lib.hid hbt; have HBW9 := Lib.hid hbw9; have HPKE := Lib.hid hpke; have HN1 := Lib.hid hn1; have HPM := Lib.hid hpm; have HP2 := Lib.hid hP2; have HG2 := Lib.hid hg2; have HB2 := Lib.hid hb2; have HBW2 := Lib.hid hbw2; have HKE := Lib.hid hke; have HTL := Lib.hid htl; have HMAXK := Lib.hid hmaxk; have HNST := Lib.hid hnst; have HPN2 := Lib.hid hpn2; have HLT9 := Lib.hid hlt9; have HLE9 := Lib.hid hle9; have HME := Lib.hid hme; clear hz9 hmax hPt hbt hbw9 hpke hn1 hpm hP2 hg2 hb2 hbw2 hke htl hmaxk hnst hpn2 hlt9 hle9 hme
                  go_wp2
                  go_roundw
                  case rel => exact ⟨nxF p k, ⟨some (lsF L p), bp, lp⟩, rfl, rfl, HPN2.out, HNST.out, HP2.out, HB2.out, HBW2.out⟩
                  case measure => rw [HME.out, HMS.out]; have := HLT9.out; have := HLE9.out; omega
          · have e7 : decide (lp < st.lon) = false := decide_eq_false h3
            have hnbet : ¬ BetS st bp lp := fun h => by
              rcases h with h | h | h
              · rw [hq] at h; cases h
              · exact h1 h
              · exact h3 h.2
            clear hq h1 h2 h3
            have hstep := hnot hnbet
            have hbvx := hbv6
            clear hyes hnot hnl b6 hbv6
            have HGOOD := Lib.hid hgood; have HSTEP := Lib.hid hstep; have HRP6 := Lib.hid hrp6; have HNBET := Lib.hid hnbet; clear hgood hstep hrp6 hnbet
            have hP9 := hPx.eqv (g' := fun j => if j < L - 0 then (p j : Int) else 0) (fun j hj => by rw [if_pos (by omega)])
            have hw1 : IntKind.i64.wrap ((L : Int) - 1) = (L : Int) - 1 := IntWalk.i64_in _ (by omega)
            clear hPx
            have HP9 := Lib.hid hP9; have HBVX := Lib.hid hbvx; have HBX := Lib.hid hbx; clear hP9 hbvx hbx
            go_wp2
            clear hw1
            go_loopw [14] (fun iv wr => ∃ (t : Nat) (z : Int), iv = .int .i64 z ∧ z = (L : Int) - 1 - (t : Int) ∧ t ≤ L ∧ (∀ j, L - t ≤ j → j < L → p j + 1 = n) ∧ BI wr P 3 L (fun j => if j < L - t then (p j : Int) else 0) ∧ BvI wr w.heap.size P L st (.slice (some ⟨g0, 0, none⟩) q0.length c0) ∧ Below w.heap.size w wr) (fun iv _ => (intOf iv + 1).toNat)
            case atStart => exact ⟨0, _, rfl, by omega, by omega, fun j h1 h2 => absurd h1 (by omega), HP9.out, HBVX.out, HBX.out⟩
            case round =>
              clear HP9 HBVX HBX
              obtain ⟨t, z, rfl, hz9, htL, hmax, hPt, hbt, hbw9⟩ := hrel
              by_cases htl : t = L
              · obtain rfl : z = -1 := by omega
                have hall := fun j (hj : j < L) => hmax j (by omega) hj
                have hlast := bef_last HST.out HPN.out hall
                rw [HSTEP.out] at hlast
                have hfn := HFIN.out st hlast
                have hnl := fun (B : Option Addr) (n c : Nat) (W : World) => Lib.run_eql_slice_nil (P := Try.prog) W 23 3 B n c 0 0 Try.underlying23
                rcases hbt with ⟨hb0, hbe⟩ | ⟨q, hq, hqL, hqo, hqn⟩
                · cases hbe
                · obtain ⟨k1, k2⟩ := hfn.2 q hq
                  obtain ⟨gb, cb, hbe, _, hgb⟩ := hqo.form (by omega)
                  clear hbe
                  have ho : wr.ownsRow w.heap.size 3 1 (.slice (some ⟨g0, 0, none⟩) q0.length c0) (nats q).length (ints (nats q)) := by rw [nats_len]; exact hqo
                  have hnl2 : ∀ W, (binOp .eql 23 (.slice (some ⟨g0, 0, none⟩) q0.length c0) (.slice none 0 0)).run Try.prog W = .ok (.bool false) W := fun W => hnl _ _ _ W
                  clear hnl
                  have HZ9 := Lib.hid hz9; have HMAX := Lib.hid hmax; have HPT := Lib.hid hPt; have HBW9 := Lib.hid hbw9; have HALL := Lib.hid hall; have HLAST := Lib.hid hlast; have HFN := Lib.hid hfn; have HQ := Lib.hid hq; have HQL := Lib.hid hqL; have HQO := Lib.hid hqo; have HQN := Lib.hid hqn; have K1 := Lib.hid k1; have K2 := Lib.hid k2; have HO := Lib.hid ho; have HTL := Lib.hid htl; clear hz9 hmax hPt hbw9 hall hlast hfn hq hqL hqo hqn k1 k2 ho htl
                  go_wp2
                  go_ret2
                  rw [K1.out, K2.out]
                  exact ⟨_, rfl, HO.out, HBW9.out⟩
              · obtain ⟨k, hke⟩ : ∃ k, k = L - 1 - t := ⟨_, rfl⟩
                obtain rfl : z = (k : Int) := by omega
                have hkL : k < L := by omega
                have ck := hPt.at_ hkL
                rw [if_pos (by omega)] at ck
                have fk := hPt.free k
                have lk := hPt.lt
                have hpk := HPN.out k hkL
                have x1 : (0 : Int) ≤ (k : Int) := by omega
                have x2 : (k : Int) < (L : Int) := by omega
                have d0 : decide ((0 : Int) ≤ (k : Int)) = true := decide_eq_true (by omega)
                obtain ⟨pk, hpke⟩ : ∃ pk, pk = p k := ⟨_, rfl⟩
                rw [← hpke] at ck hpk
                obtain ⟨n1, hn1⟩ : ∃ n1 : Int, n1 = (n : Int) - 1 := ⟨_, rfl⟩
                have hwn : IntKind.i64.wrap ((spools.length : Int) - 1) = n1 := (IntWalk.i64_in _ (by omega)).trans (by have := HNE.out; omega)
                by_cases hpm : pk + 1 = n
                · have e1 : ((pk : Int) == n1) = true := by rw [hn1]; simp; omega
                  have hwk : IntKind.i64.wrap ((k : Int) - 1) = (k : Int) - 1 := IntWalk.i64_in _ (by omega)
                  have hP2 := (hPt.put k 0).eqv (g' := fun j => if j < L - (t + 1) then (p j : Int) else 0) (fun j hj => by
                    by_cases e : j = k
                    · rw [e, upD_same, if_neg (by omega)]
                    · rw [upD_other _ _ e]
                      by_cases h9 : j < L - t
                      · rw [if_pos h9, if_pos (by omega)]
                      · rw [if_neg h9, if_neg (by omega)])
                  have hg2 := gb_set0 (w := wr) (S := P) (j := k) (.int .i64 0)
                  have hb2 := hbt.kept hg2
                  have hbw2 := hbw9.setCell (p := ⟨P, k, none⟩) hPw (.int .i64 0)
                  have hmax2 : ∀ j, L - (t + 1) ≤ j → j < L → p j + 1 = n := fun j h1 h2 => by
                    rcases Nat.lt_or_ge j (L - t) with h3 | h3
                    · rw [show j = k by omega, ← hpke]; exact hpm
                    · exact hmax j h3 h2
                  have HZ9 := Lib.hid hz9; have HMAX := Lib.hid hmax; have HPT := Lib.hid hPt; have HBT := Lib.hid hbt; have HBW9 := Lib.hid hbw9; have HPKE := Lib.hid hpke; have HN1 := Lib.hid hn1; have HPM := Lib.hid hpm; have HP2 := Lib.hid hP2; have HG2 := Lib.hid hg2; have HB2 := Lib.hid hb2; have HBW2 := Lib.hid hbw2; have HMAX2 := Lib.hid hmax2; have HKE := Lib.hid hke; have HTL := Lib.hid htl; clear hz9 hmax hPt hbt hbw9 hpke hn1 hpm hP2 hg2 hb2 hbw2 hmax2 hke htl
                  go_wp2
                  go_roundw
                  case rel => exact ⟨t + 1, _, rfl, by have := HZ9.out; omega, by have := HTL.out; omega, HMAX2.out, HP2.out, HB2.out, HBW2.out⟩
                  case measure => first | (simp [intOf]; done) | (simp [intOf]; omega)
                · have e1 : ((pk : Int) == n1) = false := by rw [beq_eq_false_iff_ne]; omega
                  have d5 : decide ((k : Int) < 0) = false := decide_eq_false (by omega)
                  have hwk : IntKind.i64.wrap ((pk : Int) + 1) = (pk : Int) + 1 := IntWalk.i64_in _ (by omega)
                  have hmaxk : ∀ j, k < j → j < L → p j + 1 = n := fun j h1 h2 => hmax j (by omega) h2
                  have hP2 := (hPt.put k ((pk : Int) + 1)).eqv (g' := fun j => (nxF p k j : Int)) (fun j hj => by
                    unfold nxF
                    by_cases e : j = k
                    · rw [e, upD_same, if_neg (by omega), if_pos rfl, hpke]; rfl
                    · rw [upD_other _ _ e]
                      by_cases h9 : j < k
                      · rw [if_pos (by omega), if_pos h9]
                      · rw [if_neg (by omega), if_neg h9, if_neg e]; rfl)
                  have hg2 := gb_set0 (w := wr) (S := P) (j := k) (.int .i64 ((pk : Int) + 1))
                  have hb2 := hbt.kept hg2
                  have hbw2 := hbw9.setCell (p := ⟨P, k, none⟩) hPw (.int .i64 ((pk : Int) + 1))
                  have hnst := bef_step HST.out HPN.out hkL hmaxk
                  rw [HSTEP.out] at hnst
                  have hpn2 : ∀ j, j < L → nxF p k j < n := fun j hj => by
                    unfold nxF
                    split
                    · exact HPN.out j hj
                    · split
                      · rw [← hpke]; omega
                      · exact hn0
                  have hlt9 := bef_lt HPN.out hkL hmaxk
                  have hle9 := bef_le n L (nxF p k)
                  have hme : befD n L (fun j => (cellI (wr.setCell ⟨P, k, none⟩ (.int .i64 ((pk : Int) + 1))) P j).toNat) = befD n L (nxF p k) := befD_congr fun j hj => by rw [hP2.cellI hj]; simp
                  have HZ9 := Lib.hid hz9; have HMAX := Lib.hid hmax; have HPT := Lib.hid hPt; have HBT := Lib.hid hbt; have HBW9 := Lib.hid hbw9; have HPKE := Lib.hid hpke; have HN1 := Lib.hid hn1; have HPM := Lib.hid hpm; have HP2 := Lib.hid hP2; have HG2 := Lib.hid hg2; have HB2 := Lib.hid hb2; have HBW2 := Lib.hid hbw2; have HKE := Lib.hid hke; have HTL := Lib.hid htl; have HMAXK := Lib.hid hmaxk; have HNST := Lib.hid hnst; have HPN2 := Lib.hid hpn2; have HLT9 := Lib.hid hlt9; have HLE9 := Lib.hid hle9; have HME := Lib.hid hme; clear hz9 hmax hPt hbt hbw9 hpke hn1 hpm hP2 hg2 hb2 hbw2 hke htl hmaxk hnst hpn2 hlt9 hle9 hme
                  go_wp2
                  go_roundw
                  case rel => exact ⟨nxF p k, st, rfl, rfl, HPN2.out, HNST.out, HP2.out, HB2.out, HBW2.out⟩
                  case measure => rw [HME.out, HMS.out]; have := HLT9.out; have := HLE9.out; omega
        · have e6 : (bp == st.beg) = false := by rw [beq_eq_false_iff_ne]; exact h2
          have hnbet : ¬ BetS st bp lp := fun h => by
            rcases h with h | h | h
            · rw [hq] at h; cases h
            · exact h1 h
            · exact h2 h.1
          clear hq h1 h2
          have hstep := hnot hnbet
          have hbvx := hbv6
          clear hyes hnot hnl b6 hbv6
          have HGOOD := Lib.hid hgood; have HSTEP := Lib.hid hstep; have HRP6 := Lib.hid hrp6; have HNBET := Lib.hid hnbet; clear hgood hstep hrp6 hnbet
          have hP9 := hPx.eqv (g' := fun j => if j < L - 0 then (p j : Int) else 0) (fun j hj => by rw [if_pos (by omega)])
          have hw1 : IntKind.i64.wrap ((L : Int) - 1) = (L : Int) - 1 := IntWalk.i64_in _ (by omega)
          clear hPx
          have HP9 := Lib.hid hP9; have HBVX := Lib.hid hbvx; have HBX := Lib.hid hbx; clear hP9 hbvx hbx
          go_wp2
          clear hw1
          go_loopw [14] (fun iv wr => ∃ (t : Nat) (z : Int), iv = .int .i64 z ∧ z = (L : Int) - 1 - (t : Int) ∧ t ≤ L ∧ (∀ j, L - t ≤ j → j < L → p j + 1 = n) ∧ BI wr P 3 L (fun j => if j < L - t then (p j : Int) else 0) ∧ BvI wr w.heap.size P L st (.slice (some ⟨g0, 0, none⟩) q0.length c0) ∧ Below w.heap.size w wr) (fun iv _ => (intOf iv + 1).toNat)
          case atStart => exact ⟨0, _, rfl, by omega, by omega, fun j h1 h2 => absurd h1 (by omega), HP9.out, HBVX.out, HBX.out⟩
          case round =>
            clear HP9 HBVX HBX
            obtain ⟨t, z, rfl, hz9, htL, hmax, hPt, hbt, hbw9⟩ := hrel
            by_cases htl : t = L
            · obtain rfl : z = -1 := by omega
              have hall := fun j (hj : j < L) => hmax j (by omega) hj
              have hlast := bef_last HST.out HPN.out hall
              rw [HSTEP.out] at hlast
              have hfn := HFIN.out st hlast
              have hnl := fun (B : Option Addr) (n c : Nat) (W : World) => Lib.run_eql_slice_nil (P := Try.prog) W 23 3 B n c 0 0 Try.underlying23
              rcases hbt with ⟨hb0, hbe⟩ | ⟨q, hq, hqL, hqo, hqn⟩
              · cases hbe
              · obtain ⟨k1, k2⟩ := hfn.2 q hq
                obtain ⟨gb, cb, hbe, _, hgb⟩ := hqo.form (by omega)
                clear hbe
                have ho : wr.ownsRow w.heap.size 3 1 (.slice (some ⟨g0, 0, none⟩) q0.length c0) (nats q).length (ints (nats q)) := by rw [nats_len]; exact hqo
                have hnl2 : ∀ W, (binOp .eql 23 (.slice (some ⟨g0, 0, none⟩) q0.length c0) (.slice none 0 0)).run Try.prog W = .ok (.bool false) W := fun W => hnl _ _ _ W
                clear hnl
                have HZ9 := Lib.hid hz9; have HMAX := Lib.hid hmax; have HPT := Lib.hid hPt; have HBW9 := Lib.hid hbw9; have HALL := Lib.hid hall; have HLAST := Lib.hid hlast; have HFN := Lib.hid hfn; have HQ := Lib.hid hq; have HQL := Lib.hid hqL; have HQO := Lib.hid hqo; have HQN := Lib.hid hqn; have K1 := Lib.hid k1; have K2 := Lib.hid k2; have HO := Lib.hid ho; have HTL := Lib.hid htl; clear hz9 hmax hPt hbw9 hall hlast hfn hq hqL hqo hqn k1 k2 ho htl
                go_wp2
                go_ret2
                rw [K1.out, K2.out]
                exact ⟨_, rfl, HO.out, HBW9.out⟩
            · obtain ⟨k, hke⟩ : ∃ k, k = L - 1 - t := ⟨_, rfl⟩
              obtain rfl : z = (k : Int) := by omega
              have hkL : k < L := by omega
              have ck := hPt.at_ hkL
              rw [if_pos (by omega)] at ck
              have fk := hPt.free k
              have lk := hPt.lt
              have hpk := HPN.out k hkL
              have x1 : (0 : Int) ≤ (k : Int) := by omega
              have x2 : (k : Int) < (L : Int) := by omega
              have d0 : decide ((0 : Int) ≤ (k : Int)) = true := decide_eq_true (by omega)
              obtain ⟨pk, hpke⟩ : ∃ pk, pk = p k := ⟨_, rfl⟩
              rw [← hpke] at ck hpk
              obtain ⟨n1, hn1⟩ : ∃ n1 : Int, n1 = (n : Int) - 1 := ⟨_, rfl⟩
              have hwn : IntKind.i64.wrap ((spools.length : Int) - 1) = n1 := (IntWalk.i64_in _ (by omega)).trans (by have := HNE.out; omega)
              by_cases hpm : pk + 1 = n
              · have e1 : ((pk : Int) == n1) = true := by rw [hn1]; simp; omega
                have hwk : IntKind.i64.wrap ((k : Int) - 1) = (k : Int) - 1 := IntWalk.i64_in _ (by omega)
                have hP2 := (hPt.put k 0).eqv (g' := fun j => if j < L - (t + 1) then (p j : Int) else 0) (fun j hj => by
                  by_cases e : j = k
                  · rw [e, upD_same, if_neg (by omega)]
                  · rw [upD_other _ _ e]
                    by_cases h9 : j < L - t
                    · rw [if_pos h9, if_pos (by omega)]
                    · rw [if_neg h9, if_neg (by omega)])
                have hg2 := gb_set0 (w := wr) (S := P) (j := k) (.int .i64 0)
                have hb2 := hbt.kept hg2
                have hbw2 := hbw9.setCell (p := ⟨P, k, none⟩) hPw (.int .i64 0)
                have hmax2 : ∀ j, L - (t + 1) ≤ j → j < L → p j + 1 = n := fun j h1 h2 => by
                  rcases Nat.lt_or_ge j (L - t) with h3 | h3
                  · rw [show j = k by omega, ← hpke]; exact hpm
                  · exact hmax j h3 h2
                have HZ9 := Lib.hid hz9; have HMAX := Lib.hid hmax; have HPT := Lib.hid hPt; have HBT := Lib.hid hbt; have HBW9 := Lib.hid hbw9; have HPKE := Lib.hid hpke; have HN1 := Lib.hid hn1; have HPM := Lib.hid hpm; have HP2 := Lib.hid hP2; have HG2 := Lib.hid hg2; have HB2 := Lib.hid hb2; have HBW2 := Lib.hid hbw2; have HMAX2 := Lib.hid hmax2; have HKE := Lib.hid hke; have HTL := Lib.hid htl; clear hz9 hmax hPt hbt hbw9 hpke hn1 hpm hP2 hg2 hb2 hbw2 hmax2 hke htl
                go_wp2
                go_roundw
                case rel => exact ⟨t + 1, _, rfl, by have := HZ9.out; omega, by have := HTL.out; omega, HMAX2.out, HP2.out, HB2.out, HBW2.out⟩
                case measure => first | (simp [intOf]; done) | (simp [intOf]; omega)
              · have e1 : ((pk : Int) == n1) = false := by rw [beq_eq_false_iff_ne]; omega
                have d5 : decide ((k : Int) < 0) = false := decide_eq_false (by omega)
                have hwk : IntKind.i64.wrap ((pk : Int) + 1) = (pk : Int) + 1 := IntWalk.i64_in _ (by omega)
                have hmaxk : ∀ j, k < j → j < L → p j + 1 = n := fun j h1 h2 => hmax j (by omega) h2
                have hP2 := (hPt.put k ((pk : Int) + 1)).eqv (g' := fun j => (nxF p k j : Int)) (fun j hj => by
                  unfold nxF
                  by_cases e : j = k
                  · rw [e, upD_same, if_neg (by omega), if_pos rfl, hpke]; rfl
                  · rw [upD_other _ _ e]
                    by_cases h9 : j < k
                    · rw [if_pos (by omega), if_pos h9]
                    · rw [if_neg (by omega), if_neg h9, if_neg e]; rfl)
                have hg2 := gb_set0 (w := wr) (S := P) (j := k) (.int .i64 ((pk : Int) + 1))
                have hb2 := hbt.kept hg2
                have hbw2 := hbw9.setCell (p := ⟨P, k, none⟩) hPw (.int .i64 ((pk : Int) + 1))
                have hnst := bef_step HST.out HPN.out hkL hmaxk
                rw [HSTEP.out] at hnst
                have hpn2 : ∀ j, j < L → nxF p k j < n := fun j hj => by
                  unfold nxF
                  split
                  · exact HPN.out j hj
                  · split
                    · rw [← hpke]; omega
                    · exact hn0
                have hlt9 := bef_lt HPN.out hkL hmaxk
                have hle9 := bef_le n L (nxF p k)
                have hme : befD n L (fun j => (cellI (wr.setCell ⟨P, k, none⟩ (.int .i64 ((pk : Int) + 1))) P j).toNat) = befD n L (nxF p k) := befD_congr fun j hj => by rw [hP2.cellI hj]; simp
                have HZ9 := Lib.hid hz9; have HMAX := Lib.hid hmax; have HPT := Lib.hid hPt; have HBT := Lib.hid hbt; have HBW9 := Lib.hid hbw9; have HPKE := Lib.hid hpke; have HN1 := Lib.hid hn1; have HPM := Lib.hid hpm; have HP2 := Lib.hid hP2; have HG2 := Lib.hid hg2; have HB2 := Lib.hid hb2; have HBW2 := Lib.hid hbw2; have HKE := Lib.hid hke; have HTL := Lib.hid htl; have HMAXK := Lib.hid hmaxk; have HNST := Lib.hid hnst; have HPN2 := Lib.hid hpn2; have HLT9 := Lib.hid hlt9; have HLE9 := Lib.hid hle9; have HME := Lib.hid hme; clear hz9 hmax hPt hbt hbw9 hpke hn1 hpm hP2 hg2 hb2 hbw2 hke htl hmaxk hnst hpn2 hlt9 hle9 hme
                go_wp2
                go_roundw
                case rel => exact ⟨nxF p k, st, rfl, rfl, HPN2.out, HNST.out, HP2.out, HB2.out, HBW2.out⟩
                case measure => rw [HME.out, HMS.out]; have := HLT9.out; have := HLE9.out; omega
end Go.Proofs.Ytdimaapiloojeaa
/- The law BobbinsSpools. -/
namespace Go.Proofs.Ytdimaapiloojeaa
open Go.RowKit

set_option maxRecDepth 100000 in
set_option maxHeartbeats 8000000 in
theorem lawSpools_ (NA SA PA : Option Addr) (nc sc pc : Nat) (needs spools plan : List Int) (w : World) (hn : RdI w NA needs) (hs : RdI w SA spools) (hp : RdI w PA plan) :
    Calls Try.prog 7 #[.slice NA needs.length nc, .slice SA spools.length sc, .slice PA plan.length pc] w (BoolPost true w) := by
  have hln1 := hn.1
  have hln2 := hs.1
  have hln3 := hp.1
  have haw := fun W => awake20_ W
  obtain ⟨R, hR⟩ : ∃ R, R = ((((decide ((6 : Int) < (needs.length : Int)) && decide ((needs.length : Int) ≤ 8)) || (decide ((5 : Int) < (spools.length : Int)) && decide ((spools.length : Int) ≤ 6)) || decide ((20 : Int) < (needs.length : Int))) || decide ((20 : Int) < (spools.length : Int))) || decide ((20 : Int) < (plan.length : Int))) := ⟨_, rfl⟩
  have h1 := bSpools_ NA SA nc sc needs spools w hn hs
  have h2 := fun (W : World) (hW : Below w.heap.size w W) => rSpools20_ NA SA nc sc needs spools W (hn.later hW (Nat.le_refl _)) (hs.later hW (Nat.le_refl _))
  have h3 := fun (W : World) (hW : Below w.heap.size w W) => bRest_ NA SA PA nc sc pc needs spools plan W (hn.later hW (Nat.le_refl _)) (hs.later hW (Nat.le_refl _)) (hp.later hW (Nat.le_refl _))
  have h4 := fun (W : World) (hW : Below w.heap.size w W) => rRest20_ NA SA PA nc sc pc needs spools plan W (hn.later hW (Nat.le_refl _)) (hs.later hW (Nat.le_refl _)) (hp.later hW (Nat.le_refl _))
  obtain ⟨E, hE⟩ : ∃ E, E = spE needs spools := ⟨_, rfl⟩
  obtain ⟨a, ha⟩ : ∃ a, a = nats (spL needs spools) := ⟨_, rfl⟩
  obtain ⟨F, hF⟩ : ∃ F, F = rsE needs spools plan := ⟨_, rfl⟩
  obtain ⟨c, hc⟩ : ∃ c, c = rsL needs spools plan := ⟨_, rfl⟩
  have hal : a.length ≤ 281474976710656 := by
    rw [ha, nats_len]
    by_cases hz : wrgE needs spools = 0
    · by_cases he : spE needs spools = 0
      · have := ((allD_mem _ _ _).1 (sp_some hz he).1).1
        omega
      · rw [(sp_none hz he).2.1]; simp
    · unfold spL; rw [if_neg hz]; simp
  have hcl : c.length ≤ 281474976710656 := by
    rw [hc]
    unfold rsL
    split
    · unfold leftL; rw [lfl_len]; omega
    · simp
  rw [← ha, ← hE] at h1 h2
  rw [← hc, ← hF] at h3 h4
  have eE : (E == E) = true := by simp
  have eF : (F == F) = true := by simp
  have HN := Lib.hid hn; have HS := Lib.hid hs; have HP := Lib.hid hp; have HAW := Lib.hid haw; have H1 := Lib.hid h1; have H2 := Lib.hid h2; have H3 := Lib.hid h3; have H4 := Lib.hid h4; have HE := Lib.hid hE; have HA := Lib.hid ha; have HF := Lib.hid hF; have HC := Lib.hid hc; clear hn hs hp haw h1 h2 h3 h4 hE ha hF hc
  go_enter Try.func7, Try.ntmps7
  go_upto_region 1 with fail
  go_cut [47] (fun v wx => v = .bool R ∧ wx = w)
  case first =>
    clear eE eF
    by_cases k1 : 6 < needs.length
    · have k1a : decide ((6 : Int) < (needs.length : Int)) = true := decide_eq_true (by omega)
      have k1b : decide (6 < needs.length) = true := decide_eq_true (by omega)
      rw [k1a] at hR
      by_cases k2 : needs.length ≤ 8
      · have k2a : decide ((needs.length : Int) ≤ 8) = true := decide_eq_true (by omega)
        have k2b : decide (needs.length ≤ 8) = true := decide_eq_true (by omega)
        rw [k2a] at hR
        simp at hR
        subst hR
        go_wp2
        go_meet
        exact ⟨rfl, rfl⟩
      · have k2a : decide ((needs.length : Int) ≤ 8) = false := decide_eq_false (by omega)
        have k2b : decide (needs.length ≤ 8) = false := decide_eq_false (by omega)
        rw [k2a] at hR
        by_cases k3 : 5 < spools.length
        · have k3a : decide ((5 : Int) < (spools.length : Int)) = true := decide_eq_true (by omega)
          have k3b : decide (5 < spools.length) = true := decide_eq_true (by omega)
          rw [k3a] at hR
          by_cases k4 : spools.length ≤ 6
          · have k4a : decide ((spools.length : Int) ≤ 6) = true := decide_eq_true (by omega)
            have k4b : decide (spools.length ≤ 6) = true := decide_eq_true (by omega)
            rw [k4a] at hR
            simp at hR
            subst hR
            go_wp2
            go_meet
            exact ⟨rfl, rfl⟩
          · have k4a : decide ((spools.length : Int) ≤ 6) = false := decide_eq_false (by omega)
            have k4b : decide (spools.length ≤ 6) = false := decide_eq_false (by omega)
            rw [k4a] at hR
            by_cases k5 : 20 < needs.length
            · have k5a : decide ((20 : Int) < (needs.length : Int)) = true := decide_eq_true (by omega)
              have k5b : decide (20 < needs.length) = true := decide_eq_true (by omega)
              rw [k5a] at hR
              simp at hR
              subst hR
              go_wp2
              go_meet
              exact ⟨rfl, rfl⟩
            · have k5a : decide ((20 : Int) < (needs.length : Int)) = false := decide_eq_false (by omega)
              have k5b : decide (20 < needs.length) = false := decide_eq_false (by omega)
              rw [k5a] at hR
              by_cases k6 : 20 < spools.length
              · have k6a : decide ((20 : Int) < (spools.length : Int)) = true := decide_eq_true (by omega)
                have k6b : decide (20 < spools.length) = true := decide_eq_true (by omega)
                rw [k6a] at hR
                simp at hR
                subst hR
                go_wp2
                go_meet
                exact ⟨rfl, rfl⟩
              · have k6a : decide ((20 : Int) < (spools.length : Int)) = false := decide_eq_false (by omega)
                have k6b : decide (20 < spools.length) = false := decide_eq_false (by omega)
                rw [k6a] at hR
                by_cases k7 : 20 < plan.length
                · have k7a : decide ((20 : Int) < (plan.length : Int)) = true := decide_eq_true (by omega)
                  have k7b : decide (20 < plan.length) = true := decide_eq_true (by omega)
                  rw [k7a] at hR
                  simp at hR
                  subst hR
                  go_wp2
                  go_meet
                  exact ⟨rfl, rfl⟩
                · have k7a : decide ((20 : Int) < (plan.length : Int)) = false := decide_eq_false (by omega)
                  have k7b : decide (20 < plan.length) = false := decide_eq_false (by omega)
                  rw [k7a] at hR
                  simp at hR
                  subst hR
                  go_wp2
                  go_meet
                  exact ⟨rfl, rfl⟩
        · have k3a : decide ((5 : Int) < (spools.length : Int)) = false := decide_eq_false (by omega)
          have k3b : decide (5 < spools.length) = false := decide_eq_false (by omega)
          rw [k3a] at hR
          by_cases k5 : 20 < needs.length
          · have k5a : decide ((20 : Int) < (needs.length : Int)) = true := decide_eq_true (by omega)
            have k5b : decide (20 < needs.length) = true := decide_eq_true (by omega)
            rw [k5a] at hR
            simp at hR
            subst hR
            go_wp2
            go_meet
            exact ⟨rfl, rfl⟩
          · have k5a : decide ((20 : Int) < (needs.length : Int)) = false := decide_eq_false (by omega)
            have k5b : decide (20 < needs.length) = false := decide_eq_false (by omega)
            rw [k5a] at hR
            by_cases k6 : 20 < spools.length
            · have k6a : decide ((20 : Int) < (spools.length : Int)) = true := decide_eq_true (by omega)
              have k6b : decide (20 < spools.length) = true := decide_eq_true (by omega)
              rw [k6a] at hR
              simp at hR
              subst hR
              go_wp2
              go_meet
              exact ⟨rfl, rfl⟩
            · have k6a : decide ((20 : Int) < (spools.length : Int)) = false := decide_eq_false (by omega)
              have k6b : decide (20 < spools.length) = false := decide_eq_false (by omega)
              rw [k6a] at hR
              by_cases k7 : 20 < plan.length
              · have k7a : decide ((20 : Int) < (plan.length : Int)) = true := decide_eq_true (by omega)
                have k7b : decide (20 < plan.length) = true := decide_eq_true (by omega)
                rw [k7a] at hR
                simp at hR
                subst hR
                go_wp2
                go_meet
                exact ⟨rfl, rfl⟩
              · have k7a : decide ((20 : Int) < (plan.length : Int)) = false := decide_eq_false (by omega)
                have k7b : decide (20 < plan.length) = false := decide_eq_false (by omega)
                rw [k7a] at hR
                simp at hR
                subst hR
                go_wp2
                go_meet
                exact ⟨rfl, rfl⟩
    · have k1a : decide ((6 : Int) < (needs.length : Int)) = false := decide_eq_false (by omega)
      have k1b : decide (6 < needs.length) = false := decide_eq_false (by omega)
      rw [k1a] at hR
      by_cases k3 : 5 < spools.length
      · have k3a : decide ((5 : Int) < (spools.length : Int)) = true := decide_eq_true (by omega)
        have k3b : decide (5 < spools.length) = true := decide_eq_true (by omega)
        rw [k3a] at hR
        by_cases k4 : spools.length ≤ 6
        · have k4a : decide ((spools.length : Int) ≤ 6) = true := decide_eq_true (by omega)
          have k4b : decide (spools.length ≤ 6) = true := decide_eq_true (by omega)
          rw [k4a] at hR
          simp at hR
          subst hR
          go_wp2
          go_meet
          exact ⟨rfl, rfl⟩
        · have k4a : decide ((spools.length : Int) ≤ 6) = false := decide_eq_false (by omega)
          have k4b : decide (spools.length ≤ 6) = false := decide_eq_false (by omega)
          rw [k4a] at hR
          by_cases k5 : 20 < needs.length
          · have k5a : decide ((20 : Int) < (needs.length : Int)) = true := decide_eq_true (by omega)
            have k5b : decide (20 < needs.length) = true := decide_eq_true (by omega)
            rw [k5a] at hR
            simp at hR
            subst hR
            go_wp2
            go_meet
            exact ⟨rfl, rfl⟩
          · have k5a : decide ((20 : Int) < (needs.length : Int)) = false := decide_eq_false (by omega)
            have k5b : decide (20 < needs.length) = false := decide_eq_false (by omega)
            rw [k5a] at hR
            by_cases k6 : 20 < spools.length
            · have k6a : decide ((20 : Int) < (spools.length : Int)) = true := decide_eq_true (by omega)
              have k6b : decide (20 < spools.length) = true := decide_eq_true (by omega)
              rw [k6a] at hR
              simp at hR
              subst hR
              go_wp2
              go_meet
              exact ⟨rfl, rfl⟩
            · have k6a : decide ((20 : Int) < (spools.length : Int)) = false := decide_eq_false (by omega)
              have k6b : decide (20 < spools.length) = false := decide_eq_false (by omega)
              rw [k6a] at hR
              by_cases k7 : 20 < plan.length
              · have k7a : decide ((20 : Int) < (plan.length : Int)) = true := decide_eq_true (by omega)
                have k7b : decide (20 < plan.length) = true := decide_eq_true (by omega)
                rw [k7a] at hR
                simp at hR
                subst hR
                go_wp2
                go_meet
                exact ⟨rfl, rfl⟩
              · have k7a : decide ((20 : Int) < (plan.length : Int)) = false := decide_eq_false (by omega)
                have k7b : decide (20 < plan.length) = false := decide_eq_false (by omega)
                rw [k7a] at hR
                simp at hR
                subst hR
                go_wp2
                go_meet
                exact ⟨rfl, rfl⟩
      · have k3a : decide ((5 : Int) < (spools.length : Int)) = false := decide_eq_false (by omega)
        have k3b : decide (5 < spools.length) = false := decide_eq_false (by omega)
        rw [k3a] at hR
        by_cases k5 : 20 < needs.length
        · have k5a : decide ((20 : Int) < (needs.length : Int)) = true := decide_eq_true (by omega)
          have k5b : decide (20 < needs.length) = true := decide_eq_true (by omega)
          rw [k5a] at hR
          simp at hR
          subst hR
          go_wp2
          go_meet
          exact ⟨rfl, rfl⟩
        · have k5a : decide ((20 : Int) < (needs.length : Int)) = false := decide_eq_false (by omega)
          have k5b : decide (20 < needs.length) = false := decide_eq_false (by omega)
          rw [k5a] at hR
          by_cases k6 : 20 < spools.length
          · have k6a : decide ((20 : Int) < (spools.length : Int)) = true := decide_eq_true (by omega)
            have k6b : decide (20 < spools.length) = true := decide_eq_true (by omega)
            rw [k6a] at hR
            simp at hR
            subst hR
            go_wp2
            go_meet
            exact ⟨rfl, rfl⟩
          · have k6a : decide ((20 : Int) < (spools.length : Int)) = false := decide_eq_false (by omega)
            have k6b : decide (20 < spools.length) = false := decide_eq_false (by omega)
            rw [k6a] at hR
            by_cases k7 : 20 < plan.length
            · have k7a : decide ((20 : Int) < (plan.length : Int)) = true := decide_eq_true (by omega)
              have k7b : decide (20 < plan.length) = true := decide_eq_true (by omega)
              rw [k7a] at hR
              simp at hR
              subst hR
              go_wp2
              go_meet
              exact ⟨rfl, rfl⟩
            · have k7a : decide ((20 : Int) < (plan.length : Int)) = false := decide_eq_false (by omega)
              have k7b : decide (20 < plan.length) = false := decide_eq_false (by omega)
              rw [k7a] at hR
              simp at hR
              subst hR
              go_wp2
              go_meet
              exact ⟨rfl, rfl⟩
  case rest =>
    obtain ⟨rfl, rfl⟩ := hcut
    clear hR
    cases R with
    | true =>
      go_wp2_with fail
      refine (HAW.out _).mono ?_
      rintro e w1 ⟨rfl, b1⟩
      have B1 := Lib.hid b1; clear b1
      go_wp2
      go_ret
      exact ⟨rfl, B1.out⟩
    | false =>
      go_wp2_with fail
      refine H1.out.mono ?_
      rintro e w1 ⟨v, rfl, ho1, b1⟩
      obtain ⟨A1, c1, rfl⟩ := own_slice1 ho1
      have hr1 : RdI w1 A1 a := rdI_of_own9 ho1 hal
      clear ho1
      have B1 := Lib.hid b1; have HR1 := Lib.hid hr1; clear b1 hr1
      go_wp2_with fail
      refine (H2.out w1 B1.out).mono ?_
      rintro e w2 ⟨v, rfl, ho2, b2⟩
      obtain ⟨A2, c2, rfl⟩ := own_slice1 ho2
      have hr2 : RdI w2 A2 a := rdI_of_own9 ho2 hal
      have hb2 := B1.out.trans (b2.mono B1.out.size)
      have hq2 := HR1.out.later b2 (Nat.le_refl _)
      clear ho2 b2
      have HB2 := Lib.hid hb2; have HR2 := Lib.hid hr2; have HQ2 := Lib.hid hq2; clear hb2 hr2 hq2
      go_wp2_with fail
      refine (H3.out w2 HB2.out).mono ?_
      rintro e w3 ⟨v, rfl, ho3, b3⟩
      obtain ⟨A3, c3, rfl⟩ := own_slice1 ho3
      have hr3 : RdI w3 A3 c := rdI_of_own9 ho3 hcl
      have hb3 := HB2.out.trans (b3.mono HB2.out.size)
      have hq3 := HQ2.out.later b3 (Nat.le_refl _)
      have hp3 := HR2.out.later b3 (Nat.le_refl _)
      clear ho3 b3
      have HB3 := Lib.hid hb3; have HR3 := Lib.hid hr3; have HQ3 := Lib.hid hq3; have HP3 := Lib.hid hp3; clear hb3 hr3 hq3 hp3
      go_wp2_with fail
      refine (H4.out w3 HB3.out).mono ?_
      rintro e w4 ⟨v, rfl, ho4, b4⟩
      obtain ⟨A4, c4, rfl⟩ := own_slice1 ho4
      have hr4 : RdI w4 A4 c := rdI_of_own9 ho4 hcl
      have hb4 := HB3.out.trans (b4.mono HB3.out.size)
      have hq4 := HQ3.out.later b4 (Nat.le_refl _)
      have hp4 := HP3.out.later b4 (Nat.le_refl _)
      have hs4 := HR3.out.later b4 (Nat.le_refl _)
      have hc1 := lInts20_ A1 A2 c1 c2 a a w4 hq4 hp4
      rw [decide_eq_true rfl] at hc1
      clear ho4 b4
      have HB4 := Lib.hid hb4; have HR4 := Lib.hid hr4; have HQ4 := Lib.hid hq4; have HP4 := Lib.hid hp4; have HS4 := Lib.hid hs4; have HC1 := Lib.hid hc1; clear hb4 hr4 hq4 hp4 hs4 hc1
      go_wp2_with fail
      refine HC1.out.mono ?_
      rintro e w5 ⟨rfl, b5⟩
      have hb5 := HB4.out.trans (b5.mono HB4.out.size)
      have hc2 := lSame20_ A3 A4 c3 c4 c c w5 (HS4.out.later b5 (Nat.le_refl _)) (HR4.out.later b5 (Nat.le_refl _))
      rw [decide_eq_true rfl] at hc2
      clear b5
      have HB5 := Lib.hid hb5; have HC2 := Lib.hid hc2; clear hb5 hc2
      go_wp2_with fail
      refine HC2.out.mono ?_
      rintro e w6 ⟨rfl, b6⟩
      have hb6 := HB5.out.trans (b6.mono HB5.out.size)
      clear b6
      have HB6 := Lib.hid hb6; clear hb6
      go_wp2_with fail
      refine (HAW.out _).mono ?_
      rintro e w7 ⟨rfl, b7⟩
      have hb7 := HB6.out.trans (b7.mono HB6.out.size)
      clear b7
      have HB7 := Lib.hid hb7; clear hb7
      go_wp2
      go_ret
      exact ⟨rfl, HB7.out⟩
end Go.Proofs.Ytdimaapiloojeaa
