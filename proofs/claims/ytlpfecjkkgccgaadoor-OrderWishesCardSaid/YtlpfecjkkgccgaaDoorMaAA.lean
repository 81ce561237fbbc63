/- Texts of this claim, laid together: OrFw, OrFw2, OrMay, OrRCt, OrRNx. -/
import Derived.Test.YtlpfecjkkgccgaaDoorMaA
import Derived.Test.YtlpfecjkkgccgaaDoorMaU
import Derived.Test.YtlpfecjkkgccgaaDoorMaW
/- The reference's way to count orders: forwards, set by set. Plain. -/
namespace Go.Proofs.YtlpfecjkkgccgaaDoor

def updN (M : Nat → Nat) (j v : Nat) : Nat → Nat := fun i => if i = j then v else M i
/-- What one set adds to those with one more work, by the works below k. -/
def fwB (L : Nat → Nat) (M : Nat → Nat) (d : Nat) : Nat → (Nat → Nat)
  | 0 => M
  | k + 1 => if freeB L d k = true then updN (fwB L M d k) (d ||| 2 ^ k) (fwB L M d k (d ||| 2 ^ k) + M d) else fwB L M d k
/-- Behind the sets below m. -/
def fwA (n : Nat) (L : Nat → Nat) : Nat → (Nat → Nat)
  | 0 => fun S => if S = 0 then 1 else 0
  | m + 1 => fwB L (fwA n L m) m n
def smW (f : Nat → Nat) : Nat → Nat
  | 0 => 0
  | N + 1 => smW f N + f N
/-- What is counted from m on, each with a weight. -/
def tailW (M w : Nat → Nat) (m N : Nat) : Nat := smW (fun i => if m ≤ i then M i * w i else 0) N
section
variable {n : Nat} {L M w : Nat → Nat}
theorem smW_congr {f g : Nat → Nat} : ∀ N, (∀ i, i < N → f i = g i) → smW f N = smW g N
  | 0, _ => rfl
  | N + 1, h => by rw [smW, smW, smW_congr N fun i hi => h i (by omega), h N (by omega)]
theorem smW_upd {f g : Nat → Nat} {j v : Nat} (hj : g j = f j + v) (ho : ∀ i, i ≠ j → g i = f i) : ∀ N, smW g N = smW f N + if j < N then v else 0
  | 0 => by simp [smW]
  | N + 1 => by
    have ih := smW_upd hj ho N
    rw [smW, smW, ih]
    by_cases h : N = j
    · subst h
      rw [if_neg (by omega), if_pos (by omega), hj]; omega
    · rw [ho N h]
      by_cases h2 : j < N
      · rw [if_pos h2, if_pos (by omega)]; omega
      · rw [if_neg h2, if_neg (by omega)]; omega
theorem smW_ge {f : Nat → Nat} {j : Nat} : ∀ N, j < N → f j ≤ smW f N
  | 0, h => absurd h (by omega)
  | N + 1, h => by
    rw [smW]
    by_cases e : j = N
    · subst e; omega
    · have := smW_ge (f := f) N (show j < N by omega); omega
theorem smW_zero {f : Nat → Nat} : ∀ N, (∀ i, i < N → f i = 0) → smW f N = 0
  | 0, _ => rfl
  | N + 1, h => by rw [smW, smW_zero N fun i hi => h i (by omega), h N (by omega)]
theorem bit_more {d k : Nat} (h : d.testBit k = false) : d + 1 ≤ d ||| 2 ^ k := by
  have h1 : d ≤ d ||| 2 ^ k := Nat.left_le_or
  rcases Nat.lt_or_ge d (d ||| 2 ^ k) with h2 | h2
  · omega
  · have : d ||| 2 ^ k = d := by omega
    have h3 := congrArg (fun z => z.testBit k) this
    simp only [testBit_set, h, decide_true, Bool.or_true] at h3
    cases h3
theorem fwB_self {d : Nat} : ∀ k, fwB L M d k d = M d
  | 0 => rfl
  | k + 1 => by
    have ih := fwB_self (d := d) k
    rw [fwB]
    split
    · rename_i c
      have := bit_more (freeB_bit c)
      unfold updN
      rw [if_neg (by omega)]; exact ih
    · exact ih
theorem fwB_mono {d S : Nat} : ∀ k, fwB L M d k S ≤ fwB L M d (k + 1) S := fun k => by
  rw [fwB]
  split
  · unfold updN
    split
    · rename_i e; rw [e]; omega
    · exact Nat.le_refl _
  · exact Nat.le_refl _
theorem fwB_le {d S : Nat} : ∀ {j k}, j ≤ k → fwB L M d j S ≤ fwB L M d k S := by
  intro j k h
  induction k with
  | zero => obtain rfl : j = 0 := by omega
            exact Nat.le_refl _
  | succ k ih =>
    rcases Nat.lt_or_ge j (k + 1) with h1 | h1
    · exact Nat.le_trans (ih (by omega)) (fwB_mono k)
    · obtain rfl : j = k + 1 := by omega
      exact Nat.le_refl _
theorem fwB_tail {d : Nat} (hd : d < 2 ^ n) : ∀ k, k ≤ n → tailW (fwB L M d k) w (d + 1) (2 ^ n) = tailW M w (d + 1) (2 ^ n) + M d * accU w L d k
  | 0, _ => by show _ = _ + M d * 0; rw [Nat.mul_zero]; rfl
  | k + 1, hk => by
    have ih := fwB_tail hd k (by omega)
    rw [fwB, accU]
    split
    · rename_i c
      have h1 := bit_more (freeB_bit c)
      have h2 := set_lt hd (show k < n by omega)
      have hu := smW_upd (f := fun i => if d + 1 ≤ i then fwB L M d k i * w i else 0) (g := fun i => if d + 1 ≤ i then updN (fwB L M d k) (d ||| 2 ^ k) (fwB L M d k (d ||| 2 ^ k) + M d) i * w i else 0) (j := d ||| 2 ^ k) (v := M d * w (d ||| 2 ^ k))
        (by simp only [updN, if_true]; rw [if_pos h1, if_pos h1, Nat.add_mul]) (fun i hi => by simp only [updN, if_neg hi]) (2 ^ n)
      rw [if_pos h2] at hu
      unfold tailW at ih ⊢
      rw [hu, ih, Nat.mul_add]
      omega
    · exact ih
theorem tail_head {m : Nat} (hm : m < 2 ^ n) : tailW M w m (2 ^ n) = M m * w m + tailW M w (m + 1) (2 ^ n) := by
  have hu := smW_upd (f := fun i => if m + 1 ≤ i then M i * w i else 0) (g := fun i => if m ≤ i then M i * w i else 0) (j := m) (v := M m * w m)
    (by simp only [Nat.le_refl, if_true]; rw [if_neg (by omega)]; omega) (fun i hi => by
      by_cases h : m ≤ i
      · rw [if_pos h, if_pos (by omega)]
      · rw [if_neg h, if_neg (by omega)]) (2 ^ n)
  rw [if_pos hm] at hu
  unfold tailW
  rw [hu]; omega
theorem fwA_step {m : Nat} (hm : m < 2 ^ n) : tailW (fwA n L (m + 1)) w (m + 1) (2 ^ n) + fwA n L m m * w m = tailW (fwA n L m) w m (2 ^ n) + fwA n L m m * accU w L m n := by
  rw [fwA, fwB_tail hm n (Nat.le_refl _), tail_head hm]
  omega
theorem fwA_zero : tailW (fwA n L 0) w 0 (2 ^ n) = w 0 := by
  have hu := smW_upd (f := fun _ => 0) (g := fun i => if 0 ≤ i then fwA n L 0 i * w i else 0) (j := 0) (v := w 0)
    (by simp [fwA]) (fun i hi => by simp [fwA, hi]) (2 ^ n)
  rw [if_pos (Nat.two_pow_pos n), smW_zero _ fun _ _ => rfl] at hu
  unfold tailW
  rw [hu]; omega
/-- What is counted forwards at the end is in how many orders all can be done. -/
theorem fwA_count : fwA n L (2 ^ n) (2 ^ n - 1) = cU n L 0 := by
  have hp := Nat.two_pow_pos n
  have key : ∀ m, m ≤ 2 ^ n - 1 → tailW (fwA n L m) (cU n L) m (2 ^ n) = cU n L 0 := by
    intro m
    induction m with
    | zero => intro _; exact fwA_zero
    | succ m ih =>
      intro hm
      have h1 := fwA_step (L := L) (w := cU n L) (show m < 2 ^ n by omega)
      rw [← cU_step (L := L) (show m ≠ 2 ^ n - 1 by omega)] at h1
      have := ih (by omega)
      omega
  have h := key _ (Nat.le_refl _)
  rw [tail_head (by omega)] at h
  have h0 : tailW (fwA n L (2 ^ n - 1)) (cU n L) (2 ^ n - 1 + 1) (2 ^ n) = 0 := smW_zero _ fun i hi => if_neg (by omega)
  rw [h0, cU_full] at h
  have e : 2 ^ n = (2 ^ n - 1) + 1 := by omega
  conv => lhs; arg 3; rw [e]
  rw [fwA, fwB_self]
  omega
def facN : Nat → Nat
  | 0 => 1
  | m + 1 => (m + 1) * facN m
theorem facN_pos : ∀ m, 1 ≤ facN m
  | 0 => Nat.le_refl _
  | m + 1 => Nat.mul_pos (by omega) (facN_pos m)
theorem facN_mono {a b : Nat} (h : a ≤ b) : facN a ≤ facN b := by
  induction b with
  | zero => obtain rfl : a = 0 := by omega
            exact Nat.le_refl _
  | succ b ih =>
    rcases Nat.lt_or_ge a (b + 1) with h1 | h1
    · have := ih (by omega)
      have h2 : 1 * facN b ≤ (b + 1) * facN b := Nat.mul_le_mul_right _ (by omega)
      rw [facN]; omega
    · obtain rfl : a = b + 1 := by omega
      exact Nat.le_refl _
theorem accU_fac {S f : Nat} (hm : miss n S = f + 1) : accU (fun T => facN (miss n T)) L S n ≤ facN (f + 1) := by
  have key : ∀ k, k ≤ n → accU (fun T => facN (miss n T)) L S k ≤ miss k S * facN f := by
    intro k
    induction k with
    | zero => intro _; simp [accU]
    | succ k ih =>
      intro hk
      have h1 := ih (by omega)
      have hs : miss (k + 1) S = miss k S + (if S.testBit k = true then 0 else 1) := by
        unfold miss
        rw [List.range_succ, List.countP_append]
        simp only [List.countP_cons, List.countP_nil, Nat.zero_add]
        cases S.testBit k <;> simp
      rw [accU, hs]
      split
      · rename_i c
        have hb := freeB_bit c
        have h2 := miss_step' hb n (by omega)
        rw [hb, show miss n (S ||| 2 ^ k) = f by omega, Nat.add_mul]
        simp
        omega
      · rw [Nat.add_mul]; omega
  have := key n (Nat.le_refl _)
  rw [hm] at this
  exact this
theorem fwA_bound : ∀ m, m ≤ 2 ^ n → tailW (fwA n L m) (fun T => facN (miss n T)) m (2 ^ n) ≤ facN n
  | 0, _ => by rw [fwA_zero, miss_nil]; exact Nat.le_refl _
  | m + 1, hm => by
    have h1 := fwA_step (L := L) (w := fun T => facN (miss n T)) (show m < 2 ^ n by omega)
    have h2 := fwA_bound m (by omega)
    have h3 : accU (fun T => facN (miss n T)) L m n ≤ facN (miss n m) := by
      cases hf : miss n m with
      | zero =>
        have e := full_is (show m < 2 ^ n by omega) hf
        rw [accU_none (j := 0) (Nat.zero_le _) fun i _ hi => by
          cases hfr : freeB L m i with
          | false => rfl
          | true => have := freeB_bit hfr; rw [e, full_has hi] at this; cases this]
        exact Nat.zero_le _
      | succ f => exact accU_fac hf
    have h4 := Nat.mul_le_mul_left (fwA n L m m) h3
    omega
theorem fwA_le {m S : Nat} (hm : m ≤ 2 ^ n) (h1 : m ≤ S) (h2 : S < 2 ^ n) : fwA n L m S ≤ facN n := by
  have h := fwA_bound (L := L) m hm
  have h3 := smW_ge (f := fun i => if m ≤ i then fwA n L m i * (fun T => facN (miss n T)) i else 0) (2 ^ n) h2
  rw [if_pos h1] at h3
  have h4 : fwA n L m S * 1 ≤ fwA n L m S * (fun T => facN (miss n T)) S := Nat.mul_le_mul_left (fwA n L m S) (facN_pos (miss n S))
  unfold tailW at h
  omega
theorem fwB_bound {d k S : Nat} (hd : d < 2 ^ n) (hk : k ≤ n) (h1 : d + 1 ≤ S) (h2 : S < 2 ^ n) : fwB L (fwA n L d) d k S ≤ facN n :=
  Nat.le_trans (fwB_le hk) (fwA_le (m := d + 1) (by omega) h1 h2)
theorem facN_13 : facN 13 = 6227020800 := by decide
end
end Go.Proofs.YtlpfecjkkgccgaaDoor
/- What Count says, in one line: plain. -/
namespace Go.Proofs.YtlpfecjkkgccgaaDoor

theorem accU_some {g : Nat → Nat} {L : Nat → Nat} {S : Nat} : ∀ k, accU g L S k ≠ 0 → ∃ j, j < k ∧ freeB L S j = true ∧ g (S ||| 2 ^ j) ≠ 0
  | 0, h => absurd rfl h
  | k + 1, h => by
    rw [accU] at h
    by_cases hf : freeB L S k = true
    · rw [if_pos hf] at h
      by_cases h0 : accU g L S k = 0
      · exact ⟨k, by omega, hf, by omega⟩
      · obtain ⟨j, h1, h2, h3⟩ := accU_some k h0
        exact ⟨j, by omega, h2, h3⟩
    · rw [if_neg hf] at h
      obtain ⟨j, h1, h2, h3⟩ := accU_some k h
      exact ⟨j, by omega, h2, h3⟩
theorem cU_some {n : Nat} {L : Nat → Nat} : ∀ f S, S < 2 ^ n → miss n S = f → cU n L S ≠ 0 → (goO n L f S).isSome = true
  | 0, _, _, _, _ => rfl
  | f + 1, S, hS, hm, h => by
    have hne : S ≠ 2 ^ n - 1 := fun e => by
      have : miss n S = 0 := by
        unfold miss
        rw [List.countP_eq_zero]
        intro a ha
        rw [e, full_has (List.mem_range.1 ha)]
        simp
      omega
    rw [cU_step hne] at h
    obtain ⟨j, h1, h2, h3⟩ := accU_some n h
    have hms := miss_step' (freeB_bit h2) n h1
    have ih := cU_some f (S ||| 2 ^ j) (set_lt hS h1) (by omega) h3
    obtain ⟨l, hl⟩ := Option.isSome_iff_exists.1 ih
    obtain ⟨hl1, hl2⟩ := goO_run hl
    refine goO_some (l := (j : Int) :: l) hm (by rw [List.length_cons]; omega) ?_
    rw [pRun_nat h1 h2]
    exact hl2
theorem cU_none {ws : List GW} {wl : List (Int × Int)} (h : (lstO ws wl).isSome = false) : cU ws.length (LO ws wl) 0 = 0 := by
  rcases Nat.eq_zero_or_pos (cU ws.length (LO ws wl) 0) with h1 | h1
  · exact h1
  · have h2 := cU_some ws.length 0 (Nat.two_pow_pos _) (miss_nil _) (by omega : cU ws.length (LO ws wl) 0 ≠ 0)
    unfold lstO at h
    rw [h2] at h; cases h
/-- What Count says, in one line: the error and the number go by the number of orders alone. -/
theorem cnt_is {p : Int} {ws : List GW} {wl : List (Int × Int)} (he : errO p ws wl = 0) (hn : ¬ 16 < ws.length) : cntV p ws wl = (if 1000000000 < cU ws.length (LO ws wl) 0 then 0 else ((cU ws.length (LO ws wl) 0 : Nat) : Int)) ∧ cntX p ws wl = (if 1000000000 < cU ws.length (LO ws wl) 0 then 5 else 0) := by
  unfold cntV cntX
  rw [if_pos he, if_neg hn, if_pos he, if_neg hn]
  by_cases h : (lstO ws wl).isSome = true
  · rw [if_pos h, if_pos h]; exact ⟨rfl, rfl⟩
  · have h0 := cU_none (by simpa using h : (lstO ws wl).isSome = false)
    rw [if_neg h, if_neg h, h0]
    exact ⟨rfl, rfl⟩
theorem fwB_none {L : Nat → Nat} {M : Nat → Nat} {d : Nat} (h : M d = 0) : ∀ k S, fwB L M d k S = M S
  | 0, _ => rfl
  | k + 1, S => by
    rw [fwB]
    split
    · unfold updN
      split
      · rename_i e
        rw [h, fwB_none h k, e]; rfl
      · exact fwB_none h k S
    · exact fwB_none h k S
end Go.Proofs.YtlpfecjkkgccgaaDoor
/- The reference's search: what it sees, and may. -/
namespace Go.Proofs.YtlpfecjkkgccgaaDoor
open Go.RowKit

theorem wraps62 : ∀ n : Int, 0 ≤ n → n < 2 ^ 62 → IntKind.i64.wrap n = n := fun n h0 h1 => IntWalk.i64_in _ (by omega)
theorem bit_val (v i : Nat) (hv : v < 2 ^ 62) : bits .and .i64 ((v : Int) / 2 ^ i) 1 = if v.testBit i = true then 1 else 0 := by
  have hd : v / 2 ^ i < 2 ^ 62 := Nat.lt_of_le_of_lt (Nat.div_le_self _ _) hv
  have e : (v : Int) / 2 ^ i = ((v / 2 ^ i : Nat) : Int) := by simp
  have h1 := (bits_nat .i64 62 (by decide) wraps62 (v / 2 ^ i) 1 hd (by decide)).1
  rw [e, show (1 : Int) = ((1 : Nat) : Int) from rfl, h1, Nat.and_one_is_mod]
  have h2 : v.testBit i = decide (v / 2 ^ i % 2 = 1) := by rw [Nat.testBit_eq_decide_div_mod_eq]
  rw [h2]
  by_cases h3 : v / 2 ^ i % 2 = 1
  · rw [h3]; simp
  · have : v / 2 ^ i % 2 = 0 := by omega
    rw [this]; simp
/-- What a search sees: its sheet, and the table. -/
structure SeC (w : World) (X : Nat) (p : Int) (A : Option Addr) (c : Nat) (ws : List GW) (TA : Option Addr) (tc : Nat) (M : Nat → Nat → Bool) : Prop where
  ps : w.cell? ⟨X, 0, none⟩ = some (.int .i64 p)
  wk : w.cell? ⟨X, 1, none⟩ = some (.slice A ws.length c)
  tb : w.cell? ⟨X, 2, none⟩ = some (.slice TA ws.length tc)
  rd : RdW w A ws
  mt : MatB w TA ws.length M
theorem SeC.later {w w' : World} {X : Nat} {p : Int} {A : Option Addr} {c : Nat} {ws : List GW} {TA : Option Addr} {tc : Nat} {M : Nat → Nat → Bool} (h : SeC w X p A c ws TA tc M) (hb : Below w.heap.size w w') : SeC w' X p A c ws TA tc M :=
  ⟨below_at hb (Nat.le_refl _) h.ps, below_at hb (Nat.le_refl _) h.wk, below_at hb (Nat.le_refl _) h.tb, h.rd.later hb (Nat.le_refl _), h.mt.later hb⟩
set_option maxRecDepth 100000 in
set_option maxHeartbeats 4000000 in
theorem rmay13_ (X : Nat) (p : Int) (A : Option Addr) (c : Nat) (ws : List GW) (TA : Option Addr) (tc S b : Nat) (L : Nat → Nat) (M : Nat → Nat → Bool) (w : World) (hn : ws.length ≤ 60) (hS : S < 2 ^ 60) (hL : ∀ a, (L b).testBit a = (decide (a < ws.length) && M b a)) (hb : b < ws.length) (h : SeC w X p A c ws TA tc M) :
    Calls Tryd.prog 39 #[.pointer (some ⟨X, 0, none⟩), .int .i64 (S : Int), .int .i64 (b : Int)] w fun e w' => e = .returned (.bool (freeB L S b)) ∧ w = w' := by
  have hv := fun i => bit_val S i (Nat.lt_of_lt_of_le hS (Nat.pow_le_pow_right (by decide) (by decide)))
  have z1 : (0 : Int) ≤ (b : Int) := by omega
  have z2 : (b : Int) < 64 := by omega
  have x2 : (b : Int) < (ws.length : Int) := by omega
  have z3 : IntKind.u64.wrap (b : Int) = (b : Int) := wraps64 _ (by omega) (by omega)
  have hf := free_tbl (S := S) hL
  have d1 := h.tb
  have hXl := World.block_lt_of_cell? w _ d1
  obtain ⟨g, o, R, rfl, hg, m1, hR, m2⟩ := h.mt b hb
  clear hL
  generalize ws.length = n at *
  go_enter Tryd.func39, Tryd.ntmps39
  cases hSb : S.testBit b with
  | true =>
    have hr : freeB L S b = false := by
      rw [Bool.eq_false_iff]; intro h
      have := (hf.1 h).1
      rw [hSb] at this; cases this
    have e1 := hv b
    rw [if_pos hSb] at e1
    have HRR := Lib.hid hr; clear hr
    have HF := Lib.hid hf; have H := Lib.hid h; have M2 := Lib.hid m2; have HV := Lib.hid hv; have HS := Lib.hid hS; have HSB := Lib.hid hSb; clear hf h m2 hv hS hSb
    go_wp2
    go_ret
    exact ⟨by rw [HRR.out]; rfl, rfl⟩
  | false =>
    have e1 := hv b
    rw [if_neg (by rw [hSb]; decide)] at e1
    have HF := Lib.hid hf; have H := Lib.hid h; have M2 := Lib.hid m2; have HV := Lib.hid hv; have HS := Lib.hid hS; clear hf h m2 hv hS
    go_wp2
    go_loopw [7] (fun iv wr => ∃ a : Nat, iv = .int .i64 a ∧ a ≤ n ∧ (∀ x, x < a → M b x = true → S.testBit x = true) ∧ wr = w) (fun iv _ => n - (intOf iv).toNat)
    case atStart => exact ⟨0, rfl, Nat.zero_le _, (fun x h => absurd h (by omega)), rfl⟩
    case round =>
      obtain ⟨a, rfl, ha, hall, rfl⟩ := hrel
      by_cases hal : a < n
      · have y1 : (0 : Int) ≤ (a : Int) := by omega
        have y2 : (a : Int) < (n : Int) := by omega
        have y3 : (a : Int) < 64 := by omega
        have y4 : IntKind.u64.wrap (a : Int) = (a : Int) := wraps64 _ (by omega) (by omega)
        have e1 := M2.out a hal
        have e2 := HV.out a
        cases hm : M b a with
        | false =>
          have hall2 : ∀ x, x < a + 1 → M b x = true → S.testBit x = true := fun x hx hmx => by
            by_cases h : x = a
            · subst h; rw [hm] at hmx; cases hmx
            · exact hall x (by omega) hmx
          rw [hm] at e1
          clear e2
          have HALL := Lib.hid hall; have HALL2 := Lib.hid hall2; have HM := Lib.hid hm; clear hall hall2 hm
          go_wp2
          go_roundw
          case rel => exact ⟨a + 1, by go_num, by omega, HALL2.out, trivial⟩
          case measure => simp [intOf]; omega
        | true =>
          rw [hm] at e1
          cases hs : S.testBit a with
          | true =>
            have hall2 : ∀ x, x < a + 1 → M b x = true → S.testBit x = true := fun x hx hmx => by
              by_cases h : x = a
              · subst h; exact hs
              · exact hall x (by omega) hmx
            rw [if_pos hs] at e2
            have HALL := Lib.hid hall; have HALL2 := Lib.hid hall2; have HM := Lib.hid hm; have HS := Lib.hid hs; clear hall hall2 hm hs
            go_wp2
            go_roundw
            case rel => exact ⟨a + 1, by go_num, by omega, HALL2.out, trivial⟩
            case measure => simp [intOf]; omega
          | false =>
            have hr : freeB L S b = false := by
              rw [Bool.eq_false_iff]; intro h
              have := (HF.out.1 h).2 a hal hm
              rw [hs] at this; cases this
            rw [if_neg (by rw [hs]; decide)] at e2
            have HRR := Lib.hid hr; clear hr
            have HALL := Lib.hid hall; have HM := Lib.hid hm; have HS := Lib.hid hs; clear hall hm hs
            go_wp2
            go_ret
            exact ⟨by rw [HRR.out]; rfl, rfl⟩
      · obtain rfl : a = n := by omega
        have hr : freeB L S b = true := HF.out.2 ⟨hSb, hall⟩
        have HRR := Lib.hid hr; clear hr
        have HALL := Lib.hid hall; clear hall
        go_wp2
        go_ret
        exact ⟨by rw [HRR.out]; rfl, rfl⟩
end Go.Proofs.YtlpfecjkkgccgaaDoor
/- The reference's Count. -/
namespace Go.Proofs.YtlpfecjkkgccgaaDoor
open Go.RowKit

set_option maxRecDepth 100000 in
set_option maxHeartbeats 4000000 in
theorem rCount_ (p : Int) (A Wa : Option Addr) (c wc : Nat) (ws : List GW) (wl : List (Int × Int)) (w : World) (ha : ShIn w p A ws) (hl : RdP w Wa wl) (hs : ws.length ≤ 13 ∨ 16 < ws.length) :
    Calls Tryd.prog 17 #[.agg #[.int .i64 p, .slice A ws.length c], .slice Wa wl.length wc] w (CntPost (cntV p ws wl) (cntX p ws wl) w) := by
  have hb2 : Below w.heap.size w (w.alloc (.cells #[.int .i64 p, .slice A ws.length c] 24)) := (Below.refl _ _).alloc (Nat.le_refl _) _
  have Y0 := Lib.hid hb2; clear hb2
  have X0 := Lib.hid (Box1.made w p A c ws.length 24)
  have HA := Lib.hid ha; have HL := Lib.hid hl; have HS := Lib.hid hs; clear ha hl hs
  go_enter Tryd.func17, Tryd.ntmps17
  go_wp2_with fail
  refine (rWishes_ p A Wa c wc ws wl _ (HA.out.later Y0.out (Nat.le_refl _)) (HL.out.later Y0.out (Nat.le_refl _))).mono ?_
  rintro e w1 ⟨rfl, hb1⟩
  have X1 := Lib.hid (X0.out.later hb1); have Y1 := Lib.hid (Y0.out.trans (hb1.mono Y0.out.size)); clear hb1; obtain ⟨c1, c2, s1⟩ := X1.out
  by_cases he : errO p ws wl = 0
  rotate_left
  · have hx : cntX p ws wl = errO p ws wl := by unfold cntX; rw [if_neg he]
    have hv : cntV p ws wl = 0 := by unfold cntV; rw [if_neg he]
    have heb : (errO p ws wl != 0) = true := by simpa using he
    generalize errO p ws wl = E at *
    have HE := Lib.hid he; have HX := Lib.hid hx; have HV := Lib.hid hv; clear he hx hv
    go_wp2
    go_ret2
    exact ⟨by rw [HX.out, HV.out]; rfl, Y1.out⟩
  have hn4 : ws.length ≤ 400 := by have := (okAll (errO_zero he).1).2.2.1; omega
  have hpl : ∀ x ∈ ws, 0 ≤ x.pl ∧ x.pl ≤ 22 := fun x hx => by
    obtain ⟨_, hp, _, hall⟩ := okAll (errO_zero he).1
    have := hall x hx
    omega
  by_cases h16 : 16 < ws.length
  · have hx : cntX p ws wl = 3 := by unfold cntX; rw [if_pos he, if_pos h16]
    have hv : cntV p ws wl = 0 := by unfold cntV; rw [if_pos he, if_pos h16]
    have x1 : (16 : Int) < (ws.length : Int) := by omega
    rw [he]
    have HX := Lib.hid hx; have HV := Lib.hid hv; have HPL := Lib.hid hpl; clear hx hv hpl
    go_wp2
    go_ret2
    exact ⟨by rw [HX.out, HV.out]; rfl, Y1.out⟩
  have hn13 : ws.length ≤ 13 := by have := HS.out; omega
  obtain ⟨hv, hx⟩ := cnt_is he h16
  rw [he]
  have x1 : decide ((16 : Int) < (ws.length : Int)) = false := by simp; omega
  have x2 : ¬ (16 : Int) < (ws.length : Int) := by omega
  clear h16 HS
  have HX := Lib.hid hx; have HV := Lib.hid hv; have HPL := Lib.hid hpl; have HE := Lib.hid he; clear hx hv hpl he
  go_upto_region 7 with fail
  clear x1 x2
  refine wp_region_held_drew (S := fun W' => W'.cell? ⟨w.heap.size, 0, none⟩ = some (.int .i64 p) ∧ W'.cell? ⟨w.heap.size, 1, none⟩ = some (.slice A ws.length c)) (by kernel_rfl) ⟨c1, c2⟩ (fun hHeld => ?_)
  refine takeH (i := 0) (v := ?cav0) rfl rfl (by kernel_rfl) (by kernel_rfl) (by kernel_rfl) (fun _ _ _ _ => ⟨fun h _ => h, fun h => h #[]⟩) (by rfl) hHeld ?cay0 ?car0
  case cay0 =>
    intro W' hSw
    obtain ⟨s1, s2⟩ := hSw
    go_simp
    try with_reducible rfl
  simp only [List.setIfInBounds_toArray, List.set_cons_zero, List.set_cons_succ]
  refine takeH (i := 1) (v := ?cav1) rfl rfl (by kernel_rfl) (by kernel_rfl) (by kernel_rfl) (fun _ _ _ _ => ⟨fun h _ => h, fun h => h #[]⟩) (by rfl) hHeld ?cay1 ?car1
  case cay1 =>
    intro W' hSw
    obtain ⟨s1, s2⟩ := hSw
    go_simp
    try with_reducible rfl
  simp only [List.setIfInBounds_toArray, List.set_cons_zero, List.set_cons_succ]
  refine takeH (i := 2) (v := ?cav2) rfl rfl (by kernel_rfl) (by kernel_rfl) (by kernel_rfl) (fun _ _ _ _ => ⟨fun h _ => h, fun h => h #[]⟩) (by rfl) hHeld ?cay2 ?car2
  case cay2 =>
    intro W' hSw
    obtain ⟨s1, s2⟩ := hSw
    go_simp
    try with_reducible rfl
  simp only [List.setIfInBounds_toArray, List.set_cons_zero, List.set_cons_succ]
  refine wpAnyH_ready (rs := [3]) (by kernel_rfl) (by simp) ?_
  refine AllReadyH.cons rfl (fun K hK => ?_) AllReadyH.nil
  go_simp
  refine (rTable_ p A Wa c wc ws wl w1.drew (HA.out.rd.later Y1.out.drew (Nat.le_refl _)) HPL.out (HL.out.later Y1.out.drew (Nat.le_refl _)) hn4).mono ?_
  rintro e w2 ⟨TA, tc, rfl, hM, hb12⟩
  have hb12' : Below w1.heap.size w1 w2 := Below.trans ((Below.refl _ _).drew) hb12
  have X2 := Lib.hid (X1.out.later hb12'); have Y2 := Lib.hid (Y1.out.trans (hb12'.mono Y1.out.size)); clear c1 c2 s1; obtain ⟨c1, c2, s1⟩ := X2.out
  refine hK.out _ _ ⟨c1, c2⟩ (fun hHeld => ?_)
  clear hK K hb12 hb12'
  refine takeH (i := 4) (v := ?cbv4) rfl rfl (by kernel_rfl) (by kernel_rfl) (by kernel_rfl) (fun _ _ _ _ => ⟨fun h _ => h, fun h => h #[]⟩) (by rfl) hHeld ?cby4 ?cbr4
  case cby4 =>
    intro W' hSw
    obtain ⟨s1, s2⟩ := hSw
    go_simp
    try with_reducible rfl
  simp only [List.setIfInBounds_toArray, List.set_cons_zero, List.set_cons_succ]
  refine wpAnyH_ready (rs := [5]) (by kernel_rfl) (by simp) ?_
  refine AllReadyH.cons rfl (fun K hK => ?_) AllReadyH.nil
  go_simp
  have hX := heap_alloc_new w2 (.cells #[.int .i64 p, .slice A ws.length c, .slice TA ws.length tc, .slice none 0 0] 79)
  have hB3 : Below w2.heap.size w2 (w2.alloc (.cells #[.int .i64 p, .slice A ws.length c, .slice TA ws.length tc, .slice none 0 0] 79)) := (Below.refl _ _).alloc (Nat.le_refl _) _
  refine hK.out _ _ ⟨below_at hB3 (Nat.le_refl _) c1, below_at hB3 (Nat.le_refl _) c2⟩ (fun hHeld => ?_)
  clear hK K
  refine takeH (i := 6) (v := ?ccv6) rfl rfl (by kernel_rfl) (by kernel_rfl) (by kernel_rfl) (fun _ _ _ _ => ⟨fun h _ => h, fun h => h #[]⟩) (by rfl) hHeld ?ccy6 ?ccr6
  case ccy6 =>
    intro W' hSw
    obtain ⟨s1, s2⟩ := hSw
    go_simp
    try with_reducible rfl
  simp only [List.setIfInBounds_toArray, List.set_cons_zero, List.set_cons_succ]
  refine wpAnyH_done (by kernel_rfl) ?_ _
  clear hHeld c1 c2 s1
  obtain ⟨X, hXe⟩ : ∃ X, X = w2.heap.size := ⟨_, rfl⟩
  have k0 := cell_of_row _ _ 0 _ _ _ hX
  have k1 := cell_of_row _ _ 1 _ _ _ hX
  have k2 := cell_of_row _ _ 2 _ _ _ hX
  have lX := lt_of_block hX
  have hSe : SeC (w2.alloc (.cells #[.int .i64 p, .slice A ws.length c, .slice TA ws.length tc, .slice none 0 0] 79)) w2.heap.size p A c ws TA tc (tblM ws wl) := ⟨k0, k1, k2, HA.out.rd.later (Y2.out.trans (hB3.mono Y2.out.size)) (Nat.le_refl _), hM.later hB3⟩
  have Y3 := Lib.hid (Y2.out.trans (hB3.mono Y2.out.size))
  clear k0 k1 k2 hB3 hX hM
  generalize w2.alloc (.cells #[.int .i64 p, .slice A ws.length c, .slice TA ws.length tc, .slice none 0 0] 79) = w3 at *
  rw [← hXe] at hSe lX ⊢
  obtain ⟨N, hN⟩ : ∃ N : Nat, N = 2 ^ ws.length := ⟨_, rfl⟩
  have hp2 : 0 < N := by rw [hN]; exact Nat.two_pow_pos _
  have hp3 : N ≤ 2 ^ 13 := by rw [hN]; exact Nat.pow_le_pow_right (by decide) hn13
  have hmk := run_make_row' (P := Tryd.prog) 65 2 (.int .i64 0) 8 Tryd.underlying65 infoI6_Tryd rfl .i64 .i64 N (by omega) (by omega)
  have hm0 := ib6_zero w3 N
  have hb0 : Below w3.heap.size w3 (w3.alloc (.cells (madeCells #[.int .i64 0] N) 2)) := (Below.refl _ _).alloc (Nat.le_refl _) _
  have z0 : (0 : Int) ≤ (ws.length : Int) := by omega
  have z1 : (ws.length : Int) < 64 := by omega
  have z2 : (0 : Int) < (N : Int) := by omega
  have d0 := hm0.at_ hp2
  have d1 := hm0.free 0
  have e1 : IntKind.i64.wrap (2 ^ ws.length) = (N : Int) := by
    rw [hN, show (2 : Int) ^ ws.length = ((2 ^ ws.length : Nat) : Int) by simp, ← hN]
    exact wraps62 _ (Int.natCast_nonneg _) (by omega)
  have e2 : IntKind.u64.wrap (ws.length : Int) = (ws.length : Int) := wraps64 _ (by omega) (by omega)
  have HN := Lib.hid hN; have HP2 := Lib.hid hp2; have HP3 := Lib.hid hp3; have HM0 := Lib.hid hm0; have HB0 := Lib.hid hb0; have HSE := Lib.hid hSe; have HXE := Lib.hid hXe; have HN13 := Lib.hid hn13; clear hN hp2 hp3 hm0 hb0 hSe hXe hn13
  go_upto_region 9 with fail
  clear hmk
  generalize w3.alloc (.cells (madeCells #[.int .i64 0] N) 2) = w4 at *
  go_wp2
  have hm1 : Ib6 (w4.setCell ⟨w3.heap.size, 0, none⟩ (.int .i64 1)) w3.heap.size N (fun S => ((fwA ws.length (LO ws wl) 0 S : Nat) : Int)) := (HM0.out.put 0 1).eqv fun a _ => by
    unfold updF fwA
    by_cases h : a = 0
    · subst h; rfl
    · rw [if_neg h, if_neg h]; rfl
  have hb1 : Below w3.heap.size w3 (w4.setCell ⟨w3.heap.size, 0, none⟩ (.int .i64 1)) := HB0.out.setCell (Nat.le_refl _) _
  clear d0 d1 e1 e2
  have HM1 := Lib.hid hm1; have HB1 := Lib.hid hb1; clear hm1 hb1
  go_loopw [10, 11, 12] (fun dv _ _ wr => ∃ d : Nat, dv = .int .i64 d ∧ d ≤ N ∧ Ib6 wr w3.heap.size N (fun S => ((fwA ws.length (LO ws wl) d S : Nat) : Int)) ∧ Below w3.heap.size w3 wr) (fun dv _ _ _ => N - (intOf dv).toNat)
  case atStart => exact ⟨0, rfl, Nat.zero_le _, HM1.out, HB1.out⟩
  case round =>
    clear HM1 HB1 HM0 HB0
    obtain ⟨d, rfl, hd, hm, hb⟩ := hrel
    have hml := hm.lt
    have hN8 : N ≤ 8192 := HP3.out
    have hN60 : N ≤ 2 ^ 60 := Nat.le_trans HP3.out (by decide)
    by_cases hdN : d < N
    · have hd2 : d < 2 ^ ws.length := by rw [← HN.out]; exact hdN
      obtain ⟨wo, rfl⟩ : ∃ wo : World, wo = wr := ⟨_, rfl⟩
      have x1 : (d : Int) < (N : Int) := by omega
      have x2 : (0 : Int) ≤ (d : Int) := by omega
      have HM := Lib.hid hm; have HB := Lib.hid hb; have HD2 := Lib.hid hd2; have HN60 := Lib.hid hN60; clear hm hb hd2 hN60
      go_wp2
      go_loopw [11, 12] (fun bv _ wr => ∃ k : Nat, bv = .int .i64 k ∧ k ≤ ws.length ∧ Ib6 wr w3.heap.size N (fun S => ((fwB (LO ws wl) (fwA ws.length (LO ws wl) d) d k S : Nat) : Int)) ∧ Below w3.heap.size w3 wr) (fun bv _ _ => ws.length - (intOf bv).toNat)
      case atStart => exact ⟨0, rfl, Nat.zero_le _, HM.out, HB.out⟩
      case round =>
        clear HM HB
        obtain ⟨k, rfl, hk, hm, hb⟩ := hrel
        have hself : fwB (LO ws wl) (fwA ws.length (LO ws wl) d) d k d = fwA ws.length (LO ws wl) d d := fwB_self k
        have d3 := hm.at_ hdN
        have hml2 := hm.lt
        rw [hself] at d3
        by_cases hkn : k < ws.length
        · have y1 : (k : Int) < (ws.length : Int) := by omega
          by_cases hz : fwA ws.length (LO ws wl) d d = 0
          · have hnx : Ib6 wr w3.heap.size N (fun S => ((fwA ws.length (LO ws wl) (d + 1) S : Nat) : Int)) := hm.eqv fun S _ => by rw [fwA, fwB_none hz, fwB_none hz]
            rw [hz] at d3
            have HM := Lib.hid hm; have HB := Lib.hid hb; have HNX := Lib.hid hnx; have HZ := Lib.hid hz; have HSELF := Lib.hid hself; clear hm hb hnx hz hself
            go_wp2
            go_roundw
            case rel => exact ⟨d + 1, by go_num, by omega, HNX.out, HB.out⟩
            case measure => simp [intOf]; omega
          · have hmay := rmay13_ X p A c ws TA tc d k (LO ws wl) (tblM ws wl) wr (by have := HN13.out; omega) (by have := HP3.out; omega) (LO_tbl ws wl k) hkn (HSE.out.later hb)
            have y2 : (0 : Int) < ((fwA ws.length (LO ws wl) d d : Nat) : Int) := by omega
            cases hf : freeB (LO ws wl) d k with
            | false =>
              have hnx : Ib6 wr w3.heap.size N (fun S => ((fwB (LO ws wl) (fwA ws.length (LO ws wl) d) d (k + 1) S : Nat) : Int)) := hm.eqv fun S _ => by rw [fwB, if_neg (by rw [hf]; decide)]
              rw [hf] at hmay
              generalize fwA ws.length (LO ws wl) d d = V at *
              have HM := Lib.hid hm; have HB := Lib.hid hb; have HNX := Lib.hid hnx; have HZ := Lib.hid hz; have HSELF := Lib.hid hself; have HMAY := Lib.hid hmay; have HF := Lib.hid hf; clear hm hb hnx hz hself hmay hf
              go_wp2_with (go_at_call 39; refine HMAY.out.mono ?_; rintro e wv ⟨rfl, rfl⟩)
              go_roundw
              case rel => exact ⟨k + 1, by go_num, by omega, HNX.out, HB.out⟩
              case measure => simp [intOf]; omega
            | true =>
              have hT2 : d ||| 2 ^ k < 2 ^ ws.length := set_lt HD2.out hkn
              have hTN : d ||| 2 ^ k < N := by rw [HN.out]; exact hT2
              have hTd : d + 1 ≤ d ||| 2 ^ k := bit_more (freeB_bit hf)
              have d4 := hm.at_ hTN
              have hbd := fwB_bound (L := LO ws wl) (k := k + 1) HD2.out (by omega) hTd hT2
              have hfe : fwB (LO ws wl) (fwA ws.length (LO ws wl) d) d (k + 1) = updN (fwB (LO ws wl) (fwA ws.length (LO ws wl) d) d k) (d ||| 2 ^ k) (fwB (LO ws wl) (fwA ws.length (LO ws wl) d) d k (d ||| 2 ^ k) + fwA ws.length (LO ws wl) d d) := by rw [fwB, if_pos hf]
              have hfs : fwB (LO ws wl) (fwA ws.length (LO ws wl) d) d (k + 1) (d ||| 2 ^ k) = fwB (LO ws wl) (fwA ws.length (LO ws wl) d) d k (d ||| 2 ^ k) + fwA ws.length (LO ws wl) d d := by rw [hfe]; unfold updN; rw [if_pos rfl]
              rw [hfs] at hbd
              have hb13 := Nat.le_trans hbd (facN_mono HN13.out)
              rw [facN_13] at hb13
              rw [hf] at hmay
              have e4 : IntKind.i64.wrap (2 ^ k) = 2 ^ k := by
                have h1 : 2 ^ k < 2 ^ 13 := Nat.pow_lt_pow_right (by decide) (by have := HN13.out; omega)
                rw [show (2 : Int) ^ k = ((2 ^ k : Nat) : Int) by simp]
                exact wraps62 _ (Int.natCast_nonneg _) (by omega)
              have e5 := bit_set .i64 62 (by decide) wraps62 d k (by have := HP3.out; omega) (by have := HN13.out; omega)
              have z3 : IntKind.u64.wrap (k : Int) = (k : Int) := wraps64 _ (by omega) (by have := HN13.out; omega)
              have z4 : (0 : Int) ≤ (k : Int) := by omega
              have z5 : (k : Int) < 64 := by have := HN13.out; omega
              have hq1 : ∀ u v : Nat, u + v ≤ 6227020800 → IntKind.i64.wrap ((u : Int) + (v : Int)) = ((u + v : Nat) : Int) := fun u v h => by rw [IntWalk.i64_in _ (by omega)]; push_cast; rfl
              have hput : ∀ W : World, Ib6 W w3.heap.size N (fun S => ((fwB (LO ws wl) (fwA ws.length (LO ws wl) d) d k S : Nat) : Int)) → Ib6 (W.setCell ⟨w3.heap.size, d ||| 2 ^ k, none⟩ (.int .i64 ((fwB (LO ws wl) (fwA ws.length (LO ws wl) d) d k (d ||| 2 ^ k) + fwA ws.length (LO ws wl) d d : Nat) : Int))) w3.heap.size N (fun S => ((fwB (LO ws wl) (fwA ws.length (LO ws wl) d) d (k + 1) S : Nat) : Int)) := fun W hW => (hW.put _ _).eqv fun S _ => by
                rw [hfe]; unfold updF updN
                by_cases h : S = d ||| 2 ^ k
                · rw [if_pos h, if_pos h]
                · rw [if_neg h, if_neg h]
              have hfr := hm.free (d ||| 2 ^ k)
              generalize hTe : d ||| 2 ^ k = T at *
              generalize fwA ws.length (LO ws wl) d d = v at *
              have d5 : wr.cell? ⟨w3.heap.size, T, none⟩ = some (.int .i64 ((fwB (LO ws wl) (fwA ws.length (LO ws wl) d) d k T : Nat) : Int)) := d4
              clear d4
              generalize fwB (LO ws wl) (fwA ws.length (LO ws wl) d) d k T = u at *
              have z6 : (0 : Int) ≤ (T : Int) := by omega
              have z7 : (T : Int) < (N : Int) := by omega
              have hq := hq1 u v hb13
              clear hq1 hbd hb13
              generalize u + v = nv at *
              have HM := Lib.hid hm; have HB := Lib.hid hb; have HZ := Lib.hid hz; have HSELF := Lib.hid hself; have HMAY := Lib.hid hmay; have HF := Lib.hid hf; have HFE := Lib.hid hfe; have HFS := Lib.hid hfs; have HTE := Lib.hid hTe; have HTN := Lib.hid hTN; have HT2 := Lib.hid hT2; have HTD := Lib.hid hTd; have HPUT := Lib.hid hput; clear hm hb hz hself hmay hf hfe hfs hTe hTN hT2 hTd hput
              go_upto_region 18 with (go_at_call 39; refine HMAY.out.mono ?_; rintro e wv ⟨rfl, rfl⟩)
              refine wp_region_held_drew (S := fun W' => W'.cell? ⟨w3.heap.size, d, none⟩ = some (.int .i64 (v : Int))) (by kernel_rfl) d3 (fun hHeld => ?_)
              refine takeH (i := 0) (v := ?cdv0) rfl rfl (by kernel_rfl) (by kernel_rfl) (by kernel_rfl) (fun _ _ _ _ => ⟨fun h _ => h, fun h => h #[]⟩) (by rfl) hHeld ?cdy0 ?cdr0
              case cdy0 =>
                intro W' hSw
                obtain s1 := hSw
                go_simp
                try with_reducible rfl
              simp only [List.setIfInBounds_toArray, List.set_cons_zero, List.set_cons_succ]
              refine takeH (i := 1) (v := ?cdv1) rfl rfl (by kernel_rfl) (by kernel_rfl) (by kernel_rfl) (fun _ _ _ _ => ⟨fun h _ => h, fun h => h #[]⟩) (by rfl) hHeld ?cdy1 ?cdr1
              case cdy1 =>
                intro W' hSw
                obtain s1 := hSw
                go_simp
                try with_reducible rfl
              simp only [List.setIfInBounds_toArray, List.set_cons_zero, List.set_cons_succ]
              refine takeH (i := 2) (v := ?cdv2) rfl rfl (by kernel_rfl) (by kernel_rfl) (by kernel_rfl) (fun _ _ _ _ => ⟨fun h _ => h, fun h => h #[]⟩) (by rfl) hHeld ?cdy2 ?cdr2
              case cdy2 =>
                intro W' hSw
                obtain s1 := hSw
                go_simp
                try with_reducible rfl
              simp only [List.setIfInBounds_toArray, List.set_cons_zero, List.set_cons_succ]
              refine takeH (i := 3) (v := ?cdv3) rfl rfl (by kernel_rfl) (by kernel_rfl) (by kernel_rfl) (fun _ _ _ _ => ⟨fun h _ => h, fun h => h #[]⟩) (by rfl) hHeld ?cdy3 ?cdr3
              case cdy3 =>
                intro W' hSw
                obtain s1 := hSw
                go_simp
                try with_reducible rfl
              simp only [List.setIfInBounds_toArray, List.set_cons_zero, List.set_cons_succ]
              refine takeH (i := 4) (v := ?cdv4) rfl rfl (by kernel_rfl) (by kernel_rfl) (by kernel_rfl) (fun _ _ _ _ => ⟨fun h _ => h, fun h => h #[]⟩) (by rfl) hHeld ?cdy4 ?cdr4
              case cdy4 =>
                intro W' hSw
                obtain s1 := hSw
                go_simp
                try with_reducible rfl
              simp only [List.setIfInBounds_toArray, List.set_cons_zero, List.set_cons_succ]
              refine takeH (i := 6) (v := ?cdv6) rfl rfl (by kernel_rfl) (by kernel_rfl) (by kernel_rfl) (fun _ _ _ _ => ⟨fun h _ => h, fun h => h #[]⟩) (by rfl) hHeld ?cdy6 ?cdr6
              case cdy6 =>
                intro W' hSw
                obtain s1 := hSw
                go_simp
                try with_reducible rfl
              simp only [List.setIfInBounds_toArray, List.set_cons_zero, List.set_cons_succ]
              refine takeH (i := 7) (v := ?cdv7) rfl rfl (by kernel_rfl) (by kernel_rfl) (by kernel_rfl) (fun _ _ _ _ => ⟨fun h _ => h, fun h => h #[]⟩) (by rfl) hHeld ?cdy7 ?cdr7
              case cdy7 =>
                intro W' hSw
                obtain s1 := hSw
                go_simp
                try with_reducible rfl
              simp only [List.setIfInBounds_toArray, List.set_cons_zero, List.set_cons_succ]
              refine takeH (i := 8) (v := ?cdv8) rfl rfl (by kernel_rfl) (by kernel_rfl) (by kernel_rfl) (fun _ _ _ _ => ⟨fun h _ => h, fun h => h #[]⟩) (by rfl) hHeld ?cdy8 ?cdr8
              case cdy8 =>
                intro W' hSw
                obtain s1 := hSw
                go_simp
                try with_reducible rfl
              simp only [List.setIfInBounds_toArray, List.set_cons_zero, List.set_cons_succ]
              refine takeH (i := 9) (v := ?cdv9) rfl rfl (by kernel_rfl) (by kernel_rfl) (by kernel_rfl) (fun _ _ _ _ => ⟨fun h _ => h, fun h => h #[]⟩) (by rfl) hHeld ?cdy9 ?cdr9
              case cdy9 =>
                intro W' hSw
                obtain s1 := hSw
                go_simp
                try with_reducible rfl
              simp only [List.setIfInBounds_toArray, List.set_cons_zero, List.set_cons_succ]
              refine wpAnyH_ready (rs := [5]) (by kernel_rfl) (by simp) ?_
              refine AllReadyH.cons rfl (fun K hK => ?_) AllReadyH.nil
              go_simp
              refine hK.out _ _ hHeld (fun _ => ?_)
              clear hK K
              try simp only [Act.put, List.setIfInBounds_toArray, List.set_cons_zero, List.set_cons_succ]
              refine takeH (i := 10) (v := ?cev10) rfl rfl (by kernel_rfl) (by kernel_rfl) (by kernel_rfl) (fun _ _ _ _ => ⟨fun h _ => h, fun h => h #[]⟩) (by rfl) hHeld ?cey10 ?cer10
              case cey10 =>
                intro W' hSw
                obtain s1 := hSw
                go_simp
                try with_reducible rfl
              simp only [List.setIfInBounds_toArray, List.set_cons_zero, List.set_cons_succ]
              refine takeH (i := 11) (v := ?cev11) rfl rfl (by kernel_rfl) (by kernel_rfl) (by kernel_rfl) (fun _ _ _ _ => ⟨fun h _ => h, fun h => h #[]⟩) (by rfl) hHeld ?cey11 ?cer11
              case cey11 =>
                intro W' hSw
                obtain s1 := hSw
                go_simp
                try with_reducible rfl
              simp only [List.setIfInBounds_toArray, List.set_cons_zero, List.set_cons_succ]
              refine wpAnyH_ready (rs := [12]) (by kernel_rfl) (by simp) ?_
              refine AllReadyH.cons rfl (fun K hK => ?_) AllReadyH.nil
              go_simp
              refine hK.out _ _ ?_ (fun _ => ?_)
              · exact (World.cell?_setCell_other _ _ _ _ (by have := HTD.out; first | (simp; done) | (simp; omega))).trans hHeld
              clear hK K
              refine wpAnyH_done (by kernel_rfl) ?_ _
              have hm9 : Ib6 (wr.setCell ⟨w3.heap.size, T, none⟩ (.int .i64 (nv : Int))).drew w3.heap.size N (fun S => ((fwB (LO ws wl) (fwA ws.length (LO ws wl) d) d (k + 1) S : Nat) : Int)) := HPUT.out wr HM.out
              have hb9 : Below w3.heap.size w3 (wr.setCell ⟨w3.heap.size, T, none⟩ (.int .i64 (nv : Int))).drew := (HB.out.setCell (Nat.le_refl _) _).drew
              generalize (wr.setCell ⟨w3.heap.size, T, none⟩ (.int .i64 (nv : Int))).drew = w9 at *
              clear hHeld d3 d5 hfr
              have HM9 := Lib.hid hm9; have HB9 := Lib.hid hb9; clear hm9 hb9
              go_wp2
              go_roundw
              case rel => exact ⟨k + 1, by go_num, by omega, HM9.out, HB9.out⟩
              case measure => simp [intOf]; omega
        · obtain rfl : k = ws.length := by omega
          have hnx : Ib6 wr w3.heap.size N (fun S => ((fwA ws.length (LO ws wl) (d + 1) S : Nat) : Int)) := hm.eqv fun S _ => by rw [fwA]
          have y1 : ¬ (ws.length : Int) < (ws.length : Int) := by omega
          generalize fwA ws.length (LO ws wl) d d = v at *
          have HM := Lib.hid hm; have HB := Lib.hid hb; have HNX := Lib.hid hnx; have HSELF := Lib.hid hself; clear hm hb hnx hself
          go_wp2
          go_roundw
          case rel => exact ⟨d + 1, by go_num, by omega, HNX.out, HB.out⟩
          case measure => simp [intOf]; omega
    · obtain rfl : d = N := by omega
      have hlast : d - 1 < d := by have := HP2.out; omega
      have d3 : wr.cell? ⟨w3.heap.size, d - 1, none⟩ = some (.int .i64 ((cU ws.length (LO ws wl) 0 : Nat) : Int)) := by
        rw [← fwA_count, ← HN.out]; exact hm.at_ hlast
      have y1 : ¬ (d : Int) < (d : Int) := by omega
      have y2 : IntKind.i64.wrap ((d : Int) - 1) = ((d - 1 : Nat) : Int) := by rw [IntWalk.i64_in _ (by omega)]; omega
      have y3 : (0 : Int) ≤ ((d - 1 : Nat) : Int) := by omega
      have y4 : ((d - 1 : Nat) : Int) < (d : Int) := by omega
      generalize cU ws.length (LO ws wl) 0 = V at *
      generalize d - 1 = d1 at *
      by_cases hbig : 1000000000 < V
      · have hx := HX.out
        have hv := HV.out
        rw [if_pos hbig] at hx hv
        have y5 : (1000000000 : Int) < (V : Int) := by omega
        have hb5 : Below w.heap.size w wr := Y3.out.trans (hb.mono Y3.out.size)
        have HM := Lib.hid hm; have HB := Lib.hid hb; have HX := Lib.hid hx; have HV := Lib.hid hv; have HB5 := Lib.hid hb5; have HBIG := Lib.hid hbig; clear hm hb hx hv hb5 hbig
        go_wp2
        go_ret2
        exact ⟨by rw [HX.out, HV.out]; rfl, HB5.out⟩
      · have hx := HX.out
        have hv := HV.out
        rw [if_neg hbig] at hx hv
        have y5 : ¬ (1000000000 : Int) < (V : Int) := by omega
        have hb5 : Below w.heap.size w wr := Y3.out.trans (hb.mono Y3.out.size)
        have HM := Lib.hid hm; have HB := Lib.hid hb; have HX := Lib.hid hx; have HV := Lib.hid hv; have HB5 := Lib.hid hb5; have HBIG := Lib.hid hbig; clear hm hb hx hv hb5 hbig
        go_wp2
        go_ret2
        exact ⟨by rw [HX.out, HV.out]; rfl, HB5.out⟩
end Go.Proofs.YtlpfecjkkgccgaaDoor
/- The reference's Next. -/
namespace Go.Proofs.YtlpfecjkkgccgaaDoor
open Go.RowKit

theorem RdI.pre {w : World} {A : Option Addr} {l : List Int} (h : RdI w A l) (q : Nat) : RdI w A (l.take q) := by
  have hle : (l.take q).length ≤ l.length := by rw [List.length_take]; omega
  refine ⟨Nat.le_trans hle h.1, fun h0 => ?_⟩
  obtain ⟨b, off, e, hlt, hc⟩ := h.2 (by omega)
  refine ⟨b, off, e, hlt, fun j hj => ?_⟩
  rw [hc j (by omega)]
  rw [List.length_take] at hj
  simp [List.getD_eq_getElem?_getD, show j < q by omega]
set_option maxRecDepth 100000 in
set_option maxHeartbeats 8000000 in
theorem rNext_ (p : Int) (A Wa B : Option Addr) (c wc lc : Nat) (ws : List GW) (wl : List (Int × Int)) (l : List Int) (w : World) (ha : ShIn w p A ws) (hl : RdP w Wa wl) (ho : RdI w B l) (hlc : l.length ≤ lc) :
    Calls Tryd.prog 19 #[.agg #[.int .i64 p, .slice A ws.length c], .slice Wa wl.length wc, .slice B l.length lc] w (ListPost (nxtL p ws wl l) (nxtX p ws wl l) w) := by
  have hb2 : Below w.heap.size w (w.alloc (.cells #[.int .i64 p, .slice A ws.length c] 24)) := (Below.refl _ _).alloc (Nat.le_refl _) _
  have Y0 := Lib.hid hb2; clear hb2
  have X0 := Lib.hid (Box1.made w p A c ws.length 24)
  have HA := Lib.hid ha; have HL := Lib.hid hl; have HO := Lib.hid ho; have HLC := Lib.hid hlc; clear ha hl ho hlc
  go_enter Tryd.func19, Tryd.ntmps19
  go_wp2_with fail
  refine (rWishes_ p A Wa c wc ws wl _ (HA.out.later Y0.out (Nat.le_refl _)) (HL.out.later Y0.out (Nat.le_refl _))).mono ?_
  rintro e w1 ⟨rfl, hb1⟩
  have X1 := Lib.hid (X0.out.later hb1); have Y1 := Lib.hid (Y0.out.trans (hb1.mono Y0.out.size)); clear hb1; obtain ⟨c1, c2, s1⟩ := X1.out
  by_cases he : errO p ws wl = 0
  rotate_left
  · have hx : nxtX p ws wl l = errO p ws wl := by unfold nxtX; rw [if_neg he]
    have hv : nxtL p ws wl l = [] := by unfold nxtL; rw [if_neg he]
    have heb : (errO p ws wl != 0) = true := by simpa using he
    generalize errO p ws wl = E at *
    have HE := Lib.hid he; have HX := Lib.hid hx; have HV := Lib.hid hv; clear he hx hv
    go_wp2
    go_ret2
    exact ⟨.slice none 0 0, by rw [HX.out]; rfl, by rw [HV.out]; exact RdV.nil _, Y1.out⟩
  have hn4 : ws.length ≤ 400 := by have := (okAll (errO_zero he).1).2.2.1; omega
  have hpl : ∀ x ∈ ws, 0 ≤ x.pl ∧ x.pl ≤ 22 := fun x hx => by
    obtain ⟨_, hp, _, hall⟩ := okAll (errO_zero he).1
    have := hall x hx
    omega
  have hx : nxtX p ws wl l = if ordB ws.length (LO ws wl) l = true then (if (nxtO ws wl l).isSome = true then 0 else 9) else 4 := by unfold nxtX; rw [if_pos he]
  have hv : nxtL p ws wl l = if ordB ws.length (LO ws wl) l = true then (nxtO ws wl l).getD [] else [] := by unfold nxtL; rw [if_pos he]
  rw [he]
  have HX := Lib.hid hx; have HV := Lib.hid hv; have HPL := Lib.hid hpl; have HE := Lib.hid he; clear hx hv hpl he
  go_wp2_with fail
  refine (rRespects_ p A Wa B c wc lc ws wl l w1 (HA.out.rd.later Y1.out (Nat.le_refl _)) HPL.out hn4 (HL.out.later Y1.out (Nat.le_refl _)) (HO.out.later Y1.out (Nat.le_refl _))).mono ?_
  rintro e w2 ⟨rfl, hb12⟩
  have X2 := Lib.hid (X1.out.later hb12); have Y2 := Lib.hid (Y1.out.trans (hb12.mono Y1.out.size)); clear hb12 c1 c2 s1; obtain ⟨c1, c2, s1⟩ := X2.out
  cases hor : ordB ws.length (LO ws wl) l with
  | false =>
    have hx2 : nxtX p ws wl l = 4 := by rw [HX.out, hor]; rfl
    have hv2 : nxtL p ws wl l = [] := by rw [HV.out, hor]; rfl
    clear HX HV
    have HX2 := Lib.hid hx2; have HV2 := Lib.hid hv2; have HOR := Lib.hid hor; clear hx2 hv2 hor
    go_wp2
    go_ret2
    exact ⟨.slice none 0 0, by rw [HX2.out]; rfl, by rw [HV2.out]; exact RdV.nil _, Y2.out⟩
  | true =>
    have hx2 : nxtX p ws wl l = if (nxtO ws wl l).isSome = true then 0 else 9 := by rw [HX.out, hor, if_pos rfl]
    have hv2 : nxtL p ws wl l = (nxtO ws wl l).getD [] := by rw [HV.out, hor, if_pos rfl]
    have hord := ordB_iff.1 hor
    have hlen := hord.1
    clear HX HV
    have hlen2 : l.length ≤ ws.length ∧ ws.length ≤ l.length := by omega
    have HX2 := Lib.hid hx2; have HV2 := Lib.hid hv2; have HOR := Lib.hid hor; have HORD := Lib.hid hord; have HLEN := Lib.hid hlen; clear hx2 hv2 hor hord hlen
    go_wp2_with fail
    refine (rTable_ p A Wa c wc ws wl w2 (HA.out.rd.later Y2.out (Nat.le_refl _)) HPL.out (HL.out.later Y2.out (Nat.le_refl _)) hn4).mono ?_
    rintro e w3 ⟨TA, tc, rfl, hM, hb23⟩
    have Y3 := Lib.hid (Y2.out.trans (hb23.mono Y2.out.size))
    clear hb23 c1 c2 s1
    have hb33 := Below.refl w3.heap.size w3
    have q0 : IntKind.i64.wrap ((l.length : Int) - 1) = (l.length : Int) - 1 := IntWalk.i64_in _ (by omega)
    have HM := Lib.hid hM; have HB33 := Lib.hid hb33; clear hM hb33
    go_wp2
    clear q0
    go_loopw [10, 11, 12, 13, 14, 15] (fun kv _ _ _ _ _ wr => ∃ k : Nat, kv = .int .i64 ((k : Int) - 1) ∧ k ≤ l.length ∧ nxtO ws wl l = nxK ws.length (LO ws wl) l k ∧ Below w3.heap.size w3 wr) (fun kv _ _ _ _ _ _ => (intOf kv + 1).toNat)
    case atStart => exact ⟨l.length, rfl, Nat.le_refl _, by unfold nxtO; rw [HLEN.out], HB33.out⟩
    case round =>
      clear HB33
      obtain ⟨k, hkv, hk, hnx, hb⟩ := hrel
      have hbW := Y3.out.trans (hb.mono Y3.out.size)
      cases k with
      | zero =>
        have hz : ((0 : Nat) : Int) - 1 = -1 := rfl
        rw [hz] at hkv
        subst hkv
        have hx3 : nxtX p ws wl l = 9 := by rw [HX2.out, hnx]; rfl
        have hv3 : nxtL p ws wl l = [] := by rw [HV2.out, hnx]; rfl
        clear hnx
        have HB := Lib.hid hb; have HBW := Lib.hid hbW; have HX3 := Lib.hid hx3; have HV3 := Lib.hid hv3; clear hb hbW hx3 hv3
        go_wp2
        go_ret2
        exact ⟨.slice none 0 0, by rw [HX3.out]; rfl, by rw [HV3.out]; exact RdV.nil _, HBW.out⟩
      | succ j =>
        have hz : ((j + 1 : Nat) : Int) - 1 = (j : Int) := by omega
        rw [hz] at hkv
        subst hkv
        have hjl : j < l.length := by omega
        have hjn : j < ws.length := by omega
        obtain ⟨S, hS⟩ := take_some HORD.out.2 j
        obtain ⟨x, hxg, hxn, hxf, _, _, _⟩ := take_run hjl HORD.out.2 hS
        have hstep : nxtO ws wl l = if overF ws.length (LO ws wl) S x < ws.length then some (l.take j ++ ((overF ws.length (LO ws wl) S x : Nat) : Int) :: ((goO ws.length (LO ws wl) (ws.length - (j + 1)) (S ||| 2 ^ overF ws.length (LO ws wl) S x)).getD [])) else nxK ws.length (LO ws wl) l j := by
          rw [hnx, nxK, hS]
          simp only [hxg, Int.toNat_natCast]
        have hgo := fun b hb hf => over_go (b := b) HORD.out hjn hS hb hf
        have hset : setL (l.take j) = S := setL_run hS
        have hin : ∀ i, i < l.length → ∃ y : Nat, l.getD i 0 = y ∧ y < ws.length := fun i hi => by
          obtain ⟨Si, hSi⟩ := take_some HORD.out.2 i
          obtain ⟨y, h1, h2, _⟩ := take_run hi HORD.out.2 hSi
          exact ⟨y, h1, h2⟩
        have hmk := run_make_row' (P := Tryd.prog) 84 4 (.bool false) 1 Tryd.underlying84 infoB_Tryd rfl .i64 .i64 l.length (by omega) (by omega)
        have hm0 := BoB.made wr l.length
        have hb2 : Below wr.heap.size wr (wr.alloc (.cells (madeCells #[.bool false] l.length) 4)) := (Below.refl _ _).alloc (Nat.le_refl _) _
        have hbs := hb.size
        have x1 : (0 : Int) ≤ (j : Int) := by omega
        have x2 : (j : Int) < (l.length : Int) := by omega
        clear hnx hz
        have HB := Lib.hid hb; have HBW := Lib.hid hbW; have HS := Lib.hid hS; have HXG := Lib.hid hxg; have HXF := Lib.hid hxf; have HSTEP := Lib.hid hstep; have HGO := Lib.hid hgo; have HSET := Lib.hid hset; have HIN := Lib.hid hin; have HM0 := Lib.hid hm0; have HB2 := Lib.hid hb2; have HK := Lib.hid hk; clear hb hbW hS hxg hxf hstep hgo hset hin hm0 hb2 hk
        go_wp2
        clear hmk
        generalize wr.alloc (.cells (madeCells #[.bool false] l.length) 4) = w4 at *
        obtain ⟨D, hD⟩ : ∃ D, D = wr.heap.size := ⟨_, rfl⟩
        rw [← hD] at HM0 HB2 hbs ⊢
        obtain ⟨wo, rfl⟩ : ∃ wo : World, wo = wr := ⟨_, rfl⟩
        have hb44 : Below w3.heap.size w3 w4 := HB.out.trans (HB2.out.mono hbs)
        have HD := Lib.hid hD; clear hD
        go_loopw [12] (fun iv wr => ∃ i : Nat, iv = .int .i64 i ∧ i ≤ j ∧ BoB wr D l.length (fun a => (setL (l.take i)).testBit a) ∧ Below D wo wr) (fun iv _ => j - (intOf iv).toNat)
        case atStart => exact ⟨0, rfl, Nat.zero_le _, HM0.out.congr fun a _ => by simp [setL], HB2.out⟩
        case round =>
          clear HM0 HB2 hb44
          obtain ⟨i, rfl, hi, hBo, hbi⟩ := hrel
          by_cases hij : i < j
          · have hil : i < l.length := by omega
            obtain ⟨bl, ol, rfl, hbl, l1⟩ := (HO.out.later (HBW.out.trans (hbi.mono (by rw [HD.out]; exact HBW.out.size))) (Nat.le_refl _)).at_ hil
            obtain ⟨y, hy1, hy2⟩ := HIN.out i hil
            have hst := setL_take hil
            have hgi : l[i] = (y : Int) := by rw [← hy1, List.getD_eq_getElem?_getD, List.getElem?_eq_getElem hil]; rfl
            rw [hgi] at hst l1
            rw [Int.toNat_natCast] at hst
            have hyl : y < l.length := by omega
            have z1 : (0 : Int) ≤ (i : Int) := by omega
            have z2 : (i : Int) < (l.length : Int) := by omega
            have z3 : (i : Int) < (j : Int) := by omega
            have z4 : (0 : Int) ≤ (y : Int) := by omega
            have z5 : (y : Int) < (l.length : Int) := by omega
            have e1 := hBo.at_ hyl
            have e2 := hBo.free y
            have q1 : BoB (wr.setCell ⟨D, y, none⟩ (.bool true)) D l.length (fun a => (setL (l.take (i + 1))).testBit a) := (hBo.put y true).congr fun a _ => by
              rw [hst, testBit_set]
              by_cases h : a = y
              · subst h; simp
              · simp [h, Ne.symm h]
            have q2 : Below D wo (wr.setCell ⟨D, y, none⟩ (.bool true)) := hbi.setCell (p := ⟨D, y, none⟩) (Nat.le_refl _) _
            generalize (setL (l.take i)).testBit y = bb at *
            clear hgi
            have HBO := Lib.hid hBo; have HBI := Lib.hid hbi; have HST := Lib.hid hst; have HY1 := Lib.hid hy1; have Q1 := Lib.hid q1; have Q2 := Lib.hid q2; clear hBo hbi hst hy1 q1 q2
            go_wp2
            go_roundw
            case rel => exact ⟨i + 1, by go_num, by omega, Q1.out, Q2.out⟩
            case measure => simp [intOf]; omega
          · obtain rfl : i = j := by omega
            rw [HSET.out] at hBo
            have hbi3 : Below w3.heap.size w3 wr := HB.out.trans (hbi.mono (by rw [HD.out]; exact HB.out.size))
            have hbWi := Y3.out.trans (hbi3.mono Y3.out.size)
            obtain ⟨bl, ol, rfl, hbl, l1⟩ := (HO.out.later hbWi (Nat.le_refl _)).at_ hjl
            rw [show l[i] = (x : Int) by rw [← HXG.out, List.getD_eq_getElem?_getD, List.getElem?_eq_getElem hjl]; rfl] at l1
            have q1 : IntKind.i64.wrap ((x : Int) + 1) = ((x + 1 : Nat) : Int) := by rw [IntWalk.i64_in _ (by omega)]; push_cast; rfl
            obtain ⟨wi, rfl⟩ : ∃ wi : World, wi = wr := ⟨_, rfl⟩
            have HBO := Lib.hid hBo; have HBI := Lib.hid hbi; have HBI3 := Lib.hid hbi3; have HBWI := Lib.hid hbWi; clear hBo hbi hbi3 hbWi
            go_wp2
            clear q1
            go_loopw [13, 14, 15] (fun bv _ _ wr => ∃ b : Nat, bv = .int .i64 b ∧ x + 1 ≤ b ∧ b ≤ l.length ∧ (∀ y, x < y → y < b → freeB (LO ws wl) S y = false) ∧ wr = wi) (fun bv _ _ _ => l.length - (intOf bv).toNat)
            case atStart => exact ⟨x + 1, rfl, Nat.le_refl _, by omega, (fun y h1 h2 => absurd h2 (by omega)), rfl⟩
            case round =>
              obtain ⟨b, rfl, hxb, hbl2, hno, rfl⟩ := hrel
              by_cases hbn : b < l.length
              · have hbw : b < ws.length := by omega
                have hcall := rfree_ TA tc D l.length ws.length b S (LO ws wl) (tblM ws wl) wr hn4 (LO_tbl ws wl b) (HM.out.later HBI3.out) (by have := HLEN.out; rw [← this]; exact HBO.out) hbw
                rw [show (Value.slice (some ⟨D, 0, none⟩) ws.length l.length) = Value.slice (some ⟨D, 0, none⟩) l.length l.length by rw [HLEN.out]] at hcall
                have z1 : (b : Int) < (l.length : Int) := by omega
                cases hfr : freeB (LO ws wl) S b with
                | false =>
                  rw [hfr] at hcall
                  have hno2 : ∀ y, x < y → y < b + 1 → freeB (LO ws wl) S y = false := fun y h1 h2 => by
                    by_cases h : y = b
                    · subst h; exact hfr
                    · exact hno y h1 (by omega)
                  have HNO := Lib.hid hno; have HCALL := Lib.hid hcall; have HFR := Lib.hid hfr; have HNO2 := Lib.hid hno2; clear hno hcall hfr hno2
                  go_wp2_with fail
                  refine HCALL.out.mono ?_
                  rintro e w5 ⟨rfl, rfl⟩
                  go_wp2
                  go_roundw
                  case rel => exact ⟨b + 1, by go_num, by omega, by omega, HNO2.out, trivial⟩
                  case measure => simp [intOf]; omega
                | true =>
                  rw [hfr] at hcall
                  have hov : overF ws.length (LO ws wl) S x = b := fstF_eq hbw (by simp [hfr]; omega) (fun y hy => by
                    by_cases h : x < y
                    · simp [hno y h hy]
                    · simp [h])
                  have hst := HSTEP.out
                  rw [hov, if_pos hbw] at hst
                  have hg := HGO.out b hbw hfr
                  obtain ⟨rl, hrl⟩ := Option.isSome_iff_exists.1 hg
                  rw [hrl] at hst
                  have HNO := Lib.hid hno; have HCALL := Lib.hid hcall; have HFR := Lib.hid hfr; have HST := Lib.hid hst; have HRL := Lib.hid hrl; clear hno hcall hfr hst hrl
                  go_wp2_with fail
                  refine HCALL.out.mono ?_
                  rintro e w5 ⟨rfl, rfl⟩
                  obtain ⟨q, hq⟩ : ∃ q, q = l.take i := ⟨_, rfl⟩
                  have hql : q.length = i := by rw [hq, List.length_take]; omega
                  have hrq : RdI wr (some ⟨bl, ol, none⟩) q := by rw [hq]; exact (HO.out.later HBWI.out (Nat.le_refl _)).pre i
                  have hown0 : (wr.alloc (.cells #[] 3)).ownsRow wr.heap.size 3 1 (.slice (some ⟨wr.heap.size, 0, none⟩) 0 0) ([] : List Int).length (ints []) := ⟨rfl, .inr ⟨wr.heap.size, 0, #[], rfl, Nat.le_refl _, heap_alloc_new _ _, Nat.le_refl _, by decide, rfl, rfl⟩⟩
                  have hii : (i : Int) ≤ (lc : Int) := by have := HLC.out; omega
                  have hset2 : setL (q ++ [(b : Int)]) = S ||| 2 ^ b := by
                    unfold setL
                    rw [List.foldl_append]
                    show setL q ||| 2 ^ (b : Int).toNat = _
                    rw [hq, HSET.out, Int.toNat_natCast]
                  have hinq : ∀ y ∈ q ++ [(b : Int)], 0 ≤ y ∧ y < (ws.length : Int) := fun y hy => by
                    rcases List.mem_append.1 hy with h | h
                    · rw [hq] at h
                      obtain ⟨j, hj, rfl⟩ := List.mem_iff_getElem.1 h
                      have hj2 : j < l.length := by rw [List.length_take] at hj; omega
                      rw [List.getElem_take]
                      obtain ⟨z, hz1, hz2⟩ := HIN.out j hj2
                      rw [List.getD_eq_getElem?_getD, List.getElem?_eq_getElem hj2] at hz1
                      have hz3 : l[j] = (z : Int) := hz1
                      omega
                    · rw [List.mem_singleton] at h; omega
                  have hres : nxtO ws wl l = some (q ++ [(b : Int)] ++ rl) := by
                    rw [HST.out, hq]; simp
                  have HQ := Lib.hid hq; have HRQ := Lib.hid hrq; have HOWN0 := Lib.hid hown0; have HSET2 := Lib.hid hset2; have HINQ := Lib.hid hinq; have HRES := Lib.hid hres; clear hq hrq hown0 hset2 hinq hres
                  dsimp only
                  go_wp2_with (first | (at_builtin; refine wpList_appI_Tryd rfl _ _ rfl wr.heap.size (.slice (some ⟨wr.heap.size, 0, none⟩) 0 0) [] rfl HOWN0.out (some ⟨bl, ol, none⟩) lc q (by rw [hql]; rfl) (HRQ.out.later ((Below.refl _ _).alloc (Nat.le_refl _) _) (Nat.le_refl _)) (by simp; omega) (by simp) ?_; intro v2 w2 hown2 hgrow2 hat2; rw [List.nil_append] at hown2) | (at_builtin; refine wpList_app1_Tryd rfl _ _ rfl wr.heap.size v2 q rfl (hown2.alloc _) w2.heap.size (b : Int) rfl (heap_alloc_new _ _) (by rw [hql]; omega) (by have := hgrow2.size; simp at this ⊢; omega) ?_; intro g cap w6 hown6 hgrow6 hat6 hlt6))
                  have hb2 : Below w3.heap.size w3 w2 := (HBI3.out.alloc HBI3.out.size _).grown hgrow2 (by have := HBI3.out.size; simp; omega) (fun k hk => by have := HBI3.out.size; simp [Value.ownBlock] at hk; omega)
                  have hb6 : Below w3.heap.size w3 w6 := (hb2.alloc hb2.size _).grown hgrow6 (by have := hb2.size; simp; omega) (fun k hk => by have := (hown2.lt k hk).1; have := HBI3.out.size; omega)
                  obtain ⟨A6, c6, he6, hr6⟩ := RdV.of_own hown6 (by simp; omega)
                  injection he6 with e1 e2 e3
                  subst e1; subst e3
                  clear e2 hown2 hgrow2 hat2 hown6 hgrow6 hat6 hlt6
                  have hcall := rGoOn_ TA (some ⟨g, 0, none⟩) tc ws.length cap (LO ws wl) (tblM ws wl) (q ++ [(b : Int)]) w6 hn4 (LO_tbl ws wl) (HM.out.later hb6) hr6 (by simp; omega) HINQ.out
                  rw [HSET2.out, show (q ++ [(b : Int)]).length = q.length + 1 by simp, show ws.length - (q.length + 1) = ws.length - (i + 1) by rw [hql], HRL.out, Option.map_some, hql] at hcall
                  refine hcall.mono ?_
                  clear hcall
                  show ∀ e w', GoPost (some (q ++ [(b : Int)] ++ rl)) w6 e w' → _
                  rintro e w7 ⟨hsome, _, hb7⟩
                  obtain ⟨v, rfl, hrv, _⟩ := hsome (q ++ [(b : Int)] ++ rl) rfl
                  have hx3 : nxtX p ws wl l = 0 := by rw [HX2.out, HRES.out]; rfl
                  have hv3 : nxtL p ws wl l = q ++ [(b : Int)] ++ rl := by rw [HV2.out, HRES.out]; rfl
                  have hb37 := hb6.trans (hb7.mono hb6.size)
                  have hbW7 := Y3.out.trans (hb37.mono Y3.out.size)
                  clear hsome hr6
                  have HX3 := Lib.hid hx3; have HV3 := Lib.hid hv3; have HB2 := Lib.hid hb2; have HB6 := Lib.hid hb6; have HB7 := Lib.hid hb7; have HB37 := Lib.hid hb37; have HBW7 := Lib.hid hbW7; have HRV := Lib.hid hrv; clear hx3 hv3 hb2 hb6 hb7 hb37 hbW7 hrv
                  go_wp2
                  go_ret2
                  exact ⟨v, by rw [HX3.out]; rfl, by rw [HV3.out]; exact HRV.out, HBW7.out⟩
              · obtain rfl : b = l.length := by omega
                have hov : ¬ overF ws.length (LO ws wl) S x < ws.length := fun h => by
                  obtain ⟨h1, _⟩ := fstF_lt h
                  rw [Bool.and_eq_true, decide_eq_true_eq] at h1
                  have := hno _ h1.2 (by have := HLEN.out; unfold overF at h; omega)
                  rw [show fstF (fun b => freeB (LO ws wl) S b && decide (x < b)) ws.length = overF ws.length (LO ws wl) S x from rfl] at h1
                  unfold overF at h1
                  rw [this] at h1; cases h1.1
                have hst := HSTEP.out
                rw [if_neg hov] at hst
                have q2 : IntKind.i64.wrap ((i : Int) - 1) = (i : Int) - 1 := IntWalk.i64_in _ (by omega)
                have HNO := Lib.hid hno; have HST := Lib.hid hst; clear hno hst
                go_wp2
                go_roundw
                case rel => exact ⟨i, rfl, by omega, HST.out, HBI3.out⟩
                case measure => simp [intOf]
end Go.Proofs.YtlpfecjkkgccgaaDoor
