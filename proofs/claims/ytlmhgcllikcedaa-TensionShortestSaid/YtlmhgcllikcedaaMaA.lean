/- Texts of this claim, laid together: Dig, Dig2, TnSeq, TnInd, TnSqf, TnFam, TnLe, TnRtP, Base, Bits, Own, App1, Nat1, Nat2, Nat3. -/
import Derived.BigQuiet
import Derived.Deep.AppendLies
import Derived.Deep.DeepCutAuto
import Derived.Deep.OwnRows
import Derived.Deep.QuietTactic
import Derived.Deep.RegionHeld3
import Derived.Deep.RegionLaw
import Derived.Lib.Hide
import Derived.Test.YtlmhgcllikcedaaRows
import Derived.WalkKit
import Derived.WalkLawsBesides
import Derived.WalkSpells
/- Numbers by their digits to the base 2^32: plain. -/
namespace Go.Proofs.Ytlmhgcllikcedaa

def upD {α : Type} (f : Nat → α) (i : Nat) (v : α) : Nat → α := fun q => if q = i then v else f q
theorem upD_same {α : Type} (g : Nat → α) (i : Nat) (v : α) : upD g i v i = v := if_pos rfl
theorem upD_other {α : Type} (g : Nat → α) {i j : Nat} (v : α) (h : j ≠ i) : upD g i v j = g j := if_neg h
def pw (i : Nat) : Nat := 2 ^ (32 * i)
/-- How many digits. -/
def nl (v : Nat) : Nat := if v = 0 then 0 else Nat.log2 v / 32 + 1
/-- The digit i. -/
def dg (v i : Nat) : Nat := v / pw i % 4294967296
/-- The lowest digits. -/
def lo (v i : Nat) : Nat := v % pw i
/-- What digits stand for. -/
def valF (g : Nat → Nat) : Nat → Nat
  | 0 => 0
  | n + 1 => valF g n + g n * pw n
theorem pw_zero : pw 0 = 1 := rfl
theorem pw_succ (i : Nat) : pw (i + 1) = pw i * 4294967296 := by
  unfold pw
  rw [show 32 * (i + 1) = 32 * i + 32 by omega, Nat.pow_add]
theorem pw_pos (i : Nat) : 0 < pw i := Nat.two_pow_pos _
theorem pw_add (i j : Nat) : pw (i + j) = pw i * pw j := by
  unfold pw; rw [Nat.mul_add, Nat.pow_add]
theorem pw_le {i j : Nat} (h : i ≤ j) : pw i ≤ pw j := Nat.pow_le_pow_right (by decide) (by omega)
theorem nl_le {v n : Nat} : nl v ≤ n ↔ v < pw n := by
  unfold nl pw
  by_cases h : v = 0
  · rw [if_pos h]
    exact ⟨fun _ => by rw [h]; exact Nat.two_pow_pos _, fun _ => Nat.zero_le _⟩
  · rw [if_neg h, ← Nat.log2_lt h]
    omega
theorem nl_zero : nl 0 = 0 := rfl
theorem nl_pos {v : Nat} : 0 < nl v ↔ v ≠ 0 := by
  unfold nl
  by_cases h : v = 0
  · simp [h]
  · simp [h]
theorem lt_pw (v : Nat) : v < pw (nl v) := nl_le.1 (Nat.le_refl _)
theorem nl_mono {a b : Nat} (h : a ≤ b) : nl a ≤ nl b := nl_le.2 (Nat.lt_of_le_of_lt h (lt_pw b))
theorem dg_lt (v i : Nat) : dg v i < 4294967296 := Nat.mod_lt _ (by decide)
theorem dg_zero {v i : Nat} (h : v < pw i) : dg v i = 0 := by unfold dg; rw [Nat.div_eq_of_lt h]
theorem dg_top {v i : Nat} (h : nl v = i + 1) : dg v i ≠ 0 := by
  have h1 := lt_pw v
  rw [h, pw_succ] at h1
  have h2 : ¬ v < pw i := fun e => by have := nl_le.2 e; omega
  unfold dg
  have h3 : v / pw i < 4294967296 := Nat.div_lt_of_lt_mul h1
  rw [Nat.mod_eq_of_lt h3]
  have h4 : 1 ≤ v / pw i := (Nat.one_le_div_iff (pw_pos i)).2 (by omega)
  omega
theorem lo_zero (v : Nat) : lo v 0 = 0 := by unfold lo; rw [pw_zero, Nat.mod_one]
theorem lo_succ (v i : Nat) : lo v (i + 1) = lo v i + dg v i * pw i := by
  unfold lo dg
  rw [pw_succ, Nat.mod_mul, Nat.mul_comm]
theorem lo_lt (v i : Nat) : lo v i < pw i := Nat.mod_lt _ (pw_pos i)
theorem lo_all {v n : Nat} (h : v < pw n) : lo v n = v := Nat.mod_eq_of_lt h
theorem valF_congr {f g : Nat → Nat} : ∀ n, (∀ i, i < n → f i = g i) → valF f n = valF g n
  | 0, _ => rfl
  | n + 1, h => by rw [valF, valF, valF_congr n fun i hi => h i (by omega), h n (by omega)]
theorem valF_dg (v : Nat) : ∀ n, valF (dg v) n = lo v n
  | 0 => (lo_zero v).symm
  | n + 1 => by rw [valF, valF_dg v n, lo_succ]
theorem valF_lt {g : Nat → Nat} : ∀ n, (∀ i, i < n → g i < 4294967296) → valF g n < pw n
  | 0, _ => by rw [pw_zero]; exact Nat.one_pos
  | n + 1, h => by
    have ih := valF_lt n fun i hi => h i (by omega)
    have hn := h n (by omega)
    rw [valF, pw_succ]
    have h1 : g n * pw n ≤ 4294967295 * pw n := Nat.mul_le_mul_right _ (by omega)
    have h2 := Nat.mul_comm (pw n) 4294967296
    omega
theorem valF_at {g : Nat → Nat} : ∀ n, (∀ i, i < n → g i < 4294967296) → ∀ i, i < n → dg (valF g n) i = g i
  | 0, _, i, hi => absurd hi (by omega)
  | n + 1, h, i, hi => by
    have hl := valF_lt n fun i hi => h i (by omega)
    have hn := h n (by omega)
    by_cases e : i = n
    · subst e
      unfold dg
      rw [valF, Nat.add_mul_div_right _ _ (pw_pos i), Nat.div_eq_of_lt hl, Nat.zero_add, Nat.mod_eq_of_lt hn]
    · have ih := valF_at n (fun i hi => h i (by omega)) i (by omega)
      rw [← ih, valF]
      obtain ⟨k, rfl⟩ : ∃ k, n = i + 1 + k := ⟨n - i - 1, by omega⟩
      unfold dg
      rw [show g (i + 1 + k) * pw (i + 1 + k) = (g (i + 1 + k) * pw k * 4294967296) * pw i by rw [pw_add, pw_succ]; ac_rfl, Nat.add_mul_div_right _ _ (pw_pos i), Nat.add_mul_mod_self_right]
theorem valF_upd {g : Nat → Nat} {j x : Nat} : ∀ n, j < n → valF (upD g j x) n + g j * pw j = valF g n + x * pw j
  | 0, h => absurd h (by omega)
  | n + 1, h => by
    rw [valF, valF]
    by_cases e : j = n
    · subst e
      have h1 : valF (upD g j x) j = valF g j := valF_congr j fun i hi => upD_other g x (show i ≠ j by omega)
      rw [upD_same, h1]
      omega
    · have ih := valF_upd (g := g) (j := j) (x := x) n (by omega)
      rw [upD_other g x (show n ≠ j by omega)]
      omega
/-- Numbers below B^n with the same digits are the same. -/
theorem dg_ext {a b n : Nat} (ha : a < pw n) (hb : b < pw n) (h : ∀ i, i < n → dg a i = dg b i) : a = b := by
  rw [← lo_all ha, ← lo_all hb, ← valF_dg, ← valF_dg]
  exact valF_congr n h
/-- From the highest digit on. -/
theorem hi_eq {a b : Nat} {i n : Nat} (ha : a < pw n) (hb : b < pw n) (h : ∀ j, i ≤ j → j < n → dg a j = dg b j) : a / pw i = b / pw i := by
  have key : ∀ m, m ≤ n - i → a / pw (n - m) = b / pw (n - m) := by
    intro m
    induction m with
    | zero => intro _; rw [Nat.sub_zero, Nat.div_eq_of_lt ha, Nat.div_eq_of_lt hb]
    | succ m ih =>
      intro hm
      have h1 := ih (by omega)
      have h2 := h (n - (m + 1)) (by omega) (by omega)
      unfold dg at h2
      rw [show n - m = n - (m + 1) + 1 by omega, pw_succ, ← Nat.div_div_eq_div_mul, ← Nat.div_div_eq_div_mul] at h1
      rw [← Nat.div_add_mod (a / pw (n - (m + 1))) 4294967296, ← Nat.div_add_mod (b / pw (n - (m + 1))) 4294967296, h1, h2]
  rcases Nat.lt_or_ge i n with h1 | h1
  · have := key (n - i) (Nat.le_refl _)
    rwa [show n - (n - i) = i by omega] at this
  · have h2 := pw_le h1
    rw [Nat.div_eq_of_lt (by omega), Nat.div_eq_of_lt (by omega)]
theorem cmp_at {a b : Nat} {i n : Nat} (ha : a < pw n) (hb : b < pw n) (h : ∀ j, i < j → j < n → dg a j = dg b j) (hlt : dg a i < dg b i) : a < b := by
  have h1 := hi_eq (i := i + 1) ha hb fun j hj => h j (by omega)
  unfold dg at hlt
  rw [pw_succ, ← Nat.div_div_eq_div_mul, ← Nat.div_div_eq_div_mul] at h1
  have h2 : a / pw i < b / pw i := by
    rw [← Nat.div_add_mod (a / pw i) 4294967296, ← Nat.div_add_mod (b / pw i) 4294967296, h1]
    omega
  rcases Nat.lt_or_ge a b with h3 | h3
  · exact h3
  · have := Nat.div_le_div_right (c := pw i) h3
    omega
/-- The carry of a sum. -/
def cyF (a b i : Nat) : Nat := (lo a i + lo b i) / pw i
theorem cyF_zero (a b : Nat) : cyF a b 0 = 0 := by unfold cyF; rw [lo_zero, lo_zero]; rfl
theorem cyF_le (a b i : Nat) : cyF a b i ≤ 1 := by
  have h1 := lo_lt a i
  have h2 := lo_lt b i
  unfold cyF
  have : (lo a i + lo b i) / pw i < 2 := Nat.div_lt_of_lt_mul (by omega)
  omega
theorem cyF_step (a b i : Nat) : dg (a + b) i = (cyF a b i + (dg a i + dg b i)) % 4294967296 ∧ cyF a b (i + 1) = (cyF a b i + (dg a i + dg b i)) / 4294967296 := by
  have hp := pw_pos i
  have hs : (lo a i + lo b i) / pw i + (dg a i + dg b i) = (lo a (i + 1) + lo b (i + 1)) / pw i := by
    rw [lo_succ, lo_succ, show lo a i + dg a i * pw i + (lo b i + dg b i * pw i) = (lo a i + lo b i) + (dg a i + dg b i) * pw i by rw [Nat.add_mul]; omega, Nat.add_mul_div_right _ _ hp]
  constructor
  · unfold cyF
    rw [hs]
    have e : a + b = (lo a (i + 1) + lo b (i + 1)) + (a / pw (i + 1) + b / pw (i + 1)) * pw (i + 1) := by
      unfold lo
      have h1 := Nat.div_add_mod a (pw (i + 1))
      have h2 := Nat.div_add_mod b (pw (i + 1))
      rw [Nat.add_mul, Nat.mul_comm (a / _), Nat.mul_comm (b / _)]
      omega
    unfold dg
    conv => lhs; rw [e]
    rw [pw_succ, show ∀ x y, x + y * (pw i * 4294967296) = x + (y * 4294967296) * pw i by intro x y; congr 1; ac_rfl, Nat.add_mul_div_right _ _ hp, Nat.add_mul_mod_self_right]
  · rw [show cyF a b (i + 1) = (lo a (i + 1) + lo b (i + 1)) / pw (i + 1) from rfl, show cyF a b i = (lo a i + lo b i) / pw i from rfl, hs, pw_succ, Nat.div_div_eq_div_mul]
/-- The borrow of a difference. -/
def boF (a b i : Nat) : Nat := if lo a i < lo b i then 1 else 0
theorem boF_step {a b : Nat} (h : b ≤ a) (i : Nat) : boF a b 0 = 0 ∧ boF a b i ≤ 1 ∧ dg a i + 4294967296 * boF a b (i + 1) = dg (a - b) i + dg b i + boF a b i := by
  refine ⟨by unfold boF; rw [lo_zero, lo_zero]; rfl, by unfold boF; split <;> omega, ?_⟩
  have key : ∀ i, lo a i + pw i * boF a b i = lo (a - b) i + lo b i := by
    intro i
    have hp := pw_pos i
    have h1 := Nat.div_add_mod a (pw i)
    have h2 := Nat.div_add_mod b (pw i)
    have h3 := Nat.div_add_mod (a - b) (pw i)
    have l1 := lo_lt a i
    have l2 := lo_lt b i
    have l3 := lo_lt (a - b) i
    unfold lo at *
    unfold boF lo
    generalize hx : a % pw i = x at *
    generalize hy : b % pw i = y at *
    generalize hz : (a - b) % pw i = z at *
    generalize a / pw i = A at *
    generalize b / pw i = B at *
    generalize (a - b) / pw i = D at *
    generalize hpi : pw i = P at *
    have e : P * A + x = P * (B + D) + (y + z) := by rw [Nat.mul_add]; omega
    split
    · rename_i hlt
      have : A = B + D + 1 := by
        rcases Nat.lt_trichotomy A (B + D + 1) with h4 | h4 | h4
        · have h5 := Nat.mul_le_mul_left P (show A ≤ B + D by omega)
          omega
        · exact h4
        · have h5 := Nat.mul_le_mul_left P (show B + D + 2 ≤ A by omega)
          rw [Nat.mul_add] at h5
          omega
      rw [this, Nat.mul_add] at e
      omega
    · rename_i hge
      have : A = B + D := by
        rcases Nat.lt_trichotomy A (B + D) with h4 | h4 | h4
        · have h5 := Nat.mul_le_mul_left P (show A + 1 ≤ B + D by omega)
          rw [Nat.mul_add] at h5
          omega
        · exact h4
        · have h5 := Nat.mul_le_mul_left P (show B + D + 1 ≤ A by omega)
          rw [Nat.mul_add] at h5
          omega
      rw [this] at e
      omega
  have k1 := key i
  have k2 := key (i + 1)
  rw [lo_succ, lo_succ, lo_succ, pw_succ] at k2
  have hp := pw_pos i
  generalize boF a b i = c at *
  generalize boF a b (i + 1) = d at *
  have e : (dg a i + 4294967296 * d) * pw i = (dg (a - b) i + dg b i + c) * pw i := by
    rw [Nat.add_mul, Nat.add_mul, Nat.add_mul]
    have : 4294967296 * d * pw i = pw i * 4294967296 * d := by ac_rfl
    have : c * pw i = pw i * c := Nat.mul_comm _ _
    omega
  exact Nat.eq_of_mul_eq_mul_right hp e
end Go.Proofs.Ytlmhgcllikcedaa
/- Digits of products, of doubled and of halved numbers: plain. -/
namespace Go.Proofs.Ytlmhgcllikcedaa

theorem dg_div (v i : Nat) : v / pw i = v / pw (i + 1) * 4294967296 + dg v i := by
  unfold dg
  have h := Nat.div_add_mod (v / pw i) 4294967296
  rw [Nat.div_div_eq_div_mul, ← pw_succ] at h
  omega
theorem dg_add_mul (t m i : Nat) : dg (t + m * pw (i + 1)) i = dg t i := by
  unfold dg
  rw [pw_succ, show m * (pw i * 4294967296) = (m * 4294967296) * pw i by ac_rfl, Nat.add_mul_div_right _ _ (pw_pos i), Nat.add_mul_mod_self_right]
theorem lo_split (v i : Nat) : v = lo v i + v / pw i * pw i := by
  unfold lo
  have := Nat.div_add_mod v (pw i)
  rw [Nat.mul_comm] at this
  omega
/-- The carry of a product's row: the digit x of one factor at place i, above the lowest k digits of the other one, added to P. -/
def cmF (P x b i k : Nat) : Nat := (lo P (i + k) + x * lo b k * pw i) / pw (i + k)
theorem cmF_zero (P x b i : Nat) : cmF P x b i 0 = 0 := by
  unfold cmF
  rw [lo_zero, Nat.mul_zero, Nat.zero_mul, Nat.add_zero, Nat.add_zero, Nat.div_eq_of_lt (lo_lt P i)]
theorem cmF_lt {x : Nat} (P b i k : Nat) (hx : x < 4294967296) : cmF P x b i k < 4294967296 := by
  unfold cmF
  refine Nat.div_lt_of_lt_mul ?_
  have h1 := lo_lt P (i + k)
  have h2 := lo_lt b k
  have h3 : x * lo b k * pw i ≤ 4294967295 * pw (i + k) := by
    rw [Nat.add_comm, pw_add, ← Nat.mul_assoc]
    exact Nat.mul_le_mul_right _ (Nat.mul_le_mul (by omega) (by omega))
  omega
theorem cmF_step (P x b i k : Nat) : cmF P x b i k + (x * dg b k + dg P (i + k)) = (lo P (i + k + 1) + x * lo b (k + 1) * pw i) / pw (i + k) := by
  have hp := pw_pos (i + k)
  unfold cmF
  rw [lo_succ, lo_succ b, show lo P (i + k) + dg P (i + k) * pw (i + k) + x * (lo b k + dg b k * pw k) * pw i = (lo P (i + k) + x * lo b k * pw i) + (x * dg b k + dg P (i + k)) * pw (i + k) by
    rw [pw_add]; grind, Nat.add_mul_div_right _ _ hp]
theorem cmF_next (P x b i k : Nat) : cmF P x b i (k + 1) = (cmF P x b i k + (x * dg b k + dg P (i + k))) / 4294967296 := by
  rw [cmF_step, Nat.div_div_eq_div_mul, ← pw_succ]; rfl
theorem cmF_dg (P x b i k : Nat) : dg (P + x * b * pw i) (i + k) = (cmF P x b i k + (x * dg b k + dg P (i + k))) % 4294967296 := by
  rw [cmF_step]
  have e : P + x * b * pw i = (lo P (i + k + 1) + x * lo b (k + 1) * pw i) + (P / pw (i + k + 1) + x * (b / pw (k + 1))) * pw (i + k + 1) := by
    have h1 := lo_split P (i + k + 1)
    have h2 := lo_split b (k + 1)
    have h3 : pw (i + k + 1) = pw i * pw (k + 1) := by rw [show i + k + 1 = i + (k + 1) by omega, pw_add]
    rw [h3] at h1 ⊢
    generalize lo P (i + k + 1) = lP at *
    generalize lo b (k + 1) = lb at *
    generalize P / (pw i * pw (k + 1)) = D at *
    generalize b / pw (k + 1) = E at *
    generalize pw (k + 1) = Q at *
    generalize pw i = R at *
    subst h1; subst h2
    grind
  rw [e, dg_add_mul]; rfl
theorem cmF_last {P x b i k : Nat} (hP : P < pw (i + k)) (hb : b < pw k) : cmF P x b i k = (P + x * b * pw i) / pw (i + k) := by
  unfold cmF
  rw [lo_all hP, lo_all hb]
/-- A row of a product. -/
theorem row_next (a b i : Nat) : lo a (i + 1) * b = lo a i * b + dg a i * b * pw i := by
  rw [lo_succ, Nat.add_mul]; congr 1; ac_rfl
theorem row_lt {a b i n : Nat} (hb : b < pw n) : lo a i * b < pw (i + n) := by
  rw [pw_add]
  have h1 := lo_lt a i
  exact Nat.mul_lt_mul'' h1 hb
theorem up_div {H d q s r : Nat} (hq : 0 < q) (hr : q * r = 4294967296) (hs : s < q) : ((H * 4294967296 + d) * q + s) / 4294967296 = H * q + d * q / 4294967296 := by
  rw [show (H * 4294967296 + d) * q + s = (d * q + s) + (H * q) * 4294967296 by grind, Nat.add_mul_div_right _ _ (by decide)]
  have e5 : (d * q + s) / 4294967296 = d * q / 4294967296 := by
    rw [← hr, ← Nat.div_div_eq_div_mul, ← Nat.div_div_eq_div_mul, Nat.mul_comm d q, Nat.add_comm, Nat.add_mul_div_left _ _ hq, Nat.div_eq_of_lt hs, Nat.zero_add, Nat.mul_div_cancel_left _ hq]
  rw [e5]; omega
theorem up_mod {H d q s r : Nat} (hr : q * r = 4294967296) (hs : s < q) : ((H * 4294967296 + d) * q + s) % 4294967296 = d * q % 4294967296 + s := by
  rw [show (H * 4294967296 + d) * q + s = (d * q + s) + (H * q) * 4294967296 by grind, Nat.add_mul_mod_self_right]
  have e6 : d * q % 4294967296 = (d % r) * q := by
    rw [← hr, Nat.mul_comm q r, Nat.mul_mod_mul_right]
  have hr0 : 0 < r := by
    rcases Nat.eq_zero_or_pos r with h | h
    · rw [h] at hr; simp at hr
    · exact h
  have h4 := Nat.mod_lt d hr0
  have h5 : (d % r + 1) * q ≤ r * q := Nat.mul_le_mul_right _ h4
  rw [Nat.add_mul, Nat.mul_comm r q, hr] at h5
  rw [Nat.add_mod, e6, Nat.mod_eq_of_lt (show s < 4294967296 by omega), Nat.mod_eq_of_lt (by omega)]
/-- Times a power of 2 below B. -/
theorem dg_up {a q : Nat} (i r : Nat) (hq : 0 < q) (hr : q * r = 4294967296) : dg (a * q) (i + 1) = (dg a (i + 1) * q) % 4294967296 + dg a i * q / 4294967296 ∧ dg (a * q) 0 = (dg a 0 * q) % 4294967296 := by
  constructor
  · have hp := pw_pos i
    have e2 : a * q / pw i = a / pw i * q + lo a i * q / pw i := by
      have e := lo_split a i
      conv => lhs; rw [e]
      rw [Nat.add_mul, show a / pw i * pw i * q = (a / pw i * q) * pw i by ac_rfl, Nat.add_mul_div_right _ _ hp, Nat.add_comm]
    have h3 : lo a i * q / pw i < q := Nat.div_lt_of_lt_mul (Nat.mul_lt_mul_of_pos_right (lo_lt a i) hq)
    have e1 : a * q / pw (i + 1) = a / pw (i + 1) * q + dg a i * q / 4294967296 := by
      rw [pw_succ, ← Nat.div_div_eq_div_mul, e2, dg_div a i, up_div hq hr h3, pw_succ]
    have hlow : dg a i * q / 4294967296 < q := Nat.div_lt_of_lt_mul (Nat.mul_lt_mul_of_pos_right (dg_lt a i) hq)
    show a * q / pw (i + 1) % 4294967296 = _
    rw [e1, dg_div a (i + 1), up_mod hr hlow]
  · unfold dg
    rw [pw_zero, Nat.div_one, Nat.div_one, Nat.mod_mul_mod]
end Go.Proofs.Ytlmhgcllikcedaa
/- Sequences of rationals that are bounded, or go to nought as 1 / n. Plain. -/
namespace Go.Proofs.Ytlmhgcllikcedaa

/-- A sequence that stays within a bound. -/
def Bnd (f : Nat → Rat) : Prop := ∃ C : Rat, 0 ≤ C ∧ ∀ n, -C ≤ f n ∧ f n ≤ C
/-- A sequence that goes to nought as 1 / n. -/
def Nul (f : Nat → Rat) : Prop := ∃ C : Rat, 0 ≤ C ∧ ∀ n, -C ≤ f n * ((n : Rat) + 1) ∧ f n * ((n : Rat) + 1) ≤ C
section
variable {f g : Nat → Rat}
theorem nat_nn (n : Nat) : (0 : Rat) ≤ (n : Rat) := by exact_mod_cast Nat.zero_le n
theorem prod_le {C D x y : Rat} (h1 : -C ≤ x) (h2 : x ≤ C) (h3 : -D ≤ y) (h4 : y ≤ D) : -(C * D) ≤ x * y ∧ x * y ≤ C * D := by
  have a1 := Rat.mul_nonneg (show (0 : Rat) ≤ C - x by grind) (show (0 : Rat) ≤ D - y by grind)
  have a2 := Rat.mul_nonneg (show (0 : Rat) ≤ C - x by grind) (show (0 : Rat) ≤ D + y by grind)
  have a3 := Rat.mul_nonneg (show (0 : Rat) ≤ C + x by grind) (show (0 : Rat) ≤ D - y by grind)
  have a4 := Rat.mul_nonneg (show (0 : Rat) ≤ C + x by grind) (show (0 : Rat) ≤ D + y by grind)
  constructor <;> grind
theorem Bnd.const (c : Rat) : Bnd fun _ => c := by
  rcases (by grind : (0 : Rat) ≤ c ∨ (0 : Rat) ≤ -c) with h | h
  · exact ⟨c, h, fun n => by constructor <;> grind⟩
  · exact ⟨-c, h, fun n => by constructor <;> grind⟩
theorem Bnd.add (hf : Bnd f) (hg : Bnd g) : Bnd fun n => f n + g n := by
  obtain ⟨C, hC, h1⟩ := hf
  obtain ⟨D, hD, h2⟩ := hg
  exact ⟨C + D, by grind, fun n => by have := h1 n; have := h2 n; constructor <;> grind⟩
theorem Bnd.neg (hf : Bnd f) : Bnd fun n => -f n := by
  obtain ⟨C, hC, h1⟩ := hf
  exact ⟨C, hC, fun n => by have := h1 n; constructor <;> grind⟩
theorem Bnd.mul (hf : Bnd f) (hg : Bnd g) : Bnd fun n => f n * g n := by
  obtain ⟨C, hC, h1⟩ := hf
  obtain ⟨D, hD, h2⟩ := hg
  exact ⟨C * D, Rat.mul_nonneg hC hD, fun n => prod_le (h1 n).1 (h1 n).2 (h2 n).1 (h2 n).2⟩
theorem Nul.bnd (hf : Nul f) : Bnd f := by
  obtain ⟨C, hC, h1⟩ := hf
  refine ⟨C, hC, fun n => ?_⟩
  have h := h1 n
  have hn := nat_nn n
  have key : ∀ x : Rat, x * ((n : Rat) + 1) ≤ C → x ≤ C := fun x hx => by
    rcases (by grind : x ≤ 0 ∨ 0 ≤ x) with h0 | h0
    · grind
    · have := Rat.mul_nonneg h0 hn
      grind
  exact ⟨by have := key (-f n) (by grind); grind, key _ h.2⟩
theorem Nul.zero : Nul fun _ => 0 := ⟨0, by grind, fun n => by constructor <;> grind⟩
theorem Nul.add (hf : Nul f) (hg : Nul g) : Nul fun n => f n + g n := by
  obtain ⟨C, hC, h1⟩ := hf
  obtain ⟨D, hD, h2⟩ := hg
  exact ⟨C + D, by grind, fun n => by have := h1 n; have := h2 n; constructor <;> grind⟩
theorem Nul.neg (hf : Nul f) : Nul fun n => -f n := by
  obtain ⟨C, hC, h1⟩ := hf
  exact ⟨C, hC, fun n => by have := h1 n; constructor <;> grind⟩
theorem Nul.mul (hf : Nul f) (hg : Bnd g) : Nul fun n => g n * f n := by
  obtain ⟨C, hC, h1⟩ := hf
  obtain ⟨D, hD, h2⟩ := hg
  refine ⟨C * D, Rat.mul_nonneg hC hD, fun n => ?_⟩
  have := prod_le (h1 n).1 (h1 n).2 (h2 n).1 (h2 n).2
  constructor <;> grind
theorem Nul.congr (hf : Nul f) (h : ∀ n, g n = f n) : Nul g := by rwa [show g = f from funext h]
/-- A whole number other than nought does not go to nought. -/
theorem Nul.const {m : Rat} (h : Nul fun _ => m) : m = 0 := by
  obtain ⟨C, hC, h1⟩ := h
  by_cases h0 : m = 0
  · exact h0
  exfalso
  have key : ∀ x : Rat, 0 < x → (∀ n : Nat, x * ((n : Rat) + 1) ≤ C) → False := fun x hx h => by
    have h2 := h (C / x).ceil.toNat
    have h3 : C / x ≤ ((C / x).ceil : Rat) := Rat.le_ceil
    have h4 : ((C / x).ceil : Rat) ≤ ((C / x).ceil.toNat : Rat) := by
      have : (C / x).ceil ≤ ((C / x).ceil.toNat : Int) := Int.self_le_toNat _
      exact_mod_cast this
    have h5 : C = C / x * x := by rw [Rat.div_mul_cancel]; grind
    have h6 := Rat.mul_nonneg (show (0 : Rat) ≤ ((C / x).ceil.toNat : Rat) - C / x by grind) (show (0 : Rat) ≤ x by grind)
    grind
  rcases (by grind : 0 < m ∨ 0 < -m) with h | h
  · exact key m h fun n => (h1 n).2
  · exact key (-m) h fun n => by have := (h1 n).1; grind
end
end Go.Proofs.Ytlmhgcllikcedaa
/- Roots of independent numbers: what they generate has no divisors of nought, but for what goes to nought. Plain. -/
namespace Go.Proofs.Ytlmhgcllikcedaa

/-- The root of s, to 1 / (n + 1). -/
def rtq (s n : Nat) : Rat := ((Nat.sqrt (s * ((n + 1) * (n + 1))) : Nat) : Rat) / ((n : Rat) + 1)
theorem rtq_t (s n : Nat) : rtq s n * ((n : Rat) + 1) = ((Nat.sqrt (s * ((n + 1) * (n + 1))) : Nat) : Rat) := by
  unfold rtq
  rw [Rat.div_mul_cancel]
  have := nat_nn n
  grind
theorem sqrt_facts (s n : Nat) : Nat.sqrt (s * ((n + 1) * (n + 1))) * Nat.sqrt (s * ((n + 1) * (n + 1))) ≤ s * ((n + 1) * (n + 1)) ∧ s * ((n + 1) * (n + 1)) ≤ Nat.sqrt (s * ((n + 1) * (n + 1))) * Nat.sqrt (s * ((n + 1) * (n + 1))) + 2 * Nat.sqrt (s * ((n + 1) * (n + 1))) ∧ Nat.sqrt (s * ((n + 1) * (n + 1))) ≤ (s + 1) * (n + 1) := by
  have h1 := Nat.sqrt_le (s * ((n + 1) * (n + 1)))
  have h2 := Nat.lt_succ_sqrt (s * ((n + 1) * (n + 1)))
  rw [Nat.succ_eq_add_one] at h2
  generalize Nat.sqrt (s * ((n + 1) * (n + 1))) = r at *
  refine ⟨h1, by grind, ?_⟩
  rw [← Nat.mul_self_le_mul_self_iff]
  refine Nat.le_trans h1 ?_
  rw [show (s + 1) * (n + 1) * ((s + 1) * (n + 1)) = ((s + 1) * (s + 1)) * ((n + 1) * (n + 1)) by grind]
  exact Nat.mul_le_mul_right _ (by grind)
theorem rtq_nn (s n : Nat) : 0 ≤ rtq s n := by
  have h := rtq_t s n
  have h1 := nat_nn n
  have h2 := nat_nn (Nat.sqrt (s * ((n + 1) * (n + 1))))
  rcases (by grind : 0 ≤ rtq s n ∨ 0 < -rtq s n) with h0 | h0
  · exact h0
  · have := Rat.mul_nonneg (show (0 : Rat) ≤ -rtq s n by grind) h1
    grind
theorem rtq_le (s n : Nat) : rtq s n ≤ (s : Rat) + 1 := by
  have h := rtq_t s n
  have h1 := nat_nn n
  have h2 : ((Nat.sqrt (s * ((n + 1) * (n + 1))) : Nat) : Rat) ≤ ((s : Rat) + 1) * ((n : Rat) + 1) := by exact_mod_cast (sqrt_facts s n).2.2
  rcases (by grind : rtq s n ≤ (s : Rat) + 1 ∨ 0 < rtq s n - ((s : Rat) + 1)) with h0 | h0
  · exact h0
  · have := Rat.mul_nonneg (show (0 : Rat) ≤ rtq s n - ((s : Rat) + 1) by grind) h1
    grind
theorem rtq_bnd (s : Nat) : Bnd (rtq s) := ⟨(s : Rat) + 1, by have := nat_nn s; grind, fun n => ⟨by have := rtq_nn s n; have := nat_nn s; grind, rtq_le s n⟩⟩
theorem rtq_ge {s : Nat} (hs : 0 < s) (n : Nat) : 1 ≤ rtq s n := by
  have h := rtq_t s n
  have h1 := nat_nn n
  have h2 : (n : Rat) + 1 ≤ ((Nat.sqrt (s * ((n + 1) * (n + 1))) : Nat) : Rat) := by
    have h3 := (Nat.lt_succ_sqrt (s * ((n + 1) * (n + 1))))
    have h4 : n + 1 ≤ Nat.sqrt (s * ((n + 1) * (n + 1))) := by
      rw [Nat.succ_eq_add_one] at h3
      rcases Nat.lt_or_ge (Nat.sqrt (s * ((n + 1) * (n + 1)))) (n + 1) with h5 | h5
      · have h6 := Nat.mul_self_le_mul_self (show Nat.sqrt (s * ((n + 1) * (n + 1))) + 1 ≤ n + 1 by omega)
        have h7 := Nat.mul_le_mul_right ((n + 1) * (n + 1)) hs
        omega
      · exact h5
    exact_mod_cast h4
  rcases (by grind : 1 ≤ rtq s n ∨ 0 < 1 - rtq s n) with h0 | h0
  · exact h0
  · have := Rat.mul_nonneg (show (0 : Rat) ≤ 1 - rtq s n by grind) h1
    grind
theorem rtq_sq (s : Nat) : Nul fun n => rtq s n * rtq s n - (s : Rat) := by
  refine ⟨2 * ((s : Rat) + 1), by have := nat_nn s; grind, fun n => ?_⟩
  show -(2 * ((s : Rat) + 1)) ≤ (rtq s n * rtq s n - (s : Rat)) * ((n : Rat) + 1) ∧ (rtq s n * rtq s n - (s : Rat)) * ((n : Rat) + 1) ≤ 2 * ((s : Rat) + 1)
  have h := rtq_t s n
  have hn := nat_nn n
  obtain ⟨f1, f2, f3⟩ := sqrt_facts s n
  generalize hr : Nat.sqrt (s * ((n + 1) * (n + 1))) = r at *
  have g1 : (r : Rat) * r ≤ s * (((n : Rat) + 1) * ((n : Rat) + 1)) := by exact_mod_cast f1
  have g2 : (s : Rat) * (((n : Rat) + 1) * ((n : Rat) + 1)) ≤ r * r + 2 * r := by exact_mod_cast f2
  have g3 := rtq_le s n
  have key : ∀ x : Rat, x * ((n : Rat) + 1) ≤ 0 → x ≤ 0 := fun x hx => by
    rcases (by grind : x ≤ 0 ∨ 0 ≤ x) with h0 | h0
    · grind
    · have := Rat.mul_nonneg h0 hn
      grind
  rw [← h] at g1 g2
  clear f1 f2 f3 h hr
  have hs := nat_nn s
  generalize rtq s n = x at *
  have e1 : (x * x - (s : Rat)) * ((n : Rat) + 1) * ((n : Rat) + 1) = x * ((n : Rat) + 1) * (x * ((n : Rat) + 1)) - (s : Rat) * (((n : Rat) + 1) * ((n : Rat) + 1)) := by grind
  have e2 : (-(x * x - (s : Rat)) * ((n : Rat) + 1) - 2 * x) * ((n : Rat) + 1) = -(x * ((n : Rat) + 1) * (x * ((n : Rat) + 1)) - (s : Rat) * (((n : Rat) + 1) * ((n : Rat) + 1))) - 2 * (x * ((n : Rat) + 1)) := by grind
  have k1 := key ((x * x - (s : Rat)) * ((n : Rat) + 1)) (by rw [e1]; grind)
  have k2 := key (-(x * x - (s : Rat)) * ((n : Rat) + 1) - 2 * x) (by rw [e2]; grind)
  clear key e1 e2 g1 g2
  generalize (x * x - (s : Rat)) = z at *
  have e3 : -z * ((n : Rat) + 1) = -(z * ((n : Rat) + 1)) := by grind
  rw [e3] at k2
  generalize z * ((n : Rat) + 1) = u at *
  constructor <;> grind
theorem nul_root {x y : Nat → Rat} (hx : ∀ n, 0 ≤ x n) (hy : ∀ n, 1 ≤ y n) (h : Nul fun n => x n * x n - y n * y n) : Nul fun n => x n - y n := by
  obtain ⟨C, hC, h1⟩ := h
  refine ⟨C, hC, fun n => ?_⟩
  have h := h1 n
  have g1 := hx n
  have g2 := hy n
  have hn := nat_nn n
  have key : ∀ z : Rat, z * (x n + y n) ≤ C → z ≤ C := fun z hz => by
    rcases (by grind : z ≤ 0 ∨ 0 ≤ z) with h0 | h0
    · grind
    · have := Rat.mul_nonneg h0 (show (0 : Rat) ≤ x n + y n - 1 by grind)
      grind
  have k1 := key ((x n - y n) * ((n : Rat) + 1)) (by grind)
  have k2 := key (-(x n - y n) * ((n : Rat) + 1)) (by grind)
  constructor <;> grind
/-- The root of a product. -/
theorem rtq_mul {a b : Nat} (ha : 0 < a) (hb : 0 < b) : Nul fun n => rtq a n * rtq b n - rtq (a * b) n := by
  refine nul_root (fun n => Rat.mul_nonneg (rtq_nn a n) (rtq_nn b n)) (fun n => rtq_ge (Nat.mul_pos ha hb) n) ?_
  have h1 := (rtq_sq a).mul ((rtq_bnd b).mul (rtq_bnd b))
  have h2 := (rtq_sq b).mul (Bnd.const (a : Rat))
  have h3 := rtq_sq (a * b)
  refine ((h1.add h2).add h3.neg).congr fun n => ?_
  have : ((a * b : Nat) : Rat) = (a : Rat) * (b : Rat) := by exact_mod_cast rfl
  rw [this]
  grind

/-- What the roots of numbers generate, but for what goes to nought. -/
def El : List Nat → (Nat → Rat) → Prop
  | [], f => ∃ m : Int, Nul fun n => f n - (m : Rat)
  | p :: ps, f => ∃ a b, El ps a ∧ El ps b ∧ Nul fun n => f n - (a n + b n * rtq p n)
theorem El.bnd : ∀ {ps f}, El ps f → Bnd f
  | [], f, ⟨m, h⟩ => by
    have := h.bnd.add (Bnd.const (m : Rat))
    rwa [show (fun n => f n - (m : Rat) + m) = f from funext fun n => by grind] at this
  | p :: ps, f, ⟨a, b, ha, hb, h⟩ => by
    have := h.bnd.add (ha.bnd.add (hb.bnd.mul (rtq_bnd p)))
    rwa [show (fun n => f n - (a n + b n * rtq p n) + (a n + b n * rtq p n)) = f from funext fun n => by grind] at this
theorem El.near : ∀ {ps f g}, El ps f → (Nul fun n => g n - f n) → El ps g
  | [], f, g, ⟨m, h⟩, hg => ⟨m, (h.add hg).congr fun n => by grind⟩
  | p :: ps, f, g, ⟨a, b, ha, hb, h⟩, hg => ⟨a, b, ha, hb, (h.add hg).congr fun n => by grind⟩
theorem El.int : ∀ (ps : List Nat) (m : Int), El ps fun _ => (m : Rat)
  | [], m => ⟨m, Nul.zero.congr fun n => by grind⟩
  | p :: ps, m => ⟨_, _, El.int ps m, El.int ps 0, Nul.zero.congr fun n => by have : ((0 : Int) : Rat) = 0 := rfl; rw [this]; grind⟩
theorem El.add : ∀ {ps f g}, El ps f → El ps g → El ps fun n => f n + g n
  | [], f, g, ⟨m, h⟩, ⟨k, h2⟩ => ⟨m + k, (h.add h2).congr fun n => by have : ((m + k : Int) : Rat) = (m : Rat) + k := Rat.intCast_add _ _; rw [this]; grind⟩
  | p :: ps, f, g, ⟨a, b, ha, hb, h⟩, ⟨c, d, hc, hd, h2⟩ => ⟨_, _, ha.add hc, hb.add hd, (h.add h2).congr fun n => by grind⟩
theorem El.neg : ∀ {ps f}, El ps f → El ps fun n => -f n
  | [], f, ⟨m, h⟩ => ⟨-m, h.neg.congr fun n => by have : ((-m : Int) : Rat) = -(m : Rat) := Rat.intCast_neg _; rw [this]; grind⟩
  | p :: ps, f, ⟨a, b, ha, hb, h⟩ => ⟨_, _, ha.neg, hb.neg, h.neg.congr fun n => by grind⟩
theorem El.nat (ps : List Nat) (m : Nat) : El ps fun _ => (m : Rat) := El.int ps m
theorem El.mul : ∀ {ps f g}, El ps f → El ps g → El ps fun n => f n * g n
  | [], f, g, ⟨m, h⟩, ⟨k, h2⟩ => ⟨m * k, by
      have hg := El.bnd (ps := []) ⟨k, h2⟩
      refine ((h.mul hg).add (h2.mul (Bnd.const (m : Rat)))).congr fun n => ?_
      have : ((m * k : Int) : Rat) = (m : Rat) * k := Rat.intCast_mul _ _
      rw [this]; grind⟩
  | p :: ps, f, g, ⟨a, b, ha, hb, h⟩, ⟨c, d, hc, hd, h2⟩ => by
    have hf : Bnd f := El.bnd (ps := p :: ps) ⟨a, b, ha, hb, h⟩
    refine ⟨_, _, (ha.mul hc).add ((El.nat ps p).mul (hb.mul hd)), (ha.mul hd).add (hb.mul hc), ?_⟩
    refine (((h2.mul hf).add (h.mul (hc.bnd.add (hd.bnd.mul (rtq_bnd p))))).add ((rtq_sq p).mul (hb.bnd.mul hd.bnd))).congr fun n => ?_
    grind
theorem El.up {p : Nat} {ps : List Nat} {f : Nat → Rat} (h : El ps f) : El (p :: ps) f := ⟨f, _, h, El.int ps 0, Nul.zero.congr fun n => by have : ((0 : Int) : Rat) = 0 := rfl; rw [this]; grind⟩

/-- A number, times the product of any of these, is no square. -/
def Gd : List Nat → Nat → Prop
  | [], q => ∀ m : Nat, m * m ≠ q
  | p :: ps, q => Gd ps q ∧ Gd ps (p * q)
/-- Of these numbers each one is independent of those behind it. -/
def Ind : List Nat → Prop
  | [] => True
  | p :: ps => Ind ps ∧ 0 < p ∧ Gd ps p
theorem sq_zero {q : Nat} (hq : ∀ m : Nat, m * m ≠ q) {m k : Nat} (h : m * m = q * (k * k)) : m = 0 ∧ k = 0 := by
  by_cases hk : k = 0
  · subst hk
    have h0 : m * m = 0 := by simpa using h
    exact ⟨by rcases Nat.mul_eq_zero.1 h0 with h | h <;> exact h, rfl⟩
  · exfalso
    have h1 : k ^ 2 ∣ m ^ 2 := ⟨q, by rw [Nat.pow_two, Nat.pow_two, h, Nat.mul_comm]⟩
    obtain ⟨c, hc⟩ := (Nat.pow_dvd_pow_iff (by omega)).1 h1
    subst hc
    refine hq c ?_
    have h2 : (k * k) * (c * c) = (k * k) * q := by grind
    exact Nat.eq_of_mul_eq_mul_left (Nat.mul_pos (by omega) (by omega)) h2
theorem nul_const_mul {f : Nat → Rat} {c : Rat} (hc : c ≠ 0) (h : Nul fun n => c * f n) : Nul f := by
  refine (h.mul (Bnd.const c⁻¹)).congr fun n => ?_
  have := Rat.mul_inv_cancel c hc
  grind
theorem natR_pos {p : Nat} (h : 0 < p) : (p : Rat) ≠ 0 := by
  have : (p : Rat) ≠ ((0 : Nat) : Rat) := by exact_mod_cast (by omega : p ≠ 0)
  exact this
theorem el_main : ∀ ps, Ind ps → (∀ f, El ps f → Nul f ∨ ∃ y, El ps y ∧ ∃ m : Int, m ≠ 0 ∧ Nul fun n => f n * y n - (m : Rat)) ∧
    ∀ q, Gd ps q → ∀ f g, El ps f → El ps g → (Nul fun n => f n * f n - (q : Rat) * (g n * g n)) → Nul f ∧ Nul g
  | [], _ => by
    refine ⟨fun f ⟨m, h⟩ => ?_, fun q hq f g ⟨m, h⟩ ⟨k, h2⟩ h3 => ?_⟩
    · by_cases hm : m = 0
      · subst hm
        exact .inl (h.congr fun n => by have : ((0 : Int) : Rat) = 0 := rfl; rw [this]; grind)
      · exact .inr ⟨_, El.int [] 1, m, hm, h.congr fun n => by have : ((1 : Int) : Rat) = 1 := rfl; rw [this]; grind⟩
    · have hf : Bnd f := El.bnd (ps := []) ⟨m, h⟩
      have hg : Bnd g := El.bnd (ps := []) ⟨k, h2⟩
      have h4 : Nul fun _ => (m : Rat) * m - (q : Rat) * ((k : Rat) * k) := by
        refine ((h3.add ((h.mul (hf.add (Bnd.const (m : Rat)))).neg)).add ((h2.mul (hg.add (Bnd.const (k : Rat)))).mul (Bnd.const (q : Rat)))).congr fun n => ?_
        grind
      have h5 := h4.const
      have h6 : m * m - (q : Int) * (k * k) = 0 := by
        have : ((m * m - (q : Int) * (k * k) : Int) : Rat) = ((0 : Int) : Rat) := by
          rw [Rat.intCast_sub, Rat.intCast_mul, Rat.intCast_mul, Rat.intCast_mul]
          exact h5
        exact_mod_cast this
      have h7 : m.natAbs * m.natAbs = q * (k.natAbs * k.natAbs) := by
        have e1 : (m.natAbs : Int) * m.natAbs = m * m := Int.natAbs_mul_self
        have e2 : (k.natAbs : Int) * k.natAbs = k * k := Int.natAbs_mul_self
        have : ((m.natAbs * m.natAbs : Nat) : Int) = ((q * (k.natAbs * k.natAbs) : Nat) : Int) := by
          push_cast at *
          rw [e1, e2]; omega
        exact_mod_cast this
      obtain ⟨z1, z2⟩ := sq_zero hq h7
      obtain rfl : m = 0 := by omega
      obtain rfl : k = 0 := by omega
      exact ⟨h.congr fun n => by have : ((0 : Int) : Rat) = 0 := rfl; rw [this]; grind, h2.congr fun n => by have : ((0 : Int) : Rat) = 0 := rfl; rw [this]; grind⟩
  | p :: ps, ⟨hi, hp, hpg⟩ => by
    obtain ⟨ihF, ihS⟩ := el_main ps hi
    -- what is free over ps
    have free : ∀ U V, El ps U → El ps V → (Nul fun n => U n + V n * rtq p n) → Nul U ∧ Nul V := fun U V hU hV h => by
      refine ihS p hpg U V hU hV ?_
      refine ((h.mul (hU.bnd.add (hV.bnd.mul (rtq_bnd p)).neg)).add ((rtq_sq p).mul (hV.bnd.mul hV.bnd))).congr fun n => ?_
      grind
    have dom : ∀ X Y, El ps X → El ps Y → (Nul fun n => X n * Y n) → Nul X ∨ Nul Y := fun X Y hX hY h => by
      rcases ihF X hX with h1 | ⟨y, hy, m, hm, h1⟩
      · exact .inl h1
      · right
        have hm' : (m : Rat) ≠ 0 := by
          have : (m : Rat) ≠ ((0 : Int) : Rat) := by exact_mod_cast hm
          exact this
        refine nul_const_mul hm' ?_
        refine ((h.mul hy.bnd).add (h1.mul hY.bnd).neg).congr fun n => ?_
        grind
    refine ⟨fun f hf => ?_, fun q hq f g hf hg h => ?_⟩
    · obtain ⟨a, b, ha, hb, h⟩ := hf
      have hN := (ha.mul ha).add ((El.nat ps p).mul (hb.mul hb)).neg
      rcases ihF _ hN with h1 | ⟨y, hy, m, hm, h1⟩
      · left
        obtain ⟨z1, z2⟩ := ihS p hpg a b ha hb (h1.congr fun n => by grind)
        exact ((h.add z1).add (z2.mul (rtq_bnd p))).congr fun n => by grind
      · right
        refine ⟨fun n => (a n + -(b n) * rtq p n) * y n, El.mul (ps := p :: ps) ⟨a, fun n => -b n, ha, hb.neg, Nul.zero.congr fun n => by grind⟩ hy.up, m, hm, ?_⟩
        refine ((h1.add (h.mul ((ha.bnd.add (hb.neg.bnd.mul (rtq_bnd p))).mul hy.bnd))).add ((rtq_sq p).mul ((hb.bnd.mul hb.bnd).mul hy.bnd)).neg).congr fun n => ?_
        grind
    · obtain ⟨a, b, ha, hb, h1⟩ := hf
      obtain ⟨c, d, hc, hd, h2⟩ := hg
      have hfB : Bnd f := El.bnd (ps := p :: ps) ⟨a, b, ha, hb, h1⟩
      have hgB : Bnd g := El.bnd (ps := p :: ps) ⟨c, d, hc, hd, h2⟩
      have hP := El.nat ps p
      have hQ := El.nat ps q
      have hU := ((ha.mul ha).add (hP.mul (hb.mul hb))).add ((hQ.mul ((hc.mul hc).add (hP.mul (hd.mul hd)))).neg)
      have hV := (El.nat ps 2).mul ((ha.mul hb).add ((hQ.mul (hc.mul hd)).neg))
      obtain ⟨u0, v0⟩ := free _ _ hU hV (by
        have k1 := (h1.mul (hfB.add (ha.bnd.add (hb.bnd.mul (rtq_bnd p))))).neg
        have k2 := (h2.mul (hgB.add (hc.bnd.add (hd.bnd.mul (rtq_bnd p))))).mul (Bnd.const (q : Rat))
        have k3 := ((rtq_sq p).mul (hb.bnd.mul hb.bnd)).neg
        have k4 := ((rtq_sq p).mul (hd.bnd.mul hd.bnd)).mul (Bnd.const (q : Rat))
        refine ((((h.add k1).add k2).add k3).add k4).congr fun n => ?_
        have : ((2 : Nat) : Rat) = 2 := rfl
        rw [this]
        grind)
      have v1 : Nul fun n => a n * b n - (q : Rat) * (c n * d n) := by
        refine nul_const_mul (c := 2) (by grind) (v0.congr fun n => ?_)
        have : ((2 : Nat) : Rat) = 2 := rfl
        rw [this]
        grind
      have epq : ((p * q : Nat) : Rat) = (p : Rat) * q := by exact_mod_cast rfl
      have hX := (ha.mul ha).add ((hQ.mul (hc.mul hc)).neg)
      have hY := (ha.mul ha).add (((El.nat ps (p * q)).mul (hd.mul hd)).neg)
      have hp0 := natR_pos hp
      have fin : Nul a → Nul b → Nul c → Nul d → Nul f ∧ Nul g := fun za zb zc zd =>
        ⟨((h1.add za).add (zb.mul (rtq_bnd p))).congr fun n => by grind, ((h2.add zc).add (zd.mul (rtq_bnd p))).congr fun n => by grind⟩
      rcases dom _ _ hX hY (by
        have k1 := u0.mul (ha.bnd.mul ha.bnd)
        have k2 := (v1.mul ((ha.bnd.mul hb.bnd).add ((Bnd.const (q : Rat)).mul (hc.bnd.mul hd.bnd)))).mul (Bnd.const (p : Rat))
        refine (k1.add k2.neg).congr fun n => ?_
        rw [epq]
        grind) with z | z
      · obtain ⟨za, zc⟩ := ihS q hq.1 a c ha hc (z.congr fun n => by grind)
        obtain ⟨zb, zd⟩ := ihS q hq.1 b d hb hd (by
          refine nul_const_mul hp0 ?_
          refine ((u0.add (za.mul ha.bnd).neg).add ((zc.mul hc.bnd).mul (Bnd.const (q : Rat)))).congr fun n => ?_
          grind)
        exact fin za zb zc zd
      · obtain ⟨za, zd⟩ := ihS (p * q) hq.2 a d ha hd (z.congr fun n => by grind)
        obtain ⟨zb, zc⟩ := ihS (p * q) hq.2 _ c (hP.mul hb) hc (by
          refine (((u0.add (za.mul ha.bnd).neg).add ((zd.mul hd.bnd).mul (Bnd.const ((p : Rat) * q)))).mul (Bnd.const (p : Rat))).congr fun n => ?_
          rw [epq]
          grind)
        exact fin za (nul_const_mul hp0 zb) zc zd
/-- Freeness. -/
theorem el_free {p : Nat} {ps : List Nat} (h : Ind (p :: ps)) {U V : Nat → Rat} (hU : El ps U) (hV : El ps V) (h0 : Nul fun n => U n + V n * rtq p n) : Nul U ∧ Nul V := by
  refine (el_main ps h.1).2 p h.2.2 U V hU hV ?_
  refine ((h0.mul (hU.bnd.add (hV.bnd.mul (rtq_bnd p)).neg)).add ((rtq_sq p).mul (hV.bnd.mul hV.bnd))).congr fun n => ?_
  grind
/-- What does not go to nought stays away from it. -/
theorem el_apart {ps : List Nat} (h : Ind ps) {f : Nat → Rat} (hf : El ps f) (h0 : ¬ Nul f) : ∃ (c : Rat) (N : Nat), 0 < c ∧ ∀ n, N ≤ n → c ≤ f n ∨ f n ≤ -c := by
  rcases (el_main ps h).1 f hf with h1 | ⟨y, hy, m, hm, h1⟩
  · exact absurd h1 h0
  obtain ⟨C, hC, hy1⟩ := hy.bnd
  obtain ⟨D, hD, h2⟩ := h1
  refine ⟨(2 * (C + 1))⁻¹, (2 * D).ceil.toNat, Rat.inv_pos.2 (by grind), fun n hn => ?_⟩
  have hn1 : 2 * D ≤ (n : Rat) + 1 := by
    have g1 : 2 * D ≤ ((2 * D).ceil : Rat) := Rat.le_ceil
    have g2 : ((2 * D).ceil : Rat) ≤ ((n : Int) : Rat) := by
      have : (2 * D).ceil ≤ (n : Int) := by omega
      exact_mod_cast this
    have g3 : ((n : Int) : Rat) = (n : Rat) := rfl
    grind
  obtain ⟨h3, h4⟩ := h2 n
  obtain ⟨h5, h6⟩ := hy1 n
  have hnn := nat_nn n
  have hc : (2 * (C + 1))⁻¹ * (2 * (C + 1)) = 1 := Rat.inv_mul_cancel _ (by grind)
  have hc0 : 0 < (2 * (C + 1))⁻¹ := Rat.inv_pos.2 (by grind)
  generalize (2 * (C + 1))⁻¹ = c at *
  -- f y is at least a half, up to its sign
  have half : ∀ x : Rat, x * ((n : Rat) + 1) ≤ D → x ≤ 1 / 2 := fun x hx => by
    rcases (by grind : x ≤ 1 / 2 ∨ 0 < x - 1 / 2) with h0 | h0
    · exact h0
    · exfalso
      have := Rat.mul_pos h0 (show (0 : Rat) < (n : Rat) + 1 by grind)
      have e : (x - 1 / 2) * ((n : Rat) + 1) = x * ((n : Rat) + 1) - 1 / 2 * ((n : Rat) + 1) := by grind
      grind
  have k1 := half (f n * y n - (m : Rat)) h4
  have k2 := half (-(f n * y n - (m : Rat))) (by grind)
  have hm1 : (1 : Rat) ≤ (m : Rat) ∨ (m : Rat) ≤ -1 := by
    rcases (by omega : (1 : Int) ≤ m ∨ m ≤ -1) with h | h
    · left; exact_mod_cast h
    · right
      have h1 : (m : Rat) ≤ ((-1 : Int) : Rat) := Rat.intCast_le_intCast.2 h
      have h2 : ((-1 : Int) : Rat) = -1 := rfl
      rwa [h2] at h1
  rcases (by grind : (c ≤ f n ∨ f n ≤ -c) ∨ (f n < c ∧ -c < f n)) with h0 | ⟨h7, h8⟩
  · exact h0
  · exfalso
    obtain ⟨p1, p2⟩ := prod_le (by grind : -c ≤ f n) (by grind : f n ≤ c) h5 h6
    have : c * C ≤ 1 / 2 - c := by grind
    grind
end Go.Proofs.Ytlmhgcllikcedaa
/- Roots of different square-free numbers: a sum of them that goes to nought has no coefficient. Plain. -/
namespace Go.Proofs.Ytlmhgcllikcedaa

/-- No square but 1 divides it. -/
def SqF (s : Nat) : Prop := 0 < s ∧ ∀ d, 1 < d → ¬ d * d ∣ s
def Prm (p : Nat) : Prop := 1 < p ∧ ∀ d, d ∣ p → d = 1 ∨ d = p
theorem Prm.cop {p r : Nat} (hp : Prm p) (h : ¬ p ∣ r) : Nat.Coprime p r := by
  rcases hp.2 _ (Nat.gcd_dvd_left p r) with h1 | h1
  · exact h1
  · exact absurd (h1 ▸ Nat.gcd_dvd_right p r) h
theorem Prm.dvd_mul {p a b : Nat} (hp : Prm p) (h : p ∣ a * b) : p ∣ a ∨ p ∣ b := by
  by_cases ha : p ∣ a
  · exact .inl ha
  · exact .inr ((hp.cop ha).dvd_of_dvd_mul_left h)
theorem prm_exists : ∀ n : Nat, 1 < n → ∃ p, Prm p ∧ p ∣ n := by
  intro n
  induction n using Nat.strongRecOn with
  | _ n ih =>
    intro hn
    by_cases h : ∃ d, d ∣ n ∧ d ≠ 1 ∧ d ≠ n
    · obtain ⟨d, h1, h2, h3⟩ := h
      have hd := Nat.le_of_dvd (by omega) h1
      have hd0 : 0 < d := Nat.pos_of_dvd_of_pos h1 (by omega)
      obtain ⟨p, hp, hpd⟩ := ih d (by omega) (by omega)
      exact ⟨p, hp, Nat.dvd_trans hpd h1⟩
    · exact ⟨n, ⟨hn, fun d hd => by
        by_cases h1 : d = 1
        · exact .inl h1
        · right
          by_cases h2 : d = n
          · exact h2
          · exact absurd ⟨d, hd, h1, h2⟩ h⟩, Nat.dvd_refl _⟩
/-- A list of different primes. -/
def PL : List Nat → Prop
  | [] => True
  | p :: ps => PL ps ∧ Prm p ∧ ∀ r ∈ ps, Prm r ∧ r ≠ p
theorem gd_of {p : Nat} (hp : Prm p) : ∀ (ps : List Nat) (q : Nat), (∀ r ∈ ps, ¬ p ∣ r) → p ∣ q → ¬ p * p ∣ q → Gd ps q
  | [], q, _, h1, h2 => fun m hm => by
    subst hm
    rcases hp.dvd_mul h1 with h | h <;> exact h2 (Nat.mul_dvd_mul h h)
  | r :: ps, q, h, h1, h2 => by
    have hr := h r (by simp)
    refine ⟨gd_of hp ps q (fun s hs => h s (by simp [hs])) h1 h2, gd_of hp ps (r * q) (fun s hs => h s (by simp [hs])) (Nat.dvd_trans h1 (Nat.dvd_mul_left _ _)) fun hd => h2 ?_⟩
    have hc := hp.cop hr
    exact (Nat.Coprime.mul_left hc hc).dvd_of_dvd_mul_left hd
theorem PL.ind : ∀ {ps}, PL ps → Ind ps
  | [], _ => trivial
  | p :: ps, ⟨h1, hp, h2⟩ => ⟨h1.ind, by have := hp.1; omega, gd_of hp ps p (fun r hr hd => by
      obtain ⟨h3, h4⟩ := h2 r hr
      rcases h3.2 p hd with h | h
      · have := hp.1; omega
      · exact h4 h.symm) (Nat.dvd_refl _) fun hd => by
      have h5 := Nat.le_of_dvd (by have := hp.1; omega) hd
      have h6 : p * 2 ≤ p * p := Nat.mul_le_mul_left p hp.1
      have := hp.1
      omega⟩
/-- Products of some of them. -/
def Sub : List Nat → Nat → Prop
  | [], s => s = 1
  | p :: ps, s => Sub ps s ∨ ∃ s', s = p * s' ∧ Sub ps s'
theorem Sub.not_dvd {p : Nat} (hp : Prm p) : ∀ {ps : List Nat} {s : Nat}, (∀ r ∈ ps, Prm r ∧ r ≠ p) → Sub ps s → ¬ p ∣ s
  | [], s, _, h => by
    obtain rfl : s = 1 := h
    intro hd
    have := Nat.le_of_dvd (by omega) hd
    have := hp.1
    omega
  | r :: ps, s, h, hs => by
    obtain ⟨h1, h2⟩ := h r (by simp)
    rcases hs with hs | ⟨s', rfl, hs⟩
    · exact hs.not_dvd hp fun x hx => h x (by simp [hx])
    · intro hd
      rcases hp.dvd_mul hd with h3 | h3
      · rcases h1.2 p h3 with h4 | h4
        · have := hp.1; omega
        · exact h2 h4.symm
      · exact hs.not_dvd hp (fun x hx => h x (by simp [hx])) h3
theorem Sub.pos : ∀ {ps : List Nat} {s : Nat}, PL ps → Sub ps s → 0 < s
  | [], s, _, h => by obtain rfl : s = 1 := h; omega
  | p :: ps, s, hp, h => by
    rcases h with h | ⟨s', rfl, h⟩
    · exact h.pos hp.1
    · exact Nat.mul_pos (by have := hp.2.1.1; omega) (h.pos hp.1)
theorem sub_of : ∀ {ps : List Nat} {s : Nat}, PL ps → SqF s → (∀ p, Prm p → p ∣ s → p ∈ ps) → Sub ps s
  | [], s, _, hs, h => by
    by_cases h1 : s = 1
    · exact h1
    · obtain ⟨p, hp, hd⟩ := prm_exists s (by have := hs.1; omega)
      exact absurd (h p hp hd) (by simp)
  | p :: ps, s, hP, hs, h => by
    by_cases hd : p ∣ s
    · obtain ⟨s', rfl⟩ := hd
      right
      refine ⟨s', rfl, sub_of hP.1 ⟨Nat.pos_of_ne_zero fun e => by subst e; have := hs.1; omega, fun d hd1 hd2 => hs.2 d hd1 (Nat.dvd_trans hd2 (Nat.dvd_mul_left _ _))⟩ fun q hq hqd => ?_⟩
      have := h q hq (Nat.dvd_trans hqd (Nat.dvd_mul_left _ _))
      rcases List.mem_cons.1 this with rfl | h2
      · exact absurd (Nat.mul_dvd_mul_left q hqd) (hs.2 q hq.1)
      · exact h2
    · left
      refine sub_of hP.1 hs fun q hq hqd => ?_
      rcases List.mem_cons.1 (h q hq hqd) with rfl | h2
      · exact absurd hqd hd
      · exact h2
/-- The primes below M. -/
theorem prs_ex : ∀ M : Nat, ∃ ps, PL ps ∧ ∀ r, r ∈ ps ↔ Prm r ∧ r < M
  | 0 => ⟨[], trivial, fun r => by simp⟩
  | M + 1 => by
    obtain ⟨ps, h1, h2⟩ := prs_ex M
    by_cases hM : Prm M
    · refine ⟨M :: ps, ⟨h1, hM, fun r hr => ?_⟩, fun r => ?_⟩
      · obtain ⟨h3, h4⟩ := (h2 r).1 hr
        exact ⟨h3, by omega⟩
      · rw [List.mem_cons, h2]
        constructor
        · rintro (rfl | ⟨h1, h2⟩)
          · exact ⟨hM, by omega⟩
          · exact ⟨h1, by omega⟩
        · rintro ⟨h1, h2⟩
          by_cases h : r = M
          · exact .inl h
          · exact .inr ⟨h1, by omega⟩
    · refine ⟨ps, h1, fun r => ?_⟩
      rw [h2]
      constructor
      · rintro ⟨h1, h2⟩
        exact ⟨h1, by omega⟩
      · rintro ⟨h1, h2⟩
        refine ⟨h1, ?_⟩
        by_cases h : r = M
        · subst h; exact absurd h1 hM
        · omega
/-- What coefficients at the products stand for. -/
def spn : List Nat → (Nat → Int) → Nat → Rat
  | [], c, _ => (c 1 : Rat)
  | p :: ps, c, n => spn ps c n + spn ps (fun s => c (p * s)) n * rtq p n
theorem spn_el : ∀ (ps : List Nat) (c : Nat → Int), El ps (spn ps c)
  | [], c => ⟨c 1, Nul.zero.congr fun n => by show (c 1 : Rat) - c 1 = 0; grind⟩
  | p :: ps, c => ⟨_, _, spn_el ps c, spn_el ps fun s => c (p * s), Nul.zero.congr fun n => by show spn ps c n + spn ps (fun s => c (p * s)) n * rtq p n - (spn ps c n + spn ps (fun s => c (p * s)) n * rtq p n) = 0; grind⟩
theorem spn_free : ∀ {ps : List Nat} {c : Nat → Int}, Ind ps → Nul (spn ps c) → ∀ s, Sub ps s → c s = 0
  | [], c, _, h, s, hs => by
    obtain rfl : s = 1 := hs
    have : ((c 1 : Int) : Rat) = ((0 : Int) : Rat) := Nul.const h
    exact_mod_cast this
  | p :: ps, c, hi, h, s, hs => by
    obtain ⟨h1, h2⟩ := el_free hi (spn_el ps c) (spn_el ps _) h
    rcases hs with hs | ⟨s', rfl, hs⟩
    · exact spn_free hi.1 h1 s hs
    · exact spn_free hi.1 h2 s' hs
theorem spn_add : ∀ (ps : List Nat) (c d : Nat → Int) (n : Nat), spn ps (fun s => c s + d s) n = spn ps c n + spn ps d n
  | [], c, d, n => by show ((c 1 + d 1 : Int) : Rat) = _; rw [Rat.intCast_add]; rfl
  | p :: ps, c, d, n => by
    have h1 := spn_add ps c d n
    have h2 := spn_add ps (fun s => c (p * s)) (fun s => d (p * s)) n
    show spn ps (fun s => c s + d s) n + spn ps (fun s => c (p * s) + d (p * s)) n * rtq p n = spn ps c n + spn ps (fun s => c (p * s)) n * rtq p n + (spn ps d n + spn ps (fun s => d (p * s)) n * rtq p n)
    rw [h1, h2]
    grind
theorem spn_zero : ∀ (ps : List Nat) (c : Nat → Int) (n : Nat), (∀ s, Sub ps s → c s = 0) → spn ps c n = 0
  | [], c, n, h => by show ((c 1 : Int) : Rat) = 0; rw [h 1 rfl]; rfl
  | p :: ps, c, n, h => by
    have h1 := spn_zero ps c n fun s hs => h s (.inl hs)
    have h2 := spn_zero ps (fun s => c (p * s)) n fun s hs => h _ (.inr ⟨s, rfl, hs⟩)
    show spn ps c n + spn ps (fun s => c (p * s)) n * rtq p n = 0
    rw [h1, h2]
    grind
theorem spn_one : ∀ (ps : List Nat) (s : Nat) (k : Int), PL ps → Sub ps s → Nul fun n => spn ps (fun x => if x = s then k else 0) n - (k : Rat) * rtq s n
  | [], s, k, _, hs => by
    obtain rfl : s = 1 := hs
    refine Nul.zero.congr fun n => ?_
    have : rtq 1 n = 1 := by
      have h := rtq_t 1 n
      have h2 : Nat.sqrt (1 * ((n + 1) * (n + 1))) = n + 1 := by
        have h1 := Nat.sqrt_le (1 * ((n + 1) * (n + 1)))
        have h3 := Nat.lt_succ_sqrt (1 * ((n + 1) * (n + 1)))
        rw [Nat.one_mul] at *
        rw [Nat.succ_eq_add_one] at h3
        have h4 := Nat.mul_self_le_mul_self_iff.1 h1
        have h5 := Nat.mul_self_lt_mul_self_iff.1 h3
        omega
      rw [h2] at h
      have h3 : ((n + 1 : Nat) : Rat) = (n : Rat) + 1 := by exact_mod_cast rfl
      rw [h3] at h
      have hn := nat_nn n
      rcases (by grind : rtq 1 n = 1 ∨ 0 < rtq 1 n - 1 ∨ 0 < 1 - rtq 1 n) with h0 | h0 | h0
      · exact h0
      · have := Rat.mul_pos h0 (show (0 : Rat) < (n : Rat) + 1 by grind); grind
      · have := Rat.mul_pos h0 (show (0 : Rat) < (n : Rat) + 1 by grind); grind
    show ((if (1 : Nat) = 1 then k else 0 : Int) : Rat) - (k : Rat) * rtq 1 n = 0
    rw [if_pos rfl, this]
    grind
  | p :: ps, s, k, hP, hs => by
    obtain ⟨hP1, hp, hps⟩ := hP
    rcases hs with hs | ⟨s', rfl, hs⟩
    · refine (spn_one ps s k hP1 hs).congr fun n => ?_
      have h2 := spn_zero ps (fun x => if p * x = s then k else 0) n fun x _ => by
        have := hs.not_dvd hp hps
        rw [if_neg]
        rintro rfl
        exact this (Nat.dvd_mul_right _ _)
      show spn ps (fun x => if x = s then k else 0) n + spn ps (fun x => if p * x = s then k else 0) n * rtq p n - (k : Rat) * rtq s n = _
      rw [h2]
      grind
    · have h1 := spn_one ps s' k hP1 hs
      have hm := rtq_mul (show 0 < p by have := hp.1; omega) (hs.pos hP1)
      refine ((h1.mul (rtq_bnd p)).add (hm.mul (Bnd.const (k : Rat)))).congr fun n => ?_
      have h2 := spn_zero ps (fun x => if x = p * s' then k else 0) n fun x hx => by
        have := hx.not_dvd hp hps
        rw [if_neg]
        rintro rfl
        exact this (Nat.dvd_mul_right _ _)
      have h3 : (fun x => if p * x = p * s' then k else 0) = fun x => if x = s' then k else 0 := funext fun x => by
        have : p * x = p * s' ↔ x = s' := ⟨fun h => Nat.eq_of_mul_eq_mul_left (by have := hp.1; omega) h, fun h => by rw [h]⟩
        by_cases hx : x = s'
        · rw [if_pos hx, if_pos (this.2 hx)]
        · rw [if_neg hx, if_neg fun h => hx (this.1 h)]
      show spn ps (fun x => if x = p * s' then k else 0) n + spn ps (fun x => if p * x = p * s' then k else 0) n * rtq p n - (k : Rat) * rtq (p * s') n = _
      rw [h2, h3]
      grind
/-- The value of a sum of roots, to 1 / (n + 1). -/
def valR : List (Int × Nat) → Nat → Rat
  | [], _ => 0
  | x :: l, n => (x.1 : Rat) * rtq x.2 n + valR l n
/-- The coefficient of a root. -/
def cfR (l : List (Int × Nat)) (s : Nat) : Int := match l with
  | [] => 0
  | x :: l => (if s = x.2 then x.1 else 0) + cfR l s
theorem val_spn {ps : List Nat} (hP : PL ps) : ∀ l : List (Int × Nat), (∀ x ∈ l, Sub ps x.2) → Nul fun n => spn ps (cfR l) n - valR l n
  | [], _ => Nul.zero.congr fun n => by
    have := spn_zero ps (cfR []) n fun s _ => rfl
    rw [this]
    show (0 : Rat) - 0 = 0
    grind
  | x :: l, h => by
    have h1 := val_spn hP l fun y hy => h y (by simp [hy])
    have h2 := spn_one ps x.2 x.1 hP (h x (by simp))
    refine (h1.add h2).congr fun n => ?_
    have h3 := spn_add ps (fun s => if s = x.2 then x.1 else 0) (cfR l) n
    have h4 : (fun s => (if s = x.2 then x.1 else 0) + cfR l s) = cfR (x :: l) := rfl
    rw [← h4, h3]
    show _ - ((x.1 : Rat) * rtq x.2 n + valR l n) = _
    grind
theorem sqf_all (M : Nat) : ∃ ps, PL ps ∧ ∀ s, SqF s → s < M → Sub ps s := by
  obtain ⟨ps, h1, h2⟩ := prs_ex M
  exact ⟨ps, h1, fun s hs hM => sub_of h1 hs fun p hp hd => (h2 p).2 ⟨hp, by have := Nat.le_of_dvd hs.1 hd; omega⟩⟩
theorem list_bound : ∀ l : List (Int × Nat), ∃ M, ∀ x ∈ l, x.2 < M
  | [] => ⟨0, by simp⟩
  | x :: l => by
    obtain ⟨M, h⟩ := list_bound l
    refine ⟨M + x.2 + 1, fun y hy => ?_⟩
    rcases List.mem_cons.1 hy with rfl | hy
    · omega
    · have := h y hy; omega
/-- Roots of square-free numbers are independent. -/
theorem roots_free {l : List (Int × Nat)} (hs : ∀ x ∈ l, SqF x.2) (h : Nul (valR l)) {s : Nat} (h1 : SqF s) : cfR l s = 0 := by
  obtain ⟨M, hM⟩ := list_bound ((0, s) :: l)
  obtain ⟨ps, hP, hps⟩ := sqf_all M
  have h2 := val_spn hP l fun x hx => hps _ (hs x hx) (hM x (by simp [hx]))
  exact spn_free hP.ind ((h2.add h).congr fun n => by grind) s (hps s h1 (hM (0, s) (by simp)))
/-- A sum of roots that has a coefficient stays away from nought. -/
theorem roots_apart {l : List (Int × Nat)} (hs : ∀ x ∈ l, SqF x.2) {s : Nat} (h1 : SqF s) (h0 : cfR l s ≠ 0) : ∃ (c : Rat) (N : Nat), 0 < c ∧ ∀ n, N ≤ n → c ≤ valR l n ∨ valR l n ≤ -c := by
  obtain ⟨M, hM⟩ := list_bound l
  obtain ⟨ps, hP, hps⟩ := sqf_all M
  have h2 := val_spn hP l fun x hx => hps _ (hs x hx) (hM x hx)
  exact el_apart hP.ind ((spn_el ps (cfR l)).near (h2.neg.congr fun n => by grind)) fun h => h0 (roots_free hs h h1)
end Go.Proofs.Ytlmhgcllikcedaa
/- Sums of roots under all choices of signs: the product of all is a whole number. Plain. -/
namespace Go.Proofs.Ytlmhgcllikcedaa

def sg (b : Bool) : Rat := if b = true then 1 else -1
theorem sg_sq (b : Bool) : sg b * sg b = 1 := by
  cases b
  · show (-1 : Rat) * -1 = 1; grind
  · show (1 : Rat) * 1 = 1; grind
/-- A number for each choice of signs of these roots, by sums and products of them, but for what goes to nought. -/
def Fam : List Nat → (List Bool → Nat → Rat) → Prop
  | [], F => ∃ m : Int, Nul fun n => F [] n - (m : Rat)
  | s :: ss, F => ∃ A B, Fam ss A ∧ Fam ss B ∧ ∀ e b, e.length = ss.length → Nul fun n => F (b :: e) n - (A e n + sg b * (B e n * rtq s n))
theorem Fam.bnd : ∀ {ss F}, Fam ss F → ∀ e, e.length = ss.length → Bnd (F e)
  | [], F, ⟨m, h⟩, e, he => by
    obtain rfl : e = [] := by simpa using he
    have := h.bnd.add (Bnd.const (m : Rat))
    rwa [show (fun n => F [] n - (m : Rat) + m) = F [] from funext fun n => by grind] at this
  | s :: ss, F, ⟨A, B, ha, hb, h⟩, [], he => by cases he
  | s :: ss, F, ⟨A, B, ha, hb, h⟩, b :: e, he => by
    have hl : e.length = ss.length := by simpa using he
    have := (h e b hl).bnd.add ((ha.bnd e hl).add ((Bnd.const (sg b)).mul ((hb.bnd e hl).mul (rtq_bnd s))))
    rwa [show (fun n => F (b :: e) n - (A e n + sg b * (B e n * rtq s n)) + (A e n + sg b * (B e n * rtq s n))) = F (b :: e) from funext fun n => by grind] at this
theorem Fam.near : ∀ {ss F G}, Fam ss F → (∀ e, e.length = ss.length → Nul fun n => G e n - F e n) → Fam ss G
  | [], F, G, ⟨m, h⟩, hg => ⟨m, (h.add (hg [] rfl)).congr fun n => by grind⟩
  | s :: ss, F, G, ⟨A, B, ha, hb, h⟩, hg => ⟨A, B, ha, hb, fun e b he => ((h e b he).add (hg (b :: e) (by simp [he]))).congr fun n => by grind⟩
theorem Fam.int : ∀ (ss : List Nat) (m : Int), Fam ss fun _ _ => (m : Rat)
  | [], m => ⟨m, Nul.zero.congr fun n => by grind⟩
  | s :: ss, m => ⟨_, _, Fam.int ss m, Fam.int ss 0, fun e b _ => Nul.zero.congr fun n => by have : ((0 : Int) : Rat) = 0 := rfl; rw [this]; grind⟩
theorem Fam.add : ∀ {ss F G}, Fam ss F → Fam ss G → Fam ss fun e n => F e n + G e n
  | [], F, G, ⟨m, h⟩, ⟨k, h2⟩ => ⟨m + k, (h.add h2).congr fun n => by have : ((m + k : Int) : Rat) = (m : Rat) + k := Rat.intCast_add _ _; rw [this]; grind⟩
  | s :: ss, F, G, ⟨A, B, ha, hb, h⟩, ⟨C, D, hc, hd, h2⟩ => ⟨_, _, ha.add hc, hb.add hd, fun e b he => ((h e b he).add (h2 e b he)).congr fun n => by grind⟩
theorem Fam.neg : ∀ {ss F}, Fam ss F → Fam ss fun e n => -F e n
  | [], F, ⟨m, h⟩ => ⟨-m, h.neg.congr fun n => by have : ((-m : Int) : Rat) = -(m : Rat) := Rat.intCast_neg _; rw [this]; grind⟩
  | s :: ss, F, ⟨A, B, ha, hb, h⟩ => ⟨_, _, ha.neg, hb.neg, fun e b he => (h e b he).neg.congr fun n => by grind⟩
theorem Fam.mul : ∀ {ss F G}, Fam ss F → Fam ss G → Fam ss fun e n => F e n * G e n
  | [], F, G, ⟨m, h⟩, ⟨k, h2⟩ => ⟨m * k, by
      have hg := Fam.bnd (ss := []) ⟨k, h2⟩ [] rfl
      refine ((h.mul hg).add (h2.mul (Bnd.const (m : Rat)))).congr fun n => ?_
      have : ((m * k : Int) : Rat) = (m : Rat) * k := Rat.intCast_mul _ _
      rw [this]; grind⟩
  | s :: ss, F, G, ⟨A, B, ha, hb, h⟩, ⟨C, D, hc, hd, h2⟩ => by
    refine ⟨_, _, (ha.mul hc).add ((Fam.int ss s).mul (hb.mul hd)), (ha.mul hd).add (hb.mul hc), fun e b he => ?_⟩
    have hf : Bnd (F (b :: e)) := Fam.bnd (ss := s :: ss) ⟨A, B, ha, hb, h⟩ (b :: e) (by simp [he])
    refine ((((h2 e b he).mul hf).add ((h e b he).mul ((hc.bnd e he).add ((Bnd.const (sg b)).mul ((hd.bnd e he).mul (rtq_bnd s)))))).add ((rtq_sq s).mul ((hb.bnd e he).mul (hd.bnd e he)))).congr fun n => ?_
    have hsg := sg_sq b
    have hs : (((s : Nat) : Int) : Rat) = (s : Rat) := rfl
    rw [hs]
    generalize sg b = z at *
    have e1 : z * (B e n * rtq s n) * (z * (D e n * rtq s n)) = B e n * D e n * (rtq s n * rtq s n) := by
      have : z * (B e n * rtq s n) * (z * (D e n * rtq s n)) = z * z * (B e n * D e n * (rtq s n * rtq s n)) := by grind
      rw [this, hsg]; grind
    grind
/-- The product of both signs of the first root. -/
theorem Fam.norm {s : Nat} {ss : List Nat} {F : List Bool → Nat → Rat} (h : Fam (s :: ss) F) : Fam ss fun e n => F (true :: e) n * F (false :: e) n := by
  have hF := h
  obtain ⟨A, B, ha, hb, h⟩ := h
  refine ((ha.mul ha).add ((Fam.int ss s).mul (hb.mul hb)).neg).near fun e he => ?_
  have g1 := h e true he
  have g2 := h e false he
  have hf : Bnd (F (true :: e)) := hF.bnd (true :: e) (by simp [he])
  refine (((g2.mul hf).add (g1.mul ((ha.bnd e he).add ((hb.bnd e he).mul (rtq_bnd s)).neg))).add ((rtq_sq s).mul ((hb.bnd e he).mul (hb.bnd e he))).neg).congr fun n => ?_
  have hs : (((s : Nat) : Int) : Rat) = (s : Rat) := rfl
  rw [hs, show sg true = 1 from rfl, show sg false = -1 from rfl]
  grind
/-- The product under all choices. -/
def prd : Nat → (List Bool → Nat → Rat) → Nat → Rat
  | 0, F => F []
  | k + 1, F => prd k fun e n => F (true :: e) n * F (false :: e) n
theorem Fam.prd : ∀ {ss F}, Fam ss F → ∃ m : Int, Nul fun n => prd ss.length F n - (m : Rat)
  | [], _, h => h
  | _ :: _, _, h => h.norm.prd
/-- It stays away from nought. -/
def Apt (f : Nat → Rat) : Prop := ∃ (c : Rat) (N : Nat), 0 < c ∧ ∀ n, N ≤ n → c ≤ f n ∨ f n ≤ -c
theorem Apt.mul {f g : Nat → Rat} (hf : Apt f) (hg : Apt g) : Apt fun n => f n * g n := by
  obtain ⟨c, N, hc, h⟩ := hf
  obtain ⟨d, M, hd, h2⟩ := hg
  refine ⟨c * d, N + M, Rat.mul_pos hc hd, fun n hn => ?_⟩
  have hp : ∀ x y : Rat, c ≤ x → d ≤ y → c * d ≤ x * y := fun x y hx hy => by
    have := Rat.mul_nonneg (show (0 : Rat) ≤ x - c by grind) (show (0 : Rat) ≤ y by grind)
    have := Rat.mul_nonneg (show (0 : Rat) ≤ y - d by grind) (show (0 : Rat) ≤ c by grind)
    grind
  rcases h n (by omega) with h | h <;> rcases h2 n (by omega) with h2 | h2
  · exact .inl (hp _ _ h h2)
  · have := hp _ (-g n) h (by grind); right; grind
  · have := hp (-f n) _ (by grind) h2; right; grind
  · have := hp (-f n) (-g n) (by grind) (by grind); left; grind
theorem prd_apt : ∀ (k : Nat) (F : List Bool → Nat → Rat), (∀ e : List Bool, e.length = k → Apt (F e)) → Apt (prd k F)
  | 0, F, h => h [] rfl
  | k + 1, F, h => prd_apt k _ fun e he => (h (true :: e) (by simp [he])).mul (h (false :: e) (by simp [he]))
/-- How often the bound is multiplied. -/
def eX : Nat → Nat
  | 0 => 0
  | k + 1 => 2 * eX k + 1
theorem eX_pow (k : Nat) : eX k + 1 = 2 ^ k := by
  induction k with
  | zero => rfl
  | succ k ih => rw [eX, Nat.pow_succ]; omega
theorem prd_le : ∀ (k : Nat) (F : List Bool → Nat → Rat) (n : Nat) (d : Rat) (B : Nat), 0 ≤ d → (∀ e : List Bool, e.length = k → -(B : Rat) ≤ F e n ∧ F e n ≤ (B : Rat)) → -d ≤ F (List.replicate k true) n → F (List.replicate k true) n ≤ d → -(d * ((B ^ eX k : Nat) : Rat)) ≤ prd k F n ∧ prd k F n ≤ d * ((B ^ eX k : Nat) : Rat)
  | 0, F, n, d, B, _, _, h1, h2 => by
    have : ((B ^ eX 0 : Nat) : Rat) = 1 := rfl
    rw [this, Rat.mul_one]
    exact ⟨h1, h2⟩
  | k + 1, F, n, d, B, hd, h, h1, h2 => by
    have hBn := nat_nn B
    obtain ⟨g1, g2⟩ := h (false :: List.replicate k true) (by simp)
    obtain ⟨p1, p2⟩ := prod_le (x := F (true :: List.replicate k true) n) h1 h2 g1 g2
    have ih := prd_le k (fun e n => F (true :: e) n * F (false :: e) n) n (d * B) (B * B) (Rat.mul_nonneg hd hBn) (fun e he => by
      obtain ⟨a1, a2⟩ := h (true :: e) (by simp [he])
      obtain ⟨b1, b2⟩ := h (false :: e) (by simp [he])
      have hc : ((B * B : Nat) : Rat) = (B : Rat) * B := by exact_mod_cast rfl
      rw [hc]
      exact prod_le a1 a2 b1 b2) p1 p2
    have he : d * (B : Rat) * (((B * B) ^ eX k : Nat) : Rat) = d * ((B ^ eX (k + 1) : Nat) : Rat) := by
      have h1 : B ^ eX (k + 1) = B * (B * B) ^ eX k := by
        rw [eX, Nat.pow_succ, ← Nat.pow_two, ← Nat.pow_mul, Nat.mul_comm]
      have h2 : ((B * (B * B) ^ eX k : Nat) : Rat) = (B : Rat) * (((B * B) ^ eX k : Nat) : Rat) := by exact_mod_cast rfl
      rw [h1, h2]
      grind
    rw [he] at ih
    exact ih
/-- What is small for the right signs, in places as far as you like, is not too small. -/
theorem fam_far {ss : List Nat} {F : List Bool → Nat → Rat} (hF : Fam ss F) (ha : ∀ e : List Bool, e.length = ss.length → Apt (F e)) {B : Nat} (hB : ∀ (e : List Bool) n, e.length = ss.length → -(B : Rat) ≤ F e n ∧ F e n ≤ (B : Rat)) {d : Rat} (hd : 0 ≤ d) (h : ∀ N, ∃ n, N ≤ n ∧ -d ≤ F (List.replicate ss.length true) n ∧ F (List.replicate ss.length true) n ≤ d) : 1 ≤ 2 * (d * ((B ^ eX ss.length : Nat) : Rat)) := by
  obtain ⟨m, C, hC, hm⟩ := hF.prd
  obtain ⟨c, N, hc, hN⟩ := prd_apt _ _ ha
  -- far enough: C / (n + 1) below c and a half
  obtain ⟨c2, hc2, hcc, hch⟩ : ∃ c2 : Rat, 0 < c2 ∧ c2 < c ∧ c2 ≤ 1 / 2 := by
    rcases (by grind : c / 2 ≤ 1 / 2 ∨ 1 / 2 < c / 2) with h | h
    · exact ⟨c / 2, by grind, by grind, h⟩
    · exact ⟨1 / 2, by grind, by grind, by grind⟩
  obtain ⟨n, hn, h1, h2⟩ := h (N + (C / c2).ceil.toNat)
  have hnn := nat_nn n
  have hn1 : C ≤ c2 * ((n : Rat) + 1) := by
    have g1 : C / c2 ≤ ((C / c2).ceil : Rat) := Rat.le_ceil
    have g2 : ((C / c2).ceil : Rat) ≤ ((n : Int) : Rat) := by
      have : (C / c2).ceil ≤ (n : Int) := by omega
      exact_mod_cast this
    have g3 : ((n : Int) : Rat) = (n : Rat) := rfl
    have h5 : C = C / c2 * c2 := by rw [Rat.div_mul_cancel]; grind
    have h6 := Rat.mul_nonneg (show (0 : Rat) ≤ (n : Rat) - C / c2 by grind) (show (0 : Rat) ≤ c2 by grind)
    grind
  have hsm : ∀ x : Rat, x * ((n : Rat) + 1) ≤ C → x ≤ c2 := fun x hx => by
    rcases (by grind : x ≤ c2 ∨ 0 < x - c2) with h0 | h0
    · exact h0
    · exfalso
      have := Rat.mul_pos h0 (show (0 : Rat) < (n : Rat) + 1 by grind)
      grind
  obtain ⟨h3, h4⟩ := hm n
  have k1 : prd ss.length F n - (m : Rat) ≤ c2 := hsm _ h4
  have k2 := hsm (-(prd ss.length F n - (m : Rat))) (by grind)
  obtain ⟨l1, l2⟩ := prd_le ss.length F n d B hd (fun e he => hB e n he) h1 h2
  have hfar := hN n (by omega)
  generalize prd ss.length F n = p at *
  generalize d * ((B ^ eX ss.length : Nat) : Rat) = D at *
  clear h3 h4 hsm hm hN hB ha hF
  have hm0 : m ≠ 0 := by
    rintro rfl
    have : ((0 : Int) : Rat) = 0 := rfl
    rw [this] at k1 k2
    rcases hfar with h | h <;> grind
  rcases (by omega : (1 : Int) ≤ m ∨ m ≤ -1) with h | h
  · have : (1 : Rat) ≤ (m : Rat) := by exact_mod_cast h
    grind
  · have h1 : (m : Rat) ≤ ((-1 : Int) : Rat) := Rat.intCast_le_intCast.2 h
    have h2 : ((-1 : Int) : Rat) = -1 := rfl
    rw [h2] at h1
    grind
/-- A number and a sum of roots, with these signs. -/
def vfm (m : Int) : List (Int × Nat) → List Bool → Nat → Rat
  | [], _, _ => (m : Rat)
  | x :: l, b :: e, n => vfm m l e n + sg b * ((x.1 : Rat) * rtq x.2 n)
  | _ :: _, [], _ => 0
theorem vfm_fam (m : Int) : ∀ l : List (Int × Nat), Fam (l.map Prod.snd) (vfm m l)
  | [] => ⟨m, Nul.zero.congr fun n => by show (m : Rat) - m = 0; grind⟩
  | x :: l => ⟨_, _, vfm_fam m l, Fam.int _ x.1, fun e b _ => Nul.zero.congr fun n => by
      show vfm m l e n + sg b * ((x.1 : Rat) * rtq x.2 n) - (vfm m l e n + sg b * ((x.1 : Rat) * rtq x.2 n)) = 0
      grind⟩
theorem vfm_true (m : Int) : ∀ (l : List (Int × Nat)) (n : Nat), vfm m l (List.replicate l.length true) n = (m : Rat) + valR l n
  | [], n => by show (m : Rat) = m + 0; grind
  | x :: l, n => by
    have ih := vfm_true m l n
    show vfm m l (List.replicate l.length true) n + sg true * ((x.1 : Rat) * rtq x.2 n) = (m : Rat) + ((x.1 : Rat) * rtq x.2 n + valR l n)
    rw [ih, show sg true = 1 from rfl]
    grind
/-- The sum with its signs. -/
def sgl : List (Int × Nat) → List Bool → List (Int × Nat)
  | x :: l, b :: e => ((if b = true then x.1 else -x.1), x.2) :: sgl l e
  | _, _ => []
theorem rtq_one (n : Nat) : rtq 1 n = 1 := by
  have h := rtq_t 1 n
  have h2 : Nat.sqrt (1 * ((n + 1) * (n + 1))) = n + 1 := by
    have h1 := Nat.sqrt_le (1 * ((n + 1) * (n + 1)))
    have h3 := Nat.lt_succ_sqrt (1 * ((n + 1) * (n + 1)))
    rw [Nat.one_mul] at *
    rw [Nat.succ_eq_add_one] at h3
    have h4 := Nat.mul_self_le_mul_self_iff.1 h1
    have h5 := Nat.mul_self_lt_mul_self_iff.1 h3
    omega
  rw [h2] at h
  have h3 : ((n + 1 : Nat) : Rat) = (n : Rat) + 1 := by exact_mod_cast rfl
  rw [h3] at h
  have hn := nat_nn n
  rcases (by grind : rtq 1 n = 1 ∨ 0 < rtq 1 n - 1 ∨ 0 < 1 - rtq 1 n) with h0 | h0 | h0
  · exact h0
  · have := Rat.mul_pos h0 (show (0 : Rat) < (n : Rat) + 1 by grind); grind
  · have := Rat.mul_pos h0 (show (0 : Rat) < (n : Rat) + 1 by grind); grind
theorem vfm_val (m : Int) : ∀ (l : List (Int × Nat)) (e : List Bool) (n : Nat), e.length = l.length → vfm m l e n = valR ((m, 1) :: sgl l e) n
  | [], e, n, h => by
    obtain rfl : e = [] := by simpa using h
    show (m : Rat) = (m : Rat) * rtq 1 n + 0
    rw [rtq_one]; grind
  | x :: l, [], n, h => by cases h
  | x :: l, b :: e, n, h => by
    have ih := vfm_val m l e n (by simpa using h)
    show vfm m l e n + sg b * ((x.1 : Rat) * rtq x.2 n) = (m : Rat) * rtq 1 n + (((if b = true then x.1 else -x.1 : Int) : Rat) * rtq x.2 n + valR (sgl l e) n)
    rw [ih]
    show (m : Rat) * rtq 1 n + valR (sgl l e) n + sg b * ((x.1 : Rat) * rtq x.2 n) = _
    cases b
    · rw [show sg false = -1 from rfl, if_neg (by decide), Rat.intCast_neg]; grind
    · rw [show sg true = 1 from rfl, if_pos rfl]; grind
theorem sgl_snd : ∀ (l : List (Int × Nat)) (e : List Bool), ∀ x ∈ sgl l e, ∃ y ∈ l, y.2 = x.2
  | [], _, x, h => by simp [sgl] at h
  | _ :: _, [], x, h => by simp [sgl] at h
  | y :: l, b :: e, x, h => by
    rcases List.mem_cons.1 h with rfl | h
    · exact ⟨y, List.mem_cons_self .., rfl⟩
    · obtain ⟨z, hz, e⟩ := sgl_snd l e x h
      exact ⟨z, List.mem_cons_of_mem _ hz, e⟩
theorem cf_none {s : Nat} : ∀ l : List (Int × Nat), (∀ x ∈ l, x.2 ≠ s) → cfR l s = 0
  | [], _ => rfl
  | x :: l, h => by
    have ih := cf_none l fun y hy => h y (List.mem_cons_of_mem _ hy)
    have := h x (List.mem_cons_self ..)
    rw [cfR, ih, if_neg (fun e => this e.symm)]
    rfl
/-- No radicand twice. -/
def Dif : List (Int × Nat) → Prop
  | [] => True
  | x :: l => (∀ y ∈ l, y.2 ≠ x.2) ∧ Dif l
theorem cf_sgl {s : Nat} : ∀ (l : List (Int × Nat)) (e : List Bool), e.length = l.length → Dif l → (∃ x ∈ l, x.2 = s ∧ x.1 ≠ 0) → cfR (sgl l e) s ≠ 0
  | [], _, _, _, ⟨x, h, _⟩ => by simp at h
  | _ :: _, [], h, _, _ => by cases h
  | y :: l, b :: e, h, hd, ⟨x, hx, h1, h2⟩ => by
    rw [sgl, cfR]
    rcases List.mem_cons.1 hx with rfl | hx
    · have := cf_none (s := s) (sgl l e) fun z hz => by
        obtain ⟨w, hw, e⟩ := sgl_snd _ _ z hz
        rw [← e, ← h1]
        exact hd.1 w hw
      rw [this, if_pos h1.symm]
      cases b <;> simp <;> exact h2
    · have ih := cf_sgl l e (by simpa using h) hd.2 ⟨x, hx, h1, h2⟩
      rw [if_neg]
      · simpa using ih
      · rintro rfl
        exact hd.1 x hx h1
theorem vfm_apt {m : Int} {l : List (Int × Nat)} (hs : ∀ x ∈ l, SqF x.2) (hd : Dif l) (hx : ∃ x ∈ l, 1 < x.2 ∧ x.1 ≠ 0) (e : List Bool) (he : e.length = l.length) : Apt (vfm m l e) := by
  obtain ⟨x, hx, h1, h2⟩ := hx
  have hsq1 : SqF 1 := ⟨by decide, fun d hd h => by
    have := Nat.le_of_dvd (by decide) h
    have := Nat.mul_le_mul (show 2 ≤ d from hd) (show 2 ≤ d from hd)
    omega⟩
  have h0 : cfR ((m, 1) :: sgl l e) x.2 ≠ 0 := by
    rw [cfR]
    rw [if_neg (show ¬ x.2 = 1 by omega), Int.zero_add]
    exact cf_sgl l e he hd ⟨x, hx, rfl, h2⟩
  obtain ⟨c, N, hc, h⟩ := roots_apart (l := (m, 1) :: sgl l e) (fun y hy => by
    rcases List.mem_cons.1 hy with rfl | hy
    · exact hsq1
    · obtain ⟨z, hz, e⟩ := sgl_snd _ _ y hy
      rw [← e]; exact hs z hz) (hs x hx) h0
  refine ⟨c, N, hc, fun n hn => ?_⟩
  rw [vfm_val m l e n he]
  exact h n hn
/-- A bound of all that the signs can bring. -/
def bdL : List (Int × Nat) → Nat
  | [] => 0
  | x :: l => x.1.natAbs * (x.2 + 1) + bdL l
theorem abs_le (m : Int) : -((m.natAbs : Nat) : Rat) ≤ (m : Rat) ∧ (m : Rat) ≤ ((m.natAbs : Nat) : Rat) := by
  have h1 : (m : Int) ≤ ((m.natAbs : Nat) : Int) := by omega
  have h2 : -((m.natAbs : Nat) : Int) ≤ m := by omega
  have h3 : (m : Rat) ≤ (((m.natAbs : Nat) : Int) : Rat) := Rat.intCast_le_intCast.2 h1
  have h4 : ((-((m.natAbs : Nat) : Int) : Int) : Rat) ≤ (m : Rat) := Rat.intCast_le_intCast.2 h2
  rw [Rat.intCast_neg] at h4
  exact ⟨h4, h3⟩
theorem vfm_le (m : Int) : ∀ (l : List (Int × Nat)) (e : List Bool) (n : Nat), e.length = l.length → -((m.natAbs + bdL l : Nat) : Rat) ≤ vfm m l e n ∧ vfm m l e n ≤ ((m.natAbs + bdL l : Nat) : Rat)
  | [], e, n, _ => abs_le m
  | x :: l, [], n, h => by cases h
  | x :: l, b :: e, n, h => by
    obtain ⟨i1, i2⟩ := vfm_le m l e n (by simpa using h)
    obtain ⟨k1, k2⟩ := abs_le x.1
    have r1 := rtq_nn x.2 n
    have r2 := rtq_le x.2 n
    have hn := nat_nn x.2
    obtain ⟨p1, p2⟩ := prod_le k1 k2 (show -((x.2 : Rat) + 1) ≤ rtq x.2 n by grind) r2
    have hc : ((m.natAbs + bdL (x :: l) : Nat) : Rat) = ((x.1.natAbs : Nat) : Rat) * ((x.2 : Rat) + 1) + ((m.natAbs + bdL l : Nat) : Rat) := by
      have : m.natAbs + bdL (x :: l) = x.1.natAbs * (x.2 + 1) + (m.natAbs + bdL l) := by rw [bdL]; omega
      rw [this]
      exact_mod_cast rfl
    rw [hc]
    show -(_ + _) ≤ vfm m l e n + sg b * ((x.1 : Rat) * rtq x.2 n) ∧ vfm m l e n + sg b * ((x.1 : Rat) * rtq x.2 n) ≤ _
    cases b
    · rw [show sg false = -1 from rfl]; constructor <;> grind
    · rw [show sg true = 1 from rfl]; constructor <;> grind
/-- A sum of roots, and a whole number: they are not too near. -/
theorem roots_far {m : Int} {l : List (Int × Nat)} (hs : ∀ x ∈ l, SqF x.2) (hd : Dif l) (hx : ∃ x ∈ l, 1 < x.2 ∧ x.1 ≠ 0) {d : Rat} (h0 : 0 ≤ d) (h : ∀ N, ∃ n, N ≤ n ∧ -d ≤ (m : Rat) + valR l n ∧ (m : Rat) + valR l n ≤ d) : 1 ≤ 2 * (d * (((m.natAbs + bdL l) ^ eX l.length : Nat) : Rat)) := by
  have hl : (l.map Prod.snd).length = l.length := List.length_map ..
  have := fam_far (vfm_fam m l) (fun e he => vfm_apt hs hd hx e (he.trans hl)) (B := m.natAbs + bdL l) (fun e n he => vfm_le m l e n (he.trans hl)) h0 fun N => by
    obtain ⟨n, h1, h2⟩ := h N
    refine ⟨n, h1, ?_⟩
    rw [hl, vfm_true]
    exact h2
  rwa [hl] at this
end Go.Proofs.Ytlmhgcllikcedaa
/- An order on sequences that are known but for what goes to nought; roots of rationals. Plain. -/
namespace Go.Proofs.Ytlmhgcllikcedaa

/-- f is not above g, but for what goes to nought. -/
def LeS (f g : Nat → Rat) : Prop := ∃ C : Rat, 0 ≤ C ∧ ∀ n, f n * ((n : Rat) + 1) ≤ g n * ((n : Rat) + 1) + C
section
variable {f g h k : Nat → Rat}
theorem LeS.of_le (h : ∀ n, f n ≤ g n) : LeS f g := ⟨0, by grind, fun n => by
  have h1 := Rat.mul_nonneg (show (0 : Rat) ≤ g n - f n by have := h n; grind) (show (0 : Rat) ≤ (n : Rat) + 1 by have := nat_nn n; grind)
  grind⟩
theorem LeS.refl (f : Nat → Rat) : LeS f f := .of_le fun n => by grind
theorem LeS.trans (h1 : LeS f g) (h2 : LeS g h) : LeS f h := by
  obtain ⟨C, hC, a⟩ := h1
  obtain ⟨D, hD, b⟩ := h2
  exact ⟨C + D, by grind, fun n => by have := a n; have := b n; grind⟩
theorem LeS.add (h1 : LeS f g) (h2 : LeS h k) : LeS (fun n => f n + h n) fun n => g n + k n := by
  obtain ⟨C, hC, a⟩ := h1
  obtain ⟨D, hD, b⟩ := h2
  exact ⟨C + D, by grind, fun n => by have := a n; have := b n; grind⟩
theorem LeS.neg (h1 : LeS f g) : LeS (fun n => -g n) fun n => -f n := by
  obtain ⟨C, hC, a⟩ := h1
  exact ⟨C, hC, fun n => by have := a n; grind⟩
theorem LeS.of_nul (h1 : Nul fun n => f n - g n) : LeS f g := by
  obtain ⟨C, hC, a⟩ := h1
  exact ⟨C, hC, fun n => by have := (a n).2; grind⟩
theorem LeS.of_nul' (h1 : Nul fun n => f n - g n) : LeS g f := by
  obtain ⟨C, hC, a⟩ := h1
  exact ⟨C, hC, fun n => by have := (a n).1; grind⟩
theorem LeS.nul (h1 : LeS f g) (h2 : LeS g f) : Nul fun n => f n - g n := by
  obtain ⟨C, hC, a⟩ := h1
  obtain ⟨D, hD, b⟩ := h2
  exact ⟨C + D, by grind, fun n => by have := a n; have := b n; constructor <;> grind⟩
theorem LeS.congr {f' g' : Nat → Rat} (h1 : LeS f g) (hf : ∀ n, f' n = f n) (hg : ∀ n, g' n = g n) : LeS f' g' := by
  rw [show f' = f from funext hf, show g' = g from funext hg]
  exact h1
theorem LeS.mul (h1 : LeS f g) (hb : Bnd h) (h0 : ∀ n, 0 ≤ h n) : LeS (fun n => h n * f n) fun n => h n * g n := by
  obtain ⟨C, hC, a⟩ := h1
  obtain ⟨D, hD, b⟩ := hb
  refine ⟨D * C, Rat.mul_nonneg hD hC, fun n => ?_⟩
  have q1 := Rat.mul_nonneg (h0 n) (show (0 : Rat) ≤ g n * ((n : Rat) + 1) + C - f n * ((n : Rat) + 1) by have := a n; grind)
  have q2 := Rat.mul_nonneg (show (0 : Rat) ≤ D - h n by have := (b n).2; grind) hC
  grind
theorem LeS.const {a b : Rat} (h1 : LeS (fun _ => a) fun _ => b) : a ≤ b := by
  rcases (by grind : a ≤ b ∨ b < a) with h | h
  · exact h
  exfalso
  obtain ⟨C, hC, hh⟩ := h1
  have h0 : ¬ a - b = 0 := by grind
  refine h0 (Nul.const (m := a - b) ⟨C, hC, fun n => ?_⟩)
  have h2 := Rat.mul_nonneg (show (0 : Rat) ≤ a - b by grind) (show (0 : Rat) ≤ (n : Rat) + 1 by have := nat_nn n; grind)
  have := hh n
  constructor <;> grind
/-- By their squares. -/
theorem LeS.root {x y : Nat → Rat} {c : Rat} (hc : 0 < c) (hy : ∀ n, c ≤ y n) (hx : ∀ n, 0 ≤ x n) (h1 : LeS (fun n => x n * x n) fun n => y n * y n) : LeS x y := by
  obtain ⟨C, hC, a⟩ := h1
  have hCc : 0 ≤ C / c := by
    rw [Rat.div_def]
    exact Rat.mul_nonneg hC (Rat.le_of_lt (Rat.inv_pos.2 hc))
  refine ⟨C / c, hCc, fun n => ?_⟩
  have hn := nat_nn n
  rcases (by grind : x n ≤ y n ∨ y n < x n) with h | h
  · have := Rat.mul_nonneg (show (0 : Rat) ≤ y n - x n by grind) (show (0 : Rat) ≤ (n : Rat) + 1 by grind)
    grind
  · have h2 := a n
    have h3 := hy n
    have h4 := hx n
    have e : C / c * c = C := by rw [Rat.div_mul_cancel]; grind
    -- (x - y) (n + 1) c is at most C
    have h5 := Rat.mul_nonneg (Rat.mul_nonneg (show (0 : Rat) ≤ x n - y n by grind) (show (0 : Rat) ≤ (n : Rat) + 1 by grind)) (show (0 : Rat) ≤ x n + y n - c by grind)
    rcases (by grind : (x n - y n) * ((n : Rat) + 1) ≤ C / c ∨ C / c < (x n - y n) * ((n : Rat) + 1)) with h6 | h6
    · grind
    · exfalso
      have h7 := Rat.mul_pos (show (0 : Rat) < (x n - y n) * ((n : Rat) + 1) - C / c by grind) hc
      grind
end
/-- r is the root of x. -/
structure IsR (x : Rat) (r : Nat → Rat) : Prop where
  nn : ∀ n, 0 ≤ r n
  bnd : Bnd r
  sq : Nul fun n => r n * r n - x
  pos : 0 < x → ∃ c : Rat, 0 < c ∧ ∀ n, c ≤ r n
  zero : x = 0 → ∀ n, r n = 0
theorem isR_rtq (s : Nat) : IsR (s : Rat) (rtq s) := by
  refine ⟨rtq_nn s, rtq_bnd s, rtq_sq s, fun h => ⟨1, by grind, rtq_ge (by exact_mod_cast h)⟩, fun h n => ?_⟩
  have h0 : s = 0 := by exact_mod_cast h
  subst h0
  have := rtq_t 0 n
  rw [Nat.zero_mul] at this
  have h1 : ((Nat.sqrt 0 : Nat) : Rat) = 0 := by exact_mod_cast (by decide : Nat.sqrt 0 = 0)
  rw [h1] at this
  rcases Rat.mul_eq_zero.1 this with h | h
  · exact h
  · have := nat_nn n
    grind
theorem IsR.scale {x c : Rat} {r : Nat → Rat} (h : IsR x r) (hc : 0 < c) : IsR (c * c * x) fun n => c * r n := by
  have hcc := Rat.mul_pos hc hc
  refine ⟨fun n => Rat.mul_nonneg (Rat.le_of_lt hc) (h.nn n), (Bnd.const c).mul h.bnd, (h.sq.mul (Bnd.const (c * c))).congr fun n => by grind, fun hx => ?_, fun hx n => ?_⟩
  · have hx0 : 0 < x := by
      rcases (by grind : 0 < x ∨ 0 ≤ -x) with h | h
      · exact h
      · have := Rat.mul_nonneg (Rat.le_of_lt hcc) h
        grind
    obtain ⟨d, hd, h1⟩ := h.pos hx0
    exact ⟨c * d, Rat.mul_pos hc hd, fun n => by have := Rat.mul_nonneg (Rat.le_of_lt hc) (show (0 : Rat) ≤ r n - d by have := h1 n; grind); grind⟩
  · have hx0 : x = 0 := by
      rcases Rat.mul_eq_zero.1 hx with h | h
      · grind
      · exact h
    show c * r n = 0
    rw [h.zero hx0 n, Rat.mul_zero]
theorem IsR.near {x : Rat} {r r' : Nat → Rat} (h : IsR x r) (h' : IsR x r') (hx : 0 ≤ x) : Nul fun n => r n - r' n := by
  rcases (by grind : x = 0 ∨ 0 < x) with h0 | h0
  · exact Nul.zero.congr fun n => by rw [h.zero h0 n, h'.zero h0 n]; grind
  · obtain ⟨c, hc, h1⟩ := h.pos h0
    obtain ⟨d, hd, h2⟩ := h'.pos h0
    have hs : Nul fun n => r n * r n - r' n * r' n := (h.sq.add h'.sq.neg).congr fun n => by grind
    exact (LeS.root hd h2 h.nn (.of_nul hs)).nul (LeS.root hc h1 h'.nn (.of_nul' hs))
theorem rat_split (x : Rat) : (x.num : Rat) / (x.den : Rat) = x := by
  have h := Rat.num_divInt_den x
  have h2 : (x.den : Rat) = (((x.den : Nat) : Int) : Rat) := rfl
  rw [h2, ← Rat.divInt_eq_div]
  exact h
/-- The root of a rational. -/
def rsq (x : Rat) (n : Nat) : Rat := (x.den : Rat)⁻¹ * rtq (x.num.toNat * x.den) n
theorem isR_rsq {x : Rat} (hx : 0 ≤ x) : IsR x (rsq x) := by
  have hd : (0 : Rat) < (x.den : Rat) := by exact_mod_cast x.den_pos
  have h := (isR_rtq (x.num.toNat * x.den)).scale (Rat.inv_pos.2 hd)
  have hn : ((x.num.toNat : Nat) : Rat) = (x.num : Rat) := by
    have : ((x.num.toNat : Nat) : Int) = x.num := Int.toNat_of_nonneg (Rat.num_nonneg.2 hx)
    have h2 : (((x.num.toNat : Nat) : Int) : Rat) = (x.num : Rat) := by rw [this]
    exact h2
  have e : (x.den : Rat)⁻¹ * (x.den : Rat)⁻¹ * ((x.num.toNat * x.den : Nat) : Rat) = x := by
    have h1 : ((x.num.toNat * x.den : Nat) : Rat) = (x.num : Rat) * (x.den : Rat) := by
      rw [← hn]; exact_mod_cast rfl
    have h2 : (x.num : Rat) = x * (x.den : Rat) := by have h := rat_split x; have h4 : (x.num : Rat) / (x.den : Rat) * (x.den : Rat) = (x.num : Rat) := Rat.div_mul_cancel (by grind); rw [h] at h4; exact h4.symm
    have h3 : (x.den : Rat)⁻¹ * (x.den : Rat) = 1 := Rat.inv_mul_cancel _ (by grind)
    rw [h1, h2]
    calc (x.den : Rat)⁻¹ * (x.den : Rat)⁻¹ * (x * (x.den : Rat) * (x.den : Rat)) = x * ((x.den : Rat)⁻¹ * (x.den : Rat)) * ((x.den : Rat)⁻¹ * (x.den : Rat)) := by grind
      _ = x := by rw [h3]; grind
  rw [e] at h
  exact h
theorem LeS.isR {x y : Rat} {r s : Nat → Rat} (hr : IsR x r) (hs : IsR y s) (h : x ≤ y) (hx : 0 ≤ x) : LeS r s := by
  rcases (by grind : y = 0 ∨ 0 < y) with h0 | h0
  · have : x = 0 := by grind
    exact .of_le fun n => by rw [hr.zero this n, hs.zero h0 n]; grind
  · obtain ⟨d, hd, h2⟩ := hs.pos h0
    refine LeS.root hd h2 hr.nn ?_
    exact (LeS.of_nul (g := fun _ => x) hr.sq).trans ((LeS.of_le fun n => h).trans (LeS.of_nul' (f := fun n => s n * s n) hs.sq))
end Go.Proofs.Ytlmhgcllikcedaa
/- Normal roots: plain. -/
namespace Go.Proofs.Ytlmhgcllikcedaa

/-- n is k times k times a number without squares. -/
def IsRt (n k s : Nat) : Prop := n = k * k * s ∧ SqF s
theorem isRt_unique {n k s k' s' : Nat} (hn : 0 < n) (h : IsRt n k s) (h' : IsRt n k' s') : k = k' ∧ s = s' := by
  obtain ⟨e, h1, h2⟩ := h
  obtain ⟨e', h1', h2'⟩ := h'
  have hk : 0 < k := by
    rcases Nat.eq_zero_or_pos k with h | h
    · subst h; simp at e; omega
    · exact h
  have hk' : 0 < k' := by
    rcases Nat.eq_zero_or_pos k' with h | h
    · subst h; simp at e'; omega
    · exact h
  have hg : 0 < Nat.gcd k k' := Nat.gcd_pos_of_pos_left _ hk
  obtain ⟨a, ha⟩ := Nat.gcd_dvd_left k k'
  obtain ⟨b, hb⟩ := Nat.gcd_dvd_right k k'
  have hc : Nat.Coprime a b := by
    have h1 : k / Nat.gcd k k' = a := by conv => lhs; arg 1; rw [ha]
                                         exact Nat.mul_div_cancel_left _ hg
    have h2 : k' / Nat.gcd k k' = b := by conv => lhs; arg 1; rw [hb]
                                          exact Nat.mul_div_cancel_left _ hg
    rw [← h1, ← h2]
    exact Nat.coprime_div_gcd_div_gcd hg
  generalize Nat.gcd k k' = g at *
  have key : a * a * s = b * b * s' := by
    have : g * g * (a * a * s) = g * g * (b * b * s') := by
      calc g * g * (a * a * s) = (g * a) * (g * a) * s := by ac_rfl
        _ = (g * b) * (g * b) * s' := by rw [← ha, ← hb, ← e, ← e']
        _ = g * g * (b * b * s') := by ac_rfl
    exact Nat.eq_of_mul_eq_mul_left (Nat.mul_pos hg hg) this
  have hcc : Nat.Coprime (a * a) (b * b) := Nat.Coprime.mul_left (Nat.Coprime.mul_right hc hc) (Nat.Coprime.mul_right hc hc)
  have d1 : a * a ∣ s' := hcc.dvd_of_dvd_mul_left (show a * a ∣ b * b * s' from ⟨s, key.symm⟩)
  have d2 : b * b ∣ s := hcc.symm.dvd_of_dvd_mul_left (show b * b ∣ a * a * s from ⟨s', key⟩)
  have a1 : a = 1 := by
    rcases Nat.lt_trichotomy a 1 with h | h | h
    · have : a = 0 := by omega
      subst this; simp at ha; omega
    · exact h
    · exact absurd d1 (h2' a h)
  have b1 : b = 1 := by
    rcases Nat.lt_trichotomy b 1 with h | h | h
    · have : b = 0 := by omega
      subst this; simp at hb; omega
    · exact h
    · exact absurd d2 (h2 b h)
  subst a1; subst b1
  exact ⟨by omega, by simpa using key⟩
/-- No small square divides m. -/
def NoSq (m d : Nat) : Prop := ∀ e, 1 < e → e < d → ¬ e * e ∣ m
theorem NoSq.two (m : Nat) : NoSq m 2 := fun e h1 h2 => by omega
theorem NoSq.dvd {m m' d : Nat} (h : NoSq m d) (hd : m' ∣ m) : NoSq m' d := fun e h1 h2 h3 => h e h1 h2 (Nat.dvd_trans h3 hd)
theorem NoSq.succ {m d : Nat} (h : NoSq m d) (hd : ¬ d * d ∣ m) : NoSq m (d + 1) := fun e h1 h2 => by
  rcases Nat.lt_or_ge e d with h3 | h3
  · exact h e h1 h3
  · have : e = d := by omega
    subst this; exact hd
/-- All squares of numbers up to the cube root are looked for. -/
theorem NoSq.cube {m d : Nat} (h : NoSq m d) (hd : m < d * d * d) {e : Nat} (h1 : 1 < e) (h2 : e * e * e ≤ m) : ¬ e * e ∣ m := by
  refine h e h1 ?_
  rcases Nat.lt_or_ge e d with h3 | h3
  · exact h3
  · have h4 := Nat.mul_le_mul (Nat.mul_le_mul h3 h3) h3
    omega
/-- A square factor found behind: what is left has none. -/
theorem large_found {m d t r : Nat} (h : NoSq m d) (hd : m < d * d * d) (hm : 0 < m) (ht : t * t * t ≤ m) (hr : m = t * (r * r)) : SqF t := by
  have ht0 : 0 < t := by
    rcases Nat.eq_zero_or_pos t with h | h
    · subst h; simp at hr; omega
    · exact h
  refine ⟨ht0, fun e he hdv => ?_⟩
  have h1 : e * e ∣ m := Nat.dvd_trans hdv ⟨r * r, hr⟩
  refine h.cube hd he ?_ h1
  have h2 : e * e ≤ t := Nat.le_of_dvd ht0 hdv
  have h3 : e * e * e ≤ e * e * (e * e) := Nat.mul_le_mul_left _ (by
    have := Nat.mul_le_mul_left e (show 1 ≤ e by omega)
    omega)
  have h4 : e * e * (e * e) ≤ t * t := Nat.mul_le_mul h2 h2
  have h5 : t * t ≤ t * t * t := by
    have := Nat.mul_le_mul_left (t * t) ht0
    omega
  omega
theorem large_none {m d : Nat} (h : NoSq m d) (hd : m < d * d * d) (hm : 0 < m) (hno : ∀ t, 0 < t → t * t * t ≤ m → t ∣ m → ∀ r, 1 < r → r * r ≠ m / t) : SqF m := by
  refine ⟨hm, fun e he hdv => ?_⟩
  obtain ⟨t, ht⟩ := hdv
  have ht0 : 0 < t := by
    rcases Nat.eq_zero_or_pos t with h | h
    · subst h; simp at ht; omega
    · exact h
  have hcube : ¬ e * e * e ≤ m := fun hle => h.cube hd he hle ⟨t, ht⟩
  have hte : t < e := by
    rcases Nat.lt_or_ge t e with h1 | h1
    · exact h1
    · have := Nat.mul_le_mul_left (e * e) h1
      omega
  have h3 : t * t * t ≤ m := by
    rw [ht]
    exact Nat.mul_le_mul (Nat.mul_le_mul (by omega) (by omega)) (Nat.le_refl _)
  refine hno t ht0 h3 ⟨e * e, by rw [ht]; exact Nat.mul_comm _ _⟩ e he ?_
  rw [ht, Nat.mul_div_cancel _ ht0]
end Go.Proofs.Ytlmhgcllikcedaa
/- Words for memory, over any program: what a slice of ints or of works reads as, regions that draw their order over worlds that only grow. No program is named here. -/
namespace Go.Proofs.Ytlmhgcllikcedaa
open Go.RowKit

theorem ret_bool {a b : Bool} (h : a = b) : Ending.returned (.bool a) = .returned (.bool b) := by rw [h]
theorem ret_int {k : IntKind} {a b : Int} (h : a = b) : Ending.returned (.int k a) = .returned (.int k b) := by rw [h]

theorem block_of_add (a : Addr) (n : Nat) : (a.add n).block = a.block := by unfold Addr.add; split <;> rfl
theorem add_of_add (a : Addr) (i j : Nat) : (a.add i).add j = a.add (i + j) := by
  unfold Addr.add
  by_cases hi : i = 0 <;> by_cases hj : j = 0 <;> simp [hi, hj, Nat.add_assoc]

/-- A world that is as W was below B. -/
structure Bel (B : Nat) (W : World) where
  wd : World
  h : Below B W wd

theorem wp_region_bel {P : Program} (B : Nat) {id : Nat} {Q : Exit → Act → World → Prop} {a : Act} {w : World} {l : List Oper} (hm : P.follows .mixedOrders = true) (hB : Region.lexB .any l.toArray = true)
    (h : wpQuiet P l.toArray (fun w' => ∃ u : Bel B w, w' = u.wd) (fun a' => ∀ w', (∃ u : Bel B w, w' = u.wd) → Q .normal a' w') l a) : (Code.region id l.toArray true).wp P Q a w :=
  wp_region_quiet (C := fun w' => ∃ u : Bel B w, w' = u.wd) hm hB ⟨⟨w.drew, (Below.refl B w).drew⟩, rfl⟩ (by simpa using h)

theorem quiet_bel {P : Program} {f : FuncId} {args : Array Value} {B : Nat} {w : World} {u : Bel B w} {v : Value} (hB : B ≤ w.heap.size)
    (h : Calls P f args u.wd fun e w' => e = .returned v ∧ Below u.wd.heap.size u.wd w') : Calls P f args u.wd fun e w'' => e = .returned v ∧ ∃ u' : Bel B w, w'' = u'.wd :=
  h.mono fun _ w' ⟨he, hb⟩ => ⟨he, ⟨w', u.h.trans (hb.mono (Nat.le_trans hB u.h.size))⟩, rfl⟩
theorem quiet_bel_same {P : Program} {f : FuncId} {args : Array Value} {B : Nat} {w : World} {u : Bel B w} {v : Value}
    (h : Calls P f args u.wd fun e w' => e = .returned v ∧ u.wd = w') : Calls P f args u.wd fun e w'' => e = .returned v ∧ ∃ u' : Bel B w, w'' = u'.wd :=
  h.mono fun _ _ ⟨he, hb⟩ => ⟨he, u, hb.symm⟩

/-- What holds of the cells at w holds at every later world. -/
theorem below_at {B : Nat} {w w' : World} (h : Below B w w') (hB : w.heap.size ≤ B) {a : Addr} {v : Value} (hc : w.cell? a = some v) : w'.cell? a = some v :=
  (h.cell (Nat.lt_of_lt_of_le (World.block_lt_of_cell? w a hc) hB)).trans hc
theorem below_drewN {B : Nat} {a w : World} (h : Below B a w) (n : Nat) : Below B a (w.drewN n) := ⟨h.os, h.tape, h.output, h.size, h.block⟩

/-- The slice at A holds these cells, `size` of them for each element. -/
def Rd (w : World) (A : Option Addr) (size n : Nat) (f : Nat → Value) : Prop :=
  0 < n * size → ∃ b off, A = some ⟨b, off, none⟩ ∧ b < w.heap.size ∧ ∀ j, j < n * size → w.cell? ⟨b, off + j, none⟩ = some (f j)
theorem Rd.later {w w' : World} {B : Nat} {A : Option Addr} {size n : Nat} {f : Nat → Value} (h : Rd w A size n f) (hb : Below B w w') (hB : w.heap.size ≤ B) : Rd w' A size n f := fun h0 => by
  obtain ⟨b, off, e, hlt, hc⟩ := h h0
  exact ⟨b, off, e, Nat.lt_of_lt_of_le hlt hb.size, fun j hj => below_at hb hB (hc j hj)⟩
theorem Rd.ofAddr {w : World} {A : Option Addr} {size n : Nat} {f : Nat → Value} (h : 0 < n * size → ∃ ad, A = some ad ∧ ∀ j, j < n * size → w.cell? (ad.add j) = some (f j)) : Rd w A size n f := fun h0 => by
  obtain ⟨ad, e, hc⟩ := h h0
  have h1 := hc 0 h0
  have hlt := World.block_lt_of_cell? w _ h1
  obtain ⟨b, off, spot⟩ := ad
  have hs : spot = none := by
    simp only [Addr.add, if_true] at h1
    unfold World.cell? at h1
    split at h1
    · split at h1
      · cases h1
      · rename_i hs; cases spot with
        | none => rfl
        | some x => simp at hs
    · cases h1
  subst hs
  refine ⟨b, off, e, by simpa [Addr.add] using hlt, fun j hj => ?_⟩
  have := hc j hj
  unfold Addr.add at this
  by_cases hj0 : j = 0
  · subst hj0; simpa using this
  · simpa [hj0] using this
theorem Rd.congr {w : World} {A : Option Addr} {size n : Nat} {f g : Nat → Value} (h : Rd w A size n f) (he : ∀ j, j < n * size → f j = g j) : Rd w A size n g := fun h0 => by
  obtain ⟨b, off, e, hlt, hc⟩ := h h0
  exact ⟨b, off, e, hlt, fun j hj => by rw [hc j hj, he j hj]⟩

/-- The slice at A holds these ints. -/
def RdI (w : World) (A : Option Addr) (xs : List Int) : Prop :=
  xs.length ≤ 281474976710656 ∧ Rd w A 1 xs.length fun j => .int .i64 (xs.getD j 0)

theorem RdI.at_ {w : World} {A : Option Addr} {xs : List Int} (h : RdI w A xs) {k : Nat} (hk : k < xs.length) :
    ∃ b off, A = some ⟨b, off, none⟩ ∧ b < w.heap.size ∧ w.cell? ⟨b, off + k, none⟩ = some (.int .i64 xs[k]) := by
  obtain ⟨b, off, e, hlt, hc⟩ := h.2 (by omega)
  exact ⟨b, off, e, hlt, by rw [hc k (by omega)]; simp [List.getD_eq_getElem?_getD, hk]⟩
theorem RdI.later {w w' : World} {B : Nat} {A : Option Addr} {xs : List Int} (h : RdI w A xs) (hb : Below B w w') (hB : w.heap.size ≤ B) : RdI w' A xs := ⟨h.1, h.2.later hb hB⟩

/-- A work: a struct of three cells. -/
structure GW where
  kind : Int
  pl : Int
  word : ByteArray
deriving DecidableEq
def GW.val (x : GW) : Value := .agg #[.int .i64 x.kind, .int .i64 x.pl, .string x.word]
/-- Its numbers fit, and its word is no longer than a string can be. -/
def GW.fits (x : GW) : Prop := (-9223372036854775808 ≤ x.kind ∧ x.kind ≤ 9223372036854775807) ∧ (-9223372036854775808 ≤ x.pl ∧ x.pl ≤ 9223372036854775807) ∧ x.word.size ≤ 9223372036854775807

/-- The cells of works. -/
def cellsW (ws : List GW) (j : Nat) : Value :=
  let x := ws.getD (j / 3) ⟨0, 0, ByteArray.empty⟩
  match j % 3 with
  | 0 => .int .i64 x.kind
  | 1 => .int .i64 x.pl
  | _ => .string x.word
/-- The slice at A holds these works. -/
def RdW (w : World) (A : Option Addr) (ws : List GW) : Prop :=
  ws.length ≤ 281474976710656 ∧ (∀ x ∈ ws, x.fits) ∧ Rd w A 3 ws.length (cellsW ws)
theorem RdW.at_ {w : World} {A : Option Addr} {ws : List GW} (h : RdW w A ws) {k : Nat} (hk : k < ws.length) :
    ∃ b off, A = some ⟨b, off, none⟩ ∧ b < w.heap.size ∧ w.cell? ⟨b, off + k * 3, none⟩ = some (.int .i64 ws[k].kind) ∧ w.cell? ⟨b, off + k * 3 + 1, none⟩ = some (.int .i64 ws[k].pl) ∧
      w.cell? ⟨b, off + k * 3 + 2, none⟩ = some (.string ws[k].word) := by
  obtain ⟨b, off, e, hlt, hc⟩ := h.2.2 (by omega)
  have e0 := hc (k * 3) (by omega)
  have e1 := hc (k * 3 + 1) (by omega)
  have e2 := hc (k * 3 + 2) (by omega)
  have hx : ws.getD k ⟨0, 0, ByteArray.empty⟩ = ws[k] := by simp [List.getD_eq_getElem?_getD, hk]
  refine ⟨b, off, e, hlt, ?_, ?_, ?_⟩
  · rw [e0]; unfold cellsW; rw [show k * 3 / 3 = k by omega, show k * 3 % 3 = 0 by omega, hx]; rfl
  · rw [Nat.add_assoc, e1]; unfold cellsW; rw [show (k * 3 + 1) / 3 = k by omega, show (k * 3 + 1) % 3 = 1 by omega, hx]; rfl
  · rw [Nat.add_assoc, e2]; unfold cellsW; rw [show (k * 3 + 2) / 3 = k by omega, show (k * 3 + 2) % 3 = 2 by omega, hx]; rfl
theorem RdW.later {w w' : World} {B : Nat} {A : Option Addr} {ws : List GW} (h : RdW w A ws) (hb : Below B w w') (hB : w.heap.size ≤ B) : RdW w' A ws := ⟨h.1, h.2.1, h.2.2.later hb hB⟩

/-- A block that was made, in a later world. -/
theorem box_cell {w wr : World} {cs : Array Value} {T : TypeId} (hb : Below (w.heap.size + 1) (w.alloc (.cells cs T)) wr) (j : Nat) : wr.cell? ⟨w.heap.size, j, none⟩ = cs[j]? := by
  rw [hb.cell (p := ⟨w.heap.size, j, none⟩) (by simp)]; simp
theorem below_of_box {w wr : World} {o : Obj} (hb : Below (w.heap.size + 1) (w.alloc o) wr) : Below w.heap.size w wr :=
  ((Below.refl _ _).alloc (Nat.le_refl _) o).trans (hb.mono (by omega))

theorem any_take_succ {α : Type} (l : List α) (p : α → Bool) (k : Nat) (hk : k < l.length) : (l.take (k + 1)).any p = ((l.take k).any p || p l[k]) := by
  rw [List.take_succ_eq_append_getElem hk, List.any_append]; simp
theorem any_hit {α : Type} {l : List α} {p : α → Bool} {k : Nat} (hk : k < l.length) (h : p l[k] = true) : l.any p = true :=
  List.any_eq_true.2 ⟨_, List.getElem_mem hk, h⟩
theorem any_end {α : Type} {l : List α} {p : α → Bool} {k : Nat} (hk : ¬ k < l.length) (h : (l.take k).any p = false) : l.any p = false := by
  rw [List.take_of_length_le (by omega)] at h; exact h
end Go.Proofs.Ytlmhgcllikcedaa
/- Bits of whole numbers, as the walk spells them. Over any program. -/
namespace Go.Proofs.Ytlmhgcllikcedaa
open Go.RowKit

theorem wraps_u32 (n : Int) (h₀ : 0 ≤ n) (h₁ : n < 2 ^ 31) : IntKind.u32.wrap n = n := by
  simp [IntKind.wrap, IntKind.bits, IntKind.signed]; omega
theorem wraps_u64 (n : Int) (h₀ : 0 ≤ n) (h₁ : n < 2 ^ 31) : IntKind.u64.wrap n = n := by
  simp [IntKind.wrap, IntKind.bits, IntKind.signed]; omega
theorem wraps_i64 (n : Int) (h₀ : 0 ≤ n) (h₁ : n < 2 ^ 31) : IntKind.i64.wrap n = n := IntWalk.i64_in _ (by omega)

theorem bits_andnot (k : IntKind) (j : Nat) (hj : j ≤ k.bits) (hk : ∀ n : Int, 0 ≤ n → n < 2 ^ j → k.wrap n = n) (a b : Nat) (ha : a < 2 ^ j) (hb : b < 2 ^ j) :
    (bits .andNot k a b == 0) = decide (a &&& b = a) := by
  have hp : 2 ^ j ≤ 2 ^ k.bits := Nat.pow_le_pow_right (by decide) hj
  have ha' : a % 2 ^ k.bits = a := Nat.mod_eq_of_lt (Nat.lt_of_lt_of_le ha hp)
  have hb' : b % 2 ^ k.bits = b := Nat.mod_eq_of_lt (Nat.lt_of_lt_of_le hb hp)
  have cast : ∀ n : Nat, n < 2 ^ j → ((n : Nat) : Int) < 2 ^ j := fun n h => by exact_mod_cast h
  simp only [bits, BitVec.ofInt_natCast]
  have hle : (BitVec.ofNat k.bits a &&& ~~~BitVec.ofNat k.bits b).toNat < 2 ^ j := by
    rw [BitVec.toNat_and, BitVec.toNat_ofNat, ha']
    exact Nat.lt_of_le_of_lt Nat.and_le_left ha
  rw [hk _ (Int.natCast_nonneg _) (cast _ hle), Bool.eq_iff_iff]
  simp only [beq_iff_eq, decide_eq_true_eq]
  have e1 : ((BitVec.ofNat k.bits a &&& ~~~BitVec.ofNat k.bits b).toNat : Int) = 0 ↔ BitVec.ofNat k.bits a &&& ~~~BitVec.ofNat k.bits b = 0#k.bits := by
    constructor
    · intro h; apply BitVec.eq_of_toNat_eq; simp only [BitVec.toNat_zero]; omega
    · intro h; rw [h]; simp
  have e2 : a &&& b = a ↔ BitVec.ofNat k.bits a &&& BitVec.ofNat k.bits b = BitVec.ofNat k.bits a := by
    constructor
    · intro h; apply BitVec.eq_of_toNat_eq; simp only [BitVec.toNat_and, BitVec.toNat_ofNat, ha', hb', h]
    · intro h; have := congrArg BitVec.toNat h; simpa only [BitVec.toNat_and, BitVec.toNat_ofNat, ha', hb'] using this
  rw [e1, e2]
  constructor
  · intro h
    apply BitVec.eq_of_getLsbD_eq
    intro i hi
    have := congrArg (fun z => BitVec.getLsbD z i) h
    simp only [BitVec.getLsbD_and, BitVec.getLsbD_not, BitVec.getLsbD_zero, hi, decide_true, Bool.true_and] at this ⊢
    cases h1 : BitVec.getLsbD (BitVec.ofNat k.bits a) i <;> cases h2 : BitVec.getLsbD (BitVec.ofNat k.bits b) i <;> simp_all
  · intro h
    apply BitVec.eq_of_getLsbD_eq
    intro i hi
    have := congrArg (fun z => BitVec.getLsbD z i) h
    simp only [BitVec.getLsbD_and, BitVec.getLsbD_not, BitVec.getLsbD_zero, hi, decide_true, Bool.true_and] at this ⊢
    cases h1 : BitVec.getLsbD (BitVec.ofNat k.bits a) i <;> cases h2 : BitVec.getLsbD (BitVec.ofNat k.bits b) i <;> simp_all

theorem bit_at (k : IntKind) (j : Nat) (hj : j ≤ k.bits) (hj1 : 1 ≤ j) (hk : ∀ n : Int, 0 ≤ n → n < 2 ^ j → k.wrap n = n) (a i : Nat) (ha : a < 2 ^ j) :
    (bits .and k ((a : Int) / 2 ^ i) 1 == 0) = !a.testBit i := by
  have e : ((a : Int) / 2 ^ i) = ((a / 2 ^ i : Nat) : Int) := by simp
  have h1 : (1 : Nat) < 2 ^ j := Nat.one_lt_two_pow (by omega)
  have hd : a / 2 ^ i < 2 ^ j := Nat.lt_of_le_of_lt (Nat.div_le_self _ _) ha
  rw [e, show (1 : Int) = ((1 : Nat) : Int) from rfl, (bits_nat k j hj hk _ 1 hd h1).1, Nat.testBit, Nat.shiftRight_eq_div_pow, Nat.and_comm]
  rw [Bool.eq_iff_iff]
  simp only [beq_iff_eq, Bool.not_eq_true', bne_eq_false_iff_eq]
  omega
theorem bit_set (k : IntKind) (j : Nat) (hj : j ≤ k.bits) (hk : ∀ n : Int, 0 ≤ n → n < 2 ^ j → k.wrap n = n) (a i : Nat) (ha : a < 2 ^ j) (hi : i < j) :
    bits .or k (a : Int) (2 ^ i) = ((a ||| 2 ^ i : Nat) : Int) := by
  have e : (2 : Int) ^ i = ((2 ^ i : Nat) : Int) := by simp
  rw [e]
  exact (bits_nat k j hj hk a _ ha (Nat.pow_lt_pow_right (by decide) hi)).2
end Go.Proofs.Ytlmhgcllikcedaa
/- A block of rows: cells that hold slices of ints, each of the call's own. Over any program. -/
namespace Go.Proofs.Ytlmhgcllikcedaa
open Go.RowKit

/-- The ints' cells. -/
def ints (xs : List Int) : List Value := xs.map (Value.int .i64)
theorem ints_length (xs : List Int) : (ints xs).length = xs.length := by simp [ints]
theorem ints_one (xs : List Int) : ∀ u ∈ ints xs, u.oneCell' = true := by
  intro u hu; simp only [ints, List.mem_map] at hu; obtain ⟨x, _, rfl⟩ := hu; rfl

/-- An owned row of ints reads as those ints. -/
theorem own_rd {w : World} {base e n c : Nat} {A : Option Addr} {xs : List Int} (h : w.ownsRow base e 1 (.slice A n c) n (ints xs)) : Rd w A 1 xs.length fun j => .int .i64 (xs.getD j 0) := fun h0 => by
  have hl : n = xs.length := by have := h.1; rw [ints_length] at this; omega
  obtain ⟨g, cap, hv, _, hlt⟩ := h.form (by omega)
  injection hv with hA
  subst hA
  refine ⟨g, 0, rfl, hlt, fun j hj => ?_⟩
  have := h.cells (g := g) rfl j (.int .i64 (xs.getD j 0)) (by simp [ints, List.getD_eq_getElem?_getD, List.getElem?_eq_getElem (show j < xs.length by omega)])
  unfold Addr.add at this
  by_cases hj0 : j = 0
  · subst hj0; simpa using this
  · simpa [hj0] using this

theorem own_drewN {w : World} {base e size n : Nat} {v : Value} {xs : List Value} (h : w.ownsRow base e size v n xs) (k : Nat) : (w.drewN k).ownsRow base e size v n xs := h
/-- An owned row lies in no block of another element type. -/
theorem own_ne_type {w : World} {base e size n t g : Nat} {v : Value} {xs : List Value} {cs : Array Value} {fr : Nat × Nat} (h : w.ownsRow base e size v n xs) (hg : w.heap[g]? = some (.cells cs t fr)) (hne : e ≠ t) : some g ≠ v.ownBlock := by
  rcases h.2 with ⟨rfl, _⟩ | ⟨g', cap, cur, rfl, _, hh, _⟩
  · simp [Value.ownBlock]
  · intro he
    have : g = g' := by simpa [Value.ownBlock] using he
    subst this
    rw [hh] at hg
    injection hg with hg
    injection hg with _ ht
    exact hne ht

/-- Block R holds `m` slices of ints, each a row of its own above R. -/
def Rws (w : World) (R T e m : Nat) (f : Nat → List Int) : Prop :=
  ∃ cs : Array Value, w.heap[R]? = some (.cells cs T (0, 0)) ∧ cs.size = m ∧ (∀ p (h : p < cs.size), w.ownsRow (R + 1) e 1 cs[p] (f p).length (ints (f p))) ∧
    (∀ p q (hp : p < cs.size) (hq : q < cs.size), p ≠ q → cs[p].ownBlock = none ∨ cs[p].ownBlock ≠ cs[q].ownBlock)

section
variable {w w1 : World} {R T e m : Nat} {f : Nat → List Int}
theorem Rws.lt (h : Rws w R T e m f) : R < w.heap.size := by
  obtain ⟨cs, h1, _⟩ := h
  exact lt_of_block h1
theorem Rws.kept (h : Rws w R T e m f) {row : Option Nat} (hg : w.grownBy w1 row) (hr : ∀ k, row = some k → w.heap.size ≤ k) : Rws w1 R T e m f := by
  have hlt := h.lt
  obtain ⟨cs, h1, h2, h3, h4⟩ := h
  have far : ∀ k, k < w.heap.size → some k ≠ row := fun k hk hc => by have := hr k hc.symm; omega
  refine ⟨cs, ?_, h2, fun p hp => (h3 p hp).kept hg ?_, h4⟩
  · rw [hg.block R hlt (far R hlt)]; exact h1
  · cases hb : cs[p].ownBlock with
    | none => exact .inl rfl
    | some k => exact .inr (far k ((h3 p hp).lt k hb).2)
theorem Rws.alloc (h : Rws w R T e m f) (o : Obj) : Rws (w.alloc o) R T e m f := h.kept (World.grownBy_alloc w o none) (fun k hk => by cases hk)
theorem Rws.drew (h : Rws w R T e m f) : Rws w.drew R T e m f := h
theorem Rws.drewN (h : Rws w R T e m f) (n : Nat) : Rws (w.drewN n) R T e m f := h
/-- The slice in a cell. -/
theorem Rws.at_ (h : Rws w R T e m f) {p : Nat} (hp : p < m) :
    ∃ v, w.cell? ⟨R, p, none⟩ = some v ∧ w.frozen? ⟨R, p, none⟩ = false ∧ w.ownsRow (R + 1) e 1 v (f p).length (ints (f p)) := by
  obtain ⟨cs, h1, h2, h3, h4⟩ := h
  refine ⟨cs[p]'(by omega), ?_, frozen_of_row w R p cs T h1, h3 p (by omega)⟩
  rw [cell_of_row w R p cs T _ h1, Array.getElem?_eq_getElem (by omega)]
/-- One row has grown by an append, and its slice is stored. -/
theorem Rws.grow (h : Rws w R T e m f) {p : Nat} (hp : p < m) {v v' : Value} {xs : List Int} {g n cap : Nat} (hv : w.cell? ⟨R, p, none⟩ = some v) (hown : w1.ownsRow (R + 1) e 1 v' xs.length (ints xs))
    (hv' : v' = .slice (some ⟨g, 0, none⟩) n cap) (hgrow : w.grownBy w1 v.ownBlock) (hat : v.ownBlock = some g ∨ g = w.heap.size) : Rws (w1.setCell ⟨R, p, none⟩ v') R T e m (fun q => if q = p then xs else f q) := by
  have hlt := h.lt
  obtain ⟨cs, h1, h2, h3, h4⟩ := h
  have hpc : p < cs.size := by omega
  have hvp : v = cs[p] := by
    rw [cell_of_row w R p cs T _ h1, Array.getElem?_eq_getElem hpc] at hv
    exact (Option.some.inj hv).symm
  subst hvp
  have hb : ∀ k, cs[p].ownBlock = some k → R + 1 ≤ k ∧ k < w.heap.size := (h3 p hpc).lt
  have hR : w1.heap[R]? = some (.cells cs T (0, 0)) := by
    rw [hgrow.block R hlt (fun hc => by have := hb R hc.symm; omega)]; exact h1
  have hgR : R + 1 ≤ g := by
    rcases hat with hat | hat
    · exact (hb g hat).1
    · omega
  refine ⟨cs.setIfInBounds p v', heap_setCell_same w1 R p cs T v' hR, by simpa using h2, fun q hq => ?_, fun q r hq hr hqr => ?_⟩
  · have hqc : q < cs.size := by simpa using hq
    by_cases hqp : q = p
    · subst hqp
      simp only [Array.getElem_setIfInBounds_self, if_true]
      exact ownsRow_setCell_below hown (by show R < R + 1; omega) _
    · simp only [Array.getElem_setIfInBounds_ne hqc (Ne.symm hqp), if_neg hqp]
      refine ownsRow_setCell_below ((h3 q hqc).kept hgrow ?_) (by show R < R + 1; omega) _
      exact h4 q p hqc hpc hqp
  · have hqc : q < cs.size := by simpa using hq
    have hrc : r < cs.size := by simpa using hr
    by_cases hqp : q = p
    · subst hqp
      have hrp : r ≠ q := Ne.symm hqr
      simp only [Array.getElem_setIfInBounds_self, Array.getElem_setIfInBounds_ne hrc (Ne.symm hrp)]
      refine .inr fun he => ?_
      have he' : cs[r].ownBlock = some g := by rw [← he, hv']; rfl
      rcases hat with hat | hat
      · rcases h4 q r hqc hrc hqr with h | h
        · rw [h] at hat; cases hat
        · exact h (by rw [hat, he'])
      · have := ((h3 r hrc).lt g he').2; omega
    · by_cases hrp : r = p
      · subst hrp
        simp only [Array.getElem_setIfInBounds_self, Array.getElem_setIfInBounds_ne hqc (Ne.symm hqp)]
        cases hbq : cs[q].ownBlock with
        | none => exact .inl rfl
        | some k =>
          refine .inr fun he => ?_
          have he' : k = g := by rw [hv'] at he; exact Option.some.inj he
          subst he'
          rcases hat with hat | hat
          · rcases h4 q r hqc hpc hqp with h | h
            · rw [hbq] at h; cases h
            · exact h (by rw [hat, hbq])
          · have := ((h3 q hqc).lt k hbq).2; omega
      · simp only [Array.getElem_setIfInBounds_ne hqc (Ne.symm hqp), Array.getElem_setIfInBounds_ne hrc (Ne.symm hrp)]
        exact h4 q r hqc hrc hqr
theorem Rws.congr {f' : Nat → List Int} (h : Rws w R T e m f) (he : ∀ p, p < m → f p = f' p) : Rws w R T e m f' := by
  obtain ⟨cs, h1, h2, h3, h4⟩ := h
  exact ⟨cs, h1, h2, fun p hp => by rw [← he p (by omega)]; exact h3 p hp, h4⟩
/-- A new block of nil slices. -/
theorem Rws.made (w : World) (cs : Array Value) (hm : cs.size = m) (hc : ∀ p (h : p < cs.size), cs[p] = .slice none 0 0) : Rws (w.alloc (.cells cs T)) w.heap.size T e m (fun _ => []) :=
  ⟨cs, heap_alloc_new w _, hm, fun p hp => by rw [hc p hp]; exact World.ownsRow_nil _ _ _ _, fun p q hp _ _ => .inl (by rw [hc p hp]; rfl)⟩
end

section
variable {a w w1 : World} {row : Option Nat} {R : Nat}
theorem GB.drew (h : a.grownBy w row) : a.grownBy w.drew row := ⟨h.os, h.tape, h.output, h.size, h.block⟩
theorem GB.drewN (h : a.grownBy w row) (n : Nat) : a.grownBy (w.drewN n) row := ⟨h.os, h.tape, h.output, h.size, h.block⟩
theorem GB.alloc (h : a.grownBy w row) (o : Obj) : a.grownBy (w.alloc o) row :=
  ⟨h.os, h.tape, h.output, Nat.le_trans h.size (by simp), fun i hi hne => (Below.heap_alloc w o i (Nat.lt_of_lt_of_le hi h.size)).trans (h.block i hi hne)⟩
theorem GB.setCell (h : a.grownBy w (some R)) {p : Addr} (hp : p.block = R ∨ a.heap.size ≤ p.block) (u : Value) : a.grownBy (w.setCell p u) (some R) :=
  ⟨h.os, h.tape, h.output, by simpa [World.setCell] using h.size, fun i hi hne => (Below.heap_setCell w p u i (by
    rintro rfl
    rcases hp with hp | hp
    · exact hne (by rw [hp])
    · omega)).trans (h.block i hi hne)⟩
theorem GB.grown (h : a.grownBy w row) {row' : Option Nat} (hg : w.grownBy w1 row') (hr : ∀ k, row' = some k → a.heap.size ≤ k) : a.grownBy w1 row :=
  ⟨hg.os.trans h.os, hg.tape.trans h.tape, hg.output.trans h.output, Nat.le_trans h.size hg.size, fun i hi hne =>
    (hg.block i (Nat.lt_of_lt_of_le hi h.size) (fun e => by have := hr i e.symm; omega)).trans (h.block i hi hne)⟩
theorem GB.below {B : Nat} (h : a.grownBy w (some R)) (hB : B ≤ R) (hs : B ≤ a.heap.size) : Below B a w :=
  ⟨h.os, h.tape, h.output, h.size, fun k hk => h.block k (by omega) (by simp; omega)⟩
theorem GB.cell (h : a.grownBy w (some R)) {p : Addr} {v : Value} (hc : a.cell? p = some v) (hne : p.block ≠ R) : w.cell? p = some v :=
  h.cell hc (by simpa using hne)
end

/-- Block R holds m slices of ints; what they hold lies in other blocks of W0, and of those nothing has changed but block R. -/
structure Views (W0 w : World) (R T m : Nat) (f : Nat → List Int) : Prop where
  grown : W0.grownBy w (some R)
  cells : ∃ cs : Array Value, w.heap[R]? = some (.cells cs T (0, 0)) ∧ cs.size = m ∧ ∀ p (h : p < cs.size), ∃ A c, cs[p] = .slice A (f p).length c ∧ (f p).length ≤ c ∧ c ≤ maxLen ∧
    (0 < (f p).length → ∃ b off, A = some ⟨b, off, none⟩ ∧ b ≠ R ∧ b < W0.heap.size ∧ ∀ j (hj : j < (f p).length), W0.cell? ⟨b, off + j, none⟩ = some (.int .i64 (f p)[j]))

section
variable {W0 w w1 : World} {R T m : Nat} {f : Nat → List Int}
theorem Views.of_rws {e : Nat} (h : Rws W0 R T e m f) : Views W0 W0 R T m f := by
  refine ⟨World.grownBy.refl W0 _, ?_⟩
  obtain ⟨cs, h1, h2, h3, h4⟩ := h
  refine ⟨cs, h1, h2, fun p hp => ?_⟩
  have ho := h3 p hp
  rcases ho.2 with ⟨hv, h0⟩ | ⟨g, cap, cur, hv, hb, hh, hnc, hcap, _⟩
  · exact ⟨none, 0, by rw [hv, h0], by omega, by unfold maxLen; omega, fun hl => absurd hl (by omega)⟩
  · refine ⟨some ⟨g, 0, none⟩, cap, hv, hnc, hcap, fun hl => ⟨g, 0, rfl, by omega, lt_of_block hh, fun j hj => ?_⟩⟩
    rw [hv] at ho
    obtain ⟨b, off, e, _, hc⟩ := own_rd ho (by omega)
    injection e with e
    injection e with e1 e2
    subst e1; subst e2
    rw [hc j (by omega)]
    simp [List.getD_eq_getElem?_getD, hj]
theorem Views.kept (h : Views W0 w R T m f) (hg : W0.grownBy w1 (some R)) (hR : w1.heap[R]? = w.heap[R]?) : Views W0 w1 R T m f := by
  obtain ⟨_, cs, h1, h2, h3⟩ := h
  exact ⟨hg, cs, hR.trans h1, h2, h3⟩
theorem Views.lt (h : Views W0 w R T m f) : R < w.heap.size := by
  obtain ⟨_, cs, h1, _⟩ := h
  exact lt_of_block h1
theorem Views.alloc (h : Views W0 w R T m f) (o : Obj) : Views W0 (w.alloc o) R T m f := h.kept (GB.alloc h.grown o) (Below.heap_alloc w o R h.lt)
theorem Views.drew (h : Views W0 w R T m f) : Views W0 w.drew R T m f := h.kept (GB.drew h.grown) rfl
theorem Views.drewN (h : Views W0 w R T m f) (n : Nat) : Views W0 (w.drewN n) R T m f := h.kept (GB.drewN h.grown n) rfl
theorem Views.after (h : Views W0 w R T m f) {row : Option Nat} (hg : w.grownBy w1 row) (hr : ∀ k, row = some k → W0.heap.size ≤ k) (hR : R < W0.heap.size) : Views W0 w1 R T m f :=
  h.kept (GB.grown h.grown hg hr) (hg.block R h.lt (fun e => by have := hr R e.symm; omega))
theorem Views.at_ (h : Views W0 w R T m f) {p : Nat} (hp : p < m) : ∃ A c, w.cell? ⟨R, p, none⟩ = some (.slice A (f p).length c) ∧ w.frozen? ⟨R, p, none⟩ = false ∧ (f p).length ≤ c ∧ c ≤ maxLen ∧
    (0 < (f p).length → ∃ b off, A = some ⟨b, off, none⟩ ∧ b ≠ R ∧ b < W0.heap.size ∧ ∀ j (hj : j < (f p).length), W0.cell? ⟨b, off + j, none⟩ = some (.int .i64 (f p)[j])) := by
  obtain ⟨_, cs, h1, h2, h3⟩ := h
  obtain ⟨A, c, hv, h4, h5, h6⟩ := h3 p (by omega)
  exact ⟨A, c, by rw [cell_of_row w R p cs T _ h1, Array.getElem?_eq_getElem (by omega), hv], frozen_of_row w R p cs T h1, h4, h5, h6⟩
theorem Views.store (h : Views W0 w R T m f) {p : Nat} {xs : List Int} {A : Option Addr} {c : Nat} (h4 : xs.length ≤ c) (h5 : c ≤ maxLen)
    (h6 : 0 < xs.length → ∃ b off, A = some ⟨b, off, none⟩ ∧ b ≠ R ∧ b < W0.heap.size ∧ ∀ j (hj : j < xs.length), W0.cell? ⟨b, off + j, none⟩ = some (.int .i64 xs[j])) :
    Views W0 (w.setCell ⟨R, p, none⟩ (.slice A xs.length c)) R T m (fun q => if q = p then xs else f q) := by
  obtain ⟨hg, cs, h1, h2, h3⟩ := h
  refine ⟨GB.setCell hg (.inl rfl) _, cs.setIfInBounds p (.slice A xs.length c), heap_setCell_same w R p cs T _ h1, by simpa using h2, fun q hq => ?_⟩
  have hqc : q < cs.size := by simpa using hq
  by_cases hqp : q = p
  · subst hqp
    simp only [Array.getElem_setIfInBounds_self, if_true]
    exact ⟨A, c, rfl, h4, h5, h6⟩
  · simp only [Array.getElem_setIfInBounds_ne hqc (Ne.symm hqp), if_neg hqp]
    exact h3 q hqc
end

/-- A slice value that reads as these ints. -/
def RdV (w : World) (v : Value) (xs : List Int) : Prop := ∃ A c, v = .slice A xs.length c ∧ RdI w A xs
theorem RdV.nil (w : World) : RdV w (.slice none 0 0) [] := ⟨none, 0, rfl, by simp, fun h => absurd h (by simp)⟩
theorem RdV.later {w w' : World} {B : Nat} {v : Value} {xs : List Int} (h : RdV w v xs) (hb : Below B w w') (hB : w.heap.size ≤ B) : RdV w' v xs := by
  obtain ⟨A, c, h1, h2⟩ := h
  exact ⟨A, c, h1, h2.later hb hB⟩
theorem RdV.of_own {w : World} {base e : Nat} {v : Value} {xs : List Int} (h : w.ownsRow base e 1 v xs.length (ints xs)) (hl : xs.length ≤ 281474976710656) : RdV w v xs := by
  rcases h.2 with ⟨rfl, h0⟩ | ⟨g, cap, cur, rfl, _⟩
  · have : xs = [] := List.eq_nil_of_length_eq_zero h0
    subst this; exact RdV.nil w
  · exact ⟨_, cap, rfl, hl, own_rd h⟩
end Go.Proofs.Ytlmhgcllikcedaa
/- One more number for a list; the sheets that a function is given. -/
namespace Go.Proofs.Ytlmhgcllikcedaa
open Go.RowKit

theorem info_int_Try : (Try.prog.info? 3).map (fun i => (i.zero, i.size, i.bytes)) = some (some (.int .i64 0), 1, 8) := by kernel_rfl

/-- One int is appended to a row of the call's own. -/
theorem run_app1_Try (w : World) (base : Nat) (v : Value) (xs : List Int) (hown : w.ownsRow base 3 1 v xs.length (ints xs)) (b : Nat) (z : Int) (hb : w.heap[b]? = some (.cells #[.int .i64 z] 3 (0, 0)))
    (hn : xs.length ≤ 1000000000) (hbase : base ≤ w.heap.size) (ty : TypeId) :
    ∃ g cap w', (Builtin.append_ #[55, 55] ty #[v, .slice (some ⟨b, 0, none⟩) 1 1]).run Try.prog w = .ok (.slice (some ⟨g, 0, none⟩) (xs.length + 1) cap) w' ∧
      w'.ownsRow base 3 1 (.slice (some ⟨g, 0, none⟩) (xs.length + 1) cap) (xs ++ [z]).length (ints (xs ++ [z])) ∧ w.grownBy w' v.ownBlock ∧ (v.ownBlock = some g ∨ g = w.heap.size) ∧ g < w'.heap.size := by
  obtain ⟨i0, hi, hz0, hz1, hz2⟩ := info_parts info_int_Try
  obtain ⟨g, cap, w', h1, h2, h3, h4, h5⟩ := run_append_lies (P := Try.prog) w 55 ty base 3 i0 (.int .i64 0) 1 8 Try.underlying55 hi hz0 hz1 hz2 rfl (by omega) v xs.length (ints xs) hown ⟨b, 0, none⟩ 1 1 [.int .i64 z] rfl
    (World.news_of_block hb) (ints_one [z]) (by omega) (by unfold maxLen; omega) (by omega) hbase w.heap.size rfl
  refine ⟨g, cap, w', h1, ?_, h3, h4, h5⟩
  rw [List.length_append]
  simpa [ints] using h2
theorem step_app1_Try {ops : Array Oper} {o : Oper} {a : Act} {K : Act → World → Prop} {Q : Exit → Act → World → Prop} {E : Prop} {w : World} (hgd : o.guard = none) (s x : Operand)
    (ho : o.op = .call { callee := .builtin .append, args := #[s, x], argTypes := #[55, 55] })
    (base : Nat) (v : Value) (xs : List Int) (hs : a.eval s = v) (hown : w.ownsRow base 3 1 v xs.length (ints xs)) (b : Nat) (z : Int) (hx : a.eval x = .slice (some ⟨b, 0, none⟩) 1 1)
    (hb : w.heap[b]? = some (.cells #[.int .i64 z] 3 (0, 0))) (hn : xs.length ≤ 1000000000) (hbase : base ≤ w.heap.size)
    (h : ∀ g cap w', w'.ownsRow base 3 1 (.slice (some ⟨g, 0, none⟩) (xs.length + 1) cap) (xs ++ [z]).length (ints (xs ++ [z])) → w.grownBy w' v.ownBlock → (v.ownBlock = some g ∨ g = w.heap.size) → g < w'.heap.size →
      K (a.put o.dst (.slice (some ⟨g, 0, none⟩) (xs.length + 1) cap)) w') :
    if Region.wanted o (yielded ops a.tmps) = true then Oper.wp Try.prog o a w K Q else E := by
  obtain ⟨i0, hi, hz0, hz1, hz2⟩ := info_parts info_int_Try
  refine step_append_lies w hgd s x 55 ho base 3 i0 (.int .i64 0) 1 8 Try.underlying55 hi hz0 hz1 hz2 rfl (by omega) v xs.length (ints xs) hs hown ⟨b, 0, none⟩ 1 1 [.int .i64 z] hx rfl
    (World.news_of_block hb) (ints_one [z]) (by omega) (by unfold maxLen; omega) (by omega) hbase w.heap.size rfl fun g cap w' h2 h3 h4 h5 => h g cap w' ?_ h3 h4 h5
  rw [List.length_append]
  simpa [ints] using h2
theorem wpList_app1_Try {ops : Array Oper} {rest : List Oper} {o : Oper} {a : Act} {Q : Exit → Act → World → Prop} {w : World} (hgd : o.guard = none) (s x : Operand)
    (ho : o.op = .call { callee := .builtin .append, args := #[s, x], argTypes := #[55, 55] })
    (base : Nat) (v : Value) (xs : List Int) (hs : a.eval s = v) (hown : w.ownsRow base 3 1 v xs.length (ints xs)) (b : Nat) (z : Int) (hx : a.eval x = .slice (some ⟨b, 0, none⟩) 1 1)
    (hb : w.heap[b]? = some (.cells #[.int .i64 z] 3 (0, 0))) (hn : xs.length ≤ 1000000000) (hbase : base ≤ w.heap.size)
    (h : ∀ g cap w', w'.ownsRow base 3 1 (.slice (some ⟨g, 0, none⟩) (xs.length + 1) cap) (xs ++ [z]).length (ints (xs ++ [z])) → w.grownBy w' v.ownBlock → (v.ownBlock = some g ∨ g = w.heap.size) → g < w'.heap.size →
      wpList Try.prog ops Q rest (a.put o.dst (.slice (some ⟨g, 0, none⟩) (xs.length + 1) cap)) w') : wpList Try.prog ops Q (o :: rest) a w := by
  obtain ⟨i0, hi, hz0, hz1, hz2⟩ := info_parts info_int_Try
  refine wpList_append_lies w hgd s x 55 ho base 3 i0 (.int .i64 0) 1 8 Try.underlying55 hi hz0 hz1 hz2 rfl (by omega) v xs.length (ints xs) hs hown ⟨b, 0, none⟩ 1 1 [.int .i64 z] hx rfl
    (World.news_of_block hb) (ints_one [z]) (by omega) (by unfold maxLen; omega) (by omega) hbase w.heap.size rfl fun g cap w' h2 h3 h4 h5 => h g cap w' ?_ h3 h4 h5
  rw [List.length_append]
  simpa [ints] using h2
theorem own_slice1 {w : World} {base e n : Nat} {v : Value} {xs : List Value} (h : w.ownsRow base e 1 v n xs) : ∃ A c, v = .slice A n c := by
  rcases h.2 with ⟨rfl, h0⟩ | ⟨g, cap, cur, rfl, _⟩
  · exact ⟨none, 0, by rw [h0]⟩
  · exact ⟨_, cap, rfl⟩
def ListPost (l : List Int) (x : Int) (w : World) (e : Ending) (w' : World) : Prop := ∃ v, e = .returned (.tuple #[v, .int .i64 x]) ∧ RdV w' v l ∧ Below w.heap.size w w'
end Go.Proofs.Ytlmhgcllikcedaa
/- Numbers of the program to the base 2^32: trim, digit, of, compare. -/
namespace Go.Proofs.Ytlmhgcllikcedaa
open Go.RowKit

theorem bcell2 {w0 w1 : World} (h : Below w0.heap.size w0 w1) : Below w0.heap.size w0 w1 ∧ (∀ b o, b < w0.heap.size → w1.cell? ⟨b, o, none⟩ = w0.cell? ⟨b, o, none⟩) ∧ w0.heap.size ≤ w1.heap.size := ⟨h, fun b o hb => h.cell (p := ⟨b, o, none⟩) hb, h.size⟩
def slN (v : Value) : Nat := match v with | .slice _ n _ => n | _ => 0
/-- Block R holds n digits. -/
def U4 (w : World) (R n : Nat) (g : Nat → Nat) : Prop := w.heap[R]? = some (.cells ((List.range n).map fun p => Value.int .u32 ((g p : Nat) : Int)).toArray 104 (0, 0))
section
variable {w w' : World} {R n : Nat} {g g' : Nat → Nat}
theorem U4.at_ (h : U4 w R n g) {p : Nat} (hp : p < n) : w.cell? ⟨R, p, none⟩ = some (.int .u32 ((g p : Nat) : Int)) := by
  rw [cell_of_row w R p _ _ _ h]; simp [hp]
theorem U4.free (h : U4 w R n g) (p : Nat) : w.frozen? ⟨R, p, none⟩ = false := frozen_of_row _ _ p _ _ h
theorem U4.put (h : U4 w R n g) (p z : Nat) : U4 (w.setCell ⟨R, p, none⟩ (.int .u32 (z : Int))) R n (upD g p z) := by
  have h1 := heap_setCell_same w R p _ _ (.int .u32 (z : Int)) h
  refine Eq.trans h1 ?_
  congr 2
  apply Array.ext'
  apply List.ext_getElem
  · simp
  · intro j h1 h2
    simp only [Array.toList_setIfInBounds, List.getElem_set, List.getElem_map, List.getElem_range]
    by_cases hj : p = j
    · subst hj; simp [upD]
    · rw [if_neg hj]; simp [upD, Ne.symm hj]
theorem U4.lt (h : U4 w R n g) : R < w.heap.size := lt_of_block h
theorem U4.later (h : U4 w R n g) (hb : Below w.heap.size w w') : U4 w' R n g := (hb.block _ h.lt).trans h
theorem U4.same (h : U4 w R n g) (hb : w'.heap[R]? = w.heap[R]?) : U4 w' R n g := hb.trans h
theorem U4.eqv (h : U4 w R n g) (he : ∀ a, a < n → g a = g' a) : U4 w R n g' := by
  unfold U4 at h ⊢
  rw [h]
  congr 3
  apply List.map_congr_left
  intro a ha
  rw [he a (List.mem_range.1 ha)]
end
theorem u4_zero (w : World) (n : Nat) : U4 (w.alloc (.cells (madeCells #[.int .u32 0] n) 104)) w.heap.size n (fun _ => 0) := by
  unfold U4
  rw [heap_alloc_new]
  congr 2
  apply Array.ext'
  apply List.ext_getElem
  · simp [madeCells]
  · intro j h1 h2
    simp [madeCells, Nat.mod_one]
theorem infoU4_Try : (Try.prog.info? 104).map (fun i => (i.zero, i.size, i.bytes)) = some (some (.int .u32 0), 1, 4) := by kernel_rfl
/-- The slice at A reads as the n lowest digits of v. -/
def RdD (w : World) (A : Option Addr) (n v : Nat) : Prop := Rd w A 1 n fun j => .int .u32 ((dg v j : Nat) : Int)
theorem RdD.at_ {w : World} {A : Option Addr} {n v : Nat} (h : RdD w A n v) {j : Nat} (hj : j < n) : ∃ b off, A = some ⟨b, off, none⟩ ∧ b < w.heap.size ∧ w.cell? ⟨b, off + j, none⟩ = some (.int .u32 ((dg v j : Nat) : Int)) := by
  obtain ⟨b, off, e, hlt, hc⟩ := h (by omega)
  exact ⟨b, off, e, hlt, hc j (by omega)⟩
theorem RdD.later {w w' : World} {B : Nat} {A : Option Addr} {n v : Nat} (h : RdD w A n v) (hb : Below B w w') (hB : w.heap.size ≤ B) : RdD w' A n v := Rd.later h hb hB
theorem RdD.less {w : World} {A : Option Addr} {n m v : Nat} (h : RdD w A n v) (hm : m ≤ n) : RdD w A m v := fun h0 => by
  obtain ⟨b, off, e, hlt, hc⟩ := h (by omega)
  exact ⟨b, off, e, hlt, fun j hj => hc j (by omega)⟩
theorem RdD.drewN {w : World} {A : Option Addr} {n v : Nat} (h : RdD w A n v) (k : Nat) : RdD (w.drewN k) A n v := Rd.later h (below_drewN (Below.refl _ _) k) (Nat.le_refl _)
theorem RdD.of_u4 {w : World} {R n v : Nat} {g : Nat → Nat} (h : U4 w R n g) (hg : ∀ j, j < n → g j = dg v j) : RdD w (some ⟨R, 0, none⟩) n v := fun _ => ⟨R, 0, rfl, h.lt, fun j hj => by rw [Nat.zero_add, h.at_ (by omega), hg j (by omega)]⟩
/-- The number v, as a nat. -/
def RdN (w : World) (A : Option Addr) (v : Nat) : Prop := RdD w A (nl v) v
theorem RdN.later {w w' : World} {B : Nat} {A : Option Addr} {v : Nat} (h : RdN w A v) (hb : Below B w w') (hB : w.heap.size ≤ B) : RdN w' A v := Rd.later h hb hB
def NatPost (r : Nat) (w : World) (e : Ending) (w' : World) : Prop := ∃ A c, e = .returned (.slice A (nl r) c) ∧ RdN w' A r ∧ nl r ≤ c ∧ Below w.heap.size w w'
theorem rdN_zero (w : World) (A : Option Addr) : RdN w A 0 := fun h => absurd h (by simp [nl_zero])

set_option maxRecDepth 100000 in
set_option maxHeartbeats 2000000 in
theorem natTrim_ (A : Option Addr) (n c v : Nat) (w : World) (hv : v < pw n) (hn : n ≤ 281474976710656) (hc : n ≤ c) (h : RdD w A n v) :
    Calls Try.prog 94 #[.slice A n c] w fun e w' => e = .returned (.slice A (nl v) c) ∧ w = w' := by
  have hl := nl_le.2 hv
  have HV := Lib.hid hv; have H := Lib.hid h; clear hv h
  go_enter Try.func94, Try.ntmps94
  go_wp2
  go_loopw [0] (fun av wr => ∃ k : Nat, av = .slice A k c ∧ nl v ≤ k ∧ k ≤ n ∧ wr = w) (fun av _ => slN av)
  case atStart => exact ⟨n, rfl, hl, Nat.le_refl _, rfl⟩
  case round =>
    obtain ⟨k, rfl, hk1, hk2, rfl⟩ := hrel
    by_cases h0 : k = 0
    · subst h0
      have hz : nl v = 0 := by omega
      have HZ := Lib.hid hz; clear hz
      go_wp2
      go_ret
      exact ⟨by rw [HZ.out]; rfl, rfl⟩
    · obtain ⟨j, rfl⟩ : ∃ j, k = j + 1 := ⟨k - 1, by omega⟩
      obtain ⟨b, off, rfl, hbl, e1⟩ := H.out.at_ (show j < n by omega)
      have x1 : (0 : Int) < ((j + 1 : Nat) : Int) := by omega
      have x2 : IntKind.i64.wrap (((j + 1 : Nat) : Int) - 1) = (j : Int) := by rw [IntWalk.i64_in _ (by omega)]; omega
      have x3 : (0 : Int) ≤ (j : Int) := by omega
      have x4 : (j : Int) < ((j + 1 : Nat) : Int) := by omega
      have x5 : (j : Int) ≤ (c : Int) := by omega
      by_cases hj : nl v ≤ j
      · rw [dg_zero (nl_le.1 hj)] at e1
        go_wp2
        go_roundw
        case rel => exact ⟨j, rfl, hj, by omega, trivial⟩
        case measure => simp [slN]
      · have hnl : nl v = j + 1 := by omega
        have hd := dg_top hnl
        have f1 : (((dg v j : Nat) : Int) == 0) = false := by rw [beq_eq_false_iff_ne]; omega
        have f2 : ¬ ((dg v j : Nat) : Int) = 0 := by omega
        generalize dg v j = d at *
        have HNL := Lib.hid hnl; have HD := Lib.hid hd; clear hnl hd
        go_wp2
        go_ret
        exact ⟨by rw [HNL.out]; rfl, rfl⟩
set_option maxRecDepth 100000 in
set_option maxHeartbeats 2000000 in
theorem natDigit_ (A : Option Addr) (c v i : Nat) (w : World) (hi : i < 9223372036854775808) (h : RdN w A v) :
    Calls Try.prog 93 #[.slice A (nl v) c, .int .i64 (i : Int)] w fun e w' => e = .returned (.int .u64 ((dg v i : Nat) : Int)) ∧ w = w' := by
  by_cases hlt : i < nl v
  · obtain ⟨b, off, rfl, hbl, e1⟩ := h.at_ hlt
    have hd := dg_lt v i
    have x1 : (i : Int) < ((nl v : Nat) : Int) := by omega
    have x2 : (0 : Int) ≤ (i : Int) := by omega
    have x3 : IntKind.u64.wrap ((dg v i : Nat) : Int) = ((dg v i : Nat) : Int) := IntWalk.u64_in _ (by omega)
    generalize dg v i = d at *
    generalize nl v = n at *
    have H := Lib.hid h; have HD := Lib.hid hd; clear h hd
    go_enter Try.func93, Try.ntmps93
    go_wp2
    go_ret
    exact ⟨rfl, rfl⟩
  · have hd : dg v i = 0 := dg_zero (nl_le.1 (by omega))
    have x1 : ¬ (i : Int) < ((nl v : Nat) : Int) := by omega
    generalize nl v = n at *
    have H := Lib.hid h; have HD := Lib.hid hd; clear h hd
    go_enter Try.func93, Try.ntmps93
    go_wp2
    go_ret
    exact ⟨by rw [HD.out]; rfl, rfl⟩
/-- What a comparison says. -/
def CmpZ (a b : Nat) (z : Int) : Prop := (z < 0 ↔ a < b) ∧ (z = 0 ↔ a = b) ∧ -9000000000000000000 ≤ z ∧ z ≤ 9000000000000000000
def CmpPost (a b : Nat) (w : World) (e : Ending) (w' : World) : Prop := ∃ z : Int, e = .returned (.int .i64 z) ∧ CmpZ a b z ∧ Below w.heap.size w w'
set_option maxRecDepth 100000 in
set_option maxHeartbeats 2000000 in
theorem tOf_ (v : Nat) (w : World) (hv : v < 18446744073709551616) :
    Calls Try.prog 90 #[.int .u64 (v : Int)] w (NatPost v w) := by
  have hp2 : v < pw 2 := hv
  have r1 : IntKind.u32.wrap (v : Int) = ((dg v 0 : Nat) : Int) := by
    rw [IntKind.wrap_u32]
    unfold dg
    rw [pw_zero, Nat.div_one]; rfl
  have r2 : (v : Int) / 4294967296 = ((v / 4294967296 : Nat) : Int) := rfl
  have r3 : IntKind.u32.wrap ((v / 4294967296 : Nat) : Int) = ((dg v 1 : Nat) : Int) := by
    rw [IntKind.wrap_u32]
    unfold dg
    rw [pw_succ, pw_zero, Nat.one_mul]; rfl
  have hb : U4 (w.alloc (.cells #[.int .u32 ((dg v 0 : Nat) : Int), .int .u32 ((dg v 1 : Nat) : Int)] 104)) w.heap.size 2 (dg v) := heap_alloc_new _ _
  have hrd := RdD.of_u4 hb (v := v) fun j _ => rfl
  have hbw : Below w.heap.size w (w.alloc (.cells #[.int .u32 ((dg v 0 : Nat) : Int), .int .u32 ((dg v 1 : Nat) : Int)] 104)) := (Below.refl _ _).alloc (Nat.le_refl _) _
  have hl := nl_le.2 hp2
  generalize v / 4294967296 = v1 at *
  generalize dg v 0 = d0 at *
  generalize dg v 1 = d1 at *
  have HV := Lib.hid hv; have HP2 := Lib.hid hp2; have HB := Lib.hid hb; have HRD := Lib.hid hrd; have HBW := Lib.hid hbw; have HL := Lib.hid hl; clear hv hp2 hb hrd hbw hl
  go_enter Try.func90, Try.ntmps90
  go_wp2_with fail
  refine (natTrim_ _ 2 2 v _ HP2.out (by decide) (Nat.le_refl _) HRD.out).mono ?_
  rintro e w1 ⟨rfl, rfl⟩
  go_wp2
  go_ret
  exact ⟨_, _, rfl, HRD.out.less HL.out, HL.out, HBW.out⟩
set_option maxRecDepth 100000 in
set_option maxHeartbeats 2000000 in
theorem natCompare_ (A B : Option Addr) (c d a b : Nat) (w : World) (ha : RdN w A a) (hb : RdN w B b) (hla : nl a ≤ 281474976710656) (hlb : nl b ≤ 281474976710656) :
    Calls Try.prog 59 #[.slice A (nl a) c, .slice B (nl b) d] w (CmpPost a b w) := by
  have hpa := lt_pw a
  have hpb := lt_pw b
  by_cases hl : nl a = nl b
  rotate_left
  · have f1 : (((nl a : Nat) : Int) != ((nl b : Nat) : Int)) = true := by simp; omega
    have f2 : ¬ ((nl a : Nat) : Int) = ((nl b : Nat) : Int) := by omega
    have f3 : IntKind.i64.wrap (((nl a : Nat) : Int) - ((nl b : Nat) : Int)) = ((nl a : Nat) : Int) - ((nl b : Nat) : Int) := IntWalk.i64_in _ (by omega)
    have hz : CmpZ a b (((nl a : Nat) : Int) - ((nl b : Nat) : Int)) := by
      have h1 : a < b → nl a ≤ nl b := fun h => nl_mono (by omega)
      have h2 : b ≤ a → nl b ≤ nl a := nl_mono
      have h3 : a = b → nl a = nl b := fun h => by rw [h]
      refine ⟨⟨fun h => ?_, fun h => ?_⟩, ⟨fun h => ?_, fun h => ?_⟩, by omega, by omega⟩
      · rcases Nat.lt_or_ge a b with h4 | h4
        · exact h4
        · have := h2 h4; omega
      · have := h1 h; omega
      · omega
      · exact absurd (h3 h) hl
    generalize nl a = la at *
    generalize nl b = lb at *
    have hbw := Below.refl w.heap.size w
    have HA := Lib.hid ha; have HB := Lib.hid hb; have HL := Lib.hid hl; have HPA := Lib.hid hpa; have HPB := Lib.hid hpb; have HZ := Lib.hid hz; have HBW := Lib.hid hbw; clear ha hb hl hpa hpb hz hbw
    go_enter Try.func59, Try.ntmps59
    go_wp2
    go_ret
    exact ⟨_, rfl, HZ.out, HBW.out⟩
  · have hnb : RdD w B (nl a) b := by rw [hl]; exact hb
    have hpb2 : b < pw (nl a) := by rw [hl]; exact hpb
    have hna : RdD w A (nl a) a := ha
    have HL := Lib.hid hl
    clear ha hb hlb hpb
    rw [← hl]
    clear hl
    generalize nl a = n at *
    have x1 : IntKind.i64.wrap ((n : Int) - 1) = (n : Int) - 1 := IntWalk.i64_in _ (by omega)
    have HNA := Lib.hid hna; have HNB := Lib.hid hnb; have HPA := Lib.hid hpa; have HPB2 := Lib.hid hpb2; clear hna hnb hpa hpb2
    go_enter Try.func59, Try.ntmps59
    go_wp2
    clear x1
    go_loopw [5] (fun iv wr => ∃ k m : Nat, iv = .int .i64 ((k : Int) - 1) ∧ k ≤ n ∧ wr = w.drewN m ∧ (∀ j, k ≤ j → j < n → dg a j = dg b j)) (fun iv _ => (intOf iv + 1).toNat)
    case atStart => exact ⟨n, 0, rfl, Nat.le_refl _, rfl, fun j h1 h2 => by omega⟩
    case round =>
      obtain ⟨k, m, rfl, hk, rfl, heq⟩ := hrel
      by_cases h0 : k = 0
      · subst h0
        have hab : a = b := dg_ext HPA.out HPB2.out fun i hi => heq i (Nat.zero_le _) hi
        have y1 : ¬ (0 : Int) ≤ ((0 : Nat) : Int) - 1 := by omega
        have HEQ := Lib.hid heq; have HAB := Lib.hid hab; clear heq hab
        go_wp2
        go_ret
        exact ⟨0, rfl, ⟨by have := HAB.out; omega, by have := HAB.out; omega, by omega, by omega⟩, below_drewN (Below.refl _ _) _⟩
      · obtain ⟨i, rfl⟩ : ∃ i, k = i + 1 := ⟨k - 1, by omega⟩
        have y0 : ((i + 1 : Nat) : Int) - 1 = (i : Int) := by omega
        rw [y0]
        have y1 : (0 : Int) ≤ (i : Int) := by omega
        have y2 : (i : Int) < (n : Int) := by omega
        obtain ⟨ba, oa, rfl, hba, hca⟩ := HNA.out.at_ (show i < n by omega)
        obtain ⟨bb, ob, rfl, hbb, hcb⟩ := HNB.out.at_ (show i < n by omega)
        have hda := dg_lt a i
        have hdb := dg_lt b i
        by_cases hx : dg a i = dg b i
        · have hxb : (((dg a i : Nat) : Int) != ((dg b i : Nat) : Int)) = false := by rw [hx]; simp
          have heq2 : ∀ j, i ≤ j → j < n → dg a j = dg b j := fun j h1 h2 => by
            by_cases e : j = i
            · subst e; exact hx
            · exact heq j (by omega) h2
          have y3 : IntKind.i64.wrap ((i : Int) - 1) = (i : Int) - 1 := IntWalk.i64_in _ (by omega)
          generalize dg a i = da at *
          generalize dg b i = db at *
          have HX := Lib.hid hx; have HEQ := Lib.hid heq; have HEQ2 := Lib.hid heq2; have HDA := Lib.hid hda; have HDB := Lib.hid hdb; clear hx heq heq2 hda hdb
          clear y0
          go_wp2
          go_quiet (fail)
          go_wp2
          go_roundw
          case rel => exact ⟨i, m + nq, by go_num, by omega, rfl, HEQ2.out⟩
          case measure => first | (simp [intOf]; done) | (simp [intOf]; omega)
        · have hxb : (((dg a i : Nat) : Int) != ((dg b i : Nat) : Int)) = true := by simp; omega
          have hz : CmpZ a b (((dg a i : Nat) : Int) - ((dg b i : Nat) : Int)) := by
            have h1 : dg a i < dg b i → a < b := cmp_at HPA.out HPB2.out fun j h1 h2 => heq j (by omega) h2
            have h2 : dg b i < dg a i → b < a := cmp_at HPB2.out HPA.out fun j h1 h2 => (heq j (by omega) h2).symm
            rcases Nat.lt_or_ge (dg a i) (dg b i) with h3 | h3
            · have := h1 h3
              exact ⟨by omega, by omega, by omega, by omega⟩
            · have := h2 (by omega)
              exact ⟨by omega, by omega, by omega, by omega⟩
          have y3 : IntKind.i64.wrap ((dg a i : Nat) : Int) = ((dg a i : Nat) : Int) := IntWalk.i64_in _ (by omega)
          have y4 : IntKind.i64.wrap ((dg b i : Nat) : Int) = ((dg b i : Nat) : Int) := IntWalk.i64_in _ (by omega)
          have y5 : IntKind.i64.wrap (((dg a i : Nat) : Int) - ((dg b i : Nat) : Int)) = ((dg a i : Nat) : Int) - ((dg b i : Nat) : Int) := IntWalk.i64_in _ (by omega)
          generalize dg a i = da at *
          generalize dg b i = db at *
          have HX := Lib.hid hx; have HEQ := Lib.hid heq; have HZ := Lib.hid hz; have HDA := Lib.hid hda; have HDB := Lib.hid hdb; clear hx heq hz hda hdb
          clear y0
          go_wp2
          go_quiet (fail)
          go_wp2
          go_quiet (fail)
          go_wp2
          go_ret
          exact ⟨_, rfl, HZ.out, below_drewN (below_drewN (below_drewN (Below.refl _ _) _) _) _⟩
end Go.Proofs.Ytlmhgcllikcedaa
/- Numbers of the program to the base 2^32: plus, minus. -/
namespace Go.Proofs.Ytlmhgcllikcedaa
open Go.RowKit

/-- One digit more is laid. -/
theorem U4.fill {w : World} {R n k : Nat} {f : Nat → Nat} (h : U4 w R n (fun j => if j < k then f j else 0)) : U4 (w.setCell ⟨R, k, none⟩ (.int .u32 ((f k : Nat) : Int))) R n (fun j => if j < k + 1 then f j else 0) :=
  (h.put k (f k)).eqv fun j _ => by
    show (if j = k then f k else if j < k then f j else 0) = if j < k + 1 then f j else 0
    by_cases h1 : j = k
    · subst h1; rw [if_pos rfl, if_pos (by omega)]
    · by_cases h2 : j < k
      · rw [if_neg h1, if_pos h2, if_pos (by omega)]
      · rw [if_neg h1, if_neg h2, if_neg (by omega)]
set_option maxRecDepth 100000 in
set_option maxHeartbeats 4000000 in
theorem natPlus_ (A B : Option Addr) (c d a b : Nat) (w : World) (ha : RdN w A a) (hb : RdN w B b) (hla : nl a ≤ 35184372088832) (hlb : nl b ≤ 35184372088832) :
    Calls Try.prog 57 #[.slice A (nl a) c, .slice B (nl b) d] w (NatPost (a + b) w) := by
  obtain ⟨N, hN⟩ : ∃ N, N = max (nl a) (nl b) + 1 := ⟨_, rfl⟩
  have hab : a + b < pw N := by
    have h1 := lt_pw a
    have h2 := lt_pw b
    have h3 := pw_le (show nl a ≤ max (nl a) (nl b) by omega)
    have h4 := pw_le (show nl b ≤ max (nl a) (nl b) by omega)
    rw [hN, pw_succ]
    omega
  have hN2 : N ≤ 35184372088833 := by omega
  have hN3 : nl a ≤ N ∧ nl b ≤ N := by omega
  have hmk := run_make_row' (P := Try.prog) 97 104 (.int .u32 0) 4 Try.underlying97 infoU4_Try rfl .i64 .i64 N (by omega) (by omega)
  have hm0 := u4_zero w N
  have hb0 : Below w.heap.size w (w.alloc (.cells (madeCells #[.int .u32 0] N) 104)) := (Below.refl _ _).alloc (Nat.le_refl _) _
  have e5 : nl a < nl b → wrap64 (((nl b : Nat) : Int) + 1) = (N : Int) := fun h => by rw [IntWalk.wrap64_in _ (by omega)]; omega
  have e6 : ¬ nl a < nl b → wrap64 (((nl a : Nat) : Int) + 1) = (N : Int) := fun h => by rw [IntWalk.wrap64_in _ (by omega)]; omega
  have HA := Lib.hid ha; have HB := Lib.hid hb; have HN := Lib.hid hN; have HAB := Lib.hid hab; have HM0 := Lib.hid hm0; have HB0 := Lib.hid hb0; have HLA := Lib.hid hla; have HLB := Lib.hid hlb; have HN3 := Lib.hid hN3; clear ha hb hN hab hm0 hb0 hla hlb hN3
  go_enter Try.func57, Try.ntmps57
  by_cases hlt : nl a < nl b
  all_goals
    first | (have e4 := e5 hlt) | (have e4 := e6 hlt)
    clear e5 e6
    go_wp2
    clear hmk e4
    go_loopw [6, 7, 17] (fun cv _ iv wr => ∃ k : Nat, iv = .int .i64 (k : Int) ∧ cv = .int .u64 ((cyF a b k : Nat) : Int) ∧ k ≤ N ∧ U4 wr w.heap.size N (fun j => if j < k then dg (a + b) j else 0) ∧ Below w.heap.size w wr) (fun _ _ iv _ => N - (intOf iv).toNat)
    case atStart => exact ⟨0, rfl, by rw [cyF_zero]; rfl, Nat.zero_le _, HM0.out.eqv fun j _ => by simp, HB0.out⟩
    case round =>
      clear HM0 HB0
      obtain ⟨k, rfl, rfl, hk, hu, hbw⟩ := hrel
      have hul := hu.lt
      by_cases hkN : k < N
      · have x1 : (0 : Int) ≤ (k : Int) := by omega
        have x2 : (k : Int) < (N : Int) := by omega
        have hda := dg_lt a k
        have hdb := dg_lt b k
        have hcy := cyF_le a b k
        obtain ⟨s1, s2⟩ := cyF_step a b k
        have hc1 := fun W h => natDigit_ A c a k W (by omega) (h : RdN W A a)
        have hc2 := fun W h => natDigit_ B d b k W (by omega) (h : RdN W B b)
        have hput2 := hu.fill
        have hbw2 := hbw.setCell (p := ⟨w.heap.size, k, none⟩) (Nat.le_refl _) (.int .u32 ((dg (a + b) k : Nat) : Int))
        have q3 := hu.at_ hkN
        have q4 := hu.free k
        have hra := HA.out.later hbw (Nat.le_refl _)
        have hrb := HB.out.later hbw (Nat.le_refl _)
        have t1 : IntKind.u64.wrap (((dg a k : Nat) : Int) + ((dg b k : Nat) : Int)) = ((dg a k : Nat) : Int) + ((dg b k : Nat) : Int) := IntWalk.u64_in _ (by omega)
        obtain ⟨sm, hsm⟩ : ∃ sm, sm = cyF a b k + (dg a k + dg b k) := ⟨_, rfl⟩
        have t2 : IntKind.u64.wrap (((cyF a b k : Nat) : Int) + (((dg a k : Nat) : Int) + ((dg b k : Nat) : Int))) = (sm : Int) := by rw [IntWalk.u64_in _ (by omega), hsm]; push_cast; rfl
        rw [← hsm] at s1 s2
        have t3 : (sm : Int) % 4294967296 = ((dg (a + b) k : Nat) : Int) := by rw [s1]; rfl
        have t4 : (sm : Int) / 4294967296 = ((cyF a b (k + 1) : Nat) : Int) := by rw [s2]; rfl
        generalize hd2 : dg (a + b) k = ds at *
        generalize dg a k = da at *
        generalize dg b k = db at *
        generalize cyF a b k = cy at *
        generalize hcy2 : cyF a b (k + 1) = cy2 at *
        have S1 := Lib.hid s1; have S2 := Lib.hid s2; have HPUT2 := Lib.hid hput2; have HBW2 := Lib.hid hbw2; have HU := Lib.hid hu; have HBW := Lib.hid hbw; have HC1 := Lib.hid hc1; have HC2 := Lib.hid hc2; have HRA := Lib.hid hra; have HRB := Lib.hid hrb; have HDA := Lib.hid hda; have HDB := Lib.hid hdb; have HCY := Lib.hid hcy; have HSM := Lib.hid hsm; have HCY2 := Lib.hid hcy2; have HD2 := Lib.hid hd2; clear s1 s2 hput2 hbw2 hu hbw hc1 hc2 hra hrb hda hdb hcy hsm hcy2 hd2
        go_wp2_with fail
        refine (HC1.out _ HRA.out).mono ?_
        rintro e wv ⟨rfl, rfl⟩
        go_wp2_with fail
        refine (HC2.out _ HRB.out).mono ?_
        rintro e wv ⟨rfl, rfl⟩
        go_wp2
        go_roundw
        case rel => exact ⟨k + 1, by go_num, by rw [HCY2.out], by omega, HPUT2.out, HBW2.out⟩
        case measure => simp [intOf]; omega
      · obtain rfl : k = N := by omega
        have hrd : RdD wr (some ⟨w.heap.size, 0, none⟩) k (a + b) := RdD.of_u4 hu fun j hj => if_pos hj
        have hl := nl_le.2 HAB.out
        have HU := Lib.hid hu; have HBW := Lib.hid hbw; have HRD := Lib.hid hrd; have HL := Lib.hid hl; clear hu hbw hrd hl
        go_wp2_with fail
        refine (natTrim_ _ k k (a + b) _ HAB.out (by omega) (Nat.le_refl _) HRD.out).mono ?_
        rintro e w1 ⟨rfl, rfl⟩
        go_wp2
        go_ret
        exact ⟨_, _, rfl, HRD.out.less HL.out, HL.out, HBW.out⟩
end Go.Proofs.Ytlmhgcllikcedaa
/- Numbers of the program to the base 2^32: minus, times. -/
namespace Go.Proofs.Ytlmhgcllikcedaa
open Go.RowKit

theorem wrap_u64 (n : Int) : IntKind.u64.wrap n = n % 18446744073709551616 := by simp [IntKind.wrap, IntKind.bits, IntKind.signed]
/-- One digit of a difference, in 64 bits. -/
theorem sub_step {da db bo ds bo2 : Nat} (h1 : da < 4294967296) (h2 : db < 4294967296) (h3 : ds < 4294967296) (h4 : bo ≤ 1) (h5 : bo2 ≤ 1) (h : da + 4294967296 * bo2 = ds + db + bo) :
    ∃ n1 n2 : Nat, IntKind.u64.wrap ((da : Int) - (db : Int)) = (n1 : Int) ∧ IntKind.u64.wrap ((n1 : Int) - (bo : Int)) = (n2 : Int) ∧ (n2 : Int) % 4294967296 = (ds : Int) ∧ (n2 : Int) / 9223372036854775808 = (bo2 : Int) ∧ n2 < 18446744073709551616 := by
  refine ⟨((da : Int) - (db : Int) + 18446744073709551616).toNat % 18446744073709551616, if bo2 = 0 then ds else 18446744069414584320 + ds, ?_, ?_, ?_, ?_, ?_⟩
  · rw [wrap_u64]; omega
  · rw [wrap_u64]; split <;> omega
  · split <;> omega
  · split <;> omega
  · split <;> omega
set_option maxRecDepth 100000 in
set_option maxHeartbeats 4000000 in
theorem natMinus_ (A B : Option Addr) (c d a b : Nat) (w : World) (ha : RdN w A a) (hb : RdN w B b) (hla : nl a ≤ 35184372088832) (hba : b ≤ a) :
    Calls Try.prog 95 #[.slice A (nl a) c, .slice B (nl b) d] w (NatPost (a - b) w) := by
  obtain ⟨N, hN⟩ : ∃ N, N = nl a := ⟨_, rfl⟩
  have hab : a - b < pw N := by
    have h1 := lt_pw a
    rw [hN]; omega
  have hna : RdD w A N a := by rw [hN]; exact ha
  have hN2 : N ≤ 35184372088832 := by omega
  rw [← hN]
  have hmk := run_make_row' (P := Try.prog) 97 104 (.int .u32 0) 4 Try.underlying97 infoU4_Try rfl .i64 .i64 N (by omega) (by omega)
  have hm0 := u4_zero w N
  have hb0 : Below w.heap.size w (w.alloc (.cells (madeCells #[.int .u32 0] N) 104)) := (Below.refl _ _).alloc (Nat.le_refl _) _
  clear hla ha
  have HNA := Lib.hid hna; have HB := Lib.hid hb; have HN := Lib.hid hN; have HAB := Lib.hid hab; have HM0 := Lib.hid hm0; have HB0 := Lib.hid hb0; have HBA := Lib.hid hba; clear hna hb hN hab hm0 hb0 hba
  go_enter Try.func95, Try.ntmps95
  go_wp2
  clear hmk
  go_loopw [6, 7, 8, 14] (fun cv _ _ iv wr => ∃ k : Nat, iv = .int .i64 (k : Int) ∧ cv = .int .u64 ((boF a b k : Nat) : Int) ∧ k ≤ N ∧ U4 wr w.heap.size N (fun j => if j < k then dg (a - b) j else 0) ∧ Below w.heap.size w wr) (fun _ _ _ iv _ => N - (intOf iv).toNat)
  case atStart => exact ⟨0, rfl, by rw [(boF_step HBA.out 0).1]; rfl, Nat.zero_le _, HM0.out.eqv fun j _ => by simp, HB0.out⟩
  case round =>
    clear HM0 HB0
    obtain ⟨k, rfl, rfl, hk, hu, hbw⟩ := hrel
    have hul := hu.lt
    by_cases hkN : k < N
    · have x1 : (0 : Int) ≤ (k : Int) := by omega
      have x2 : (k : Int) < (N : Int) := by omega
      have hda := dg_lt a k
      have hdb := dg_lt b k
      have hds := dg_lt (a - b) k
      obtain ⟨_, g1, g2⟩ := boF_step HBA.out k
      obtain ⟨_, g3, _⟩ := boF_step HBA.out (k + 1)
      obtain ⟨n1, n2, t1, t2, t3, t4, hn2⟩ := sub_step hda hdb hds g1 g3 g2
      have hrb := HB.out.later hbw (Nat.le_refl _)
      have hra := HNA.out.later hbw (Nat.le_refl _)
      have hc2 := fun (u : Bel wr.heap.size wr) => natDigit_ B d b k u.wd (by omega) (hrb.later u.h (Nat.le_refl _))
      obtain ⟨bl, off, rfl, hbl, q1⟩ := hra.at_ hkN
      have z1 : IntKind.u64.wrap ((dg a k : Nat) : Int) = ((dg a k : Nat) : Int) := IntWalk.u64_in _ (by omega)
      have hu2 := fun W (hW : U4 W w.heap.size N (fun j => if j < k then dg (a - b) j else 0)) => hW.fill
      clear hra
      generalize hd2 : dg (a - b) k = ds at *
      generalize dg a k = da at *
      generalize dg b k = db at *
      generalize boF a b k = bo at *
      generalize hbo2 : boF a b (k + 1) = bo2 at *
      have HU := Lib.hid hu; have HBW := Lib.hid hbw; have HC2 := Lib.hid hc2; have HRB := Lib.hid hrb; have HDA := Lib.hid hda; have HDB := Lib.hid hdb; have HDS := Lib.hid hds; have G1 := Lib.hid g1; have G2 := Lib.hid g2; have G3 := Lib.hid g3; have HN2 := Lib.hid hn2; have HBO2 := Lib.hid hbo2; have HD2 := Lib.hid hd2; have HU2 := Lib.hid hu2; clear hu hbw hc2 hrb hda hdb hds g1 g2 g3 hn2 hbo2 hd2 hu2
      go_upto_region 6 with fail
      have hbelc : ∀ (u : Bel wr.heap.size wr) b o, b < wr.heap.size → u.wd.cell? ⟨b, o, none⟩ = wr.cell? ⟨b, o, none⟩ := fun u b o h => u.h.cell (p := ⟨b, o, none⟩) h
      have hbeln : Nonempty (Bel wr.heap.size wr) := ⟨⟨wr, Below.refl _ _⟩⟩
      refine wp_region_bel wr.heap.size (by kernel_rfl) (by kernel_rfl) ?_
      repeat (go_big_quiet_step ((go_at_call 93; exact quiet_bel_same (HC2.out _))))
      refine wpQuiet_nil ?_
      intro wB hB0; obtain ⟨uB, hu⟩ := hB0; have hbB0 := uB.h; rw [← hu] at hbB0; clear hu uB hbelc hbeln
      obtain ⟨hbB, hcB, hsB⟩ := bcell2 hbB0; clear hbB0
      have hu3 := HU.out.later hbB
      have hbw3 := HBW.out.trans (hbB.mono HBW.out.size)
      have q3 := hu3.at_ hkN
      have q4 := hu3.free k
      have hul3 := hu3.lt
      have hu4 := HU2.out _ hu3
      have hbw4 := hbw3.setCell (p := ⟨w.heap.size, k, none⟩) (Nat.le_refl _) (.int .u32 (ds : Int))
      clear q1 hcB
      have HU3 := Lib.hid hu3; have HBW3 := Lib.hid hbw3; have HU4 := Lib.hid hu4; have HBW4 := Lib.hid hbw4; have HBB := Lib.hid hbB; clear hu3 hbw3 hu4 hbw4 hbB
      go_wp2
      go_roundw
      case rel => exact ⟨k + 1, by go_num, by rw [HBO2.out], by omega, HU4.out, HBW4.out⟩
      case measure => simp [intOf]; omega
    · obtain rfl : k = N := by omega
      have hrd : RdD wr (some ⟨w.heap.size, 0, none⟩) k (a - b) := RdD.of_u4 hu fun j hj => if_pos hj
      have hl := nl_le.2 HAB.out
      have HU := Lib.hid hu; have HBW := Lib.hid hbw; have HRD := Lib.hid hrd; have HL := Lib.hid hl; clear hu hbw hrd hl
      go_wp2_with fail
      refine (natTrim_ _ k k (a - b) _ HAB.out (by omega) (Nat.le_refl _) HRD.out).mono ?_
      rintro e w1 ⟨rfl, rfl⟩
      go_wp2
      go_ret
      exact ⟨_, _, rfl, HRD.out.less HL.out, HL.out, HBW.out⟩
theorem dg_low {P M i j : Nat} (h : j < i) : dg (P + M * pw i) j = dg P j := by
  have e : M * pw i = (M * pw (i - j - 1)) * pw (j + 1) := by
    have e1 : pw i = pw (j + 1) * pw (i - j - 1) := by rw [← pw_add, show j + 1 + (i - j - 1) = i by omega]
    rw [e1]
    generalize pw (j + 1) = X
    generalize pw (i - j - 1) = Y
    rw [Nat.mul_assoc, Nat.mul_comm Y X]
  rw [e]
  exact dg_add_mul P _ j
/-- One digit of a product, in 64 bits. -/
theorem mul_step {x y o cy : Nat} (hx : x < 4294967296) (hy : y < 4294967296) (ho : o < 4294967296) (hc : cy < 4294967296) :
    ∃ xy sm : Nat, IntKind.u64.wrap ((x : Int) * (y : Int)) = (xy : Int) ∧ IntKind.u64.wrap ((xy : Int) + (o : Int)) = (xy : Int) + (o : Int) ∧ IntKind.u64.wrap ((cy : Int) + ((xy : Int) + (o : Int))) = (sm : Int) ∧ sm = cy + (x * y + o) := by
  have h : x * y ≤ 4294967295 * 4294967295 := Nat.mul_le_mul (by omega) (by omega)
  refine ⟨x * y, cy + (x * y + o), ?_, ?_, ?_, rfl⟩
  · rw [IntWalk.u64_in _ (by
      rw [← Int.natCast_mul]
      omega)]
    exact (Int.natCast_mul x y).symm
  · generalize x * y = p at *
    exact IntWalk.u64_in _ (by omega)
  · generalize x * y = p at *
    rw [IntWalk.u64_in _ (by omega)]; push_cast; rfl
set_option maxRecDepth 100000 in
set_option maxHeartbeats 4000000 in
theorem natTimes_ (A B : Option Addr) (c d a b : Nat) (w : World) (ha : RdN w A a) (hb : RdN w B b) (hla : nl a ≤ 17592186044416) (hlb : nl b ≤ 17592186044416) :
    Calls Try.prog 91 #[.slice A (nl a) c, .slice B (nl b) d] w (NatPost (a * b) w) := by
  obtain ⟨la, hA1⟩ : ∃ la, la = nl a := ⟨_, rfl⟩
  obtain ⟨lb, hB1⟩ : ∃ lb, lb = nl b := ⟨_, rfl⟩
  obtain ⟨N, hN⟩ : ∃ N, N = la + lb := ⟨_, rfl⟩
  have hpa : a < pw la := by rw [hA1]; exact lt_pw a
  have hpb : b < pw lb := by rw [hB1]; exact lt_pw b
  have hab : a * b < pw N := by
    rw [hN, pw_add]
    exact Nat.mul_lt_mul'' hpa hpb
  have hna : RdD w A la a := by rw [hA1]; exact ha
  have hnb : RdD w B lb b := by rw [hB1]; exact hb
  rw [← hA1, ← hB1]
  have hla2 : la ≤ 17592186044416 := by omega
  have hlb2 : lb ≤ 17592186044416 := by omega
  have hN2 : N ≤ 35184372088832 := by omega
  have hmk := run_make_row' (P := Try.prog) 97 104 (.int .u32 0) 4 Try.underlying97 infoU4_Try rfl .i64 .i64 N (by omega) (by omega)
  have hm0 := u4_zero w N
  have hb0 : Below w.heap.size w (w.alloc (.cells (madeCells #[.int .u32 0] N) 104)) := (Below.refl _ _).alloc (Nat.le_refl _) _
  have e1 : IntKind.i64.wrap ((la : Int) + (lb : Int)) = (N : Int) := by rw [IntWalk.i64_in _ (by omega), hN]; push_cast; rfl
  clear ha hb hA1 hB1 hla hlb
  have HNA := Lib.hid hna; have HNB := Lib.hid hnb; have HN := Lib.hid hN; have HAB := Lib.hid hab; have HM0 := Lib.hid hm0; have HB0 := Lib.hid hb0; have HPA := Lib.hid hpa; have HPB := Lib.hid hpb; clear hna hnb hN hab hm0 hb0 hpa hpb
  go_enter Try.func91, Try.ntmps91
  go_wp2
  clear hmk e1
  go_loopw [6, 7, 8, 9, 10, 19] (fun _ _ _ _ _ iv wr => ∃ i : Nat, iv = .int .i64 (i : Int) ∧ i ≤ la ∧ U4 wr w.heap.size N (fun j => dg (lo a i * b) j) ∧ Below w.heap.size w wr) (fun _ _ _ _ _ iv _ => la - (intOf iv).toNat)
  case atStart => exact ⟨0, rfl, Nat.zero_le _, HM0.out.eqv fun j _ => by rw [lo_zero, Nat.zero_mul]; exact (dg_zero (pw_pos j)).symm, HB0.out⟩
  case round =>
    clear HM0 HB0
    obtain ⟨i, rfl, hi, hu, hbw⟩ := hrel
    obtain ⟨wq, rfl⟩ : ∃ wq : World, wq = wr := ⟨_, rfl⟩
    by_cases hiN : i < la
    · have hul := hu.lt
      have hlaN : la ≤ N := by have := HN.out; omega
      have x1 : (0 : Int) ≤ (i : Int) := by omega
      have x2 : (i : Int) < (la : Int) := by omega
      obtain ⟨bl, off, rfl, hbl, q1⟩ := (HNA.out.later hbw (Nat.le_refl _)).at_ hiN
      have hP : lo a i * b < pw (i + lb) := row_lt HPB.out
      have hP2 : lo a (i + 1) * b < pw (i + 1 + lb) := row_lt HPB.out
      have hrow := row_next a b i
      have hx := dg_lt a i
      generalize dg a i = x at *
      generalize lo a i * b = P at *
      generalize hP2e : lo a (i + 1) * b = P2 at *
      have z1 : IntKind.u64.wrap (x : Int) = (x : Int) := IntWalk.u64_in _ (by omega)
      have HU := Lib.hid hu; have HBW := Lib.hid hbw; have HP := Lib.hid hP; have HP2 := Lib.hid hP2; have HROW := Lib.hid hrow; have HX := Lib.hid hx; have HP2E := Lib.hid hP2e; have HLAN := Lib.hid hlaN; clear hu hbw hP hP2 hrow hx hP2e hlaN
      go_wp2
      clear q1
      go_loopw [8, 9, 10, 26] (fun cv _ _ kv wr => ∃ k : Nat, kv = .int .i64 (k : Int) ∧ cv = .int .u64 ((cmF P x b i k : Nat) : Int) ∧ k ≤ lb ∧ U4 wr w.heap.size N (fun j => if j < i + k then dg P2 j else dg P j) ∧ Below w.heap.size w wr) (fun _ _ _ kv _ => lb - (intOf kv).toNat)
      case atStart => exact ⟨0, rfl, by rw [cmF_zero]; rfl, Nat.zero_le _, HU.out.eqv fun j _ => by
        by_cases h : j < i + 0
        · rw [if_pos h, HROW.out, dg_low (by omega)]
        · rw [if_neg h], HBW.out⟩
      case round =>
        clear HU HBW
        obtain ⟨k, rfl, rfl, hk, hu, hbw⟩ := hrel
        have hul := hu.lt
        have hiN2 : i + lb < N := by have := HN.out; omega
        by_cases hkl : k < lb
        · have y1 : (0 : Int) ≤ (k : Int) := by omega
          have y2 : (k : Int) < (lb : Int) := by omega
          obtain ⟨bm, om, rfl, hbm, q1⟩ := (HNB.out.later hbw (Nat.le_refl _)).at_ hkl
          obtain ⟨ik, hik⟩ : ∃ ik, ik = i + k := ⟨_, rfl⟩
          have e1 : IntKind.i64.wrap ((i : Int) + (k : Int)) = (ik : Int) := by rw [IntWalk.i64_in _ (by omega), hik]; push_cast; rfl
          have y3 : (0 : Int) ≤ (ik : Int) := by omega
          have y4 : (ik : Int) < (N : Int) := by omega
          have q2 := hu.at_ (show ik < N by omega)
          rw [if_neg (by omega)] at q2
          have q3 := hu.free ik
          have hy := dg_lt b k
          have ho := dg_lt P ik
          have hcy := cmF_lt P b i k HX.out
          have s1 := cmF_next P x b i k
          have s2 := cmF_dg P x b i k
          rw [← HROW.out] at s2
          rw [← hik] at s1 s2
          obtain ⟨xy, sm, t1, t2, t3, hsm⟩ := mul_step HX.out hy ho hcy
          rw [← hsm] at s1 s2
          have t4 : (sm : Int) % 4294967296 = ((dg P2 ik : Nat) : Int) := by rw [s2]; rfl
          have t5 : (sm : Int) / 4294967296 = ((cmF P x b i (k + 1) : Nat) : Int) := by rw [s1]; rfl
          have hu2 : U4 (wr.setCell ⟨w.heap.size, ik, none⟩ (.int .u32 ((dg P2 ik : Nat) : Int))) w.heap.size N (fun j => if j < i + (k + 1) then dg P2 j else dg P j) := (hu.put ik (dg P2 ik)).eqv fun j _ => by
            show (if j = ik then dg P2 ik else if j < i + k then dg P2 j else dg P j) = _
            by_cases h : j = ik
            · rw [if_pos h, if_pos (by omega), h]
            · rw [if_neg h]
              by_cases h2 : j < i + k
              · rw [if_pos h2, if_pos (by omega)]
              · rw [if_neg h2, if_neg (by omega)]
          have hbw2 := hbw.setCell (p := ⟨w.heap.size, ik, none⟩) (Nat.le_refl _) (.int .u32 ((dg P2 ik : Nat) : Int))
          have z2 : IntKind.u64.wrap ((dg b k : Nat) : Int) = ((dg b k : Nat) : Int) := IntWalk.u64_in _ (by omega)
          have z3 : IntKind.u64.wrap ((dg P ik : Nat) : Int) = ((dg P ik : Nat) : Int) := IntWalk.u64_in _ (by omega)
          generalize dg P2 ik = ds at *
          generalize dg b k = y at *
          generalize dg P ik = o at *
          generalize cmF P x b i k = cy at *
          generalize hcy2 : cmF P x b i (k + 1) = cy2 at *
          have HU := Lib.hid hu; have HBW := Lib.hid hbw; have HU2 := Lib.hid hu2; have HBW2 := Lib.hid hbw2; have HY := Lib.hid hy; have HO := Lib.hid ho; have HCY := Lib.hid hcy; have S1 := Lib.hid s1; have S2 := Lib.hid s2; have HSM := Lib.hid hsm; have HCY2 := Lib.hid hcy2; have HIK := Lib.hid hik; have HIN2 := Lib.hid hiN2; clear hu hbw hu2 hbw2 hy ho hcy s1 s2 hsm hcy2 hik hiN2
          go_wp2
          go_roundw
          case rel => exact ⟨k + 1, by go_num, by rw [HCY2.out], by omega, HU2.out, HBW2.out⟩
          case measure => simp [intOf]; omega
        · obtain rfl : k = lb := by omega
          obtain ⟨ik, hik⟩ : ∃ ik, ik = i + k := ⟨_, rfl⟩
          have e1 : IntKind.i64.wrap ((i : Int) + (k : Int)) = (ik : Int) := by rw [IntWalk.i64_in _ (by omega), hik]; push_cast; rfl
          have y3 : (0 : Int) ≤ (ik : Int) := by omega
          have y4 : (ik : Int) < (N : Int) := by omega
          have q2 := hu.at_ (show ik < N by omega)
          rw [if_neg (by omega)] at q2
          have q3 := hu.free ik
          have hlast := cmF_last (x := x) HP.out HPB.out
          rw [← HROW.out] at hlast
          have hp2 := HP2.out
          have hlt : P2 / pw (i + k) < 4294967296 := Nat.div_lt_of_lt_mul (by rw [← pw_succ, show i + k + 1 = i + 1 + k by omega]; exact hp2)
          have hds : dg P2 ik = cmF P x b i k := by
            unfold dg
            rw [hik, Nat.mod_eq_of_lt hlt, hlast]
          have hu2 : U4 (wr.setCell ⟨w.heap.size, ik, none⟩ (.int .u32 ((dg P2 ik : Nat) : Int))) w.heap.size N (fun j => dg P2 j) := (hu.put ik (dg P2 ik)).eqv fun j _ => by
            show (if j = ik then dg P2 ik else if j < i + k then dg P2 j else dg P j) = _
            by_cases h : j = ik
            · rw [if_pos h, h]
            · rw [if_neg h]
              by_cases h2 : j < i + k
              · rw [if_pos h2]
              · have h3 := pw_le (show i + k ≤ j by omega)
                have h4 := pw_le (show i + 1 + k ≤ j by omega)
                have := HP.out
                rw [if_neg h2, dg_zero (show P < pw j by omega), dg_zero (show P2 < pw j by omega)]
          have hbw2 := hbw.setCell (p := ⟨w.heap.size, ik, none⟩) (Nat.le_refl _) (.int .u32 ((dg P2 ik : Nat) : Int))
          rw [hds] at hu2 hbw2
          rw [← hlast] at hlt
          have t4 : ((cmF P x b i k : Nat) : Int) % 4294967296 = ((cmF P x b i k : Nat) : Int) := by omega
          have x3 : ¬ (k : Int) < (k : Int) := by omega
          generalize cmF P x b i k = cy at *
          generalize dg P ik = o at *
          have HU := Lib.hid hu; have HBW := Lib.hid hbw; have HU2 := Lib.hid hu2; have HBW2 := Lib.hid hbw2; have HLAST := Lib.hid hlast; have HP2 := Lib.hid hp2; have HLT := Lib.hid hlt; have HDS := Lib.hid hds; have HIK := Lib.hid hik; have HIN2 := Lib.hid hiN2; clear hu hbw hu2 hbw2 hlast hp2 hlt hds hik hiN2
          go_wp2
          go_roundw
          case rel => exact ⟨i + 1, by go_num, by omega, by rw [HP2E.out]; exact HU2.out, HBW2.out⟩
          case measure => simp [intOf]; omega
    · obtain rfl : i = la := by omega
      rw [lo_all HPA.out] at hu
      have hrd : RdD wq (some ⟨w.heap.size, 0, none⟩) N (a * b) := RdD.of_u4 hu fun j hj => rfl
      have hl := nl_le.2 HAB.out
      have x3 : ¬ (i : Int) < (i : Int) := by omega
      have HU := Lib.hid hu; have HBW := Lib.hid hbw; have HRD := Lib.hid hrd; have HL := Lib.hid hl; clear hu hbw hrd hl
      go_wp2_with fail
      refine (natTrim_ _ N N (a * b) _ HAB.out (by omega) (Nat.le_refl _) HRD.out).mono ?_
      rintro e w1 ⟨rfl, rfl⟩
      go_wp2
      go_ret
      exact ⟨_, _, rfl, HRD.out.less HL.out, HL.out, HBW.out⟩
end Go.Proofs.Ytlmhgcllikcedaa
