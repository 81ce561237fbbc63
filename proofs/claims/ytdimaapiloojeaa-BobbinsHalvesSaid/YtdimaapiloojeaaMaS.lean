/- Texts of this claim, laid together: TnFam, TnHalt, TnHalt2, BoHaP, BoLHa. -/
import Derived.Test.YtdimaapiloojeaaMaA
import Derived.Test.YtdimaapiloojeaaMaG
import Derived.Test.YtdimaapiloojeaaMaJ
/- Sums of roots under all choices of signs: the product of all is a whole number. Plain. -/
namespace Go.Proofs.Ytdimaapiloojeaa

def sg (b : Bool) : Rat := if b = true then 1 else -1
theorem sg_sq (b : Bool) : sg b * sg b = 1 := by
  cases b
  · show (-1 : Rat) * -1 = 1; grind
  · show (1 : Rat) * 1 = 1; grind
/-- A number for each choice of signs of these roots, by sums and products of them, but for what goes to nought. -/
def Fam : List Nat → (List Bool → Nat → Rat) → Prop
  | [], F => ∃ m : Int, Nul fun n => F [] n - (m : Rat)
  | s :: ss, F => ∃ A B, Fam ss A ∧ Fam ss B ∧ ∀ e b, e.length = ss.length → Nul fun n => F (b :: e) n - (A e n + sg b * (B e n * rtq s n))
theorem Fam.bnd : ∀ {ss F}, Fam ss F → ∀ e, e.length = ss.length → Bnd (F e)
  | [], F, ⟨m, h⟩, e, he => by
    obtain rfl : e = [] := by simpa using he
    have := h.bnd.add (Bnd.const (m : Rat))
    rwa [show (fun n => F [] n - (m : Rat) + m) = F [] from funext fun n => by grind] at this
  | s :: ss, F, ⟨A, B, ha, hb, h⟩, [], he => by cases he
  | s :: ss, F, ⟨A, B, ha, hb, h⟩, b :: e, he => by
    have hl : e.length = ss.length := by simpa using he
    have := (h e b hl).bnd.add ((ha.bnd e hl).add ((Bnd.const (sg b)).mul ((hb.bnd e hl).mul (rtq_bnd s))))
    rwa [show (fun n => F (b :: e) n - (A e n + sg b * (B e n * rtq s n)) + (A e n + sg b * (B e n * rtq s n))) = F (b :: e) from funext fun n => by grind] at this
theorem Fam.near : ∀ {ss F G}, Fam ss F → (∀ e, e.length = ss.length → Nul fun n => G e n - F e n) → Fam ss G
  | [], F, G, ⟨m, h⟩, hg => ⟨m, (h.add (hg [] rfl)).congr fun n => by grind⟩
  | s :: ss, F, G, ⟨A, B, ha, hb, h⟩, hg => ⟨A, B, ha, hb, fun e b he => ((h e b he).add (hg (b :: e) (by simp [he]))).congr fun n => by grind⟩
theorem Fam.int : ∀ (ss : List Nat) (m : Int), Fam ss fun _ _ => (m : Rat)
  | [], m => ⟨m, Nul.zero.congr fun n => by grind⟩
  | s :: ss, m => ⟨_, _, Fam.int ss m, Fam.int ss 0, fun e b _ => Nul.zero.congr fun n => by have : ((0 : Int) : Rat) = 0 := rfl; rw [this]; grind⟩
theorem Fam.add : ∀ {ss F G}, Fam ss F → Fam ss G → Fam ss fun e n => F e n + G e n
  | [], F, G, ⟨m, h⟩, ⟨k, h2⟩ => ⟨m + k, (h.add h2).congr fun n => by have : ((m + k : Int) : Rat) = (m : Rat) + k := Rat.intCast_add _ _; rw [this]; grind⟩
  | s :: ss, F, G, ⟨A, B, ha, hb, h⟩, ⟨C, D, hc, hd, h2⟩ => ⟨_, _, ha.add hc, hb.add hd, fun e b he => ((h e b he).add (h2 e b he)).congr fun n => by grind⟩
theorem Fam.neg : ∀ {ss F}, Fam ss F → Fam ss fun e n => -F e n
  | [], F, ⟨m, h⟩ => ⟨-m, h.neg.congr fun n => by have : ((-m : Int) : Rat) = -(m : Rat) := Rat.intCast_neg _; rw [this]; grind⟩
  | s :: ss, F, ⟨A, B, ha, hb, h⟩ => ⟨_, _, ha.neg, hb.neg, fun e b he => (h e b he).neg.congr fun n => by grind⟩
theorem Fam.mul : ∀ {ss F G}, Fam ss F → Fam ss G → Fam ss fun e n => F e n * G e n
  | [], F, G, ⟨m, h⟩, ⟨k, h2⟩ => ⟨m * k, by
      have hg := Fam.bnd (ss := []) ⟨k, h2⟩ [] rfl
      refine ((h.mul hg).add (h2.mul (Bnd.const (m : Rat)))).congr fun n => ?_
      have : ((m * k : Int) : Rat) = (m : Rat) * k := Rat.intCast_mul _ _
      rw [this]; grind⟩
  | s :: ss, F, G, ⟨A, B, ha, hb, h⟩, ⟨C, D, hc, hd, h2⟩ => by
    refine ⟨_, _, (ha.mul hc).add ((Fam.int ss s).mul (hb.mul hd)), (ha.mul hd).add (hb.mul hc), fun e b he => ?_⟩
    have hf : Bnd (F (b :: e)) := Fam.bnd (ss := s :: ss) ⟨A, B, ha, hb, h⟩ (b :: e) (by simp [he])
    refine ((((h2 e b he).mul hf).add ((h e b he).mul ((hc.bnd e he).add ((Bnd.const (sg b)).mul ((hd.bnd e he).mul (rtq_bnd s)))))).add ((rtq_sq s).mul ((hb.bnd e he).mul (hd.bnd e he)))).congr fun n => ?_
    have hsg := sg_sq b
    have hs : (((s : Nat) : Int) : Rat) = (s : Rat) := rfl
    rw [hs]
    generalize sg b = z at *
    have e1 : z * (B e n * rtq s n) * (z * (D e n * rtq s n)) = B e n * D e n * (rtq s n * rtq s n) := by
      have : z * (B e n * rtq s n) * (z * (D e n * rtq s n)) = z * z * (B e n * D e n * (rtq s n * rtq s n)) := by grind
      rw [this, hsg]; grind
    grind
/-- The product of both signs of the first root. -/
theorem Fam.norm {s : Nat} {ss : List Nat} {F : List Bool → Nat → Rat} (h : Fam (s :: ss) F) : Fam ss fun e n => F (true :: e) n * F (false :: e) n := by
  have hF := h
  obtain ⟨A, B, ha, hb, h⟩ := h
  refine ((ha.mul ha).add ((Fam.int ss s).mul (hb.mul hb)).neg).near fun e he => ?_
  have g1 := h e true he
  have g2 := h e false he
  have hf : Bnd (F (true :: e)) := hF.bnd (true :: e) (by simp [he])
  refine (((g2.mul hf).add (g1.mul ((ha.bnd e he).add ((hb.bnd e he).mul (rtq_bnd s)).neg))).add ((rtq_sq s).mul ((hb.bnd e he).mul (hb.bnd e he))).neg).congr fun n => ?_
  have hs : (((s : Nat) : Int) : Rat) = (s : Rat) := rfl
  rw [hs, show sg true = 1 from rfl, show sg false = -1 from rfl]
  grind
/-- The product under all choices. -/
def prd : Nat → (List Bool → Nat → Rat) → Nat → Rat
  | 0, F => F []
  | k + 1, F => prd k fun e n => F (true :: e) n * F (false :: e) n
theorem Fam.prd : ∀ {ss F}, Fam ss F → ∃ m : Int, Nul fun n => prd ss.length F n - (m : Rat)
  | [], _, h => h
  | _ :: _, _, h => h.norm.prd
/-- It stays away from nought. -/
def Apt (f : Nat → Rat) : Prop := ∃ (c : Rat) (N : Nat), 0 < c ∧ ∀ n, N ≤ n → c ≤ f n ∨ f n ≤ -c
theorem Apt.mul {f g : Nat → Rat} (hf : Apt f) (hg : Apt g) : Apt fun n => f n * g n := by
  obtain ⟨c, N, hc, h⟩ := hf
  obtain ⟨d, M, hd, h2⟩ := hg
  refine ⟨c * d, N + M, Rat.mul_pos hc hd, fun n hn => ?_⟩
  have hp : ∀ x y : Rat, c ≤ x → d ≤ y → c * d ≤ x * y := fun x y hx hy => by
    have := Rat.mul_nonneg (show (0 : Rat) ≤ x - c by grind) (show (0 : Rat) ≤ y by grind)
    have := Rat.mul_nonneg (show (0 : Rat) ≤ y - d by grind) (show (0 : Rat) ≤ c by grind)
    grind
  rcases h n (by omega) with h | h <;> rcases h2 n (by omega) with h2 | h2
  · exact .inl (hp _ _ h h2)
  · have := hp _ (-g n) h (by grind); right; grind
  · have := hp (-f n) _ (by grind) h2; right; grind
  · have := hp (-f n) (-g n) (by grind) (by grind); left; grind
theorem prd_apt : ∀ (k : Nat) (F : List Bool → Nat → Rat), (∀ e : List Bool, e.length = k → Apt (F e)) → Apt (prd k F)
  | 0, F, h => h [] rfl
  | k + 1, F, h => prd_apt k _ fun e he => (h (true :: e) (by simp [he])).mul (h (false :: e) (by simp [he]))
/-- How often the bound is multiplied. -/
def eX : Nat → Nat
  | 0 => 0
  | k + 1 => 2 * eX k + 1
theorem eX_pow (k : Nat) : eX k + 1 = 2 ^ k := by
  induction k with
  | zero => rfl
  | succ k ih => rw [eX, Nat.pow_succ]; omega
theorem prd_le : ∀ (k : Nat) (F : List Bool → Nat → Rat) (n : Nat) (d : Rat) (B : Nat), 0 ≤ d → (∀ e : List Bool, e.length = k → -(B : Rat) ≤ F e n ∧ F e n ≤ (B : Rat)) → -d ≤ F (List.replicate k true) n → F (List.replicate k true) n ≤ d → -(d * ((B ^ eX k : Nat) : Rat)) ≤ prd k F n ∧ prd k F n ≤ d * ((B ^ eX k : Nat) : Rat)
  | 0, F, n, d, B, _, _, h1, h2 => by
    have : ((B ^ eX 0 : Nat) : Rat) = 1 := rfl
    rw [this, Rat.mul_one]
    exact ⟨h1, h2⟩
  | k + 1, F, n, d, B, hd, h, h1, h2 => by
    have hBn := nat_nn B
    obtain ⟨g1, g2⟩ := h (false :: List.replicate k true) (by simp)
    obtain ⟨p1, p2⟩ := prod_le (x := F (true :: List.replicate k true) n) h1 h2 g1 g2
    have ih := prd_le k (fun e n => F (true :: e) n * F (false :: e) n) n (d * B) (B * B) (Rat.mul_nonneg hd hBn) (fun e he => by
      obtain ⟨a1, a2⟩ := h (true :: e) (by simp [he])
      obtain ⟨b1, b2⟩ := h (false :: e) (by simp [he])
      have hc : ((B * B : Nat) : Rat) = (B : Rat) * B := by exact_mod_cast rfl
      rw [hc]
      exact prod_le a1 a2 b1 b2) p1 p2
    have he : d * (B : Rat) * (((B * B) ^ eX k : Nat) : Rat) = d * ((B ^ eX (k + 1) : Nat) : Rat) := by
      have h1 : B ^ eX (k + 1) = B * (B * B) ^ eX k := by
        rw [eX, Nat.pow_succ, ← Nat.pow_two, ← Nat.pow_mul, Nat.mul_comm]
      have h2 : ((B * (B * B) ^ eX k : Nat) : Rat) = (B : Rat) * (((B * B) ^ eX k : Nat) : Rat) := by exact_mod_cast rfl
      rw [h1, h2]
      grind
    rw [he] at ih
    exact ih
/-- What is small for the right signs, in places as far as you like, is not too small. -/
theorem fam_far {ss : List Nat} {F : List Bool → Nat → Rat} (hF : Fam ss F) (ha : ∀ e : List Bool, e.length = ss.length → Apt (F e)) {B : Nat} (hB : ∀ (e : List Bool) n, e.length = ss.length → -(B : Rat) ≤ F e n ∧ F e n ≤ (B : Rat)) {d : Rat} (hd : 0 ≤ d) (h : ∀ N, ∃ n, N ≤ n ∧ -d ≤ F (List.replicate ss.length true) n ∧ F (List.replicate ss.length true) n ≤ d) : 1 ≤ 2 * (d * ((B ^ eX ss.length : Nat) : Rat)) := by
  obtain ⟨m, C, hC, hm⟩ := hF.prd
  obtain ⟨c, N, hc, hN⟩ := prd_apt _ _ ha
  -- far enough: C / (n + 1) below c and a half
  obtain ⟨c2, hc2, hcc, hch⟩ : ∃ c2 : Rat, 0 < c2 ∧ c2 < c ∧ c2 ≤ 1 / 2 := by
    rcases (by grind : c / 2 ≤ 1 / 2 ∨ 1 / 2 < c / 2) with h | h
    · exact ⟨c / 2, by grind, by grind, h⟩
    · exact ⟨1 / 2, by grind, by grind, by grind⟩
  obtain ⟨n, hn, h1, h2⟩ := h (N + (C / c2).ceil.toNat)
  have hnn := nat_nn n
  have hn1 : C ≤ c2 * ((n : Rat) + 1) := by
    have g1 : C / c2 ≤ ((C / c2).ceil : Rat) := Rat.le_ceil
    have g2 : ((C / c2).ceil : Rat) ≤ ((n : Int) : Rat) := by
      have : (C / c2).ceil ≤ (n : Int) := by omega
      exact_mod_cast this
    have g3 : ((n : Int) : Rat) = (n : Rat) := rfl
    have h5 : C = C / c2 * c2 := by rw [Rat.div_mul_cancel]; grind
    have h6 := Rat.mul_nonneg (show (0 : Rat) ≤ (n : Rat) - C / c2 by grind) (show (0 : Rat) ≤ c2 by grind)
    grind
  have hsm : ∀ x : Rat, x * ((n : Rat) + 1) ≤ C → x ≤ c2 := fun x hx => by
    rcases (by grind : x ≤ c2 ∨ 0 < x - c2) with h0 | h0
    · exact h0
    · exfalso
      have := Rat.mul_pos h0 (show (0 : Rat) < (n : Rat) + 1 by grind)
      grind
  obtain ⟨h3, h4⟩ := hm n
  have k1 : prd ss.length F n - (m : Rat) ≤ c2 := hsm _ h4
  have k2 := hsm (-(prd ss.length F n - (m : Rat))) (by grind)
  obtain ⟨l1, l2⟩ := prd_le ss.length F n d B hd (fun e he => hB e n he) h1 h2
  have hfar := hN n (by omega)
  generalize prd ss.length F n = p at *
  generalize d * ((B ^ eX ss.length : Nat) : Rat) = D at *
  clear h3 h4 hsm hm hN hB ha hF
  have hm0 : m ≠ 0 := by
    rintro rfl
    have : ((0 : Int) : Rat) = 0 := rfl
    rw [this] at k1 k2
    rcases hfar with h | h <;> grind
  rcases (by omega : (1 : Int) ≤ m ∨ m ≤ -1) with h | h
  · have : (1 : Rat) ≤ (m : Rat) := by exact_mod_cast h
    grind
  · have h1 : (m : Rat) ≤ ((-1 : Int) : Rat) := Rat.intCast_le_intCast.2 h
    have h2 : ((-1 : Int) : Rat) = -1 := rfl
    rw [h2] at h1
    grind
/-- A number and a sum of roots, with these signs. -/
def vfm (m : Int) : List (Int × Nat) → List Bool → Nat → Rat
  | [], _, _ => (m : Rat)
  | x :: l, b :: e, n => vfm m l e n + sg b * ((x.1 : Rat) * rtq x.2 n)
  | _ :: _, [], _ => 0
theorem vfm_fam (m : Int) : ∀ l : List (Int × Nat), Fam (l.map Prod.snd) (vfm m l)
  | [] => ⟨m, Nul.zero.congr fun n => by show (m : Rat) - m = 0; grind⟩
  | x :: l => ⟨_, _, vfm_fam m l, Fam.int _ x.1, fun e b _ => Nul.zero.congr fun n => by
      show vfm m l e n + sg b * ((x.1 : Rat) * rtq x.2 n) - (vfm m l e n + sg b * ((x.1 : Rat) * rtq x.2 n)) = 0
      grind⟩
theorem vfm_true (m : Int) : ∀ (l : List (Int × Nat)) (n : Nat), vfm m l (List.replicate l.length true) n = (m : Rat) + valR l n
  | [], n => by show (m : Rat) = m + 0; grind
  | x :: l, n => by
    have ih := vfm_true m l n
    show vfm m l (List.replicate l.length true) n + sg true * ((x.1 : Rat) * rtq x.2 n) = (m : Rat) + ((x.1 : Rat) * rtq x.2 n + valR l n)
    rw [ih, show sg true = 1 from rfl]
    grind
/-- The sum with its signs. -/
def sgl : List (Int × Nat) → List Bool → List (Int × Nat)
  | x :: l, b :: e => ((if b = true then x.1 else -x.1), x.2) :: sgl l e
  | _, _ => []
theorem rtq_one (n : Nat) : rtq 1 n = 1 := by
  have h := rtq_t 1 n
  have h2 : Nat.sqrt (1 * ((n + 1) * (n + 1))) = n + 1 := by
    have h1 := Nat.sqrt_le (1 * ((n + 1) * (n + 1)))
    have h3 := Nat.lt_succ_sqrt (1 * ((n + 1) * (n + 1)))
    rw [Nat.one_mul] at *
    rw [Nat.succ_eq_add_one] at h3
    have h4 := Nat.mul_self_le_mul_self_iff.1 h1
    have h5 := Nat.mul_self_lt_mul_self_iff.1 h3
    omega
  rw [h2] at h
  have h3 : ((n + 1 : Nat) : Rat) = (n : Rat) + 1 := by exact_mod_cast rfl
  rw [h3] at h
  have hn := nat_nn n
  rcases (by grind : rtq 1 n = 1 ∨ 0 < rtq 1 n - 1 ∨ 0 < 1 - rtq 1 n) with h0 | h0 | h0
  · exact h0
  · have := Rat.mul_pos h0 (show (0 : Rat) < (n : Rat) + 1 by grind); grind
  · have := Rat.mul_pos h0 (show (0 : Rat) < (n : Rat) + 1 by grind); grind
theorem vfm_val (m : Int) : ∀ (l : List (Int × Nat)) (e : List Bool) (n : Nat), e.length = l.length → vfm m l e n = valR ((m, 1) :: sgl l e) n
  | [], e, n, h => by
    obtain rfl : e = [] := by simpa using h
    show (m : Rat) = (m : Rat) * rtq 1 n + 0
    rw [rtq_one]; grind
  | x :: l, [], n, h => by cases h
  | x :: l, b :: e, n, h => by
    have ih := vfm_val m l e n (by simpa using h)
    show vfm m l e n + sg b * ((x.1 : Rat) * rtq x.2 n) = (m : Rat) * rtq 1 n + (((if b = true then x.1 else -x.1 : Int) : Rat) * rtq x.2 n + valR (sgl l e) n)
    rw [ih]
    show (m : Rat) * rtq 1 n + valR (sgl l e) n + sg b * ((x.1 : Rat) * rtq x.2 n) = _
    cases b
    · rw [show sg false = -1 from rfl, if_neg (by decide), Rat.intCast_neg]; grind
    · rw [show sg true = 1 from rfl, if_pos rfl]; grind
theorem sgl_snd : ∀ (l : List (Int × Nat)) (e : List Bool), ∀ x ∈ sgl l e, ∃ y ∈ l, y.2 = x.2
  | [], _, x, h => by simp [sgl] at h
  | _ :: _, [], x, h => by simp [sgl] at h
  | y :: l, b :: e, x, h => by
    rcases List.mem_cons.1 h with rfl | h
    · exact ⟨y, List.mem_cons_self .., rfl⟩
    · obtain ⟨z, hz, e⟩ := sgl_snd l e x h
      exact ⟨z, List.mem_cons_of_mem _ hz, e⟩
theorem cf_none {s : Nat} : ∀ l : List (Int × Nat), (∀ x ∈ l, x.2 ≠ s) → cfR l s = 0
  | [], _ => rfl
  | x :: l, h => by
    have ih := cf_none l fun y hy => h y (List.mem_cons_of_mem _ hy)
    have := h x (List.mem_cons_self ..)
    rw [cfR, ih, if_neg (fun e => this e.symm)]
    rfl
/-- No radicand twice. -/
def Dif : List (Int × Nat) → Prop
  | [] => True
  | x :: l => (∀ y ∈ l, y.2 ≠ x.2) ∧ Dif l
theorem cf_sgl {s : Nat} : ∀ (l : List (Int × Nat)) (e : List Bool), e.length = l.length → Dif l → (∃ x ∈ l, x.2 = s ∧ x.1 ≠ 0) → cfR (sgl l e) s ≠ 0
  | [], _, _, _, ⟨x, h, _⟩ => by simp at h
  | _ :: _, [], h, _, _ => by cases h
  | y :: l, b :: e, h, hd, ⟨x, hx, h1, h2⟩ => by
    rw [sgl, cfR]
    rcases List.mem_cons.1 hx with rfl | hx
    · have := cf_none (s := s) (sgl l e) fun z hz => by
        obtain ⟨w, hw, e⟩ := sgl_snd _ _ z hz
        rw [← e, ← h1]
        exact hd.1 w hw
      rw [this, if_pos h1.symm]
      cases b <;> simp <;> exact h2
    · have ih := cf_sgl l e (by simpa using h) hd.2 ⟨x, hx, h1, h2⟩
      rw [if_neg]
      · simpa using ih
      · rintro rfl
        exact hd.1 x hx h1
theorem vfm_apt {m : Int} {l : List (Int × Nat)} (hs : ∀ x ∈ l, SqF x.2) (hd : Dif l) (hx : ∃ x ∈ l, 1 < x.2 ∧ x.1 ≠ 0) (e : List Bool) (he : e.length = l.length) : Apt (vfm m l e) := by
  obtain ⟨x, hx, h1, h2⟩ := hx
  have hsq1 : SqF 1 := ⟨by decide, fun d hd h => by
    have := Nat.le_of_dvd (by decide) h
    have := Nat.mul_le_mul (show 2 ≤ d from hd) (show 2 ≤ d from hd)
    omega⟩
  have h0 : cfR ((m, 1) :: sgl l e) x.2 ≠ 0 := by
    rw [cfR]
    rw [if_neg (show ¬ x.2 = 1 by omega), Int.zero_add]
    exact cf_sgl l e he hd ⟨x, hx, rfl, h2⟩
  obtain ⟨c, N, hc, h⟩ := roots_apart (l := (m, 1) :: sgl l e) (fun y hy => by
    rcases List.mem_cons.1 hy with rfl | hy
    · exact hsq1
    · obtain ⟨z, hz, e⟩ := sgl_snd _ _ y hy
      rw [← e]; exact hs z hz) (hs x hx) h0
  refine ⟨c, N, hc, fun n hn => ?_⟩
  rw [vfm_val m l e n he]
  exact h n hn
/-- A bound of all that the signs can bring. -/
def bdL : List (Int × Nat) → Nat
  | [] => 0
  | x :: l => x.1.natAbs * (x.2 + 1) + bdL l
theorem abs_le (m : Int) : -((m.natAbs : Nat) : Rat) ≤ (m : Rat) ∧ (m : Rat) ≤ ((m.natAbs : Nat) : Rat) := by
  have h1 : (m : Int) ≤ ((m.natAbs : Nat) : Int) := by omega
  have h2 : -((m.natAbs : Nat) : Int) ≤ m := by omega
  have h3 : (m : Rat) ≤ (((m.natAbs : Nat) : Int) : Rat) := Rat.intCast_le_intCast.2 h1
  have h4 : ((-((m.natAbs : Nat) : Int) : Int) : Rat) ≤ (m : Rat) := Rat.intCast_le_intCast.2 h2
  rw [Rat.intCast_neg] at h4
  exact ⟨h4, h3⟩
theorem vfm_le (m : Int) : ∀ (l : List (Int × Nat)) (e : List Bool) (n : Nat), e.length = l.length → -((m.natAbs + bdL l : Nat) : Rat) ≤ vfm m l e n ∧ vfm m l e n ≤ ((m.natAbs + bdL l : Nat) : Rat)
  | [], e, n, _ => abs_le m
  | x :: l, [], n, h => by cases h
  | x :: l, b :: e, n, h => by
    obtain ⟨i1, i2⟩ := vfm_le m l e n (by simpa using h)
    obtain ⟨k1, k2⟩ := abs_le x.1
    have r1 := rtq_nn x.2 n
    have r2 := rtq_le x.2 n
    have hn := nat_nn x.2
    obtain ⟨p1, p2⟩ := prod_le k1 k2 (show -((x.2 : Rat) + 1) ≤ rtq x.2 n by grind) r2
    have hc : ((m.natAbs + bdL (x :: l) : Nat) : Rat) = ((x.1.natAbs : Nat) : Rat) * ((x.2 : Rat) + 1) + ((m.natAbs + bdL l : Nat) : Rat) := by
      have : m.natAbs + bdL (x :: l) = x.1.natAbs * (x.2 + 1) + (m.natAbs + bdL l) := by rw [bdL]; omega
      rw [this]
      exact_mod_cast rfl
    rw [hc]
    show -(_ + _) ≤ vfm m l e n + sg b * ((x.1 : Rat) * rtq x.2 n) ∧ vfm m l e n + sg b * ((x.1 : Rat) * rtq x.2 n) ≤ _
    cases b
    · rw [show sg false = -1 from rfl]; constructor <;> grind
    · rw [show sg true = 1 from rfl]; constructor <;> grind
/-- A sum of roots, and a whole number: they are not too near. -/
theorem roots_far {m : Int} {l : List (Int × Nat)} (hs : ∀ x ∈ l, SqF x.2) (hd : Dif l) (hx : ∃ x ∈ l, 1 < x.2 ∧ x.1 ≠ 0) {d : Rat} (h0 : 0 ≤ d) (h : ∀ N, ∃ n, N ≤ n ∧ -d ≤ (m : Rat) + valR l n ∧ (m : Rat) + valR l n ≤ d) : 1 ≤ 2 * (d * (((m.natAbs + bdL l) ^ eX l.length : Nat) : Rat)) := by
  have hl : (l.map Prod.snd).length = l.length := List.length_map ..
  have := fam_far (vfm_fam m l) (fun e he => vfm_apt hs hd hx e (he.trans hl)) (B := m.natAbs + bdL l) (fun e n he => vfm_le m l e n (he.trans hl)) h0 fun N => by
    obtain ⟨n, h1, h2⟩ := h N
    refine ⟨n, h1, ?_⟩
    rw [hl, vfm_true]
    exact h2
  rwa [hl] at this
end Go.Proofs.Ytdimaapiloojeaa
/- The bounds' search comes to an end. -/
namespace Go.Proofs.Ytdimaapiloojeaa
open Go.RowKit

theorem four_pow (q : Nat) : 4 ^ q = 2 ^ q * 2 ^ q := by rw [show (4 : Nat) = 2 * 2 by decide, Nat.mul_pow]
theorem rt_up {q Q D : Nat} (s : Nat) (h : 2 ^ Q = 2 ^ q * D) (hD : 0 < D) : rtN s q * D ≤ rtN s Q ∧ rtN s Q + 1 ≤ (rtN s q + 1) * D := by
  unfold rtN
  have a1 := Nat.sqrt_le (s * 4 ^ q)
  have a2 := Nat.lt_succ_sqrt (s * 4 ^ q)
  have b1 := Nat.sqrt_le (s * 4 ^ Q)
  have b2 := Nat.lt_succ_sqrt (s * 4 ^ Q)
  rw [Nat.succ_eq_add_one] at a2 b2
  have e : s * 4 ^ Q = s * 4 ^ q * (D * D) := by rw [four_pow, four_pow, h]; grind
  rw [e] at b1 b2 ⊢
  generalize s * 4 ^ q = T at *
  generalize Nat.sqrt (T * (D * D)) = R at *
  generalize Nat.sqrt T = r at *
  constructor
  · refine Nat.le_of_lt_succ (Nat.mul_self_lt_mul_self_iff.1 (Nat.lt_of_le_of_lt ?_ b2))
    rw [Nat.mul_mul_mul_comm]
    exact Nat.mul_le_mul_right _ a1
  · refine Nat.mul_self_lt_mul_self_iff.1 (Nat.lt_of_le_of_lt b1 ?_)
    rw [Nat.mul_mul_mul_comm]
    exact Nat.mul_lt_mul_of_pos_right a2 (Nat.mul_pos hD hD)
theorem rt_one (q : Nat) : rtN 1 q = 2 ^ q := by
  unfold rtN
  rw [four_pow, Nat.one_mul]
  have a1 := Nat.sqrt_le (2 ^ q * 2 ^ q)
  have a2 := Nat.lt_succ_sqrt (2 ^ q * 2 ^ q)
  have h1 := Nat.mul_self_le_mul_self_iff.1 a1
  have h2 := Nat.mul_self_lt_mul_self_iff.1 a2
  omega
theorem mo_up {q Q D s : Nat} (hs : 0 < s) (h : 2 ^ Q = 2 ^ q * D) (hD : 0 < D) : moN s Q ≤ moN s q * D := by
  unfold moN
  split
  · exact (rt_up s h hD).2
  · obtain rfl : s = 1 := by omega
    rw [rt_one, rt_one, h]
    exact Nat.le_refl _
theorem mo_lo (s q : Nat) : rtN s q ≤ moN s q ∧ moN s q ≤ rtN s q + 1 ∧ (1 < s → rtN s q + 1 ≤ moN s q) := by
  unfold moN
  split <;> omega
theorem mo_bd {s : Nat} (hs : 0 < s) (q : Nat) : moN s q ≤ (s + 1) * 2 ^ q := by
  have h1 : rtN s q ≤ s * 2 ^ q := by
    unfold rtN
    rw [four_pow]
    refine Nat.mul_self_le_mul_self_iff.1 (Nat.le_trans (Nat.sqrt_le _) ?_)
    rw [Nat.mul_mul_mul_comm]
    exact Nat.mul_le_mul_right _ (Nat.le_mul_of_pos_left _ hs)
  have h2 := (mo_lo s q).2.1
  have := Nat.two_pow_pos q
  rw [Nat.add_mul, Nat.one_mul]
  omega
/-- The radicands are numbers from 1 on. -/
def Ps (xs : List (Int × Int)) : Prop := ∀ x ∈ xs, 0 < x.2
theorem lo_up {q Q D : Nat} (sc j : Nat) (h : 2 ^ Q = 2 ^ q * D) (hD : 0 < D) : ∀ {xs : List (Int × Int)}, Ps xs → loS sc q j xs * D ≤ loS sc Q j xs ∧ hiS sc Q j xs ≤ hiS sc q j xs * D
  | [], _ => by simp [loS, hiS]
  | x :: l, hp => by
    obtain ⟨i1, i2⟩ := lo_up sc j h hD (xs := l) fun y hy => hp y (List.mem_cons_of_mem _ hy)
    have hx := hp x (List.mem_cons_self ..)
    have r1 := Nat.mul_le_mul_left (x.1.natAbs * sc) (rt_up x.2.toNat h hD).1
    have r2 := Nat.mul_le_mul_left (x.1.natAbs * sc) (mo_up (show 0 < x.2.toNat by omega) h hD)
    rw [← Nat.mul_assoc] at r1 r2
    rw [loS, loS, hiS, hiS, Nat.add_mul, Nat.add_mul]
    split
    · omega
    · omega
theorem hi_ge (sc q j : Nat) : ∀ xs : List (Int × Int), loS sc q j xs ≤ hiS sc q j xs
  | [] => Nat.le_refl _
  | x :: l => by
    have ih := hi_ge sc q j l
    have := Nat.mul_le_mul_left (x.1.natAbs * sc) (mo_lo x.2.toNat q).1
    rw [loS, hiS]
    split <;> omega
/-- The sum, with the scale. -/
def toL (sc : Nat) (xs : List (Int × Int)) : List (Int × Nat) := xs.map fun x => (x.1 * (sc : Int), x.2.toNat)
theorem sd_two (x : Int × Int) : (x.1 < 0 ∧ sdR x = 1) ∨ (0 ≤ x.1 ∧ sdR x = 0) := by
  unfold sdR
  split
  · left; exact ⟨by assumption, rfl⟩
  · right; exact ⟨by omega, rfl⟩
theorem hi_bd (sc q : Nat) : ∀ {xs : List (Int × Int)}, Ps xs → hiS sc q 0 xs + hiS sc q 1 xs ≤ bdL (toL sc xs) * 2 ^ q ∧ hiS sc q 0 xs + hiS sc q 1 xs ≤ loS sc q 0 xs + loS sc q 1 xs + bdL (toL sc xs)
  | [], _ => by simp [hiS, loS]
  | x :: l, hp => by
    obtain ⟨i1, i2⟩ := hi_bd sc q (xs := l) fun y hy => hp y (List.mem_cons_of_mem _ hy)
    have hx := hp x (List.mem_cons_self ..)
    have r1 := Nat.mul_le_mul_left (x.1.natAbs * sc) (mo_bd (show 0 < x.2.toNat by omega) q)
    have r2 := Nat.mul_le_mul_left (x.1.natAbs * sc) (mo_lo x.2.toNat q).2.1
    rw [← Nat.mul_assoc] at r1
    rw [Nat.mul_add, Nat.mul_one] at r2
    have e : bdL (toL sc (x :: l)) = x.1.natAbs * sc * (x.2.toNat + 1) + bdL (toL sc l) := by
      show (x.1 * (sc : Int)).natAbs * (x.2.toNat + 1) + bdL (toL sc l) = _
      rw [Int.natAbs_mul, Int.natAbs_natCast]
    have e3 : x.1.natAbs * sc ≤ x.1.natAbs * sc * (x.2.toNat + 1) := Nat.le_mul_of_pos_right _ (by omega)
    rw [e, Nat.add_mul]
    rw [hiS, hiS, loS, loS]
    generalize x.1.natAbs * sc * (x.2.toNat + 1) * 2 ^ q = X1 at *
    generalize x.1.natAbs * sc * moN x.2.toNat q = X2 at *
    generalize x.1.natAbs * sc * rtN x.2.toNat q = X3 at *
    generalize x.1.natAbs * sc * (x.2.toNat + 1) = X4 at *
    rcases sd_two x with ⟨_, h⟩ | ⟨_, h⟩ <;> rw [h] <;> simp <;> omega
theorem hi_gap {sc : Nat} (hsc : 0 < sc) (q : Nat) : ∀ {xs : List (Int × Int)}, (∃ x ∈ xs, 1 < x.2 ∧ x.1 ≠ 0) → loS sc q 0 xs + loS sc q 1 xs + 1 ≤ hiS sc q 0 xs + hiS sc q 1 xs
  | [], ⟨x, h, _⟩ => by simp at h
  | y :: l, ⟨x, hx, h1, h2⟩ => by
    have r1 := Nat.mul_le_mul_left (y.1.natAbs * sc) (mo_lo y.2.toNat q).1
    rcases List.mem_cons.1 hx with rfl | hx
    · have g0 := hi_ge sc q 0 l
      have g1 := hi_ge sc q 1 l
      have r2 := Nat.mul_le_mul_left (x.1.natAbs * sc) ((mo_lo x.2.toNat q).2.2 (by omega))
      rw [Nat.mul_add, Nat.mul_one] at r2
      have : 0 < x.1.natAbs * sc := Nat.mul_pos (by omega) hsc
      rw [hiS, hiS, loS, loS]
      rcases sd_two x with ⟨_, h⟩ | ⟨_, h⟩ <;> rw [h] <;> simp <;> omega
    · have ih := hi_gap hsc q (xs := l) ⟨x, hx, h1, h2⟩
      rw [hiS, hiS, loS, loS]
      rcases sd_two y with ⟨_, h⟩ | ⟨_, h⟩ <;> rw [h] <;> simp <;> omega
theorem two_q (q : Nat) : 2 ^ q - 1 + 1 = 2 ^ q := by have := Nat.two_pow_pos q; omega
theorem rtq_two (s Q : Nat) : rtq s (2 ^ Q - 1) * ((2 ^ Q : Nat) : Rat) = ((rtN s Q : Nat) : Rat) := by
  have h := rtq_t s (2 ^ Q - 1)
  have h1 : (((2 ^ Q - 1 : Nat)) : Rat) + 1 = ((2 ^ Q : Nat) : Rat) := by
    have : ((2 ^ Q - 1 + 1 : Nat) : Rat) = ((2 ^ Q - 1 : Nat) : Rat) + 1 := by exact_mod_cast rfl
    rw [← this, two_q]
  rw [h1, two_q] at h
  rw [h]
  unfold rtN
  rw [four_pow]
/-- The value, at these places, exactly. -/
theorem val_two (sc Q : Nat) : ∀ xs : List (Int × Int), valR (toL sc xs) (2 ^ Q - 1) * ((2 ^ Q : Nat) : Rat) = (((loS sc Q 0 xs : Nat) : Int) : Rat) - (((loS sc Q 1 xs : Nat) : Int) : Rat)
  | [] => by
    show (0 : Rat) * _ = 0 - 0
    rw [Rat.zero_mul]; grind
  | x :: l => by
    have ih := val_two sc Q l
    have hr := rtq_two x.2.toNat Q
    show (((x.1 * (sc : Int) : Int) : Rat) * rtq x.2.toNat (2 ^ Q - 1) + valR (toL sc l) (2 ^ Q - 1)) * _ = _
    have e : (((x.1 * (sc : Int) : Int) : Rat) * rtq x.2.toNat (2 ^ Q - 1) + valR (toL sc l) (2 ^ Q - 1)) * ((2 ^ Q : Nat) : Rat) = ((x.1 * (sc : Int) : Int) : Rat) * (rtq x.2.toNat (2 ^ Q - 1) * ((2 ^ Q : Nat) : Rat)) + valR (toL sc l) (2 ^ Q - 1) * ((2 ^ Q : Nat) : Rat) := by grind
    rw [e, ih, hr, loS, loS]
    have hc : ∀ a b : Nat, (((a + b : Nat) : Int) : Rat) = ((a : Int) : Rat) + ((b : Int) : Rat) := fun a b => by exact_mod_cast rfl
    rw [hc, hc]
    have hn : ((x.1 * (sc : Int) : Int) : Rat) * ((rtN x.2.toNat Q : Nat) : Rat) = ((x.1 * (sc : Int) * ((rtN x.2.toNat Q : Nat) : Int) : Int) : Rat) := by
      exact (Rat.intCast_mul (x.1 * (sc : Int)) _).symm
    rw [hn]
    rcases sd_two x with ⟨h1, h⟩ | ⟨h1, h⟩ <;> rw [h]
    · have e2 : x.1 * (sc : Int) * ((rtN x.2.toNat Q : Nat) : Int) = -((x.1.natAbs * sc * rtN x.2.toNat Q : Nat) : Int) := by
        rw [Int.natCast_mul, Int.natCast_mul, show ((x.1.natAbs : Nat) : Int) = -x.1 by omega]
        grind
      rw [e2, Rat.intCast_neg]
      simp
      grind
    · have e2 : x.1 * (sc : Int) * ((rtN x.2.toNat Q : Nat) : Int) = ((x.1.natAbs * sc * rtN x.2.toNat Q : Nat) : Int) := by
        rw [Int.natCast_mul, Int.natCast_mul, show ((x.1.natAbs : Nat) : Int) = x.1 by omega]
      rw [e2]
      simp
      grind
/-- A sum in its normal form. -/
def Nm (xs : List (Int × Int)) : Prop := normB 0 xs = true ∧ ∀ x ∈ xs, x.1 ≠ 0
theorem norm_all : ∀ (xs : List (Int × Int)) (p : Int), normB p xs = true → ∀ x ∈ xs, SqF x.2.toNat ∧ p < x.2
  | [], _, _, x, h => by simp at h
  | y :: l, p, hn, x, hx => by
    rw [normB, Bool.and_eq_true, Bool.and_eq_true, decide_eq_true_eq] at hn
    rcases List.mem_cons.1 hx with rfl | hx
    · exact ⟨sqfB_iff.1 hn.1.1, hn.1.2⟩
    · obtain ⟨h1, h2⟩ := norm_all l y.2 hn.2 x hx
      exact ⟨h1, by omega⟩
theorem Nm.ps {xs : List (Int × Int)} (h : Nm xs) : Ps xs := fun x hx => (norm_all xs 0 h.1 x hx).2
theorem norm_dif (sc : Nat) : ∀ (xs : List (Int × Int)) (p : Int), 0 ≤ p → normB p xs = true → Dif (toL sc xs)
  | [], _, _, _ => trivial
  | y :: l, p, h0, hn => by
    rw [normB, Bool.and_eq_true, Bool.and_eq_true, decide_eq_true_eq] at hn
    refine ⟨fun z hz => ?_, norm_dif sc l y.2 (by omega) hn.2⟩
    obtain ⟨x, hx, rfl⟩ := List.mem_map.1 hz
    have := (norm_all l y.2 hn.2 x hx).2
    show x.2.toNat ≠ y.2.toNat
    omega
/-- The lower and the upper bound, at so many places. -/
def loI (sc q : Nat) (xs : List (Int × Int)) : Int := (loS sc q 0 xs : Int) - (hiS sc q 1 xs : Int)
def upI (sc q : Nat) (xs : List (Int × Int)) : Int := (hiS sc q 0 xs : Int) - (loS sc q 1 xs : Int)
theorem bd_up {q Q D : Nat} {xs : List (Int × Int)} (sc : Nat) (hp : Ps xs) (h : 2 ^ Q = 2 ^ q * D) (hD : 0 < D) : loI sc q xs * (D : Int) ≤ loI sc Q xs ∧ upI sc Q xs ≤ upI sc q xs * (D : Int) ∧ loI sc Q xs ≤ (loS sc Q 0 xs : Int) - (loS sc Q 1 xs : Int) ∧ (loS sc Q 0 xs : Int) - (loS sc Q 1 xs : Int) ≤ upI sc Q xs := by
  obtain ⟨a1, a2⟩ := lo_up sc 0 h hD hp
  obtain ⟨b1, b2⟩ := lo_up sc 1 h hD hp
  have c1 := hi_ge sc Q 0 xs
  have c2 := hi_ge sc Q 1 xs
  unfold loI upI
  rw [Int.sub_mul, Int.sub_mul]
  have d1 : ((loS sc q 0 xs : Nat) : Int) * (D : Int) ≤ loS sc Q 0 xs := by exact_mod_cast a1
  have d2 : ((hiS sc Q 0 xs : Nat) : Int) ≤ (hiS sc q 0 xs : Int) * (D : Int) := by exact_mod_cast a2
  have d3 : ((loS sc q 1 xs : Nat) : Int) * (D : Int) ≤ loS sc Q 1 xs := by exact_mod_cast b1
  have d4 : ((hiS sc Q 1 xs : Nat) : Int) ≤ (hiS sc q 1 xs : Int) * (D : Int) := by exact_mod_cast b2
  omega
/-- Between the bounds, at many places, lies no whole number. -/
theorem no_mid {sc q : Nat} {xs : List (Int × Int)} (hsc : 0 < sc) (hn : Nm xs) (hx : ∃ x ∈ xs, 1 < x.2) (hq : (2 * bdL (toL sc xs)) ^ 2 ^ xs.length < 2 ^ q) (m : Int) : ¬ (loI sc q xs ≤ m * 2 ^ q ∧ m * 2 ^ q ≤ upI sc q xs) := by
  rintro ⟨h1, h2⟩
  have hp := hn.ps
  obtain ⟨g1, g2⟩ := hi_bd sc q hp
  generalize hS : bdL (toL sc xs) = S at *
  have hq0 := Nat.two_pow_pos q
  have hqi : ((2 : Int) ^ q) = ((2 ^ q : Nat) : Int) := by exact_mod_cast rfl
  rw [hqi] at h1 h2
  -- the number is not too great
  have hm : m.natAbs ≤ S := by
    have k1 : m * ((2 ^ q : Nat) : Int) ≤ ((S * 2 ^ q : Nat) : Int) := by unfold upI at h2; omega
    have k2 : -((S * 2 ^ q : Nat) : Int) ≤ m * ((2 ^ q : Nat) : Int) := by unfold loI at h1; omega
    have k3 : m.natAbs * 2 ^ q ≤ S * 2 ^ q := by
      have : (m * ((2 ^ q : Nat) : Int)).natAbs = m.natAbs * 2 ^ q := by rw [Int.natAbs_mul, Int.natAbs_natCast]
      omega
    exact Nat.le_of_mul_le_mul_right k3 hq0
  have hW : upI sc q xs - loI sc q xs ≤ (S : Int) := by unfold upI loI; omega
  have hW0 : 0 ≤ upI sc q xs - loI sc q xs := by omega
  obtain ⟨x, hx, hx1⟩ := hx
  have hxl : ∃ y ∈ toL sc xs, 1 < y.2 ∧ y.1 ≠ 0 := ⟨_, List.mem_map.2 ⟨x, hx, rfl⟩, by simp only; omega, by
    simp only
    intro h
    rcases Int.mul_eq_zero.1 h with h | h
    · exact hn.2 x hx h
    · omega⟩
  have hqr : ((2 ^ q : Nat) : Rat) ≠ 0 := natR_pos hq0
  have hqp : (0 : Rat) < ((2 ^ q : Nat) : Rat) := by
    have : ((0 : Nat) : Rat) < ((2 ^ q : Nat) : Rat) := by exact_mod_cast hq0
    exact this
  have hd : (S : Rat) / ((2 ^ q : Nat) : Rat) * ((2 ^ q : Nat) : Rat) = (S : Rat) := by rw [Rat.div_mul_cancel]; exact hqr
  have hS0 := nat_nn S
  generalize hdd : (S : Rat) / ((2 ^ q : Nat) : Rat) = d at *
  have hd0 : 0 ≤ d := by
    rcases (by grind : 0 ≤ d ∨ 0 < -d) with h | h
    · exact h
    · have := Rat.mul_pos h hqp
      grind
  have key := roots_far (m := -m) (l := toL sc xs) (fun y hy => by
    obtain ⟨z, hz, rfl⟩ := List.mem_map.1 hy
    exact (norm_all xs 0 hn.1 z hz).1) (norm_dif sc xs 0 (Int.le_refl _) hn.1) hxl hd0 fun N => by
    obtain ⟨Q, D, hQ, hD, hN⟩ : ∃ Q D : Nat, 2 ^ Q = 2 ^ q * D ∧ 0 < D ∧ N ≤ 2 ^ Q - 1 := by
      refine ⟨q + N, 2 ^ N, Nat.pow_add .., Nat.two_pow_pos _, ?_⟩
      have a1 : N < 2 ^ N := Nat.lt_two_pow_self
      have a2 : 2 ^ N ≤ 2 ^ (q + N) := Nat.pow_le_pow_right (by decide) (by omega)
      omega
    refine ⟨2 ^ Q - 1, hN, ?_⟩
    obtain ⟨u1, u2, u3, u4⟩ := bd_up sc hp hQ hD
    have hv := val_two sc Q xs
    have hX : (((loS sc Q 0 xs : Nat) : Int) : Rat) - (((loS sc Q 1 xs : Nat) : Int) : Rat) = (((loS sc Q 0 xs : Int) - (loS sc Q 1 xs : Int) : Int) : Rat) := by rw [Rat.intCast_sub]
    rw [hX] at hv
    generalize (loS sc Q 0 xs : Int) - (loS sc Q 1 xs : Int) = X at *
    have w1 := Int.mul_le_mul_of_nonneg_right h1 (show (0 : Int) ≤ (D : Int) by omega)
    have w2 := Int.mul_le_mul_of_nonneg_right h2 (show (0 : Int) ≤ (D : Int) by omega)
    have w3 := Int.mul_le_mul_of_nonneg_right hW (show (0 : Int) ≤ (D : Int) by omega)
    rw [Int.sub_mul] at w3
    have y1 : X - m * ((2 ^ q : Nat) : Int) * (D : Int) ≤ (S : Int) * (D : Int) := by omega
    have y2 : -((S : Int) * (D : Int)) ≤ X - m * ((2 ^ q : Nat) : Int) * (D : Int) := by omega
    have z1 : ((X - m * ((2 ^ q : Nat) : Int) * (D : Int) : Int) : Rat) ≤ (((S : Int) * (D : Int) : Int) : Rat) := Rat.intCast_le_intCast.2 y1
    have z2 : ((-((S : Int) * (D : Int)) : Int) : Rat) ≤ ((X - m * ((2 ^ q : Nat) : Int) * (D : Int) : Int) : Rat) := Rat.intCast_le_intCast.2 y2
    rw [Rat.intCast_sub, Rat.intCast_mul, Rat.intCast_mul, Rat.intCast_mul] at z1
    rw [Rat.intCast_sub, Rat.intCast_mul, Rat.intCast_mul, Rat.intCast_neg, Rat.intCast_mul] at z2
    have c1 : (((2 ^ q : Nat) : Int) : Rat) = ((2 ^ q : Nat) : Rat) := rfl
    have c2 : ((D : Int) : Rat) = (D : Rat) := rfl
    have c3 : ((S : Int) : Rat) = (S : Rat) := rfl
    rw [c1, c2, c3] at z1 z2
    have hQr : ((2 ^ Q : Nat) : Rat) = ((2 ^ q : Nat) : Rat) * (D : Rat) := by rw [hQ]; exact_mod_cast rfl
    rw [hQr] at hv
    have hDp : (0 : Rat) < (D : Rat) := by
      have : ((0 : Nat) : Rat) < (D : Rat) := by exact_mod_cast hD
      exact this
    have hPp := Rat.mul_pos hqp hDp
    rw [Rat.intCast_neg]
    rw [← hv, ← hd] at z1 z2
    clear u1 u2 u3 u4 w1 w2 w3 y1 y2 hX hdd hv hQr g1 g2
    generalize valR (toL sc xs) (2 ^ Q - 1) = v at *
    generalize ((2 ^ q : Nat) : Rat) = P at *
    generalize (D : Rat) = D' at *
    generalize (m : Rat) = m' at *
    have hle : ∀ z : Rat, z * (P * D') ≤ 0 → z ≤ 0 := fun z hz => by
      rcases (by grind : z ≤ 0 ∨ 0 < z) with h | h
      · exact h
      · have := Rat.mul_pos h hPp
        grind
    have j1 := hle (v - m' - d) (by grind)
    have j2 := hle (-(v - m') - d) (by grind)
    constructor <;> grind
  have hlen : (toL sc xs).length = xs.length := List.length_map ..
  rw [hlen, hS] at key
  have hle : ((-m).natAbs + S) ^ eX xs.length ≤ (2 * S) ^ eX xs.length := Nat.pow_le_pow_left (by rw [Int.natAbs_neg]; omega) _
  have hfin : 2 ^ q ≤ (2 * S) ^ 2 ^ xs.length := by
    have h3 : (((-m).natAbs + S) ^ eX xs.length : Nat) ≤ (2 * S) ^ eX xs.length := hle
    have h4 : ((((-m).natAbs + S) ^ eX xs.length : Nat) : Rat) ≤ (((2 * S) ^ eX xs.length : Nat) : Rat) := by exact_mod_cast h3
    have h5 : ((2 ^ q : Nat) : Rat) ≤ 2 * ((S : Rat) * (((2 * S) ^ eX xs.length : Nat) : Rat)) := by
      generalize ((((-m).natAbs + S) ^ eX xs.length : Nat) : Rat) = E at *
      generalize (((2 * S) ^ eX xs.length : Nat) : Rat) = E2 at *
      generalize ((2 ^ q : Nat) : Rat) = P at *
      have := Rat.mul_nonneg (show (0 : Rat) ≤ 2 * (d * E) - 1 by grind) (show (0 : Rat) ≤ P by grind)
      have := Rat.mul_nonneg (show (0 : Rat) ≤ E2 - E by grind) hS0
      rw [← hd]
      rw [← hd] at this
      grind
    have h6 : 2 * ((S : Rat) * (((2 * S) ^ eX xs.length : Nat) : Rat)) = ((2 * S * (2 * S) ^ eX xs.length : Nat) : Rat) := by
      have : ((2 * S * (2 * S) ^ eX xs.length : Nat) : Rat) = ((2 : Nat) : Rat) * (S : Rat) * (((2 * S) ^ eX xs.length : Nat) : Rat) := by exact_mod_cast rfl
      rw [this, show ((2 : Nat) : Rat) = 2 from rfl, Rat.mul_assoc]
    rw [h6] at h5
    have h7 : 2 ^ q ≤ 2 * S * (2 * S) ^ eX xs.length := by exact_mod_cast h5
    rw [← eX_pow xs.length, Nat.pow_succ, Nat.mul_comm]
    exact h7
  omega
end Go.Proofs.Ytdimaapiloojeaa
/- The search of Bounds: where it stops, and that it does; what it finds does not depend on the places. -/
namespace Go.Proofs.Ytdimaapiloojeaa
open Go.RowKit

/-- Rounded down, with its sign. -/
def flI (x : Int) (q : Nat) : Int := x / ((2 ^ q : Nat) : Int)
theorem flI_iff (x F : Int) (q : Nat) : flI x q = F ↔ F * ((2 ^ q : Nat) : Int) ≤ x ∧ x < (F + 1) * ((2 ^ q : Nat) : Int) := by
  have hq := Nat.two_pow_pos q
  unfold flI
  constructor
  · rintro rfl
    have h1 := Int.ediv_mul_le x (show ((2 ^ q : Nat) : Int) ≠ 0 by omega)
    have h2 := Int.lt_ediv_add_one_mul_self x (show (0 : Int) < ((2 ^ q : Nat) : Int) by omega)
    exact ⟨h1, h2⟩
  · rintro ⟨h1, h2⟩
    have k1 := (Int.le_ediv_iff_mul_le (show (0 : Int) < ((2 ^ q : Nat) : Int) by omega)).2 h1
    have k2 := (Int.ediv_lt_iff_lt_mul (show (0 : Int) < ((2 ^ q : Nat) : Int) by omega)).2 h2
    omega
theorem fl_is (p n b : Nat) : (if flB p n = true then -(flV p n b : Int) else (flV p n b : Int)) = flI ((p : Int) - n) b ∧ (flB p n = true ↔ flI ((p : Int) - n) b < 0) := by
  have hq := Nat.two_pow_pos b
  unfold flB flV
  by_cases h : p < n
  · rw [if_pos (decide_eq_true h), if_neg (by omega), decide_eq_true h]
    have e : flI ((p : Int) - n) b = -(((n - p + 2 ^ b - 1) / 2 ^ b : Nat) : Int) := by
      rw [flI_iff]
      generalize hv : (n - p + 2 ^ b - 1) / 2 ^ b = v
      have h1 := Nat.div_add_mod (n - p + 2 ^ b - 1) (2 ^ b)
      have h2 := Nat.mod_lt (n - p + 2 ^ b - 1) hq
      rw [hv] at h1
      generalize (n - p + 2 ^ b - 1) % 2 ^ b = r at *
      have e2 : (-(v : Int)) * ((2 ^ b : Nat) : Int) = -((2 ^ b * v : Nat) : Int) := by rw [Int.natCast_mul]; grind
      have e3 : (-(v : Int) + 1) * ((2 ^ b : Nat) : Int) = -((2 ^ b * v : Nat) : Int) + ((2 ^ b : Nat) : Int) := by rw [Int.natCast_mul]; grind
      rw [e2, e3]
      generalize 2 ^ b * v = X at *
      generalize 2 ^ b = Y at *
      omega
    rw [e]
    refine ⟨rfl, (fun _ => ?_), (fun _ => rfl)⟩
    have : 1 ≤ (n - p + 2 ^ b - 1) / 2 ^ b := by
      rw [Nat.le_div_iff_mul_le hq]; omega
    omega
  · rw [if_neg (by simpa using h), if_pos (by omega), decide_eq_false h]
    have e : flI ((p : Int) - n) b = (((p - n) / 2 ^ b : Nat) : Int) := by
      unfold flI
      rw [Int.natCast_ediv, Int.natCast_sub (by omega)]
    rw [e]
    clear e
    generalize (p - n) / 2 ^ b = v
    refine ⟨rfl, (fun h => by cases h), (fun h => by omega)⟩
theorem fl_same (p n p' n' b : Nat) : (flB p n == flB p' n' && decide (flV p n b = flV p' n' b)) = decide (flI ((p : Int) - n) b = flI ((p' : Int) - n') b) := by
  obtain ⟨h1, h2⟩ := fl_is p n b
  obtain ⟨h3, h4⟩ := fl_is p' n' b
  rw [Bool.eq_iff_iff, decide_eq_true_eq, Bool.and_eq_true, beq_iff_eq, decide_eq_true_eq]
  constructor
  · rintro ⟨e1, e2⟩
    rw [← h1, ← h3, e1, e2]
  · intro e
    have e1 : flB p n = flB p' n' := by rw [Bool.eq_iff_iff, h2, h4, e]
    refine ⟨e1, ?_⟩
    rw [← h1, ← h3, e1] at e
    split at e <;> omega
theorem gF_o {sc q : Nat} {xs : List (Int × Int)} (hi : intB xs = false) : gF sc q xs 0 = loS sc q 0 xs ∧ gF sc q xs 1 = loS sc q 1 xs + 1 ∧ gF sc q xs 2 = hiS sc q 0 xs ∧ gF sc q xs 3 = hiS sc q 1 xs := by
  unfold gF vF
  rw [hi]
  refine ⟨rfl, rfl, rfl, rfl⟩
theorem gF_i {sc q : Nat} {xs : List (Int × Int)} : gF sc q xs 0 = loS sc q 0 xs ∧ gF sc q xs 3 = hiS sc q 1 xs := ⟨rfl, rfl⟩
/-- The lower bound. -/
theorem ls_is (sc q : Nat) (xs : List (Int × Int)) : (if lsB sc xs q = true then -(lsV sc xs q : Int) else (lsV sc xs q : Int)) = flI (loI sc q xs) q ∧ (lsB sc xs q = true ↔ flI (loI sc q xs) q < 0) := by
  have := fl_is (gF sc q xs 0) (gF sc q xs 3) q
  rw [gF_i.1, gF_i.2] at this
  exact this
theorem stop_iff {sc q : Nat} {xs : List (Int × Int)} (hi : intB xs = false) : stopQ sc xs q = true ↔ flI (loI sc q xs) q = flI (upI sc q xs - 1) q := by
  unfold stopQ
  rw [hi, Bool.false_or]
  unfold lsB mrB lsV mrV
  rw [fl_same, decide_eq_true_eq]
  obtain ⟨g0, g1, g2, g3⟩ := gF_o (sc := sc) (q := q) hi
  rw [g0, g1, g2, g3]
  unfold loI upI
  rw [show ((hiS sc q 0 xs : Nat) : Int) - ((loS sc q 1 xs + 1 : Nat) : Int) = (hiS sc q 0 xs : Int) - (loS sc q 1 xs : Int) - 1 by omega]
theorem int_all {xs : List (Int × Int)} : intB xs = true ↔ ∀ x ∈ xs, x.2 ≤ 1 := by
  unfold intB
  rw [Bool.not_eq_true', List.any_eq_false]
  constructor
  · intro h x hx
    have := h x hx
    simp at this
    exact this
  · intro h x hx
    have := h x hx
    simp
    exact this
theorem int_no {xs : List (Int × Int)} (h : intB xs = false) : ∃ x ∈ xs, 1 < x.2 := by
  unfold intB at h
  rw [Bool.not_eq_false'] at h
  obtain ⟨x, hx, h1⟩ := List.any_eq_true.1 h
  exact ⟨x, hx, by simpa using h1⟩
/-- Of whole numbers alone. -/
def wlV (sc : Nat) : List (Int × Int) → Int
  | [] => 0
  | x :: l => x.1 * (sc : Int) + wlV sc l
theorem int_val (sc : Nat) : ∀ {xs : List (Int × Int)}, Ps xs → (∀ x ∈ xs, x.2 ≤ 1) → ∀ q, loI sc q xs = wlV sc xs * ((2 ^ q : Nat) : Int) ∧ upI sc q xs = wlV sc xs * ((2 ^ q : Nat) : Int)
  | [], _, _, q => by simp [loI, upI, loS, hiS, wlV]
  | x :: l, hp, h, q => by
    obtain ⟨i1, i2⟩ := int_val sc (xs := l) (fun y hy => hp y (List.mem_cons_of_mem _ hy)) (fun y hy => h y (List.mem_cons_of_mem _ hy)) q
    have h1 := hp x (List.mem_cons_self ..)
    have h2 := h x (List.mem_cons_self ..)
    have e : x.2.toNat = 1 := by omega
    have em : moN 1 q = 2 ^ q := by unfold moN; rw [if_neg (by decide), rt_one]
    unfold loI upI at *
    rw [loS, loS, hiS, hiS, wlV, e, em, rt_one, Int.add_mul, ← i1]
    rw [← i1] at i2
    rcases sd_two x with ⟨hx, hs⟩ | ⟨hx, hs⟩ <;> rw [hs]
    · have e2 : x.1 * (sc : Int) * ((2 ^ q : Nat) : Int) = -((x.1.natAbs * sc * 2 ^ q : Nat) : Int) := by
        rw [Int.natCast_mul, Int.natCast_mul, show ((x.1.natAbs : Nat) : Int) = -x.1 by omega]
        grind
      rw [e2]
      generalize x.1.natAbs * sc * 2 ^ q = Z at *
      simp
      omega
    · have e2 : x.1 * (sc : Int) * ((2 ^ q : Nat) : Int) = ((x.1.natAbs * sc * 2 ^ q : Nat) : Int) := by
        rw [Int.natCast_mul, Int.natCast_mul, show ((x.1.natAbs : Nat) : Int) = x.1 by omega]
      rw [e2]
      generalize x.1.natAbs * sc * 2 ^ q = Z at *
      simp
      omega
theorem flI_mul (V : Int) (q : Nat) : flI (V * ((2 ^ q : Nat) : Int)) q = V := by
  have hq := Nat.two_pow_pos q
  rw [flI_iff]
  refine ⟨Int.le_refl _, ?_⟩
  rw [Int.add_mul]
  omega
theorem up_gap {sc : Nat} (hsc : 0 < sc) {xs : List (Int × Int)} (hn : Nm xs) (hi : intB xs = false) (q : Nat) : loI sc q xs + 1 ≤ upI sc q xs := by
  obtain ⟨x, hx, h1⟩ := int_no hi
  have := hi_gap hsc q ⟨x, hx, h1, hn.2 x hx⟩
  unfold loI upI
  omega
/-- What the search has found stays so. -/
theorem stop_mono {sc q Q : Nat} (hsc : 0 < sc) {xs : List (Int × Int)} (hn : Nm xs) (h : stopQ sc xs q = true) (hq : q ≤ Q) : stopQ sc xs Q = true ∧ flI (loI sc Q xs) Q = flI (loI sc q xs) q := by
  by_cases hi : intB xs = true
  · refine ⟨by unfold stopQ; rw [hi]; rfl, ?_⟩
    have hv := fun q => (int_val sc hn.ps (int_all.1 hi) q).1
    rw [hv, hv, flI_mul, flI_mul]
  · have hi : intB xs = false := by simpa using hi
    rw [stop_iff hi] at h ⊢
    have h1 := (flI_iff (loI sc q xs) _ q).1 rfl
    have h2 := (flI_iff (upI sc q xs - 1) _ q).1 h.symm
    have hQ : 2 ^ Q = 2 ^ q * 2 ^ (Q - q) := by rw [← Nat.pow_add]; congr 1; omega
    have hD := Nat.two_pow_pos (Q - q)
    obtain ⟨u1, u2, u3, u4⟩ := bd_up sc hn.ps hQ hD
    have hg := up_gap hsc hn hi Q
    generalize flI (loI sc q xs) q = F at *
    generalize 2 ^ (Q - q) = D at *
    have hQi : ((2 ^ Q : Nat) : Int) = ((2 ^ q : Nat) : Int) * (D : Int) := by rw [hQ, Int.natCast_mul]
    have w1 := Int.mul_le_mul_of_nonneg_right h1.1 (show (0 : Int) ≤ (D : Int) by omega)
    have w2 := Int.mul_le_mul_of_nonneg_right (show upI sc q xs ≤ (F + 1) * ((2 ^ q : Nat) : Int) by omega) (show (0 : Int) ≤ (D : Int) by omega)
    rw [Int.mul_assoc, ← hQi] at w1 w2
    have e1 : flI (loI sc Q xs) Q = F := (flI_iff _ _ _).2 ⟨by omega, by omega⟩
    have e2 : flI (upI sc Q xs - 1) Q = F := (flI_iff _ _ _).2 ⟨by omega, by omega⟩
    exact ⟨by rw [e1, e2], e1⟩
/-- With many places it stops. -/
theorem stop_big {sc q : Nat} (hsc : 0 < sc) {xs : List (Int × Int)} (hn : Nm xs) (hq : (2 * bdL (toL sc xs)) ^ 2 ^ xs.length < 2 ^ q) : stopQ sc xs q = true := by
  by_cases hi : intB xs = true
  · unfold stopQ; rw [hi]; rfl
  · have hi : intB xs = false := by simpa using hi
    rw [stop_iff hi]
    have hg := up_gap hsc hn hi q
    have hno := no_mid hsc hn (int_no hi) hq
    have hq0 := Nat.two_pow_pos q
    obtain ⟨a1, a2⟩ := (flI_iff (loI sc q xs) _ q).1 rfl
    obtain ⟨b1, b2⟩ := (flI_iff (upI sc q xs - 1) _ q).1 rfl
    generalize flI (loI sc q xs) q = F at *
    generalize flI (upI sc q xs - 1) q = G at *
    rcases Int.lt_trichotomy F G with h | h | h
    · exfalso
      refine hno G ⟨?_, ?_⟩
      · have := Int.mul_le_mul_of_nonneg_right (show F + 1 ≤ G by omega) (show (0 : Int) ≤ ((2 ^ q : Nat) : Int) by omega)
        have e : ((2 : Int) ^ q) = ((2 ^ q : Nat) : Int) := by exact_mod_cast rfl
        rw [e]
        omega
      · have e : ((2 : Int) ^ q) = ((2 ^ q : Nat) : Int) := by exact_mod_cast rfl
        rw [e]
        omega
    · exact h
    · exfalso
      have := Int.mul_le_mul_of_nonneg_right (show G + 1 ≤ F by omega) (show (0 : Int) ≤ ((2 ^ q : Nat) : Int) by omega)
      omega
/-- The sums of this program are not too great. -/
theorem bd_small {sc : Nat} (hs : sc ≤ 1000000000) {X : Nat} (hX : X ≤ 1000000000000) : ∀ {xs : List (Int × Int)}, (∀ x ∈ xs, x.1.natAbs ≤ X ∧ x.2.toNat ≤ 1000000000000) → bdL (toL sc xs) ≤ xs.length * (X * 1000000000 * 1000000000001)
  | [], _ => by simp [toL, bdL]
  | x :: l, h => by
    have ih := bd_small hs hX (xs := l) fun y hy => h y (List.mem_cons_of_mem _ hy)
    obtain ⟨h1, h2⟩ := h x (List.mem_cons_self ..)
    show (x.1 * (sc : Int)).natAbs * (x.2.toNat + 1) + bdL (toL sc l) ≤ _
    rw [Int.natAbs_mul, Int.natAbs_natCast, List.length_cons, Nat.add_mul, Nat.one_mul]
    have := Nat.mul_le_mul (Nat.mul_le_mul h1 hs) (show x.2.toNat + 1 ≤ 1000000000001 by omega)
    omega
theorem halts_of {sc : Nat} (hsc : 0 < sc) (hs : sc ≤ 1000000000) {xs : List (Int × Int)} (hn : Nm xs) (hl : xs.length ≤ 38) (hb : ∀ x ∈ xs, x.1.natAbs ≤ 1000000000000 ∧ x.2.toNat ≤ 1000000000000) : ∀ Q, 32 * 2 ^ (xs.length + 2) ≤ Q → stopQ sc xs Q = true := by
  intro Q hQ
  refine (stop_mono hsc hn (stop_big (q := 128 * 2 ^ xs.length) hsc hn ?_) (Q := Q) ?_).1
  · have h1 := bd_small (sc := sc) hs (Nat.le_refl _) hb
    have h2 : 2 * bdL (toL sc xs) < 2 ^ 128 := by
      have h3 : xs.length * (1000000000000 * 1000000000 * 1000000000001) ≤ 38 * (1000000000000 * 1000000000 * 1000000000001) := Nat.mul_le_mul_right _ hl
      omega
    rw [Nat.pow_mul]
    exact Nat.pow_lt_pow_left h2 (by have := Nat.two_pow_pos xs.length; omega)
  · rw [Nat.pow_add] at hQ
    omega
end Go.Proofs.Ytdimaapiloojeaa
/- Both parts of a path need as much as all of it, or one more: plain. -/
namespace Go.Proofs.Ytdimaapiloojeaa
open Go.RowKit

theorem lo_fl {sc q : Nat} {xs : List (Int × Int)} (h : lsV sc xs q ≤ 4000000000000000000) : loQ (lsV sc xs q) (lsB sc xs q) = flI (loI sc q xs) q := by
  rw [← (ls_is sc q xs).1]
  unfold loQ
  rw [if_neg (by omega)]
/-- What the upper bound is. -/
theorem hi_is {sc q : Nat} {xs : List (Int × Int)} (hb : badQ (intB xs) (lsV sc xs q) (lsB sc xs q) = false) : hiOf sc xs q = flI (loI sc q xs) q + (if intB xs = true then 0 else 1) := by
  have hv : lsV sc xs q ≤ 4000000000000000000 := by
    unfold badQ at hb
    rw [Bool.or_eq_false_iff, decide_eq_false_iff_not] at hb
    omega
  unfold hiOf
  rw [hb, if_neg (by decide)]
  unfold hiQ
  rw [lo_fl hv]
  split <;> omega
theorem hi_char {sc q : Nat} (hsc : 0 < sc) {xs : List (Int × Int)} (hn : Nm xs) (hb : badQ (intB xs) (lsV sc xs q) (lsB sc xs q) = false) (hs : stopQ sc xs q = true) :
    upI sc q xs ≤ hiOf sc xs q * ((2 ^ q : Nat) : Int) ∧ (hiOf sc xs q - 1) * ((2 ^ q : Nat) : Int) ≤ loI sc q xs ∧ (loI sc q xs = upI sc q xs ∧ (hiOf sc xs q - 1) * ((2 ^ q : Nat) : Int) < loI sc q xs ∨ loI sc q xs < upI sc q xs) := by
  have hq := Nat.two_pow_pos q
  rw [hi_is hb]
  by_cases hi : intB xs = true
  · rw [if_pos hi]
    obtain ⟨e1, e2⟩ := int_val sc hn.ps (int_all.1 hi) q
    rw [e1, e2, flI_mul, Int.add_zero]
    rw [Int.sub_mul]
    refine ⟨Int.le_refl _, by omega, .inl ⟨rfl, by omega⟩⟩
  · rw [if_neg hi]
    have hi : intB xs = false := by simpa using hi
    have hg := up_gap hsc hn hi q
    rw [stop_iff hi] at hs
    have h1 := (flI_iff (loI sc q xs) _ q).1 rfl
    have h2 := (flI_iff (upI sc q xs - 1) _ q).1 hs.symm
    generalize flI (loI sc q xs) q = F at *
    rw [show F + 1 - 1 = F by omega]
    exact ⟨by omega, h1.1, .inr (by omega)⟩
/-- A sum over steps. -/
noncomputable def stW (f : Nat → Nat) : List Int → Nat
  | [] => 0
  | n :: l => (if 0 < n then (nrt n).1.natAbs * f (nrt n).2.toNat else 0) + stW f l
theorem stW_app (f : Nat → Nat) (m : List Int) : ∀ l, stW f (l ++ m) = stW f l + stW f m
  | [] => by simp [stW]
  | n :: l => by rw [List.cons_append, stW, stW, stW_app f m l, Nat.add_assoc]
theorem smF_lenF (f : Nat → Nat) : ∀ (l : List Int) (o : List (Int × Int)) (k : Nat), (∀ n ∈ l, n ≤ 1000000000000) → LenS k o → LenS (k + l.length) (lenF l o) ∧ smF f (lenF l o) = smF f o + stW f l
  | [], o, k, _, h => ⟨h, by simp [lenF, stW]⟩
  | n :: l, o, k, hn, h => by
    have hn1 := hn n (List.mem_cons_self ..)
    rw [lenF, stW]
    by_cases h0 : 0 < n
    · obtain ⟨K, S, hr⟩ := isRt_ex n.toNat (by omega)
      obtain ⟨⟨r1, r2⟩, r3, r4⟩ := nrt_rng h0 hn1 hr
      have hst : stepL o n (nrt n) = mg 1 o [((K : Int), (S : Int))] := by unfold stepL; rw [if_pos h0, nrt_is h0 hr]
      have hs1 := h.step (K := (K : Int)) (S := (S : Int)) hn1 h0 (by simpa using hr) (by omega) (by omega)
      have hp : Pos 1000000 [((K : Int), (S : Int))] := fun x hx => by
        rw [List.mem_singleton.1 hx]
        simp only; omega
      have hm := smF_mg f o _ h.ps hp
      obtain ⟨i1, i2⟩ := smF_lenF f l (mg 1 o [((K : Int), (S : Int))]) (k + 1) (fun m hm => hn m (List.mem_cons_of_mem _ hm)) hs1
      rw [hst, if_pos h0, nrt_is h0 hr]
      refine ⟨by rw [List.length_cons, show k + (l.length + 1) = k + 1 + l.length by omega]; exact i1, ?_⟩
      rw [i2, hm]
      simp only [smF, Int.natAbs_natCast, Int.toNat_natCast, Nat.add_zero]
      omega
    · obtain ⟨i1, i2⟩ := smF_lenF f l o (k + 1) (fun m hm => hn m (List.mem_cons_of_mem _ hm)) h.more
      have hst : stepL o n (nrt n) = o := by unfold stepL; rw [if_neg h0]
      rw [hst, if_neg h0]
      refine ⟨by rw [List.length_cons, show k + (l.length + 1) = k + 1 + l.length by omega]; exact i1, by rw [i2]; omega⟩
theorem sqN_same (a b c : Int) (p : Int × Int) : sqN a b c p p = 0 := by unfold sqN prodG stp; simp
/-- The squares of the parts. -/
theorem sqs_take {a b c : Int} {ps : List (Int × Int)} {k : Nat} : sqsK a b c (ps.take (k + 1)) (k + 1) = sqsK a b c ps (k + 1) := by
  unfold sqsK
  refine List.map_congr_left fun i hi => ?_
  have := List.mem_range.1 hi
  unfold sqA
  have e : ∀ j, j < k + 1 → (ps.take (k + 1)).getD j (0, 0) = ps.getD j (0, 0) := fun j hj => by
    rw [List.getD_eq_getElem?_getD, List.getD_eq_getElem?_getD, List.getElem?_take, if_pos hj]
  rw [e _ (by omega), e _ (by omega)]
theorem sqs_drop {a b c : Int} {ps : List (Int × Int)} {k : Nat} (hk : k < ps.length) : ∃ l, sqsK a b c (ps.drop k) (ps.length - k) = 0 :: l ∧ sqsK a b c ps ps.length = sqsK a b c ps (k + 1) ++ l := by
  refine ⟨(List.range (ps.length - k - 1)).map fun i => sqA a b c ps (i + (k + 1)), ?_, ?_⟩
  · unfold sqsK
    rw [show ps.length - k = ps.length - k - 1 + 1 by omega, List.range_succ_eq_map, List.map_cons, List.map_map]
    congr 1
    · unfold sqA
      exact sqN_same _ _ _ _
    · refine List.map_congr_left fun i hi => ?_
      have := List.mem_range.1 hi
      show sqA a b c (ps.drop k) (i + 1) = _
      unfold sqA
      have e : ∀ j, (ps.drop k).getD j (0, 0) = ps.getD (k + j) (0, 0) := fun j => by
        rw [List.getD_eq_getElem?_getD, List.getD_eq_getElem?_getD, List.getElem?_drop]
      rw [e, e, show k + (i + 1 - 1) = i + (k + 1) - 1 by omega, show k + (i + 1) = i + (k + 1) by omega]
  · unfold sqsK
    rw [show List.range ps.length = List.range (k + 1) ++ (List.range (ps.length - k - 1)).map (· + (k + 1)) by
      rw [show ps.length = (k + 1) + (ps.length - k - 1) by omega, List.range_add]
      congr 1
      rw [show k + 1 + (ps.length - k - 1) - k - 1 = ps.length - k - 1 by omega]
      refine List.map_congr_left fun i _ => by omega]
    rw [List.map_append, List.map_map]
    rfl
/-- A path of at most 64 points that is right. -/
theorem lenR_of {a b c : Int} {ps : List (Int × Int)} (hl : ps.length ≤ 64) (h1 : latB a b c = false) (h2 : ps.any offP = false) (h3 : ∀ n ∈ sqsK a b c ps ps.length, n ≤ 1000000000000) : lenR a b c ps = (lenF (sqsK a b c ps ps.length) [], 0) := by
  have hs := (smF_lenF (fun _ => 0) _ [] 0 h3 LenS.zero).1.ln
  rw [sqsK_length] at hs
  unfold lenR
  rw [if_neg (by omega), if_neg (by rw [h1]; decide), if_neg (by rw [h2]; decide), if_neg ?_, if_neg (by omega)]
  intro h
  obtain ⟨n, hn, h⟩ := List.any_eq_true.1 h
  have := h3 n hn
  simp at h
  omega
theorem LenS.nrm {k : Nat} {o : List (Int × Int)} (h : LenS k o) : Nm o := ⟨h.nm, fun x hx => by have := h.ps x hx; omega⟩
/-- The bounds of a length. -/
theorem len_lo {X : Int} {xs : List (Int × Int)} (sc q : Nat) (h : Pos X xs) : loI sc q xs = ((sc * smF (fun s => rtN s q) xs : Nat) : Int) ∧ upI sc q xs = ((sc * smF (fun s => moN s q) xs : Nat) : Int) := by
  unfold loI upI
  obtain ⟨h1, h2⟩ := lo0_sm sc q h
  obtain ⟨h3, h4⟩ := lo1_pos sc q h
  rw [h1, h2, h3, h4]
  omega
theorem lenR_sum {a b c : Int} {ps : List (Int × Int)} (h : (lenR a b c ps).2 = 0) (sc q : Nat) : Nm (lenR a b c ps).1 ∧ loI sc q (lenR a b c ps).1 = ((sc * stW (fun s => rtN s q) (sqsK a b c ps ps.length) : Nat) : Int) ∧ upI sc q (lenR a b c ps).1 = ((sc * stW (fun s => moN s q) (sqsK a b c ps ps.length) : Nat) : Int) ∧ LenS ps.length (lenR a b c ps).1 := by
  obtain ⟨_, _, _, h4, _, h6⟩ := lenR_ok h
  obtain ⟨i1, i2⟩ := smF_lenF (fun s => rtN s q) _ [] 0 h4 LenS.zero
  have i3 := (smF_lenF (fun s => moN s q) _ [] 0 h4 LenS.zero).2
  rw [sqsK_length, Nat.zero_add] at i1
  rw [h6]
  simp only
  obtain ⟨l1, l2⟩ := len_lo sc q i1.ps
  rw [l1, l2, i2, i3]
  simp only [smF, Nat.zero_add]
  exact ⟨i1.nrm, trivial, trivial, i1⟩
/-- For paths of few points the search ends. -/
theorem len_halts {a b c : Int} {ps : List (Int × Int)} (h : (lenR a b c ps).2 = 0) (hl : ps.length ≤ 38) {sc : Nat} (hsc : 0 < sc) (hs : sc ≤ 1000000000) : ∀ Q, 32 * 2 ^ 40 ≤ Q → stopQ sc (lenR a b c ps).1 Q = true := by
  obtain ⟨h1, _, _, h4⟩ := lenR_sum h sc 0
  have hln := h4.ln
  intro Q hQ
  refine halts_of hsc hs h1 (by omega) (fun x hx => ?_) Q (Nat.le_trans ?_ hQ)
  · have h5 := h4.ps x hx
    have h6 := h4.rg x hx
    omega
  · exact Nat.mul_le_mul_left 32 (Nat.pow_le_pow_right (by decide) (by omega))
theorem len_halt {a b c : Int} {ps : List (Int × Int)} (h : (lenR a b c ps).2 = 0) (hl : ps.length ≤ 38) {sc : Nat} (hsc : 0 < sc) (hs : sc ≤ 1000000000) : Halts sc (lenR a b c ps).1 := ⟨40, Nat.le_refl _, len_halts h hl hsc hs _ (Nat.le_refl _)⟩
theorem hi_mono {a b c : Int} {ps : List (Int × Int)} (h : (lenR a b c ps).2 = 0) {sc q Q : Nat} (hsc : 0 < sc) (hs : sc ≤ 100000) (h1 : stopQ sc (lenR a b c ps).1 q = true) (hq : q ≤ Q) : stopQ sc (lenR a b c ps).1 Q = true ∧ hiOf sc (lenR a b c ps).1 Q = hiOf sc (lenR a b c ps).1 q := by
  have hn := (lenR_sum h sc 0).1
  obtain ⟨s1, s2⟩ := stop_mono hsc hn h1 hq
  refine ⟨s1, ?_⟩
  rw [hi_is (hiOf_len h sc Q hs).1, hi_is (hiOf_len h sc q hs).1, s2]
/-- The parts of a path that is right. -/
theorem parts {a b c : Int} {ps : List (Int × Int)} {k : Nat} (h : (lenR a b c ps).2 = 0) (hl : ps.length ≤ 64) (hk : k < ps.length) : (lenR a b c (ps.take (k + 1))).2 = 0 ∧ (lenR a b c (ps.drop k)).2 = 0 := by
  obtain ⟨_, h2, h3, h4, _, _⟩ := lenR_ok h
  obtain ⟨l, e1, e2⟩ := sqs_drop (a := a) (b := b) (c := c) hk
  have htl : (ps.take (k + 1)).length = k + 1 := by rw [List.length_take]; omega
  have hdl : (ps.drop k).length = ps.length - k := List.length_drop ..
  have hany : ∀ m : List (Int × Int), (∀ p ∈ m, p ∈ ps) → m.any offP = false := fun m hm => by
    rw [List.any_eq_false] at h3 ⊢
    exact fun p hp => h3 p (hm p hp)
  rw [e2] at h4
  constructor
  · rw [lenR_of (by omega) h2 (hany _ fun p hp => List.mem_of_mem_take hp) (fun n hn => by
      rw [htl, sqs_take] at hn
      exact h4 n (List.mem_append.2 (.inl hn)))]
  · rw [lenR_of (by omega) h2 (hany _ fun p hp => List.mem_of_mem_drop hp) (fun n hn => by
      rw [hdl, e1] at hn
      rcases List.mem_cons.1 hn with rfl | hn
      · decide
      · exact h4 n (List.mem_append.2 (.inr hn)))]
/-- THE LAW, plain: both parts need as much as all, or one more. -/
theorem halves {a b c : Int} {ps : List (Int × Int)} {k sc q q1 q2 : Nat} (h : (lenR a b c ps).2 = 0) (hl : ps.length ≤ 64) (hk : k < ps.length) (hsc : 0 < sc) (hs : sc ≤ 100000)
    (s0 : stopQ sc (lenR a b c ps).1 q = true) (s1 : stopQ sc (lenR a b c (ps.take (k + 1))).1 q1 = true) (s2 : stopQ sc (lenR a b c (ps.drop k)).1 q2 = true) :
    hiOf sc (lenR a b c (ps.take (k + 1))).1 q1 + hiOf sc (lenR a b c (ps.drop k)).1 q2 = hiOf sc (lenR a b c ps).1 q ∨ hiOf sc (lenR a b c (ps.take (k + 1))).1 q1 + hiOf sc (lenR a b c (ps.drop k)).1 q2 = hiOf sc (lenR a b c ps).1 q + 1 := by
  obtain ⟨p1, p2⟩ := parts h hl hk
  obtain ⟨Q, hQ0, hQ1, hQ2⟩ : ∃ Q, q ≤ Q ∧ q1 ≤ Q ∧ q2 ≤ Q := ⟨q + q1 + q2, by omega, by omega, by omega⟩
  obtain ⟨t0, e0⟩ := hi_mono h hsc hs s0 hQ0
  obtain ⟨t1, e1⟩ := hi_mono p1 hsc hs s1 hQ1
  obtain ⟨t2, e2⟩ := hi_mono p2 hsc hs s2 hQ2
  rw [← e0, ← e1, ← e2]
  obtain ⟨n0, l0, u0, _⟩ := lenR_sum h sc Q
  obtain ⟨n1, l1, u1, _⟩ := lenR_sum p1 sc Q
  obtain ⟨n2, l2, u2, _⟩ := lenR_sum p2 sc Q
  have c0 := hi_char hsc n0 (hiOf_len h sc Q hs).1 t0
  have c1 := hi_char hsc n1 (hiOf_len p1 sc Q hs).1 t1
  have c2 := hi_char hsc n2 (hiOf_len p2 sc Q hs).1 t2
  obtain ⟨l, f1, f2⟩ := sqs_drop (a := a) (b := b) (c := c) hk
  have htl : (ps.take (k + 1)).length = k + 1 := by rw [List.length_take]; omega
  have hdl : (ps.drop k).length = ps.length - k := List.length_drop ..
  rw [htl, sqs_take] at l1 u1
  rw [hdl, f1, stW, if_neg (by decide), Nat.zero_add] at l2 u2
  rw [f2, stW_app, Nat.mul_add] at l0 u0
  have hq := Nat.two_pow_pos Q
  generalize hiOf sc (lenR a b c ps).1 Q = H0 at *
  generalize hiOf sc (lenR a b c (ps.take (k + 1))).1 Q = H1 at *
  generalize hiOf sc (lenR a b c (ps.drop k)).1 Q = H2 at *
  generalize loI sc Q (lenR a b c ps).1 = L0 at *
  generalize loI sc Q (lenR a b c (ps.take (k + 1))).1 = L1 at *
  generalize loI sc Q (lenR a b c (ps.drop k)).1 = L2 at *
  generalize upI sc Q (lenR a b c ps).1 = U0 at *
  generalize upI sc Q (lenR a b c (ps.take (k + 1))).1 = U1 at *
  generalize upI sc Q (lenR a b c (ps.drop k)).1 = U2 at *
  have eL : L0 = L1 + L2 := by omega
  have eU : U0 = U1 + U2 := by omega
  clear l0 l1 l2 u0 u1 u2
  generalize hP : ((2 ^ Q : Nat) : Int) = P at *
  have hP0 : 0 < P := by omega
  -- H0 ≤ H1 + H2
  have g1 : H0 - 1 < H1 + H2 := by
    rcases Int.lt_or_le (H0 - 1) (H1 + H2) with h | h
    · exact h
    · have m1 := Int.mul_le_mul_of_nonneg_right h (show 0 ≤ P by omega)
      rw [Int.add_mul] at m1
      rcases c0.2.2 with ⟨_, h⟩ | h <;> omega
  have g2 : H1 + H2 - 2 < H0 := by
    rcases Int.lt_or_le (H1 + H2 - 2) H0 with h | h
    · exact h
    · have m1 := Int.mul_le_mul_of_nonneg_right h (show 0 ≤ P by omega)
      have e : (H1 + H2 - 2) * P = (H1 - 1) * P + (H2 - 1) * P := by grind
      rw [e] at m1
      rcases c1.2.2 with ⟨_, h1⟩ | h1 <;> rcases c2.2.2 with ⟨_, h2⟩ | h2 <;> omega
  omega
theorem needV0 (h : Int) : needV h 0 0 = h := by unfold needV; omega
end Go.Proofs.Ytdimaapiloojeaa
/- The law BobbinsHalves. -/
namespace Go.Proofs.Ytdimaapiloojeaa
open Go.RowKit

/-- What Need returns without plus and hang. -/
noncomputable def n0V (a b c : Int) (ps : List (Int × Int)) (unit : Int) : Int := if argB unit 0 0 = true then 0 else if (lenR a b c ps).2 = 0 then hiOf unit.toNat (lenR a b c ps).1 (32 * 2 ^ 40) else 0
noncomputable def n0E (a b c : Int) (ps : List (Int × Int)) (unit : Int) : Int := if argB unit 0 0 = true then 2 else (lenR a b c ps).2
theorem need0_ (PA : Option Addr) (pc : Nat) (a b c unit : Int) (ps : List (Int × Int)) (w : World) (hr : RdR w PA ps) (hl : ps.length ≤ 38) :
    Calls Try.prog 15 #[.agg #[.int .i64 a, .int .i64 b, .int .i64 c], .slice PA ps.length pc, .int .i64 unit, .int .i64 0, .int .i64 0] w (NeedE (n0V a b c ps unit) (n0E a b c ps unit) w) := by
  unfold n0V n0E
  by_cases h : argB unit 0 0 = true
  · rw [if_pos h, if_pos h]
    exact bNeed_arg PA pc a b c unit 0 0 ps.length w h
  · rw [if_neg h, if_neg h]
    have h' : argB unit 0 0 = false := by simpa using h
    have hu : 1 ≤ unit ∧ unit ≤ 100000 := by
      unfold argB at h'
      rw [Bool.or_eq_false_iff, Bool.or_eq_false_iff] at h'
      exact outR_no h'.1.1
    obtain ⟨u, rfl⟩ : ∃ u : Nat, unit = (u : Int) := ⟨unit.toNat, by omega⟩
    rw [Int.toNat_natCast]
    refine (bNeed_ PA pc a b c u 0 0 ps w hr h' fun h0 => len_halt h0 hl (by omega) (by omega)).mono ?_
    rintro e w' ⟨h1, h2⟩
    by_cases h0 : (lenR a b c ps).2 = 0
    · obtain ⟨q, _, hs, hN⟩ := h2 h0
      rw [if_pos h0, h0]
      have hst := len_halts h0 hl (sc := u) (by omega) (by omega)
      have hq : hiOf u (lenR a b c ps).1 (32 * 2 ^ 40) = hiOf u (lenR a b c ps).1 q := by
        obtain ⟨s1, e1⟩ := hi_mono h0 (sc := u) (Q := q + 32 * 2 ^ 40) (by omega) (by omega) hs (by omega)
        obtain ⟨s2, e2⟩ := hi_mono h0 (sc := u) (Q := q + 32 * 2 ^ 40) (by omega) (by omega) (hst _ (Nat.le_refl _)) (by omega)
        rw [← e1, ← e2]
      rw [hq]
      rw [needV0] at hN
      exact hN
    · rw [if_neg h0]
      exact h1 h0
theorem RdR.take {w : World} {A : Option Addr} {xs : List (Int × Int)} (h : RdR w A xs) (m : Nat) : RdR w A (xs.take m) := by
  have hl : (xs.take m).length ≤ xs.length := by rw [List.length_take]; omega
  refine ⟨Nat.le_trans hl h.1, fun h0 => ?_⟩
  obtain ⟨b, off, e, hlt, hc⟩ := h.2 (by omega)
  refine ⟨b, off, e, hlt, fun j hj => ?_⟩
  rw [hc j (by omega)]
  unfold cellsR
  have e : (xs.take m).getD (j / 2) (0, 0) = xs.getD (j / 2) (0, 0) := by
    rw [List.length_take] at hj
    rw [List.getD_eq_getElem?_getD, List.getD_eq_getElem?_getD, List.getElem?_take, if_pos (by omega)]
  rw [e]
theorem RdR.drop {w : World} {b off : Nat} {xs : List (Int × Int)} (h : RdR w (some ⟨b, off, none⟩) xs) {m : Nat} (hm : m < xs.length) : RdR w (some ⟨b, off + m * 2, none⟩) (xs.drop m) := by
  have hl : (xs.drop m).length = xs.length - m := List.length_drop ..
  refine ⟨by have := h.1; omega, fun h0 => ?_⟩
  obtain ⟨b', off', e, hlt, hc⟩ := h.2 (by omega)
  injection e with e; injection e with e1 e2; subst e1; subst e2
  refine ⟨b, off + m * 2, rfl, hlt, fun j hj => ?_⟩
  rw [Nat.add_assoc, hc (m * 2 + j) (by omega)]
  unfold cellsR
  have e : ∀ i, (xs.drop m).getD i (0, 0) = xs.getD (m + i) (0, 0) := fun i => by
    rw [List.getD_eq_getElem?_getD, List.getD_eq_getElem?_getD, List.getElem?_drop]
  rw [e, show (m * 2 + j) / 2 = m + j / 2 by omega, show (m * 2 + j) % 2 = j % 2 by omega]
/-- The law, of three results. -/
def hvB (e f g all a b : Int) : Bool := if e = 0 then decide (f = 0) && decide (g = 0) && (decide (a + b = all) || decide (a + b = all + 1)) else decide (all = 0)
theorem hv_true {a b c unit : Int} {ps : List (Int × Int)} {k : Nat} (hl : ps.length ≤ 12) (hk : k < ps.length) :
    (n0E a b c ps unit ≠ 0 → n0V a b c ps unit = 0) ∧ (n0E a b c ps unit = 0 → n0E a b c (ps.take (k + 1)) unit = 0 ∧ n0E a b c (ps.drop k) unit = 0 ∧ (n0V a b c (ps.take (k + 1)) unit + n0V a b c (ps.drop k) unit = n0V a b c ps unit ∨ n0V a b c (ps.take (k + 1)) unit + n0V a b c (ps.drop k) unit = n0V a b c ps unit + 1) ∧ -1 ≤ n0V a b c ps unit ∧ n0V a b c ps unit ≤ 50000000000001 ∧ 0 ≤ n0V a b c (ps.take (k + 1)) unit ∧ n0V a b c (ps.take (k + 1)) unit ≤ 50000000000001 ∧ 0 ≤ n0V a b c (ps.drop k) unit ∧ n0V a b c (ps.drop k) unit ≤ 50000000000001) := by
  unfold n0E n0V
  by_cases h : argB unit 0 0 = true
  · rw [if_pos h, if_pos h]
    exact ⟨fun _ => rfl, fun h => by cases h⟩
  · rw [if_neg h, if_neg h, if_neg h, if_neg h, if_neg h, if_neg h]
    have h' : argB unit 0 0 = false := by simpa using h
    have hu : 1 ≤ unit ∧ unit ≤ 100000 := by
      unfold argB at h'
      rw [Bool.or_eq_false_iff, Bool.or_eq_false_iff] at h'
      exact outR_no h'.1.1
    obtain ⟨u, rfl⟩ : ∃ u : Nat, unit = (u : Int) := ⟨unit.toNat, by omega⟩
    rw [Int.toNat_natCast]
    refine ⟨fun h0 => if_neg h0, fun h0 => ?_⟩
    obtain ⟨p1, p2⟩ := parts h0 (by omega) hk
    have htl : (ps.take (k + 1)).length ≤ 12 := by rw [List.length_take]; omega
    have hdl : (ps.drop k).length ≤ 12 := by rw [List.length_drop]; omega
    rw [if_pos h0, if_pos p1, if_pos p2]
    have b0 := hiOf_len h0 u (32 * 2 ^ 40) (by omega)
    have b1 := hiOf_len p1 u (32 * 2 ^ 40) (by omega)
    have b2 := hiOf_len p2 u (32 * 2 ^ 40) (by omega)
    exact ⟨p1, p2, halves h0 (by omega) hk (by omega) (by omega) (len_halts h0 (by omega) (by omega) (by omega) _ (Nat.le_refl _)) (len_halts p1 (by omega) (by omega) (by omega) _ (Nat.le_refl _)) (len_halts p2 (by omega) (by omega) (by omega) _ (Nat.le_refl _)), by omega, b0.2.2, b1.2.1, b1.2.2, b2.2⟩
set_option maxRecDepth 100000 in
set_option maxHeartbeats 4000000 in
theorem lawHalves_ (A : Option Addr) (pc : Nat) (a b c unit plus hang : Int) (ps : List (Int × Int)) (at' : Nat) (w : World) (hr : RdR w A ps) (hat : at' < 256) (hcap : ps.length ≤ pc) :
    Calls Try.prog 4 #[.agg #[.int .i64 a, .int .i64 b, .int .i64 c], .agg #[.slice A ps.length pc, .int .i64 unit, .int .i64 plus, .int .i64 hang], .int .u8 (at' : Int)] w (BoolPost true w) := by
  have hln := hr.1
  have haw := fun W => awake20_ W
  obtain ⟨w1, hw1⟩ : ∃ w1, w1 = w.alloc (.cells #[.int .i64 a, .int .i64 b, .int .i64 c] 35) := ⟨_, rfl⟩
  obtain ⟨w2, hw2⟩ : ∃ w2, w2 = w1.alloc (.cells #[.slice A ps.length pc, .int .i64 unit, .int .i64 plus, .int .i64 hang] 38) := ⟨_, rfl⟩
  have hy1 : w1.heap[w.heap.size]? = some (.cells #[.int .i64 a, .int .i64 b, .int .i64 c] 35 (0, 0)) := by rw [hw1]; exact heap_alloc_new _ _
  have hb1 : Below w.heap.size w w1 := by rw [hw1]; exact (Below.refl _ _).alloc (Nat.le_refl _) _
  have hx : w2.heap[w1.heap.size]? = some (.cells #[.slice A ps.length pc, .int .i64 unit, .int .i64 plus, .int .i64 hang] 38 (0, 0)) := by rw [hw2]; exact heap_alloc_new _ _
  have hy : w2.heap[w.heap.size]? = some (.cells #[.int .i64 a, .int .i64 b, .int .i64 c] 35 (0, 0)) := by
    rw [hw2, heap_alloc_old _ _ (lt_of_block hy1)]; exact hy1
  have hb : Below w.heap.size w w2 := by rw [hw2]; exact hb1.alloc hb1.size _
  have hr2 := hr.later hb (Nat.le_refl _)
  clear hy1 hb1
  have hsz : w1.heap.size = w.heap.size + 1 := by rw [hw1]; exact Array.size_push _
  rw [hsz] at hx
  clear hsz
  generalize hsX : w.heap.size + 1 = X at *
  have x0 := cell_of_row _ _ 0 _ _ _ hx
  have x1 := cell_of_row _ _ 1 _ _ _ hx
  have y0 := cell_of_row _ _ 0 _ _ _ hy
  have y1 := cell_of_row _ _ 1 _ _ _ hy
  have y2 := cell_of_row _ _ 2 _ _ _ hy
  simp only [List.getElem?_toArray, List.getElem?_cons_zero, List.getElem?_cons_succ] at x0 x1 y0 y1 y2
  by_cases h12 : 12 < ps.length ∨ ps.length = 0
  · obtain ⟨t1, f1, f2⟩ : ∃ t1 : Bool, decide ((12 : Int) < (ps.length : Int)) = t1 ∧ (t1 = false → ((ps.length : Int) == 0) = true) := ⟨_, rfl, fun h => by
      have := of_decide_eq_false h
      rw [beq_iff_eq]; omega⟩
    have HR := Lib.hid hr; have HR2 := Lib.hid hr2; have HAW := Lib.hid haw; have HB := Lib.hid hb; have HX := Lib.hid hx; have HY := Lib.hid hy; have HAT := Lib.hid hat; have HW1 := Lib.hid hw1; have HW2 := Lib.hid hw2; have HSX := Lib.hid hsX; clear hr hr2 haw hb hx hy hat hw1 hw2 hsX
    go_enter Try.func4, Try.ntmps4
    go_upto_region 1 with fail
    rw [← HW1.out, ← HW2.out, HSX.out]
    cases t1 with
    | true =>
      have F2 := Lib.hid f2; clear f2
      go_wp2_with fail
      refine (HAW.out _).mono ?_
      rintro e w3 ⟨rfl, b3⟩
      have hb3 := HB.out.trans (b3.mono HB.out.size)
      clear b3
      have HB3 := Lib.hid hb3; clear hb3
      go_wp2
      go_ret
      exact ⟨rfl, HB3.out⟩
    | false =>
      have f3 := f2 rfl
      clear f2
      go_wp2_with fail
      refine (HAW.out _).mono ?_
      rintro e w3 ⟨rfl, b3⟩
      have hb3 := HB.out.trans (b3.mono HB.out.size)
      clear b3
      have HB3 := Lib.hid hb3; clear hb3
      go_wp2
      go_ret
      exact ⟨rfl, HB3.out⟩
  · have f1 : decide ((12 : Int) < (ps.length : Int)) = false := decide_eq_false (by omega)
    have f2 : ((ps.length : Int) == 0) = false := by rw [beq_eq_false_iff_ne]; omega
    have hk : at' % ps.length < ps.length := Nat.mod_lt _ (by omega)
    have hk0 : ((at' : Int)).tmod (ps.length : Int) = ((at' % ps.length : Nat) : Int) := by rw [Int.tmod_eq_emod_of_nonneg (by omega)]; exact (Int.natCast_emod at' ps.length).symm
    obtain ⟨k, hke⟩ : ∃ k, k = at' % ps.length := ⟨_, rfl⟩
    rw [← hke] at hk hk0
    obtain ⟨bb, off, rfl, -⟩ := hr2.at_ hk
    have hmx := hv_true (a := a) (b := b) (c := c) (unit := unit) (ps := ps) (k := k) (by omega) hk
    have hn0 := fun W (hW : Below w2.heap.size w2 W) => need0_ (some ⟨bb, off, none⟩) pc a b c unit ps W (hr2.later hW (Nat.le_refl _)) (by omega)
    have htl : (ps.take (k + 1)).length = k + 1 := by rw [List.length_take]; omega
    have hdl : (ps.drop k).length = ps.length - k := List.length_drop ..
    have hn1 := fun W (hW : Below w2.heap.size w2 W) => need0_ (some ⟨bb, off, none⟩) pc a b c unit (ps.take (k + 1)) W ((hr2.take (k + 1)).later hW (Nat.le_refl _)) (by omega)
    have hn2 := fun W (hW : Below w2.heap.size w2 W) => need0_ (some ⟨bb, off + k * 2, none⟩) (pc - k) a b c unit (ps.drop k) W ((hr2.drop hk).later hW (Nat.le_refl _)) (by omega)
    rw [htl] at hn1
    rw [hdl] at hn2
    generalize n0V a b c ps unit = v0 at *
    generalize n0V a b c (ps.take (k + 1)) unit = v1 at *
    generalize n0V a b c (ps.drop k) unit = v2 at *
    generalize n0E a b c ps unit = e0 at *
    generalize n0E a b c (ps.take (k + 1)) unit = e1 at *
    generalize n0E a b c (ps.drop k) unit = e2 at *
    have xl := lt_of_block hx
    have yl := lt_of_block hy
    have hwt : IntKind.i64.wrap (at' : Int) = (at' : Int) := IntWalk.i64_in _ (by omega)
    have hwk : IntKind.i64.wrap (k : Int) = (k : Int) := IntWalk.i64_in _ (by omega)
    have q1 : (0 : Int) ≤ (k : Int) := by omega
    have q2 : (k : Int) < (ps.length : Int) := by omega
    have q5 : ((ps.length : Int) = 0) = False := eq_false (by omega)
    have HR := Lib.hid hr; have HR2 := Lib.hid hr2; have HAW := Lib.hid haw; have HB := Lib.hid hb; have HX := Lib.hid hx; have HY := Lib.hid hy; have HAT := Lib.hid hat; have HW1 := Lib.hid hw1; have HW2 := Lib.hid hw2; have HSX := Lib.hid hsX; have H12 := Lib.hid h12; have HK := Lib.hid hk; have HKE := Lib.hid hke; have HMX := Lib.hid hmx; have HN0 := Lib.hid hn0; have HN1 := Lib.hid hn1; have HN2 := Lib.hid hn2; have HTL := Lib.hid htl; have HDL := Lib.hid hdl; clear hr hr2 haw hb hx hy hat hw1 hw2 hsX h12 hk hke hmx hn0 hn1 hn2 htl hdl
    go_enter Try.func4, Try.ntmps4
    go_upto_region 1 with fail
    rw [← HW1.out, ← HW2.out, HSX.out]
    go_wp2_with fail
    refine (HN0.out _ (Below.refl _ _)).mono ?_
    rintro e w3 ⟨rfl, b3⟩
    have bw3 := Lib.hid (HB.out.trans (b3.mono HB.out.size))
    have c0 := below_at b3 (Nat.le_refl _) x0
    have c1 := below_at b3 (Nat.le_refl _) x1
    have d0 := below_at b3 (Nat.le_refl _) y0
    have d1 := below_at b3 (Nat.le_refl _) y1
    have d2 := below_at b3 (Nat.le_refl _) y2
    have xl3 : X < w3.heap.size := Nat.lt_of_lt_of_le xl b3.size
    have yl3 : w.heap.size < w3.heap.size := Nat.lt_of_lt_of_le yl b3.size
    clear x0 x1 y0 y1 y2 xl yl
    have r1 : (0 : Int) ≤ (k : Int) + 1 := by omega
    have r2 : (k : Int) + 1 ≤ (pc : Int) := by have := HK.out; omega
    have r3 : IntKind.i64.wrap ((k : Int) + 1) = (k : Int) + 1 := IntWalk.i64_in _ (by have := HK.out; omega)
    have r4 : ((k : Int) + 1).toNat = k + 1 := by omega
    have B3 := Lib.hid b3; clear b3
    go_wp2_with fail
    have hbelc : ∀ (u : Bel w3.heap.size w3) b o, b < w3.heap.size → u.wd.cell? ⟨b, o, none⟩ = w3.cell? ⟨b, o, none⟩ := fun u b o h => u.h.cell (p := ⟨b, o, none⟩) h
    have hbeln : Nonempty (Bel w3.heap.size w3) := ⟨⟨w3, Below.refl _ _⟩⟩
    refine wp_region_bel w3.heap.size (by kernel_rfl) (by kernel_rfl) ?_
    repeat (go_big_quiet_step ((go_at_call 15; exact quiet_bel (Nat.le_refl _) (HN1.out _ (B3.out.trans ((Bel.h _).mono B3.out.size))))))
    refine wpQuiet_nil ?_
    intro wB hB0; obtain ⟨uB, hu⟩ := hB0; have hbB0 := uB.h; rw [← hu] at hbB0; clear hu uB hbelc hbeln
    obtain ⟨hbB, hcB, hsB⟩ := bcell2 hbB0; clear hbB0
    have b4 := Lib.hid (B3.out.trans (hbB.mono B3.out.size))
    have bw4 := Lib.hid (bw3.out.trans (hbB.mono bw3.out.size))
    have xl4 : X < wB.heap.size := Nat.lt_of_lt_of_le xl3 hbB.size
    have yl4 : w.heap.size < wB.heap.size := Nat.lt_of_lt_of_le yl3 hbB.size
    have g0 := below_at hbB (Nat.le_refl _) c0
    have g1 := below_at hbB (Nat.le_refl _) c1
    have h0 := below_at hbB (Nat.le_refl _) d0
    have h1 := below_at hbB (Nat.le_refl _) d1
    have h2 := below_at hbB (Nat.le_refl _) d2
    clear c0 c1 d0 d1 d2 hbB hcB hsB xl3 yl3 r1 r2 r3 r4
    have r1 : (0 : Int) ≤ (pc : Int) - (k : Int) := by have := HK.out; omega
    have r2 : (k : Int) ≤ (ps.length : Int) := by omega
    have r3 : (ps.length : Int) ≤ (pc : Int) := by omega
    go_wp2_with fail
    have hbelc : ∀ (u : Bel wB.heap.size wB) b o, b < wB.heap.size → u.wd.cell? ⟨b, o, none⟩ = wB.cell? ⟨b, o, none⟩ := fun u b o h => u.h.cell (p := ⟨b, o, none⟩) h
    have hbeln : Nonempty (Bel wB.heap.size wB) := ⟨⟨wB, Below.refl _ _⟩⟩
    refine wp_region_bel wB.heap.size (by kernel_rfl) (by kernel_rfl) ?_
    repeat (go_big_quiet_step ((go_at_call 15; exact quiet_bel (Nat.le_refl _) (HN2.out _ (b4.out.trans ((Bel.h _).mono b4.out.size))))))
    refine wpQuiet_nil ?_
    intro wB hB0; obtain ⟨uB, hu⟩ := hB0; have hbB0 := uB.h; rw [← hu] at hbB0; clear hu uB hbelc hbeln
    obtain ⟨hbB, hcB, hsB⟩ := bcell2 hbB0; clear hbB0
    have bw5 := Lib.hid (bw4.out.trans (hbB.mono bw4.out.size))
    clear hbB hcB hsB g0 g1 h0 h1 h2 r1 r2 r3 xl4 yl4
    obtain ⟨m1, m2⟩ := HMX.out
    by_cases he : e0 = 0
    · obtain ⟨rfl, rfl, hs, k1, k2, k3, k4, k5, k6⟩ := m2 he
      subst he
      clear m1 m2 HMX
      have s1 : IntKind.i64.wrap (v1 + v2) = v1 + v2 := IntWalk.i64_in _ (by omega)
      have s2 : IntKind.i64.wrap (v0 + 1) = v0 + 1 := IntWalk.i64_in _ (by omega)
      clear k1 k2 k3 k4 k5 k6
      rcases hs with hs | hs
      · have f3 : (v1 + v2 == v0) = true := by simp [hs]
        have HS := Lib.hid hs; clear hs
        go_wp2_with fail
        refine (HAW.out _).mono ?_
        rintro e w6 ⟨rfl, b6⟩
        have b7 := bw5.out.trans (b6.mono bw5.out.size)
        clear b6
        have B7 := Lib.hid b7; clear b7
        go_wp2
        go_ret
        exact ⟨rfl, B7.out⟩
      · have f3 : (v1 + v2 == v0) = false := by rw [beq_eq_false_iff_ne]; omega
        have f4 : (v1 + v2 == v0 + 1) = true := by simp [hs]
        have HS := Lib.hid hs; clear hs
        go_wp2_with fail
        refine (HAW.out _).mono ?_
        rintro e w6 ⟨rfl, b6⟩
        have b7 := bw5.out.trans (b6.mono bw5.out.size)
        clear b6
        have B7 := Lib.hid b7; clear b7
        go_wp2
        go_ret
        exact ⟨rfl, B7.out⟩
    · have f3 : (e0 != 0) = true := by simp [he]
      have hv := m1 he
      clear m1 m2 HMX
      subst hv
      have HE := Lib.hid he; clear he
      go_wp2_with fail
      refine (HAW.out _).mono ?_
      rintro e w6 ⟨rfl, b6⟩
      have b7 := bw5.out.trans (b6.mono bw5.out.size)
      clear b6
      have B7 := Lib.hid b7; clear b7
      go_wp2
      go_ret
      exact ⟨rfl, B7.out⟩
end Go.Proofs.Ytdimaapiloojeaa
