/- Texts of this claim, laid together: TnGeo, TnThr, TnHalt3, TnOpt, TnMv, TnG6, TnRPl, TnRLen, TnRLn2, TnLLe. -/
import Derived.Test.YtlmhgcllikcedaaMaA
import Derived.Test.YtlmhgcllikcedaaMaF
import Derived.Test.YtlmhgcllikcedaaMaG
import Derived.Test.YtlmhgcllikcedaaMaH
import Derived.Test.YtlmhgcllikcedaaMaI
import Derived.Test.YtlmhgcllikcedaaMaK
/- Lengths in a lattice, as sequences: triangles, and a thread that bends at pins. Plain. -/
namespace Go.Proofs.Ytlmhgcllikcedaa

/-- A lattice. -/
structure Lat where
  a : Rat
  b : Rat
  c : Rat
  ha : 0 < a
  hd : b * b < a * c
abbrev Pq := Rat × Rat
namespace Lat
variable (L : Lat)
def dt : Rat := L.a * L.c - L.b * L.b
theorem dt_pos : 0 < L.dt := by unfold dt; have := L.hd; grind
/-- The product of steps; what is across them. -/
def ip (v w : Pq) : Rat := v.1 * (L.a * w.1 + L.b * w.2) + v.2 * (L.b * w.1 + L.c * w.2)
end Lat
def cr (v w : Pq) : Rat := v.1 * w.2 - v.2 * w.1
def sub (p q : Pq) : Pq := (q.1 - p.1, q.2 - p.2)
theorem sq_nn (x : Rat) : 0 ≤ x * x := by
  rcases (by grind : 0 ≤ x ∨ 0 ≤ -x) with h | h
  · exact Rat.mul_nonneg h h
  · have := Rat.mul_nonneg h h
    grind
theorem sq_pos {x : Rat} (h : x ≠ 0) : 0 < x * x := by
  rcases (by grind : 0 < x ∨ 0 < -x) with h | h
  · exact Rat.mul_pos h h
  · have := Rat.mul_pos h h
    grind
namespace Lat
variable (L : Lat)
theorem a_sq (v : Pq) : L.a * L.ip v v = (L.a * v.1 + L.b * v.2) * (L.a * v.1 + L.b * v.2) + L.dt * (v.2 * v.2) := by
  unfold ip dt; grind
theorem lag (v w : Pq) : L.ip v v * L.ip w w - L.ip v w * L.ip v w = L.dt * (cr v w * cr v w) := by
  unfold ip dt cr; grind
theorem nn (v : Pq) : 0 ≤ L.ip v v := by
  have h := L.a_sq v
  have h1 := sq_nn (L.a * v.1 + L.b * v.2)
  have h2 := Rat.mul_nonneg (Rat.le_of_lt L.dt_pos) (sq_nn v.2)
  rcases (by grind : 0 ≤ L.ip v v ∨ 0 < -L.ip v v) with h3 | h3
  · exact h3
  · have := Rat.mul_pos L.ha h3
    grind
theorem pos {v : Pq} (hv : v.2 ≠ 0) : 0 < L.ip v v := by
  have h := L.a_sq v
  have h1 := sq_nn (L.a * v.1 + L.b * v.2)
  have h2 := Rat.mul_pos L.dt_pos (sq_pos hv)
  rcases (by grind : 0 < L.ip v v ∨ 0 ≤ -L.ip v v) with h3 | h3
  · exact h3
  · have := Rat.mul_nonneg (Rat.le_of_lt L.ha) h3
    grind
theorem zero {v : Pq} (h : L.ip v v = 0) : v = (0, 0) := by
  have h2 : v.2 = 0 := by
    rcases Classical.em (v.2 = 0) with h2 | h2
    · exact h2
    · have := L.pos h2
      grind
  have h1 := L.a_sq v
  rw [h, h2] at h1
  have h3 : L.a * v.1 * (L.a * v.1) = 0 := by grind
  have h4 : v.1 = 0 := by
    rcases Rat.mul_eq_zero.1 h3 with h | h <;> rcases Rat.mul_eq_zero.1 h with h | h
    · have := L.ha; grind
    · exact h
    · have := L.ha; grind
    · exact h
  obtain ⟨x, y⟩ := v
  simp at h2 h4
  rw [h2, h4]
/-- The length of a step. -/
def nrm (v : Pq) : Nat → Rat := rsq (L.ip v v)
theorem isR (v : Pq) : IsR (L.ip v v) (L.nrm v) := isR_rsq (L.nn v)
theorem nrm_zero {v : Pq} (h : L.ip v v = 0) (n : Nat) : L.nrm v n = 0 := (L.isR v).zero h n
/-- The product is at most that of the lengths. -/
theorem cs (v w : Pq) : LeS (fun _ => L.ip v w) fun n => L.nrm v n * L.nrm w n := by
  rcases (by grind : L.ip v w ≤ 0 ∨ 0 < L.ip v w) with h | h
  · exact .of_le fun n => by have := Rat.mul_nonneg ((L.isR v).nn n) ((L.isR w).nn n); grind
  · have hl := L.lag v w
    have h0 := Rat.mul_nonneg (Rat.le_of_lt L.dt_pos) (sq_nn (cr v w))
    have h1 := Rat.mul_pos h h
    have hv : 0 < L.ip v v := by
      rcases (by have := L.nn v; grind : 0 < L.ip v v ∨ L.ip v v = 0) with h3 | h3
      · exact h3
      · rw [h3] at hl; grind
    have hw : 0 < L.ip w w := by
      rcases (by have := L.nn w; grind : 0 < L.ip w w ∨ L.ip w w = 0) with h3 | h3
      · exact h3
      · rw [h3] at hl; grind
    obtain ⟨c, hc, h4⟩ := (L.isR v).pos hv
    obtain ⟨d, hd, h5⟩ := (L.isR w).pos hw
    refine LeS.root (Rat.mul_pos hc hd) (fun n => ?_) (fun n => Rat.le_of_lt h) ?_
    · have q1 := Rat.mul_nonneg (show 0 ≤ L.nrm v n - c by have := h4 n; grind) (show 0 ≤ L.nrm w n by exact (L.isR w).nn n)
      have q2 := Rat.mul_nonneg (show 0 ≤ L.nrm w n - d by have := h5 n; grind) (Rat.le_of_lt hc)
      grind
    · have hs : Nul fun n => (L.nrm v n * L.nrm w n) * (L.nrm v n * L.nrm w n) - L.ip v v * L.ip w w := by
        refine (((L.isR v).sq.mul ((L.isR w).bnd.mul (L.isR w).bnd)).add ((L.isR w).sq.mul (Bnd.const (L.ip v v)))).congr fun n => ?_
        grind
      exact (LeS.of_le (g := fun _ => L.ip v v * L.ip w w) fun n => by grind).trans (.of_nul' hs)
/-- And less by something, if they are across. -/
theorem cs_lt {v w : Pq} (hc : cr v w ≠ 0) : ∃ c : Rat, 0 < c ∧ LeS (fun _ => L.ip v w + c) fun n => L.nrm v n * L.nrm w n := by
  have hl := L.lag v w
  have h0 := Rat.mul_pos L.dt_pos (sq_pos hc)
  have hv : 0 < L.ip v v := by
    rcases (by have := L.nn v; grind : 0 < L.ip v v ∨ L.ip v v = 0) with h3 | h3
    · exact h3
    · have := sq_nn (L.ip v w); rw [h3] at hl; grind
  have hw : 0 < L.ip w w := by
    rcases (by have := L.nn w; grind : 0 < L.ip w w ∨ L.ip w w = 0) with h3 | h3
    · exact h3
    · have := sq_nn (L.ip v w); rw [h3] at hl; grind
  generalize hx : L.ip v w = x at *
  generalize he : L.dt * (cr v w * cr v w) = e at *
  -- a c with c at most 1, and c (2 |x| + 1) at most e
  obtain ⟨c, hc0, hc1⟩ : ∃ c : Rat, 0 < c ∧ (0 ≤ x + c → (x + c) * (x + c) ≤ x * x + e) := by
    have hy : 0 < x * x + x * x + 2 := by have := sq_nn x; grind
    have hm := Rat.mul_nonneg (show (0 : Rat) ≤ x * x + 1 by have := sq_nn x; grind) (show (0 : Rat) ≤ 1 by grind)
    have h2x : 2 * x + 1 ≤ x * x + x * x + 2 := by have := sq_nn (x - 1); have := sq_nn x; grind
    have hq : e / (x * x + x * x + 2) * (x * x + x * x + 2) = e := by rw [Rat.div_mul_cancel]; grind
    have hqp : 0 < e / (x * x + x * x + 2) := by rw [Rat.div_def]; exact Rat.mul_pos h0 (Rat.inv_pos.2 hy)
    generalize e / (x * x + x * x + 2) = q at *
    rcases (by grind : q ≤ 1 ∨ 1 < q) with h | h
    · refine ⟨q, hqp, fun _ => ?_⟩
      have q1 := Rat.mul_nonneg (Rat.le_of_lt hqp) (show 0 ≤ 1 - q by grind)
      have q2 := Rat.mul_nonneg (Rat.le_of_lt hqp) (show 0 ≤ x * x + x * x + 2 - (2 * x + 1) by grind)
      grind
    · refine ⟨1, by grind, fun _ => ?_⟩
      have q2 := Rat.mul_nonneg (show 0 ≤ q - 1 by grind) (Rat.le_of_lt hy)
      grind
  refine ⟨c, hc0, ?_⟩
  rcases (by grind : x + c ≤ 0 ∨ 0 ≤ x + c) with h | h
  · exact .of_le fun n => by have := Rat.mul_nonneg ((L.isR v).nn n) ((L.isR w).nn n); grind
  · obtain ⟨c', hc', h4⟩ := (L.isR v).pos hv
    obtain ⟨d, hd, h5⟩ := (L.isR w).pos hw
    refine LeS.root (Rat.mul_pos hc' hd) (fun n => ?_) (fun n => h) ?_
    · have q1 := Rat.mul_nonneg (show 0 ≤ L.nrm v n - c' by have := h4 n; grind) (show 0 ≤ L.nrm w n by exact (L.isR w).nn n)
      have q2 := Rat.mul_nonneg (show 0 ≤ L.nrm w n - d by have := h5 n; grind) (Rat.le_of_lt hc')
      grind
    · have hs : Nul fun n => (L.nrm v n * L.nrm w n) * (L.nrm v n * L.nrm w n) - L.ip v v * L.ip w w := by
        refine (((L.isR v).sq.mul ((L.isR w).bnd.mul (L.isR w).bnd)).add ((L.isR w).sq.mul (Bnd.const (L.ip v v)))).congr fun n => ?_
        grind
      have := hc1 h
      exact (LeS.of_le (g := fun _ => L.ip v v * L.ip w w) fun n => by grind).trans (.of_nul' hs)
/-- Lengths of steps: one behind the other. -/
theorem tri (v w : Pq) : LeS (L.nrm (v.1 + w.1, v.2 + w.2)) fun n => L.nrm v n + L.nrm w n := by
  have hs : L.ip (v.1 + w.1, v.2 + w.2) (v.1 + w.1, v.2 + w.2) = L.ip v v + 2 * L.ip v w + L.ip w w := by unfold ip; grind
  have key : ∀ u : Pq, 0 < L.ip u u → (u = v ∨ u = w) → LeS (L.nrm (v.1 + w.1, v.2 + w.2)) fun n => L.nrm v n + L.nrm w n := fun u hu huv => by
    obtain ⟨c, hc, h4⟩ := (L.isR u).pos hu
    refine LeS.root hc (fun n => ?_) (L.isR _).nn ?_
    · have g1 := (L.isR v).nn n
      have g2 := (L.isR w).nn n
      have g3 := h4 n
      rcases huv with h | h <;> rw [h] at g3 <;> grind
    · have h1 := L.isR (v.1 + w.1, v.2 + w.2)
      have h2 := LeS.of_nul (f := fun n => L.nrm (v.1 + w.1, v.2 + w.2) n * L.nrm (v.1 + w.1, v.2 + w.2) n) (g := fun _ => L.ip (v.1 + w.1, v.2 + w.2) (v.1 + w.1, v.2 + w.2)) h1.sq
      have h3 := LeS.of_nul' (L.isR v).sq
      have h5 := LeS.of_nul' (L.isR w).sq
      have h6 := L.cs v w
      exact h2.trans ((((h3.add h5).add (h6.add h6))).congr (fun n => by rw [hs]; grind) (fun n => by grind))
  rcases (by have := L.nn v; grind : 0 < L.ip v v ∨ L.ip v v = 0) with h | h
  · exact key v h (.inl rfl)
  · rcases (by have := L.nn w; grind : 0 < L.ip w w ∨ L.ip w w = 0) with h' | h'
    · exact key w h' (.inr rfl)
    · have hv := L.zero h
      have hw := L.zero h'
      subst hv; subst hw
      have h0 : L.ip ((0 : Rat) + 0, (0 : Rat) + 0) ((0 : Rat) + 0, (0 : Rat) + 0) = 0 := by unfold ip; grind
      exact .of_le fun n => by
        have h1 := L.nrm_zero h0 n
        have h2 := L.nrm_zero h n
        show L.nrm ((0 : Rat) + 0, (0 : Rat) + 0) n ≤ _
        rw [h1, h2]; grind
/-- The distance of points. -/
def dis (p q : Pq) : Nat → Rat := L.nrm (sub p q)
theorem dis_tri (p q r : Pq) : LeS (L.dis p r) fun n => L.dis p q n + L.dis q r n := by
  have h := L.tri (sub p q) (sub q r)
  have e : ((sub p q).1 + (sub q r).1, (sub p q).2 + (sub q r).2) = sub p r := by unfold sub; ext <;> grind
  rw [e] at h
  exact h
/-- How a step leans, for its length. -/
def lea (v : Pq) : Rat := L.a * v.1 + L.b * v.2
def bet (v : Pq) (n : Nat) : Rat := L.lea v * (L.nrm v n)⁻¹
theorem inv_bnd {v : Pq} (hv : v.2 ≠ 0) : (∀ n, L.nrm v n * (L.nrm v n)⁻¹ = 1 ∧ 0 ≤ (L.nrm v n)⁻¹) ∧ Bnd fun n => (L.nrm v n)⁻¹ := by
  obtain ⟨c, hc, h⟩ := (L.isR v).pos (L.pos hv)
  have h1 : ∀ n, L.nrm v n * (L.nrm v n)⁻¹ = 1 ∧ 0 < (L.nrm v n)⁻¹ := fun n => by
    have hp : 0 < L.nrm v n := by have := h n; grind
    exact ⟨Rat.mul_inv_cancel _ (by grind), Rat.inv_pos.2 hp⟩
  have hci : c * c⁻¹ = 1 ∧ 0 < c⁻¹ := ⟨Rat.mul_inv_cancel _ (by grind), Rat.inv_pos.2 hc⟩
  refine ⟨fun n => ⟨(h1 n).1, Rat.le_of_lt (h1 n).2⟩, c⁻¹, Rat.le_of_lt hci.2, fun n => ?_⟩
  obtain ⟨k1, k2⟩ := h1 n
  obtain ⟨k3, k4⟩ := hci
  have k5 := h n
  constructor
  · grind
  · -- 1/r at most 1/c, as c at most r
    have q := Rat.mul_nonneg (Rat.mul_nonneg (Rat.le_of_lt k2) (Rat.le_of_lt k4)) (show 0 ≤ L.nrm v n - c by grind)
    have e : (L.nrm v n)⁻¹ * c⁻¹ * (L.nrm v n - c) = (L.nrm v n * (L.nrm v n)⁻¹) * c⁻¹ - (c * c⁻¹) * (L.nrm v n)⁻¹ := by grind
    rw [e, k1, k3] at q
    grind
theorem bet_bnd {v : Pq} (hv : v.2 ≠ 0) : Bnd (L.bet v) := (Bnd.const (L.lea v)).mul (L.inv_bnd hv).2
/-- What is farther to the left leans less. -/
theorem bet_le {v w : Pq} (hv : 0 < v.2) (hw : 0 < w.2) (hc : 0 ≤ cr v w) : LeS (L.bet w) (L.bet v) := by
  -- lea w * |v| ≤ lea v * |w|
  have key : LeS (fun n => L.lea w * L.nrm v n) fun n => L.lea v * L.nrm w n := by
    have hk : L.lea v * w.2 - L.lea w * v.2 = L.a * cr v w := by unfold lea cr; grind
    have hk0 := Rat.mul_nonneg (Rat.le_of_lt L.ha) hc
    have hva := L.a_sq v
    have hwa := L.a_sq w
    have hvd : (L.a * v.1 + L.b * v.2) = L.lea v := rfl
    have hwd : (L.a * w.1 + L.b * w.2) = L.lea w := rfl
    rw [hvd] at hva
    rw [hwd] at hwa
    obtain ⟨cv, hcv, h4⟩ := (L.isR v).pos (L.pos (v := v) (by grind))
    obtain ⟨cw, hcw, h5⟩ := (L.isR w).pos (L.pos (v := w) (by grind))
    have sv := (L.isR v).sq
    have sw := (L.isR w).sq
    have hdt := L.dt_pos
    have ha := L.ha
    -- in squares
    have hsq : L.a * (L.lea v * L.lea v * L.ip w w - L.lea w * L.lea w * L.ip v v) = L.dt * ((L.lea v * w.2 - L.lea w * v.2) * (L.lea v * w.2 + L.lea w * v.2)) := by
      have e : L.a * (L.lea v * L.lea v * L.ip w w - L.lea w * L.lea w * L.ip v v) = L.lea v * L.lea v * (L.a * L.ip w w) - L.lea w * L.lea w * (L.a * L.ip v v) := by grind
      rw [e, hva, hwa]
      grind
    generalize L.lea v = x at *
    generalize L.lea w = y at *
    rcases (by grind : 0 ≤ y ∨ y < 0) with hy | hy
    · -- both from 0 on
      have hyv := Rat.mul_nonneg hy (Rat.le_of_lt hv)
      have hx : 0 ≤ x := by
        rcases (by grind : 0 ≤ x ∨ 0 < -x) with h | h
        · exact h
        · have := Rat.mul_pos h hw
          grind
      have hxw := Rat.mul_nonneg hx (Rat.le_of_lt hw)
      have hs : y * y * L.ip v v ≤ x * x * L.ip w w := by
        have h1 := Rat.mul_nonneg (Rat.le_of_lt hdt) (Rat.mul_nonneg (show 0 ≤ x * w.2 - y * v.2 by grind) (show 0 ≤ x * w.2 + y * v.2 by grind))
        rcases (by grind : y * y * L.ip v v ≤ x * x * L.ip w w ∨ 0 < y * y * L.ip v v - x * x * L.ip w w) with h | h
        · exact h
        · have := Rat.mul_pos ha h
          grind
      rcases (by grind : x = 0 ∨ 0 < x) with h0 | h0
      · have hy0 : y = 0 := by
          rcases (by grind : y = 0 ∨ 0 < y) with h | h
          · exact h
          · have := Rat.mul_pos h hv
            rw [h0] at hk; grind
        exact .of_le fun n => by rw [h0, hy0]; grind
      · refine LeS.root (Rat.mul_pos h0 hcw) (fun n => ?_) (fun n => Rat.mul_nonneg hy ((L.isR v).nn n)) ?_
        · have := Rat.mul_nonneg hx (show 0 ≤ L.nrm w n - cw by have := h5 n; grind)
          grind
        · refine (LeS.of_nul (g := fun _ => y * y * L.ip v v) ((sv.mul (Bnd.const (y * y))).congr fun n => by grind)).trans ((LeS.of_le fun n => hs).trans (LeS.of_nul' (f := fun n => x * L.nrm w n * (x * L.nrm w n)) ((sw.mul (Bnd.const (x * x))).congr fun n => by grind)))
    · rcases (by grind : 0 ≤ x ∨ x < 0) with hx | hx
      · exact .of_le fun n => by
          have := Rat.mul_nonneg hx ((L.isR w).nn n)
          have := Rat.mul_nonneg (show 0 ≤ -y by grind) ((L.isR v).nn n)
          grind
      · -- both below 0
        have hs : x * x * L.ip w w ≤ y * y * L.ip v v := by
          have hxw := Rat.mul_nonneg (show 0 ≤ -x by grind) (Rat.le_of_lt hw)
          have hyv := Rat.mul_nonneg (show 0 ≤ -y by grind) (Rat.le_of_lt hv)
          have h1 := Rat.mul_nonneg (Rat.le_of_lt hdt) (Rat.mul_nonneg (show 0 ≤ x * w.2 - y * v.2 by grind) (show 0 ≤ -(x * w.2 + y * v.2) by grind))
          rcases (by grind : x * x * L.ip w w ≤ y * y * L.ip v v ∨ 0 < x * x * L.ip w w - y * y * L.ip v v) with h | h
          · exact h
          · have := Rat.mul_pos ha h
            grind
        have h1 : LeS (fun n => -x * L.nrm w n) fun n => -y * L.nrm v n := by
          refine LeS.root (Rat.mul_pos (show 0 < -y by grind) hcv) (fun n => ?_) (fun n => Rat.mul_nonneg (by grind) ((L.isR w).nn n)) ?_
          · have := Rat.mul_nonneg (show 0 ≤ -y by grind) (show 0 ≤ L.nrm v n - cv by have := h4 n; grind)
            grind
          · refine (LeS.of_nul (g := fun _ => x * x * L.ip w w) ((sw.mul (Bnd.const (x * x))).congr fun n => by grind)).trans ((LeS.of_le fun n => hs).trans (LeS.of_nul' (f := fun n => -y * L.nrm v n * (-y * L.nrm v n)) ((sv.mul (Bnd.const (y * y))).congr fun n => by grind)))
        exact h1.neg.congr (fun n => by grind) fun n => by grind
  obtain ⟨v1, v2⟩ := L.inv_bnd (v := v) (by grind)
  obtain ⟨w1, w2⟩ := L.inv_bnd (v := w) (by grind)
  have h := key.mul (v2.mul w2) fun n => Rat.mul_nonneg (v1 n).2 (w1 n).2
  refine h.congr (fun n => ?_) fun n => ?_
  · have e : (L.nrm v n)⁻¹ * (L.nrm w n)⁻¹ * (L.lea w * L.nrm v n) = L.lea w * (L.nrm w n)⁻¹ * (L.nrm v n * (L.nrm v n)⁻¹) := by grind
    rw [e, (v1 n).1, Rat.mul_one]; rfl
  · have e : (L.nrm v n)⁻¹ * (L.nrm w n)⁻¹ * (L.lea v * L.nrm w n) = L.lea v * (L.nrm v n)⁻¹ * (L.nrm w n * (L.nrm w n)⁻¹) := by grind
    rw [e, (w1 n).1, Rat.mul_one]; rfl
/-- One piece whose ends are moved aside. -/
theorem seg (v : Pq) (hv : 0 < v.2) (t : Rat) : LeS (fun n => L.nrm v n + t * L.bet v n) (L.nrm (v.1 + t, v.2)) := by
  have h := L.cs v (v.1 + t, v.2)
  have e : L.ip v (v.1 + t, v.2) = L.ip v v + t * L.lea v := by unfold ip lea; grind
  rw [e] at h
  obtain ⟨v1, v2⟩ := L.inv_bnd (v := v) (by grind)
  have h2 := h.mul v2 fun n => (v1 n).2
  have h3 : LeS (fun n => L.nrm v n + t * L.bet v n) fun n => (L.nrm v n)⁻¹ * (L.ip v v + t * L.lea v) := by
    refine LeS.of_nul (((L.isR v).sq.mul v2).congr fun n => ?_)
    have e : L.nrm v n = (L.nrm v n)⁻¹ * (L.nrm v n * L.nrm v n) := by
      have : (L.nrm v n)⁻¹ * (L.nrm v n * L.nrm v n) = (L.nrm v n * (L.nrm v n)⁻¹) * L.nrm v n := by grind
      rw [this, (v1 n).1, Rat.one_mul]
    unfold bet
    grind
  refine h3.trans (h2.congr (fun n => rfl) fun n => ?_)
  have e : (L.nrm v n)⁻¹ * (L.nrm v n * L.nrm (v.1 + t, v.2) n) = (L.nrm v n * (L.nrm v n)⁻¹) * L.nrm (v.1 + t, v.2) n := by grind
  rw [e, (v1 n).1, Rat.one_mul]
/-- And moved aside by something, it is longer by something. -/
theorem seg_lt (v : Pq) (hv : 0 < v.2) {t : Rat} (ht : t ≠ 0) : ∃ c : Rat, 0 < c ∧ LeS (fun n => L.nrm v n + t * L.bet v n + c) (L.nrm (v.1 + t, v.2)) := by
  have hc : cr v (v.1 + t, v.2) ≠ 0 := by
    have e : cr v (v.1 + t, v.2) = -(t * v.2) := by unfold cr; grind
    rw [e]
    intro h
    rcases Rat.mul_eq_zero.1 (show t * v.2 = 0 by grind) with h | h
    · exact ht h
    · grind
  obtain ⟨c, hc0, h⟩ := L.cs_lt hc
  have e : L.ip v (v.1 + t, v.2) = L.ip v v + t * L.lea v := by unfold ip lea; grind
  rw [e] at h
  obtain ⟨v1, v2⟩ := L.inv_bnd (v := v) (by grind)
  obtain ⟨D, hD, hbd⟩ := (L.isR v).bnd
  have h2 := h.mul v2 fun n => (v1 n).2
  -- c / |v| is at least c / (D + 1)
  have hDi : (D + 1) * (D + 1)⁻¹ = 1 ∧ 0 < (D + 1)⁻¹ := ⟨Rat.mul_inv_cancel _ (by grind), Rat.inv_pos.2 (by grind)⟩
  refine ⟨c * (D + 1)⁻¹, Rat.mul_pos hc0 hDi.2, ?_⟩
  have hge : ∀ n, (D + 1)⁻¹ ≤ (L.nrm v n)⁻¹ := fun n => by
    obtain ⟨k1, k2⟩ := v1 n
    have k3 := hbd n
    have q := Rat.mul_nonneg (Rat.mul_nonneg k2 (Rat.le_of_lt hDi.2)) (show 0 ≤ D + 1 - L.nrm v n by grind)
    have e : (L.nrm v n)⁻¹ * (D + 1)⁻¹ * (D + 1 - L.nrm v n) = ((D + 1) * (D + 1)⁻¹) * (L.nrm v n)⁻¹ - (L.nrm v n * (L.nrm v n)⁻¹) * (D + 1)⁻¹ := by grind
    rw [e, k1, hDi.1] at q
    grind
  have h3 : LeS (fun n => L.nrm v n + t * L.bet v n + c * (D + 1)⁻¹) fun n => (L.nrm v n)⁻¹ * (L.ip v v + t * L.lea v + c) := by
    have h4 : LeS (fun n => L.nrm v n + t * L.bet v n) fun n => (L.nrm v n)⁻¹ * (L.ip v v + t * L.lea v) := by
      refine LeS.of_nul (((L.isR v).sq.mul v2).congr fun n => ?_)
      have e : L.nrm v n = (L.nrm v n)⁻¹ * (L.nrm v n * L.nrm v n) := by
        have : (L.nrm v n)⁻¹ * (L.nrm v n * L.nrm v n) = (L.nrm v n * (L.nrm v n)⁻¹) * L.nrm v n := by grind
        rw [this, (v1 n).1, Rat.one_mul]
      unfold bet
      grind
    have h5 : LeS (fun _ => c * (D + 1)⁻¹) fun n => c * (L.nrm v n)⁻¹ := .of_le fun n => by
      have := Rat.mul_nonneg (Rat.le_of_lt hc0) (show 0 ≤ (L.nrm v n)⁻¹ - (D + 1)⁻¹ by have := hge n; grind)
      grind
    exact (h4.add h5).congr (fun n => rfl) fun n => by grind
  refine h3.trans (h2.congr (fun n => rfl) fun n => ?_)
  have e : (L.nrm v n)⁻¹ * (L.nrm v n * L.nrm (v.1 + t, v.2) n) = (L.nrm v n * (L.nrm v n)⁻¹) * L.nrm (v.1 + t, v.2) n := by grind
  rw [e, (v1 n).1, Rat.one_mul]
end Lat
end Go.Proofs.Ytlmhgcllikcedaa
/- A thread that bends at pins is the shortest one. Plain. -/
namespace Go.Proofs.Ytlmhgcllikcedaa

/-- The length of a path. -/
def lenP (L : Lat) : Pq → List Pq → Nat → Rat
  | _, [], _ => 0
  | p, q :: l, n => L.dis p q n + lenP L q l n
def endP : Pq → List Pq → Pq
  | p, [] => p
  | _, q :: l => endP q l
/-- It goes down, row by row. -/
def Asc : Pq → List Pq → Prop
  | _, [] => True
  | p, q :: l => p.2 < q.2 ∧ Asc q l
/-- Where a line crosses a row; where a path does. -/
def crs (p q : Pq) (y : Rat) : Rat := p.1 + (q.1 - p.1) * ((y - p.2) * (q.2 - p.2)⁻¹)
def xAt : Pq → List Pq → Rat → Rat
  | p, [], _ => p.1
  | p, q :: l, y => if y ≤ q.2 then crs p q y else xAt q l y
theorem end_le : ∀ {l : List Pq} {p : Pq}, Asc p l → p.2 ≤ (endP p l).2
  | [], p, _ => by show p.2 ≤ p.2; grind
  | q :: l, p, h => by
    have := end_le h.2
    have := h.1
    show p.2 ≤ (endP q l).2
    grind
theorem end_lt {l : List Pq} {p q : Pq} (h : Asc p (q :: l)) : p.2 < (endP p (q :: l)).2 := by
  have := end_le h.2
  have := h.1
  show p.2 < (endP q l).2
  grind
theorem inv_of {x : Rat} (h : 0 < x) : x * x⁻¹ = 1 ∧ 0 < x⁻¹ := ⟨Rat.mul_inv_cancel _ (by grind), Rat.inv_pos.2 h⟩
theorem crs_end {p q : Pq} (h : p.2 < q.2) : crs p q q.2 = q.1 := by
  obtain ⟨h1, h2⟩ := inv_of (show 0 < q.2 - p.2 by grind)
  unfold crs
  rw [h1]
  grind
theorem crs_beg {p q : Pq} : crs p q p.2 = p.1 := by
  unfold crs
  rw [show p.2 - p.2 = 0 by grind, Rat.zero_mul, Rat.mul_zero, Rat.add_zero]
/-- A line from a point of it on. -/
theorem crs_crs {p q : Pq} {y y' : Rat} (h1 : p.2 < q.2) (h2 : y < q.2) : crs (crs p q y, y) q y' = crs p q y' := by
  obtain ⟨a1, a2⟩ := inv_of (show 0 < q.2 - p.2 by grind)
  obtain ⟨b1, b2⟩ := inv_of (show 0 < q.2 - y by grind)
  unfold crs
  simp only
  generalize (q.2 - p.2)⁻¹ = i at *
  generalize (q.2 - y)⁻¹ = j at *
  have e : q.1 - (p.1 + (q.1 - p.1) * ((y - p.2) * i)) = (q.1 - p.1) * ((q.2 - y) * i) := by
    have : (q.1 - p.1) * ((q.2 - p.2) * i) = q.1 - p.1 := by rw [a1, Rat.mul_one]
    grind
  rw [e]
  have e2 : (q.1 - p.1) * ((q.2 - y) * i) * ((y' - y) * j) = (q.1 - p.1) * (i * (y' - y)) * ((q.2 - y) * j) := by grind
  rw [e2, b1]
  grind
namespace Lat
variable (L : Lat)
theorem nrm_scale {c : Rat} (hc : 0 ≤ c) (v : Pq) : Nul fun n => L.nrm (c * v.1, c * v.2) n - c * L.nrm v n := by
  have e : L.ip (c * v.1, c * v.2) (c * v.1, c * v.2) = c * c * L.ip v v := by unfold ip; grind
  rcases (by grind : c = 0 ∨ 0 < c) with h | h
  · subst h
    refine Nul.zero.congr fun n => ?_
    rw [L.nrm_zero (by rw [e]; grind) n]; grind
  · have h1 := (L.isR v).scale h
    have h2 := L.isR (c * v.1, c * v.2)
    rw [e] at h2
    exact h2.near h1 (Rat.mul_nonneg (Rat.mul_nonneg hc hc) (L.nn v))
/-- The pieces of a line. -/
theorem dis_mid {p q : Pq} {y : Rat} (h1 : p.2 ≤ y) (h2 : y ≤ q.2) (h : p.2 < q.2) : Nul fun n => L.dis p (crs p q y, y) n + L.dis (crs p q y, y) q n - L.dis p q n := by
  obtain ⟨a1, a2⟩ := inv_of (show 0 < q.2 - p.2 by grind)
  have e1 : sub p (crs p q y, y) = ((y - p.2) * (q.2 - p.2)⁻¹ * (sub p q).1, (y - p.2) * (q.2 - p.2)⁻¹ * (sub p q).2) := by
    unfold sub crs
    generalize (q.2 - p.2)⁻¹ = i at *
    ext
    · simp only; grind
    · simp only; grind
  have e2 : sub (crs p q y, y) q = ((q.2 - y) * (q.2 - p.2)⁻¹ * (sub p q).1, (q.2 - y) * (q.2 - p.2)⁻¹ * (sub p q).2) := by
    unfold sub crs
    generalize (q.2 - p.2)⁻¹ = i at *
    have : (q.1 - p.1) * ((q.2 - p.2) * i) = q.1 - p.1 := by rw [a1, Rat.mul_one]
    ext
    · simp only; grind
    · simp only; grind
  have s1 := L.nrm_scale (c := (y - p.2) * (q.2 - p.2)⁻¹) (Rat.mul_nonneg (by grind) (Rat.le_of_lt a2)) (sub p q)
  have s2 := L.nrm_scale (c := (q.2 - y) * (q.2 - p.2)⁻¹) (Rat.mul_nonneg (by grind) (Rat.le_of_lt a2)) (sub p q)
  rw [← e1] at s1
  rw [← e2] at s2
  refine (s1.add s2).congr fun n => ?_
  unfold dis
  generalize (q.2 - p.2)⁻¹ = i at *
  have e3 : (y - p.2) * i * L.nrm (sub p q) n + (q.2 - y) * i * L.nrm (sub p q) n = (q.2 - p.2) * i * L.nrm (sub p q) n := by grind
  have e4 : (q.2 - p.2) * i * L.nrm (sub p q) n = L.nrm (sub p q) n := by rw [a1, Rat.one_mul]
  grind
/-- A path is no shorter than the line from its beginning to its end. -/
theorem chord : ∀ (l : List Pq) (p : Pq), LeS (L.dis p (endP p l)) (lenP L p l)
  | [], p => .of_le fun n => by
    have h : L.ip (sub p p) (sub p p) = 0 := by unfold ip sub; grind
    show L.nrm (sub p p) n ≤ 0
    rw [L.nrm_zero h n]; grind
  | q :: l, p => by
    have h1 := L.dis_tri p q (endP q l)
    have h2 := chord l q
    exact h1.trans ((LeS.refl (L.dis p q)).add h2)
/-- A path cut at a row. -/
theorem cut : ∀ (m : List Pq) (P : Pq) (y : Rat), Asc P m → P.2 < y → y < (endP P m).2 → ∃ m', Asc (xAt P m y, y) m' ∧ endP (xAt P m y, y) m' = endP P m ∧ LeS (fun n => L.dis P (xAt P m y, y) n + lenP L (xAt P m y, y) m' n) (lenP L P m) ∧ ∀ y', y < y' → xAt (xAt P m y, y) m' y' = xAt P m y'
  | [], P, y, _, h1, h2 => by simp only [endP] at h2; grind
  | q :: l, P, y, ha, h1, h2 => by
    rcases (by grind : y < q.2 ∨ y = q.2 ∨ q.2 < y) with h | h | h
    · have hx : xAt P (q :: l) y = crs P q y := by rw [xAt, if_pos (by grind)]
      rw [hx]
      refine ⟨q :: l, ⟨h, ha.2⟩, rfl, ?_, fun y' hy' => ?_⟩
      · have hm := LeS.of_nul (f := fun n => L.dis P (crs P q y, y) n + L.dis (crs P q y, y) q n) (L.dis_mid (p := P) (q := q) (y := y) (by grind) (by grind) ha.1)
        exact (hm.add (LeS.refl (lenP L q l))).congr (fun n => by show _ + (_ + _) = _; grind) fun n => rfl
      · rw [xAt, xAt, crs_crs ha.1 h]
    · have hx : xAt P (q :: l) y = q.1 := by rw [xAt, if_pos (by grind), h, crs_end ha.1]
      rw [hx, show (q.1, y) = q by rw [h]]
      exact ⟨l, ha.2, rfl, LeS.refl _, fun y' hy' => by rw [xAt, if_neg (by grind)]⟩
    · have hx : xAt P (q :: l) y = xAt q l y := by rw [xAt, if_neg (by grind)]
      obtain ⟨m', a1, a2, a3, a4⟩ := cut l q y ha.2 h h2
      rw [hx]
      refine ⟨m', a1, a2, ?_, fun y' hy' => by rw [a4 y' hy', xAt, if_neg (by grind)]⟩
      have h3 := (L.dis_tri P q (xAt q l y, y)).add (LeS.refl (lenP L (xAt q l y, y) m'))
      exact h3.trans (((LeS.refl (L.dis P q)).add a3).congr (fun n => by grind) fun n => rfl)
end Lat
/-- At each bend a path lies on the side of the pin. -/
def Pin (f : Rat → Rat) : Pq → List Pq → Prop
  | _, [] => True
  | _, [_] => True
  | p, r :: s :: l => (0 < cr (sub p r) (sub r s) → r.1 ≤ f r.2) ∧ (cr (sub p r) (sub r s) < 0 → f r.2 ≤ r.1) ∧ Pin f r (s :: l)
theorem Pin.congr {f g : Rat → Rat} : ∀ {l : List Pq} {p : Pq}, Asc p l → (∀ y, p.2 < y → f y = g y) → Pin f p l → Pin g p l
  | [], _, _, _, _ => trivial
  | [_], _, _, _, _ => trivial
  | r :: s :: l, p, ha, h, hp => ⟨fun hc => by rw [← h r.2 ha.1]; exact hp.1 hc, fun hc => by rw [← h r.2 ha.1]; exact hp.2.1 hc, Pin.congr ha.2 (fun y hy => h y (by have := ha.1; grind)) hp.2.2⟩
/-- Some inner point does not lie on the path. -/
def Off (f : Rat → Rat) : Pq → List Pq → Prop
  | _, [] => False
  | _, [_] => False
  | _, r :: s :: l => f r.2 ≠ r.1 ∨ Off f r (s :: l)
theorem Off.congr {f g : Rat → Rat} : ∀ {l : List Pq} {p : Pq}, Asc p l → (∀ y, p.2 < y → f y = g y) → Off f p l → Off g p l
  | [], _, _, _, h => h
  | [_], _, _, _, h => h
  | r :: s :: l, p, ha, h, hp => by
    rcases hp with hp | hp
    · exact .inl (by rw [← h r.2 ha.1]; exact hp)
    · exact .inr (Off.congr ha.2 (fun y hy => h y (by have := ha.1; grind)) hp)
namespace Lat
variable (L : Lat)
theorem bend {p r s : Pq} {t : Rat} (h1 : p.2 < r.2) (h2 : r.2 < s.2) (a : 0 < cr (sub p r) (sub r s) → 0 ≤ t) (b : cr (sub p r) (sub r s) < 0 → t ≤ 0) : LeS (fun n => t * L.bet (sub r s) n) fun n => t * L.bet (sub p r) n := by
  have hv : 0 < (sub p r).2 := by unfold sub; simp only; grind
  have hw : 0 < (sub r s).2 := by unfold sub; simp only; grind
  have hsym : cr (sub r s) (sub p r) = -cr (sub p r) (sub r s) := by unfold cr; grind
  rcases (by grind : 0 < cr (sub p r) (sub r s) ∨ cr (sub p r) (sub r s) < 0 ∨ cr (sub p r) (sub r s) = 0) with h | h | h
  · exact (L.bet_le hv hw (by grind)).mul (Bnd.const t) fun _ => a h
  · have := (L.bet_le hw hv (by grind)).mul (Bnd.const (-t)) fun _ => (by have := b h; grind)
    exact this.neg.congr (fun n => by grind) fun n => by grind
  · rcases (by grind : 0 ≤ t ∨ 0 ≤ -t) with ht | ht
    · exact (L.bet_le hv hw (by grind)).mul (Bnd.const t) fun _ => ht
    · have := (L.bet_le hw hv (by grind)).mul (Bnd.const (-t)) fun _ => ht
      exact this.neg.congr (fun n => by grind) fun n => by grind
/-- THE THREAD IS THE SHORTEST PATH. -/
theorem opt : ∀ (l : List Pq) (p r : Pq) (t : Rat) (m : List Pq), Asc p (r :: l) → Asc (p.1 + t, p.2) m → endP r l = endP (p.1 + t, p.2) m → Pin (xAt (p.1 + t, p.2) m) p (r :: l) → LeS (fun n => lenP L p (r :: l) n - t * L.bet (sub p r) n) (lenP L (p.1 + t, p.2) m)
  | [], p, r, t, m, hl, _, he, _ => by
    have h1 := L.chord m (p.1 + t, p.2)
    rw [← he] at h1
    have h2 := L.seg (sub p r) (by unfold sub; have := hl.1; simp only; grind) (-t)
    have e : ((sub p r).1 + -t, (sub p r).2) = sub (p.1 + t, p.2) r := by unfold sub; ext <;> simp only <;> grind
    rw [e] at h2
    refine (h2.congr (fun n => ?_) fun n => rfl).trans h1
    show L.dis p r n + 0 - _ = _
    unfold dis
    grind
  | s :: l, p, r, t, m, hl, hm, he, hp => by
    have hr : r.2 < (endP (p.1 + t, p.2) m).2 := by rw [← he]; exact end_lt hl.2
    obtain ⟨m', a1, a2, a3, a4⟩ := L.cut m (p.1 + t, p.2) r.2 hm hl.1 hr
    generalize hX : xAt (p.1 + t, p.2) m r.2 = X at *
    obtain ⟨u, hu⟩ : ∃ u, X = r.1 + u := ⟨X - r.1, by grind⟩
    rw [hu] at a1 a2 a3 a4
    obtain ⟨p1, p2, p3⟩ := hp
    rw [hX, hu] at p1 p2
    have ih := opt l r s u m' hl.2 a1 (by rw [a2]; exact he) (p3.congr hl.2 fun y hy => (a4 y hy).symm)
    have h2 := L.seg (sub p r) (by unfold sub; have := hl.1; simp only; grind) (u - t)
    have e : ((sub p r).1 + (u - t), (sub p r).2) = sub (p.1 + t, p.2) (r.1 + u, r.2) := by unfold sub; ext <;> simp only <;> grind
    rw [e] at h2
    have h3 := L.bend (t := u) hl.1 hl.2.1 (fun h => by have := p1 h; grind) (fun h => by have := p2 h; grind)
    have h4 := (h2.add ih).add h3
    have h5 := a3.add (LeS.refl fun n => u * L.bet (sub p r) n)
    have h6 := (h4.trans h5).add (LeS.refl fun n => -(u * L.bet (sub p r) n))
    refine h6.congr (fun n => ?_) fun n => by grind
    show L.dis p r n + lenP L r (s :: l) n - _ = _
    unfold dis
    grind
/-- AND ONE THAT IS NOT THE SAME IS LONGER BY SOMETHING. -/
theorem opt_lt : ∀ (l : List Pq) (p r : Pq) (m : List Pq), Asc p (r :: l) → Asc p m → endP r l = endP p m → Pin (xAt p m) p (r :: l) → Off (xAt p m) p (r :: l) → ∃ c : Rat, 0 < c ∧ LeS (fun n => lenP L p (r :: l) n + c) (lenP L p m)
  | [], p, r, m, _, _, _, _, ho => absurd ho (by simp [Off])
  | s :: l, p, r, m, hl, hm, he, hp, ho => by
    have hr : r.2 < (endP p m).2 := by rw [← he]; exact end_lt hl.2
    obtain ⟨m', a1, a2, a3, a4⟩ := L.cut m p r.2 hm hl.1 hr
    generalize hX : xAt p m r.2 = X at *
    obtain ⟨u, hu⟩ : ∃ u, X = r.1 + u := ⟨X - r.1, by grind⟩
    rw [hu] at a1 a2 a3 a4
    obtain ⟨p1, p2, p3⟩ := hp
    rw [hX, hu] at p1 p2
    have hp3 := p3.congr hl.2 fun y hy => (a4 y hy).symm
    rcases Classical.em (u = 0) with hu0 | hu0
    · -- on the path: the rest is longer
      have hrr : (r.1 + u, r.2) = r := by rw [hu0, Rat.add_zero]
      rw [hrr] at a1 a2 a3 a4 hp3
      have ho' : Off (xAt p m) r (s :: l) := by
        rcases ho with h | h
        · exact absurd (by rw [hX, hu, hu0]; grind) h
        · exact h
      obtain ⟨c, hc, h⟩ := opt_lt l r s m' hl.2 a1 (by rw [a2]; exact he) hp3 (ho'.congr hl.2 fun y hy => (a4 y hy).symm)
      refine ⟨c, hc, ?_⟩
      exact (((LeS.refl (L.dis p r)).add h).trans a3).congr (fun n => by show L.dis p r n + lenP L r (s :: l) n + c = _; grind) fun n => rfl
    · have ih := L.opt l r s u m' hl.2 a1 (by rw [a2]; exact he) hp3
      obtain ⟨c, hc, h2⟩ := L.seg_lt (sub p r) (by unfold sub; have := hl.1; simp only; grind) hu0
      have e : ((sub p r).1 + u, (sub p r).2) = sub p (r.1 + u, r.2) := by unfold sub; ext <;> simp only <;> grind
      rw [e] at h2
      have h3 := L.bend (t := u) hl.1 hl.2.1 (fun h => by have := p1 h; grind) (fun h => by have := p2 h; grind)
      have h4 := (h2.add ih).add h3
      have h5 := a3.add (LeS.refl fun n => u * L.bet (sub p r) n)
      have h6 := (h4.trans h5).add (LeS.refl fun n => -(u * L.bet (sub p r) n))
      refine ⟨c, hc, h6.congr (fun n => ?_) fun n => by grind⟩
      show L.dis p r n + lenP L r (s :: l) n + c = _
      unfold dis
      grind
end Lat
end Go.Proofs.Ytlmhgcllikcedaa
/- A sharper bound for the search of Cmp: lengths of paths of at most 22 points. Plain. -/
namespace Go.Proofs.Ytlmhgcllikcedaa
open Go.RowKit

theorem rtq_le2 (s n : Nat) : rtq s n ≤ ((Nat.sqrt s + 1 : Nat) : Rat) := by
  have h := rtq_t s n
  have h1 := nat_nn n
  have hN : Nat.sqrt (s * ((n + 1) * (n + 1))) ≤ (Nat.sqrt s + 1) * (n + 1) := by
    rw [← Nat.mul_self_le_mul_self_iff]
    refine Nat.le_trans (Nat.sqrt_le _) ?_
    have h2 := Nat.lt_succ_sqrt s
    rw [Nat.succ_eq_add_one] at h2
    have h3 := Nat.mul_le_mul_right ((n + 1) * (n + 1)) (Nat.le_of_lt h2)
    calc s * ((n + 1) * (n + 1)) ≤ (Nat.sqrt s + 1) * (Nat.sqrt s + 1) * ((n + 1) * (n + 1)) := h3
      _ = (Nat.sqrt s + 1) * (n + 1) * ((Nat.sqrt s + 1) * (n + 1)) := by ac_rfl
  have h2 : ((Nat.sqrt (s * ((n + 1) * (n + 1))) : Nat) : Rat) ≤ ((Nat.sqrt s + 1 : Nat) : Rat) * ((n : Rat) + 1) := by
    have e : (((Nat.sqrt s + 1) * (n + 1) : Nat) : Rat) = ((Nat.sqrt s + 1 : Nat) : Rat) * ((n : Rat) + 1) := by exact_mod_cast rfl
    rw [← e]
    exact_mod_cast hN
  generalize ((Nat.sqrt s + 1 : Nat) : Rat) = B at *
  rcases (by grind : rtq s n ≤ B ∨ 0 < rtq s n - B) with h0 | h0
  · exact h0
  · have := Rat.mul_nonneg (Rat.le_of_lt h0) h1
    grind
/-- A bound of a sum's absolute value. -/
def bdG : List (Int × Nat) → Nat
  | [] => 0
  | x :: l => x.1.natAbs * (Nat.sqrt x.2 + 1) + bdG l
theorem vfm_le2 : ∀ (l : List (Int × Nat)) (e : List Bool) (n : Nat), e.length = l.length → -((bdG l : Nat) : Rat) ≤ vfm 0 l e n ∧ vfm 0 l e n ≤ ((bdG l : Nat) : Rat)
  | [], e, n, _ => by
    have h : vfm 0 [] e n = ((0 : Int) : Rat) := by cases e <;> rfl
    rw [h]
    show -((0 : Nat) : Rat) ≤ ((0 : Int) : Rat) ∧ ((0 : Int) : Rat) ≤ ((0 : Nat) : Rat)
    decide
  | x :: l, [], n, h => by cases h
  | x :: l, b :: e, n, h => by
    obtain ⟨i1, i2⟩ := vfm_le2 l e n (by simpa using h)
    obtain ⟨k1, k2⟩ := abs_le x.1
    have r1 := rtq_nn x.2 n
    have r2 := rtq_le2 x.2 n
    have hn := nat_nn (Nat.sqrt x.2 + 1)
    obtain ⟨p1, p2⟩ := prod_le k1 k2 (show -((Nat.sqrt x.2 + 1 : Nat) : Rat) ≤ rtq x.2 n by grind) r2
    have hc : ((bdG (x :: l) : Nat) : Rat) = ((x.1.natAbs : Nat) : Rat) * ((Nat.sqrt x.2 + 1 : Nat) : Rat) + ((bdG l : Nat) : Rat) := by
      rw [bdG]
      exact_mod_cast rfl
    rw [hc]
    show -(_ + _) ≤ vfm 0 l e n + sg b * ((x.1 : Rat) * rtq x.2 n) ∧ vfm 0 l e n + sg b * ((x.1 : Rat) * rtq x.2 n) ≤ _
    cases b
    · rw [show sg false = -1 from rfl]; constructor <;> grind
    · rw [show sg true = 1 from rfl]; constructor <;> grind
theorem roots_far2 {l : List (Int × Nat)} (hs : ∀ x ∈ l, SqF x.2) (hd : Dif l) (hx : ∃ x ∈ l, 1 < x.2 ∧ x.1 ≠ 0) {d : Rat} (h0 : 0 ≤ d) (h : ∀ N, ∃ n, N ≤ n ∧ -d ≤ valR l n ∧ valR l n ≤ d) : 1 ≤ 2 * (d * (((bdG l) ^ eX l.length : Nat) : Rat)) := by
  have hl : (l.map Prod.snd).length = l.length := List.length_map ..
  have := fam_far (vfm_fam 0 l) (fun e he => vfm_apt hs hd hx e (he.trans hl)) (B := bdG l) (fun e n he => vfm_le2 l e n (he.trans hl)) h0 fun N => by
    obtain ⟨n, h1, h2⟩ := h N
    refine ⟨n, h1, ?_⟩
    have e := vfm_true 0 l n
    have z : ((0 : Int) : Rat) + valR l n = valR l n := by rw [show ((0 : Int) : Rat) = 0 from rfl, Rat.zero_add]
    rw [hl, e, z]
    exact h2
  rwa [hl] at this
/-- The bound, of a sum in its own form. -/
def bdH : List (Int × Int) → Nat
  | [] => 0
  | x :: l => x.1.natAbs * (Nat.sqrt x.2.toNat + 1) + bdH l
theorem bdH_toL : ∀ xs : List (Int × Int), bdG (toL 1 xs) = bdH xs
  | [] => rfl
  | x :: l => by
    show (x.1 * ((1 : Nat) : Int)).natAbs * (Nat.sqrt x.2.toNat + 1) + bdG (toL 1 l) = _
    rw [bdH_toL l, show x.1 * ((1 : Nat) : Int) = x.1 by omega]
    rfl
theorem abs_bdH : ∀ xs : List (Int × Int), absS xs ≤ bdH xs
  | [] => Nat.le_refl _
  | x :: l => by
    have ih := abs_bdH l
    have : x.1.natAbs ≤ x.1.natAbs * (Nat.sqrt x.2.toNat + 1) := Nat.le_mul_of_pos_right _ (by omega)
    show x.1.natAbs + absS l ≤ x.1.natAbs * (Nat.sqrt x.2.toNat + 1) + bdH l
    omega
/-- The upper bound less the lower one. -/
theorem up_lo (q : Nat) : ∀ xs : List (Int × Int), upI 1 q xs - loI 1 q xs ≤ (absS xs : Int)
  | [] => by simp [upI, loI, hiS, loS, absS]
  | x :: l => by
    have ih := up_lo q l
    have hm := (mo_lo x.2.toNat q).2.1
    have h1 := Nat.mul_le_mul_left x.1.natAbs hm
    rw [Nat.mul_add, Nat.mul_one] at h1
    have ea : absS (x :: l) = x.1.natAbs + absS l := rfl
    unfold upI loI at ih ⊢
    rw [hiS, loS, hiS, loS, ea]
    rcases sd_two x with ⟨_, h⟩ | ⟨_, h⟩ <;> rw [h] <;> simp <;> omega
theorem no_mid2 {q : Nat} {xs : List (Int × Int)} (hn : Nm xs) (hx : ∃ x ∈ xs, 1 < x.2) (hq : 2 * (bdH xs) ^ 2 ^ xs.length < 2 ^ q) : ¬ (loI 1 q xs ≤ 0 ∧ 0 ≤ upI 1 q xs) := by
  rintro ⟨h1, h2⟩
  have hp := hn.ps
  have hq0 := Nat.two_pow_pos q
  have hW := up_lo q xs
  have hab := abs_bdH xs
  obtain ⟨x, hx, hx1⟩ := hx
  have hxl : ∃ y ∈ toL 1 xs, 1 < y.2 ∧ y.1 ≠ 0 := ⟨_, List.mem_map.2 ⟨x, hx, rfl⟩, by simp only; omega, by
    simp only
    intro h
    have := hn.2 x hx
    omega⟩
  have hqr : ((2 ^ q : Nat) : Rat) ≠ 0 := natR_pos hq0
  have hqp : (0 : Rat) < ((2 ^ q : Nat) : Rat) := by
    have : ((0 : Nat) : Rat) < ((2 ^ q : Nat) : Rat) := by exact_mod_cast hq0
    exact this
  generalize hS : absS xs = S at *
  have hd : (S : Rat) / ((2 ^ q : Nat) : Rat) * ((2 ^ q : Nat) : Rat) = (S : Rat) := by rw [Rat.div_mul_cancel]; exact hqr
  have hS0 := nat_nn S
  generalize hdd : (S : Rat) / ((2 ^ q : Nat) : Rat) = d at *
  have hd0 : 0 ≤ d := by
    rcases (by grind : 0 ≤ d ∨ 0 < -d) with h | h
    · exact h
    · have := Rat.mul_pos h hqp
      grind
  have key := roots_far2 (l := toL 1 xs) (fun y hy => by
    obtain ⟨z, hz, rfl⟩ := List.mem_map.1 hy
    exact (norm_all xs 0 hn.1 z hz).1) (norm_dif 1 xs 0 (Int.le_refl _) hn.1) hxl hd0 fun N => by
    obtain ⟨Q, D, hQ, hD, hN⟩ : ∃ Q D : Nat, 2 ^ Q = 2 ^ q * D ∧ 0 < D ∧ N ≤ 2 ^ Q - 1 := by
      refine ⟨q + N, 2 ^ N, Nat.pow_add .., Nat.two_pow_pos _, ?_⟩
      have a1 : N < 2 ^ N := Nat.lt_two_pow_self
      have a2 : 2 ^ N ≤ 2 ^ (q + N) := Nat.pow_le_pow_right (by decide) (by omega)
      omega
    refine ⟨2 ^ Q - 1, hN, ?_⟩
    obtain ⟨u1, u2, u3, u4⟩ := bd_up 1 hp hQ hD
    have hv := val_two 1 Q xs
    have hX : (((loS 1 Q 0 xs : Nat) : Int) : Rat) - (((loS 1 Q 1 xs : Nat) : Int) : Rat) = (((loS 1 Q 0 xs : Int) - (loS 1 Q 1 xs : Int) : Int) : Rat) := by rw [Rat.intCast_sub]
    rw [hX] at hv
    generalize (loS 1 Q 0 xs : Int) - (loS 1 Q 1 xs : Int) = X at *
    have w1 := Int.mul_le_mul_of_nonneg_right h1 (show (0 : Int) ≤ (D : Int) by omega)
    have w2 := Int.mul_le_mul_of_nonneg_right h2 (show (0 : Int) ≤ (D : Int) by omega)
    have w3 := Int.mul_le_mul_of_nonneg_right hW (show (0 : Int) ≤ (D : Int) by omega)
    rw [Int.sub_mul] at w3
    have y1 : X ≤ (S : Int) * (D : Int) := by omega
    have y2 : -((S : Int) * (D : Int)) ≤ X := by omega
    have z1 : ((X : Int) : Rat) ≤ (((S : Int) * (D : Int) : Int) : Rat) := Rat.intCast_le_intCast.2 y1
    have z2 : ((-((S : Int) * (D : Int)) : Int) : Rat) ≤ ((X : Int) : Rat) := Rat.intCast_le_intCast.2 y2
    rw [Rat.intCast_mul] at z1
    rw [Rat.intCast_neg, Rat.intCast_mul] at z2
    have c2 : ((D : Int) : Rat) = (D : Rat) := rfl
    have c3 : ((S : Int) : Rat) = (S : Rat) := rfl
    rw [c2, c3] at z1 z2
    have hQr : ((2 ^ Q : Nat) : Rat) = ((2 ^ q : Nat) : Rat) * (D : Rat) := by rw [hQ]; exact_mod_cast rfl
    rw [hQr] at hv
    have hDp : (0 : Rat) < (D : Rat) := by
      have : ((0 : Nat) : Rat) < (D : Rat) := by exact_mod_cast hD
      exact this
    have hPp := Rat.mul_pos hqp hDp
    rw [← hv, ← hd] at z1 z2
    clear u1 u2 u3 u4 w1 w2 w3 y1 y2 hX hdd hv hQr
    generalize valR (toL 1 xs) (2 ^ Q - 1) = v at *
    generalize ((2 ^ q : Nat) : Rat) = P at *
    generalize (D : Rat) = D' at *
    have hle : ∀ z : Rat, z * (P * D') ≤ 0 → z ≤ 0 := fun z hz => by
      rcases (by grind : z ≤ 0 ∨ 0 < z) with h | h
      · exact h
      · have := Rat.mul_pos h hPp
        grind
    have j1 := hle (v - d) (by grind)
    have j2 := hle (-v - d) (by grind)
    constructor <;> grind
  have hlen : (toL 1 xs).length = xs.length := List.length_map ..
  rw [hlen, bdH_toL] at key
  have hfin : 2 ^ q ≤ 2 * (bdH xs) ^ 2 ^ xs.length := by
    have h5 : ((2 ^ q : Nat) : Rat) ≤ 2 * ((S : Rat) * (((bdH xs) ^ eX xs.length : Nat) : Rat)) := by
      generalize (((bdH xs) ^ eX xs.length : Nat) : Rat) = E at *
      generalize ((2 ^ q : Nat) : Rat) = P at *
      have := Rat.mul_nonneg (show (0 : Rat) ≤ 2 * (d * E) - 1 by grind) (show (0 : Rat) ≤ P by grind)
      rw [← hd]
      grind
    have h6 : 2 * ((S : Rat) * (((bdH xs) ^ eX xs.length : Nat) : Rat)) = ((2 * (S * (bdH xs) ^ eX xs.length) : Nat) : Rat) := by
      have : ((2 * (S * (bdH xs) ^ eX xs.length) : Nat) : Rat) = ((2 : Nat) : Rat) * ((S : Rat) * (((bdH xs) ^ eX xs.length : Nat) : Rat)) := by exact_mod_cast rfl
      rw [this, show ((2 : Nat) : Rat) = 2 from rfl]
    rw [h6] at h5
    have h7 : 2 ^ q ≤ 2 * (S * (bdH xs) ^ eX xs.length) := by exact_mod_cast h5
    have h8 : S * (bdH xs) ^ eX xs.length ≤ bdH xs * (bdH xs) ^ eX xs.length := Nat.mul_le_mul_right _ hab
    have h9 : bdH xs * (bdH xs) ^ eX xs.length = (bdH xs) ^ 2 ^ xs.length := by rw [← eX_pow xs.length, Nat.pow_succ, Nat.mul_comm]
    omega
  omega
theorem cmp_big2 {q : Nat} {xs : List (Int × Int)} (hn : Nm xs) (hq : 2 * (bdH xs) ^ 2 ^ xs.length < 2 ^ q) : cmpQ xs q := by
  unfold cmpQ
  by_cases hi : intB xs = true
  · obtain ⟨k1, k2⟩ := int_val 1 hn.ps (int_all.1 hi) q
    omega
  · have hi : intB xs = false := by simpa using hi
    have := no_mid2 hn (int_no hi) hq
    omega
theorem bdH_map (bz : Int) (hbz : bz = 1 ∨ bz = -1) : ∀ ys : List (Int × Int), bdH (ys.map fun y => (bz * y.1, y.2)) = bdH ys
  | [] => rfl
  | y :: l => by
    have ih := bdH_map bz hbz l
    show (bz * y.1).natAbs * (Nat.sqrt y.2.toNat + 1) + bdH (l.map fun y => (bz * y.1, y.2)) = _
    rw [ih, show (bz * y.1).natAbs = y.1.natAbs by rcases hbz with h | h <;> subst h <;> omega]
    rfl
theorem bdH_mg (bz : Int) (hbz : bz = 1 ∨ bz = -1) : ∀ xs ys : List (Int × Int), bdH (mg bz xs ys) ≤ bdH xs + bdH ys
  | [], ys => by rw [mg_nil, bdH_map bz hbz]; exact Nat.le_add_left ..
  | x :: xs, [] => by rw [mg_nil2]; exact Nat.le_add_right ..
  | x :: xs, y :: ys => by
    have ex : bdH (x :: xs) = x.1.natAbs * (Nat.sqrt x.2.toNat + 1) + bdH xs := rfl
    have ey : bdH (y :: ys) = y.1.natAbs * (Nat.sqrt y.2.toNat + 1) + bdH ys := rfl
    have hab : (bz * y.1).natAbs = y.1.natAbs := by rcases hbz with h | h <;> subst h <;> omega
    rw [mg_cons]
    split
    · have := bdH_mg bz hbz xs (y :: ys)
      show x.1.natAbs * (Nat.sqrt x.2.toNat + 1) + bdH (mg bz xs (y :: ys)) ≤ _
      omega
    · rename_i h1
      split
      · have := bdH_mg bz hbz (x :: xs) ys
        show (bz * y.1).natAbs * (Nat.sqrt y.2.toNat + 1) + bdH (mg bz (x :: xs) ys) ≤ _
        rw [hab]
        omega
      · rename_i h2
        have h3 : x.2 = y.2 := by omega
        have ih := bdH_mg bz hbz xs ys
        split
        · omega
        · show (x.1 + bz * y.1).natAbs * (Nat.sqrt x.2.toNat + 1) + bdH (mg bz xs ys) ≤ _
          have h4 : (x.1 + bz * y.1).natAbs ≤ x.1.natAbs + y.1.natAbs := by rcases hbz with h | h <;> subst h <;> omega
          have h5 := Nat.mul_le_mul_right (Nat.sqrt x.2.toNat + 1) h4
          rw [Nat.add_mul] at h5
          rw [ex, ey, ← h3]
          omega
termination_by xs ys => xs.length + ys.length
theorem sqrt_mul_le {K S : Nat} (h : K * K * S ≤ 1000000000000) (hK : K ≤ 1000000) : K * (Nat.sqrt S + 1) ≤ 2000000 := by
  have h1 := Nat.sqrt_le S
  have h2 : K * Nat.sqrt S ≤ 1000000 := by
    rw [← Nat.mul_self_le_mul_self_iff]
    calc K * Nat.sqrt S * (K * Nat.sqrt S) = K * K * (Nat.sqrt S * Nat.sqrt S) := by ac_rfl
      _ ≤ K * K * S := Nat.mul_le_mul_left _ h1
      _ ≤ 1000000 * 1000000 := h
  rw [Nat.mul_add, Nat.mul_one]
  omega
theorem bdH_lenF : ∀ (l : List Int) (o : List (Int × Int)), (∀ n ∈ l, n ≤ 1000000000000) → bdH (lenF l o) ≤ bdH o + l.length * 2000000
  | [], o, _ => by simp [lenF]
  | n :: l, o, hn => by
    have hn1 := hn n (List.mem_cons_self ..)
    have ih := bdH_lenF l (stepL o n (nrt n)) fun m hm => hn m (List.mem_cons_of_mem _ hm)
    rw [lenF]
    have hs : bdH (stepL o n (nrt n)) ≤ bdH o + 2000000 := by
      unfold stepL
      split
      · rename_i h0
        obtain ⟨K, S, hr⟩ := isRt_ex n.toNat (by omega)
        obtain ⟨⟨r1, r2⟩, r3, r4⟩ := nrt_rng h0 hn1 hr
        have h1 := bdH_mg 1 (.inl rfl) o [nrt n]
        rw [nrt_is h0 hr] at h1 ⊢
        have h2 : bdH [((K : Int), (S : Int))] = K * (Nat.sqrt S + 1) := by simp [bdH]
        have h3 := sqrt_mul_le (K := K) (S := S) (by have := hr.1; omega) (by omega)
        omega
      · omega
    rw [List.length_cons]
    omega
/-- Lengths of paths: few roots, of moderate size. -/
theorem lenR_few {a b c : Int} {ps : List (Int × Int)} (h : (lenR a b c ps).2 = 0) (h0 : 0 < ps.length) : (lenR a b c ps).1.length ≤ ps.length - 1 ∧ bdH (lenR a b c ps).1 ≤ ps.length * 2000000 := by
  obtain ⟨_, _, _, h4, _, h6⟩ := lenR_ok h
  obtain ⟨l, e1, e2⟩ := sqs_drop (a := a) (b := b) (c := c) (ps := ps) (k := 0) h0
  rw [List.drop_zero, Nat.sub_zero] at e1
  have hb := bdH_lenF _ [] h4
  rw [sqsK_length] at hb
  have hll : l.length = ps.length - 1 := by
    have := congrArg List.length e1
    rw [sqsK_length, List.length_cons] at this
    omega
  rw [h6]
  simp only
  refine ⟨?_, by simpa [bdH] using hb⟩
  rw [e1, lenF]
  have hst : stepL [] 0 (nrt 0) = [] := by unfold stepL; rw [if_neg (by decide)]
  rw [hst]
  have := (smF_lenF (fun _ => 0) l [] 0 (fun n hn => h4 n (by rw [e1]; exact List.mem_cons_of_mem _ hn)) LenS.zero).1.ln
  omega
theorem pow_gen {E : Nat} (hE : 1 ≤ E) : 2 * (2 ^ 27) ^ E < 2 ^ (32 * E) := by
  rw [← Nat.pow_mul]
  have h : 2 ^ (27 * E + 1) < 2 ^ (32 * E) := Nat.pow_lt_pow_right (by decide) (by omega)
  rw [Nat.pow_succ] at h
  omega
theorem pow_big {B n N : Nat} (hB : B < 2 ^ 27) (hn : n ≤ N) : 2 * B ^ 2 ^ n < 2 ^ (32 * 2 ^ N) := by
  have h1 : 2 ^ n ≤ 2 ^ N := Nat.pow_le_pow_right (by decide) hn
  have hE := Nat.two_pow_pos N
  generalize 2 ^ N = E at *
  generalize 2 ^ n = e at *
  have h2 : B ^ e ≤ (2 ^ 27) ^ e := Nat.pow_le_pow_left (Nat.le_of_lt hB) e
  have h3 : (2 ^ 27) ^ e ≤ (2 ^ 27) ^ E := Nat.pow_le_pow_right (by decide) h1
  exact Nat.lt_of_le_of_lt (Nat.mul_le_mul_left 2 (Nat.le_trans h2 h3)) (pow_gen hE)
/-- The comparison of two lengths ends. -/
theorem len_stops {a b c a' b' c' : Int} {ps qs : List (Int × Int)} (h : (lenR a b c ps).2 = 0) (h' : (lenR a' b' c' qs).2 = 0) (h0 : 0 < ps.length) (h0' : 0 < qs.length) (hl : ps.length ≤ 22) (hl' : qs.length ≤ 22) :
    bothE (lenR a b c ps).1 (lenR a' b' c' qs).1 = 0 → cmpQ (mg (-1) (lenR a b c ps).1 (lenR a' b' c' qs).1) (32 * 2 ^ 42) := fun he => by
  obtain ⟨_, _, h1, _, h3, _⟩ := diff_nm he
  obtain ⟨l1, b1⟩ := lenR_few h h0
  obtain ⟨l2, b2⟩ := lenR_few h' h0'
  have hb := bdH_mg (-1) (.inr rfl) (lenR a b c ps).1 (lenR a' b' c' qs).1
  exact cmp_big2 h1 (pow_big (N := 42) (by omega) (by omega))
end Go.Proofs.Ytlmhgcllikcedaa
/- The taut thread is the shortest one: plain. -/
namespace Go.Proofs.Ytlmhgcllikcedaa
open Go.RowKit

def qp (p : Int × Int) : Pq := ((p.1 : Rat), (p.2 : Rat))
theorem crs_line (o b : Int × Int) (y : Rat) : crs (qp o) (qp b) y = (o.1 : Rat) + slo o b * (y - (o.2 : Rat)) := by
  unfold crs slo qp
  rw [Rat.intCast_sub, Rat.intCast_sub]
  simp only
  generalize ((b.2 : Rat) - (o.2 : Rat))⁻¹ = i
  grind
theorem ylt {a b : Int} (h : a < b) : (a : Rat) < (b : Rat) := by exact_mod_cast h
theorem slo_at {o p : Int × Int} (h : o.2 < p.2) (s : Rat) : (slo o p ≤ s → (p.1 : Rat) ≤ (o.1 : Rat) + s * ((p.2 : Rat) - (o.2 : Rat))) ∧ (s ≤ slo o p → (o.1 : Rat) + s * ((p.2 : Rat) - (o.2 : Rat)) ≤ (p.1 : Rat)) := by
  have h1 := slo_mul h
  rw [Rat.intCast_sub, Rat.intCast_sub] at h1
  have h2 := ylt h
  constructor
  · intro hs
    have := Rat.mul_nonneg (show (0 : Rat) ≤ s - slo o p by grind) (show (0 : Rat) ≤ (p.2 : Rat) - (o.2 : Rat) by grind)
    grind
  · intro hs
    have := Rat.mul_nonneg (show (0 : Rat) ≤ slo o p - s by grind) (show (0 : Rat) ≤ (p.2 : Rat) - (o.2 : Rat) by grind)
    grind
/-- How a thread bends, by slopes. -/
theorem cr_slo {o b s : Int × Int} (h1 : o.2 < b.2) (h2 : b.2 < s.2) : (0 < cr (sub (qp o) (qp b)) (sub (qp b) (qp s)) → slo b s < slo o b) ∧ (cr (sub (qp o) (qp b)) (sub (qp b) (qp s)) < 0 → slo o b < slo b s) ∧ (cr (sub (qp o) (qp b)) (sub (qp b) (qp s)) = 0 → slo o b = slo b s) := by
  have e1 := slo_mul h1
  have e2 := slo_mul h2
  rw [Rat.intCast_sub, Rat.intCast_sub] at e1 e2
  have y1 := ylt h1
  have y2 := ylt h2
  have e : cr (sub (qp o) (qp b)) (sub (qp b) (qp s)) = (slo o b - slo b s) * (((b.2 : Rat) - o.2) * ((s.2 : Rat) - b.2)) := by
    unfold cr sub qp
    simp only
    rw [← e1, ← e2]
    grind
  have hm := Rat.mul_pos (show (0 : Rat) < (b.2 : Rat) - o.2 by grind) (show (0 : Rat) < (s.2 : Rat) - b.2 by grind)
  rw [e]
  generalize ((b.2 : Rat) - o.2) * ((s.2 : Rat) - b.2) = m at *
  generalize slo o b = x at *
  generalize slo b s = z at *
  refine ⟨fun h => ?_, fun h => ?_, fun h => ?_⟩
  · rcases (by grind : z < x ∨ 0 ≤ z - x) with h3 | h3
    · exact h3
    · have := Rat.mul_nonneg h3 (Rat.le_of_lt hm); grind
  · rcases (by grind : x < z ∨ 0 ≤ x - z) with h3 | h3
    · exact h3
    · have := Rat.mul_nonneg h3 (Rat.le_of_lt hm); grind
  · rcases Rat.mul_eq_zero.1 h with h3 | h3 <;> grind
/-- Where a path lies in a row that is a gate's. -/
def InG (gs : List Gt) (f : Rat → Rat) (k : Nat) : Prop := ((gL gs k).1 : Rat) ≤ f (((gs.getD k (0, 0, 0)).1 : Int) : Rat) ∧ f (((gs.getD k (0, 0, 0)).1 : Int) : Rat) ≤ ((gR gs k).1 : Rat)
section
variable {all : List Gt}
theorem tautR_cons {f next : Nat} {o : Int × Int} (hf : all.length - next ≤ f) (hn : next < all.length) : ∃ f', tautR all f o next = (pullF o all next).1 :: tautR all f' (pullF o all next).1 ((pullF o all next).2 + 1) ∧ f' + 1 = f := by
  cases f with
  | zero => omega
  | succ f => exact ⟨f, by rw [tautR, if_pos hn], rfl⟩
/-- What is true of the thread from o on. -/
structure Tht (all : List Gt) (o : Int × Int) (next : Nat) (l : List (Int × Int)) : Prop where
  asc : Asc (qp o) (l.map qp)
  en : next < all.length → endP (qp o) (l.map qp) = qp (gL all (all.length - 1))
  emp : next = all.length → l = []
  thr : ∀ k, next ≤ k → k < all.length → InG all (xAt (qp o) (l.map qp)) k
  pin : ∀ f, (∀ k, next ≤ k → k < all.length → InG all f k) → Pin f (qp o) (l.map qp)
  str : ∀ s l', l = s :: l' → o.2 < s.2 ∧ s = (pullF o all next).1
  ln : l.length ≤ all.length - next
theorem tht_of (hend : gL all (all.length - 1) = gR all (all.length - 1)) : ∀ (f : Nat) (o : Int × Int) (next : Nat), all.length - next ≤ f → next ≤ all.length → GtsOk o all next → Tht all o next (tautR all f o next)
  | f, o, next, hf, hn, hok => by
    rcases (by omega : next = all.length ∨ next < all.length) with rfl | hlt
    · rw [tautR_done]
      exact ⟨trivial, fun h => by omega, fun _ => rfl, fun k h1 h2 => by omega, fun _ _ => trivial, fun s l' h => (by cases h), by simp⟩
    · obtain ⟨f', e, hf'⟩ := tautR_cons (o := o) hf hlt
      obtain ⟨a1, a2, a3, a4, _⟩ := pull_next hok hend hlt
      have hs := pull_spec hok hend hlt
      have htL := fun {a : Nat} (hP : PullL o all next a) => turnL hok hend hP
      have htR := fun {a : Nat} (hP : PullR o all next a) => turnR hok hend hP
      have ih := tht_of hend f' (pullF o all next).1 ((pullF o all next).2 + 1) (by omega) (by omega) a3
      rw [e]
      obtain ⟨r, hr⟩ : ∃ r, r = pullF o all next := ⟨_, rfl⟩
      rw [← hr] at a1 a2 a3 a4 hs ih ⊢
      obtain ⟨l, hl⟩ : ∃ l, l = tautR all f' r.1 (r.2 + 1) := ⟨_, rfl⟩
      rw [← hl] at ih ⊢
      -- the row of the bend
      have hrow : r.1.2 = (all.getD r.2 (0, 0, 0)).1 := by
        rcases hs with ⟨e, _⟩ | ⟨e, _⟩ | ⟨e, _⟩ <;> rw [e] <;> first | exact (gL_y _ _).1 | exact (gL_y _ _).2
      have hseg : ∀ k, next ≤ k → k ≤ r.2 → slo o (gL all k) ≤ slo o r.1 ∧ slo o r.1 ≤ slo o (gR all k) := fun k k1 k2 => by
        rcases hs with ⟨e, _, i, q1, q2, q3, q4, q5⟩ | ⟨e, _, i, q1, q2, q3, q4, q5⟩ | ⟨e, q4⟩
        · rw [e]; exact q4 k k1 (by omega)
        · rw [e]; exact q4 k k1 (by omega)
        · rw [e] at k2 ⊢; exact q4 k k1 (by omega)
      refine ⟨⟨ylt a4, ih.asc⟩, fun _ => ?_, fun h => by omega, fun k k1 k2 => ?_, fun f hf => ?_, fun s l' h => ?_, ?_⟩
      · show endP (qp r.1) (l.map qp) = _
        rcases (by omega : r.2 + 1 < all.length ∨ r.2 + 1 = all.length) with h | h
        · exact ih.en h
        · rw [ih.emp h]
          show qp r.1 = _
          have h2 : r.2 = all.length - 1 := by omega
          rcases hs with ⟨e, _⟩ | ⟨e, _⟩ | ⟨e, _⟩
          · rw [e, h2]
          · rw [e, h2, hend]
          · rw [e]
      · unfold InG
        show _ ≤ xAt (qp o) (qp r.1 :: l.map qp) _ ∧ xAt (qp o) (qp r.1 :: l.map qp) _ ≤ _
        rw [xAt]
        have hyk := hok.low k1 k2
        by_cases hk : k ≤ r.2
        · have hle : (all.getD k (0, 0, 0)).1 ≤ r.1.2 := by
            rw [hrow]
            rcases (by omega : k = r.2 ∨ k < r.2) with rfl | h
            · exact Int.le_refl _
            · exact Int.le_of_lt (asc_lt hok.asc _ h a2)
          rw [if_pos (show (((all.getD k (0, 0, 0)).1 : Int) : Rat) ≤ (qp r.1).2 by show _ ≤ ((r.1.2 : Int) : Rat); exact_mod_cast hle), crs_line]
          obtain ⟨s1, s2⟩ := hseg k k1 hk
          exact ⟨(slo_at (o := o) (p := gL all k) hyk _).1 s1, (slo_at (o := o) (p := gR all k) hyk _).2 s2⟩
        · have hgt : r.1.2 < (all.getD k (0, 0, 0)).1 := by
            rw [hrow]; exact asc_lt hok.asc _ (by omega) k2
          rw [if_neg (by have := ylt hgt; show ¬ _ ≤ ((r.1.2 : Int) : Rat); grind)]
          exact ih.thr k (by omega) k2
      · show Pin f (qp o) (qp r.1 :: l.map qp)
        cases l with
        | nil => trivial
        | cons s l' =>
          obtain ⟨h1, h2⟩ := ih.str s l' rfl
          obtain ⟨c1, c2, _⟩ := cr_slo a4 h1
          have hin := hf r.2 a1 a2
          unfold InG at hin
          have hlt2 : r.2 + 1 < all.length := by
            rcases (by omega : r.2 + 1 < all.length ∨ r.2 + 1 = all.length) with h | h
            · exact h
            · have := ih.emp h; cases this
          refine ⟨fun hc => ?_, fun hc => ?_, ih.pin f fun k k1 k2 => hf k (by omega) k2⟩
          · have hd := c1 hc
            rw [h2] at hd
            rcases hs with ⟨e, hP⟩ | ⟨e, hP⟩ | ⟨e, _⟩
            · show ((r.1.1 : Int) : Rat) ≤ f ((r.1.2 : Int) : Rat)
              rw [hrow, e]; exact hin.1
            · have := htR hP
              rw [← e] at this
              grind
            · rw [e] at hlt2; simp only at hlt2; omega
          · have hd := c2 hc
            rw [h2] at hd
            rcases hs with ⟨e, hP⟩ | ⟨e, hP⟩ | ⟨e, _⟩
            · have := htL hP
              rw [← e] at this
              grind
            · show f ((r.1.2 : Int) : Rat) ≤ ((r.1.1 : Int) : Rat)
              rw [hrow, e]; exact hin.2
            · rw [e] at hlt2; simp only at hlt2; omega
      · injection h with h _
        exact ⟨by rw [← h]; exact a4, by rw [← h, hr]⟩
      · have := ih.ln
        simp only [List.length_cons]
        omega
  termination_by f => f
end
theorem getD_app_left {α : Type} {l m : List α} {k : Nat} (h : k < l.length) (d : α) : (l ++ m).getD k d = l.getD k d := by
  simp [List.getD_eq_getElem?_getD, List.getElem?_append_left h]
/-- The way of a thread: what is true of it. -/
theorem way_tht {o p : Int × Int} {gs : List Gt} (h : gErr o gs p = 0) : ∃ l, tautV o gs p = (o :: l, 0) ∧ Tht (gs ++ [gTo p]) o 0 l ∧ l ≠ [] ∧ l.length ≤ gs.length + 1 := by
  obtain ⟨_, _, hok⟩ := gErr_ok h
  have hlen : (gs ++ [gTo p]).length = gs.length + 1 := by simp
  have ht := tht_of (gTo_end gs p) (gs.length + 1) o 0 (by omega) (Nat.zero_le _) hok
  refine ⟨_, by unfold tautV; rw [if_pos h], ht, ?_, by have := ht.ln; omega⟩
  obtain ⟨f', e, _⟩ := tautR_cons (o := o) (next := 0) (f := gs.length + 1) (all := gs ++ [gTo p]) (by omega) (by omega)
  rw [e]
  simp
/-- IT IS THE SHORTEST PATH THROUGH THE GATES. -/
theorem way_opt (L : Lat) {o p : Int × Int} {gs : List Gt} {l : List (Int × Int)} (ht : Tht (gs ++ [gTo p]) o 0 l) (hl : l ≠ []) (m : List Pq) (hm : Asc (qp o) m) (he : endP (qp o) m = qp p) (hg : ∀ k, k < gs.length → InG gs (xAt (qp o) m) k) (hy : xAt (qp o) m (p.2 : Rat) = (p.1 : Rat)) :
    LeS (lenP L (qp o) (l.map qp)) (lenP L (qp o) m) ∧ (Off (xAt (qp o) m) (qp o) (l.map qp) → ∃ c : Rat, 0 < c ∧ LeS (fun n => lenP L (qp o) (l.map qp) n + c) (lenP L (qp o) m)) := by
  have hlen : (gs ++ [gTo p]).length = gs.length + 1 := by simp
  have hlast : (gs ++ [gTo p]).getD gs.length (0, 0, 0) = gTo p := by simp [List.getD_eq_getElem?_getD]
  have hen : endP (qp o) (l.map qp) = qp p := by
    rw [ht.en (by omega), hlen, Nat.add_sub_cancel]
    unfold gL
    rw [hlast]
    rfl
  have hin : ∀ k, 0 ≤ k → k < (gs ++ [gTo p]).length → InG (gs ++ [gTo p]) (xAt (qp o) m) k := fun k _ hk => by
    rcases (by omega : k < gs.length ∨ k = gs.length) with h1 | h1
    · have := hg k h1
      unfold InG gL gR at this ⊢
      rw [getD_app_left h1]
      exact this
    · unfold InG gL gR
      rw [h1, hlast]
      show ((p.1 : Int) : Rat) ≤ xAt (qp o) m ((p.2 : Int) : Rat) ∧ xAt (qp o) m ((p.2 : Int) : Rat) ≤ ((p.1 : Int) : Rat)
      rw [hy]
      constructor <;> grind
  have hpin := ht.pin _ hin
  have hasc := ht.asc
  cases l with
  | nil => exact absurd rfl hl
  | cons r l =>
    have e0 : ((qp o).1 + 0, (qp o).2) = qp o := by rw [Rat.add_zero]
    constructor
    · have := L.opt (l.map qp) (qp o) (qp r) 0 m hasc (by rw [e0]; exact hm) (by rw [e0, he]; exact hen) (by rw [e0]; exact hpin)
      rw [e0] at this
      exact this.congr (fun n => by show _ = lenP L (qp o) (qp r :: l.map qp) n - 0 * _; rw [Rat.zero_mul]; grind) fun n => rfl
    · intro hoff
      exact L.opt_lt (l.map qp) (qp o) (qp r) m hasc hm (by rw [he]; exact hen) hpin hoff
end Go.Proofs.Ytlmhgcllikcedaa
/- Lengths, by their values: plain. -/
namespace Go.Proofs.Ytlmhgcllikcedaa
open Go.RowKit

/-- The lattice, in rationals. -/
def latQ (a b c : Int) (h : latB a b c = false) : Lat where
  a := (a : Rat)
  b := (b : Rat)
  c := (c : Rat)
  ha := by
    have := (lat_rng h).1.1
    have h2 : (0 : Int) < a := by omega
    exact_mod_cast h2
  hd := by
    have := (lat_rng h).2.2.2
    rw [← Rat.intCast_mul, ← Rat.intCast_mul]
    exact_mod_cast this
theorem ip_sq {a b c : Int} (h : latB a b c = false) (p q : Int × Int) : (latQ a b c h).ip (sub (qp p) (qp q)) (sub (qp p) (qp q)) = ((sqN a b c p q : Int) : Rat) := by
  unfold Lat.ip latQ sub qp sqN prodG stp
  simp only [Rat.intCast_add, Rat.intCast_mul, Rat.intCast_sub]
theorem sq_nonneg {a b c : Int} (h : latB a b c = false) (p q : Int × Int) : 0 ≤ sqN a b c p q := by
  have h1 := (latQ a b c h).nn (sub (qp p) (qp q))
  rw [ip_sq] at h1
  exact_mod_cast h1
/-- One step's root is its length. -/
noncomputable def stR (n : Int) (m : Nat) : Rat := if 0 < n then ((nrt n).1 : Rat) * rtq (nrt n).2.toNat m else 0
theorem st_dis {a b c : Int} (h : latB a b c = false) (p q : Int × Int) : Nul fun m => stR (sqN a b c p q) m - (latQ a b c h).dis (qp p) (qp q) m := by
  have hR := (latQ a b c h).isR (sub (qp p) (qp q))
  rw [ip_sq] at hR
  have h0 := sq_nonneg h p q
  unfold Lat.dis
  generalize sqN a b c p q = n at *
  unfold stR
  by_cases hn : 0 < n
  · obtain ⟨K, S, hr⟩ := isRt_ex n.toNat (by omega)
    have e := nrt_is hn hr
    have hK : 0 < K := by
      rcases Nat.eq_zero_or_pos K with h | h
      · have := hr.1
        rw [h] at this
        simp at this
        omega
      · exact h
    have hKr : (0 : Rat) < (K : Rat) := by exact_mod_cast hK
    have hs := (isR_rtq S).scale hKr
    have hv : (K : Rat) * (K : Rat) * (S : Rat) = ((n : Int) : Rat) := by
      have h1 : ((K * K * S : Nat) : Int) = n := by have := hr.1; omega
      rw [← h1]
      exact_mod_cast rfl
    rw [hv] at hs
    have hnn : (0 : Rat) ≤ ((n : Int) : Rat) := by exact_mod_cast h0
    refine (hs.near hR hnn).congr fun m => ?_
    rw [if_pos hn, e]
    rfl
  · have hz : ((n : Int) : Rat) = 0 := by
      have : n = 0 := by omega
      rw [this]; rfl
    refine Nul.zero.congr fun m => ?_
    rw [if_neg hn, hR.zero hz m]
    grind
/-- The squares along a path. -/
def sqsL (a b c : Int) : Int × Int → List (Int × Int) → List Int
  | _, [] => []
  | p, q :: l => sqN a b c p q :: sqsL a b c q l
theorem sqs_is (a b c : Int) : ∀ (l : List (Int × Int)) (p : Int × Int), sqsL a b c p l = (List.range l.length).map fun i => sqN a b c ((p :: l).getD i (0, 0)) ((p :: l).getD (i + 1) (0, 0))
  | [], _ => rfl
  | q :: l, p => by
    rw [sqsL, sqs_is a b c l q, List.length_cons, List.range_succ_eq_map, List.map_cons, List.map_map]
    rfl
theorem sqsK_cons (a b c : Int) (p : Int × Int) (l : List (Int × Int)) : sqsK a b c (p :: l) (p :: l).length = 0 :: sqsL a b c p l := by
  unfold sqsK
  rw [sqs_is, List.length_cons, List.range_succ_eq_map, List.map_cons, List.map_map]
  congr 1
  exact sqN_same a b c p
noncomputable def stS : List Int → Nat → Rat
  | [], _ => 0
  | n :: l, m => stR n m + stS l m
theorem vl_lenF (m : Nat) : ∀ (l : List Int) (o : List (Int × Int)), vl (lenF l o) m = vl o m + stS l m
  | [], o => by show vl o m = vl o m + 0; rw [Rat.add_zero]
  | n :: l, o => by
    rw [lenF, vl_lenF m l]
    show _ = vl o m + (stR n m + stS l m)
    have h : vl (stepL o n (nrt n)) m = vl o m + stR n m := by
      unfold stepL stR
      split
      · rw [vl_sum]
        show _ + ((((nrt n).1 : Int) : Rat) * rtq (nrt n).2.toNat m + 0) = _
        grind
      · rw [Rat.add_zero]
    rw [h]
    grind
theorem sqs_dis {a b c : Int} (h : latB a b c = false) : ∀ (l : List (Int × Int)) (p : Int × Int), Nul fun m => stS (sqsL a b c p l) m - lenP (latQ a b c h) (qp p) (l.map qp) m
  | [], p => Nul.zero.congr fun m => by show (0 : Rat) - 0 = 0; grind
  | q :: l, p => ((st_dis h p q).add (sqs_dis h l q)).congr fun m => by
    show stR (sqN a b c p q) m + stS (sqsL a b c q l) m - ((latQ a b c h).dis (qp p) (qp q) m + lenP (latQ a b c h) (qp q) (l.map qp) m) = _
    grind
/-- THE LENGTH's VALUE. -/
theorem len_vl {a b c : Int} (hl : latB a b c = false) {p : Int × Int} {l : List (Int × Int)} (h : (lenR a b c (p :: l)).2 = 0) : Nul fun m => vl (lenR a b c (p :: l)).1 m - lenP (latQ a b c hl) (qp p) (l.map qp) m := by
  obtain ⟨_, _, _, _, _, h6⟩ := lenR_ok h
  rw [h6, sqsK_cons]
  refine (sqs_dis hl l p).congr fun m => ?_
  simp only
  rw [vl_lenF]
  show (0 : Rat) + (stR 0 m + stS (sqsL a b c p l) m) - _ = _
  have : stR 0 m = 0 := by unfold stR; rw [if_neg (by decide)]
  rw [this]
  grind
theorem len_nm {a b c : Int} {ps : List (Int × Int)} (h : (lenR a b c ps).2 = 0) (hl : ps.length ≤ 64) : Nm (lenR a b c ps).1 ∧ chkE (lenR a b c ps).1 = 0 := by
  obtain ⟨h1, _, _, h4⟩ := lenR_sum h 1 0
  obtain ⟨_, _, _, _, h5, h6⟩ := lenR_ok h
  refine ⟨h1, h4.chk (by omega) ?_⟩
  rw [h6]
  exact h5
/-- Lengths compare as their sums do. -/
theorem cmp_len {a b c : Int} (hl : latB a b c = false) {p q : Int × Int} {l m : List (Int × Int)} (h : (lenR a b c (p :: l)).2 = 0) (h' : (lenR a b c (q :: m)).2 = 0) (hn : (p :: l).length ≤ 64) (hn' : (q :: m).length ≤ 64) (hle : LeS (lenP (latQ a b c hl) (qp p) (l.map qp)) (lenP (latQ a b c hl) (qp q) (m.map qp))) :
    bothE (lenR a b c (p :: l)).1 (lenR a b c (q :: m)).1 = 0 ∧ cmpO (lenR a b c (p :: l)).1 (lenR a b c (q :: m)).1 ≤ 0 := by
  obtain ⟨n1, k1⟩ := len_nm h hn
  obtain ⟨n2, k2⟩ := len_nm h' hn'
  have hb : bothE (lenR a b c (p :: l)).1 (lenR a b c (q :: m)).1 = 0 := by unfold bothE; rw [if_neg (by simpa using k1)]; exact k2
  refine ⟨hb, ?_⟩
  unfold cmpO
  rw [if_pos hb, (cmp_le n1 n2).1]
  exact (LeS.of_nul (len_vl hl h)).trans (hle.trans (LeS.of_nul' (len_vl hl h')))
end Go.Proofs.Ytlmhgcllikcedaa
/- The reference's lattices: Check, Point, Square. -/
namespace Go.Proofs.Ytlmhgcllikcedaa
open Go.RowKit

def fromB (n lo hi : Int) : Bool := decide (lo ≤ n) && decide (n ≤ hi)
set_option maxRecDepth 100000 in
set_option maxHeartbeats 2000000 in
theorem g6from_ (n lo hi : Int) (w : World) : Calls Try.prog 102 #[.int .i64 n, .int .i64 lo, .int .i64 hi] w fun e w' => e = .returned (.bool (fromB n lo hi)) ∧ w = w' := by
  have hr : fromB n lo hi = (decide (lo ≤ n) && decide (n ≤ hi)) := rfl
  generalize fromB n lo hi = R at *
  by_cases h1 : lo ≤ n
  · have d1 : decide (lo ≤ n) = true := decide_eq_true h1
    rw [d1, Bool.true_and] at hr
    have HR := Lib.hid hr; clear hr
    go_enter Try.func102, Try.ntmps102
    go_wp2
    go_ret
    exact ⟨by rw [HR.out]; rfl, rfl⟩
  · have d1 : decide (lo ≤ n) = false := decide_eq_false h1
    rw [d1, Bool.false_and] at hr
    have HR := Lib.hid hr; clear hr
    go_enter Try.func102, Try.ntmps102
    go_wp2
    go_ret
    exact ⟨by rw [HR.out]; rfl, rfl⟩
theorem from_out (n m : Int) : fromB n (-m) m = !outB n m := by
  unfold fromB outB
  by_cases h1 : n < -m <;> by_cases h2 : m < n <;> simp [h1, h2] <;> omega
set_option maxRecDepth 100000 in
set_option maxHeartbeats 4000000 in
theorem g6Point_ (x : Int × Int) (w : World) : Calls Try.prog 67 #[.agg #[.int .i64 x.1, .int .i64 x.2]] w fun e w' => e = .returned (.bool (!offP x)) ∧ Below w.heap.size w w' := by
  have hb : Below w.heap.size w (w.alloc (.cells #[.int .i64 x.1, .int .i64 x.2] 45)) := (Below.refl _ _).alloc (Nat.le_refl _) _
  have hc1 := fun W => g6from_ x.1 (-1000000) 1000000 W
  have hc2 := fun W => g6from_ x.2 (-1000000) 1000000 W
  rw [from_out] at hc1 hc2
  have hr : offP x = (outB x.1 1000000 || outB x.2 1000000) := rfl
  generalize offP x = R at *
  generalize outB x.1 1000000 = O1 at *
  generalize outB x.2 1000000 = O2 at *
  cases O1 with
  | true =>
    rw [Bool.true_or] at hr
    subst hr
    have HB := Lib.hid hb; have HC1 := Lib.hid hc1; have HC2 := Lib.hid hc2; clear hb hc1 hc2
    go_enter Try.func67, Try.ntmps67
    go_wp2_with fail
    refine (HC1.out _).mono ?_
    rintro e w1 ⟨rfl, rfl⟩
    go_wp2
    go_ret
    exact ⟨rfl, HB.out⟩
  | false =>
    rw [Bool.false_or] at hr
    subst hr
    have HB := Lib.hid hb; have HC1 := Lib.hid hc1; have HC2 := Lib.hid hc2; clear hb hc1 hc2
    go_enter Try.func67, Try.ntmps67
    go_wp2_with fail
    refine (HC1.out _).mono ?_
    rintro e w1 ⟨rfl, rfl⟩
    go_wp2_with fail
    refine (HC2.out _).mono ?_
    rintro e w1 ⟨rfl, rfl⟩
    go_wp2
    go_ret
    exact ⟨rfl, HB.out⟩
set_option maxRecDepth 100000 in
set_option maxHeartbeats 4000000 in
theorem g6points_ (A : Option Addr) (c : Nat) (xs : List (Int × Int)) (w : World) (hr : RdR w A xs) :
    Calls Try.prog 104 #[.slice A xs.length c] w (BoolPost (!xs.any offP) w) := by
  have hln := hr.1
  have hb := Below.refl w.heap.size w
  have HR := Lib.hid hr; have HB := Lib.hid hb; clear hr hb
  go_enter Try.func104, Try.ntmps104
  go_wp2
  go_loopw [3] (fun iv wr => ∃ k : Nat, iv = .int .i64 (k : Int) ∧ k ≤ xs.length ∧ (xs.take k).any offP = false ∧ Below w.heap.size w wr) (fun iv _ => xs.length - (intOf iv).toNat)
  case atStart => exact ⟨0, rfl, Nat.zero_le _, rfl, HB.out⟩
  case round =>
    obtain ⟨k, rfl, hk, hno, hbw⟩ := hrel
    by_cases hlt : k < xs.length
    · have q1 : (0 : Int) ≤ (k : Int) := by omega
      have q2 : (k : Int) < (xs.length : Int) := by omega
      have d2 : decide ((k : Int) < (xs.length : Int)) = true := decide_eq_true q2
      have q3 : IntKind.i64.wrap ((k : Int) + 1) = ((k + 1 : Nat) : Int) := by rw [IntWalk.i64_in _ (by omega)]; omega
      obtain ⟨bl, ol, rfl, hbl, g0, g1⟩ := (HR.out.later hbw (Nat.le_refl _)).at_ hlt
      have hnx : (xs.take (k + 1)).any offP = offP xs[k] := by
        rw [List.take_succ_eq_append_getElem hlt, List.any_append, hno]; simp
      have hall : offP xs[k] = true → xs.any offP = true := fun h => List.any_eq_true.2 ⟨_, List.getElem_mem _, h⟩
      have hS := fun W => g6Point_ xs[k] W
      generalize hp : offP xs[k] = P at *
      generalize xs[k].1 = X at *
      generalize xs[k].2 = Y at *
      cases P with
      | true =>
        have hres : xs.any offP = true := hall rfl
        have HNO := Lib.hid hno; have HBW := Lib.hid hbw; have HNX := Lib.hid hnx; have HALL := Lib.hid hall; have HS := Lib.hid hS; have HP := Lib.hid hp; have HRES := Lib.hid hres; clear hno hbw hnx hall hS hp hres
        go_wp2_with fail
        refine (HS.out _).mono ?_
        rintro e w1 ⟨rfl, b1⟩
        have hb1 := HBW.out.trans (b1.mono HBW.out.size)
        clear b1
        have HB1 := Lib.hid hb1; clear hb1
        go_wp2
        go_ret
        exact ⟨by rw [HRES.out]; rfl, HB1.out⟩
      | false =>
        have HNO := Lib.hid hno; have HBW := Lib.hid hbw; have HNX := Lib.hid hnx; have HALL := Lib.hid hall; have HS := Lib.hid hS; have HP := Lib.hid hp; clear hno hbw hnx hall hS hp
        go_wp2_with fail
        refine (HS.out _).mono ?_
        rintro e w1 ⟨rfl, b1⟩
        have hb1 := HBW.out.trans (b1.mono HBW.out.size)
        clear b1
        have HB1 := Lib.hid hb1; clear hb1
        go_wp2
        go_roundw
        case rel => exact ⟨k + 1, by go_num, by omega, HNX.out, HB1.out⟩
        case measure => simp [intOf]; omega
    · obtain rfl : k = xs.length := by omega
      rw [List.take_length] at hno
      have x3 : ¬ (xs.length : Int) < (xs.length : Int) := by omega
      have d2 : decide ((xs.length : Int) < (xs.length : Int)) = false := decide_eq_false x3
      have HNO := Lib.hid hno; have HBW := Lib.hid hbw; clear hno hbw
      go_wp2
      go_ret
      exact ⟨by rw [HNO.out]; rfl, HBW.out⟩
/-- Squares of numbers within a bound. -/
theorem sq_rng {b : Int} (h1 : -10000 ≤ b) (h2 : b ≤ 10000) : 0 ≤ b * b ∧ b * b ≤ 100000000 := by
  have hb := mul_rng (X := 10000) (Y := 10000) h1 h2 h1 h2
  refine ⟨?_, by omega⟩
  rcases Int.le_total 0 b with h | h
  · exact Int.mul_nonneg h h
  · have := Int.mul_nonneg (show 0 ≤ -b by omega) (show 0 ≤ -b by omega)
    rw [Int.neg_mul_neg] at this; exact this
set_option maxRecDepth 100000 in
set_option maxHeartbeats 4000000 in
theorem g6Det_ (a b c : Int) (w : World) (ha : 1 ≤ a ∧ a ≤ 10000) (hb : -10000 ≤ b ∧ b ≤ 10000) (hc : 1 ≤ c ∧ c ≤ 10000) :
    Calls Try.prog 103 #[.agg #[.int .i64 a, .int .i64 b, .int .i64 c]] w fun e w' => e = .returned (.int .i64 (a * c - b * b)) ∧ Below w.heap.size w w' := by
  have hbb : Below w.heap.size w (w.alloc (.cells #[.int .i64 a, .int .i64 b, .int .i64 c] 38)) := (Below.refl _ _).alloc (Nat.le_refl _) _
  obtain ⟨s1, s2⟩ := sq_rng hb.1 hb.2
  have h1 := mul_rng (X := 10000) (Y := 10000) (show -10000 ≤ a by omega) ha.2 (show -10000 ≤ c by omega) hc.2
  have t1 : IntKind.i64.wrap (a * c) = a * c := IntWalk.i64_in _ (by omega)
  have t2 : IntKind.i64.wrap (b * b) = b * b := IntWalk.i64_in _ (by omega)
  have t3 : IntKind.i64.wrap (a * c - b * b) = a * c - b * b := IntWalk.i64_in _ (by omega)
  clear s1 s2 h1 ha hb hc
  have HBB := Lib.hid hbb; clear hbb
  go_enter Try.func103, Try.ntmps103
  go_wp2
  go_ret
  exact ⟨rfl, HBB.out⟩
set_option maxRecDepth 100000 in
set_option maxHeartbeats 8000000 in
theorem g6Check_ (a b c : Int) (w : World) : Calls Try.prog 66 #[.agg #[.int .i64 a, .int .i64 b, .int .i64 c]] w fun e w' => e = .returned (.int .i64 (latE a b c)) ∧ Below w.heap.size w w' := by
  have hb : Below w.heap.size w (w.alloc (.cells #[.int .i64 a, .int .i64 b, .int .i64 c] 38)) := (Below.refl _ _).alloc (Nat.le_refl _) _
  have hx := heap_alloc_new w (.cells #[.int .i64 a, .int .i64 b, .int .i64 c] 38)
  have hr : latB a b c = (decide (a < 1) || decide (c < 1) || decide (10000 < a) || decide (10000 < c) || outB b 10000 || decide (a * c ≤ b * b)) := rfl
  have he : latE a b c = if latB a b c = true then 2 else 0 := rfl
  have hc1 := fun W => g6from_ a 1 10000 W
  have hc2 := fun W => g6from_ c 1 10000 W
  have hc3 := fun W => g6from_ b (-10000) 10000 W
  rw [from_out] at hc3
  cases f1 : fromB a 1 10000 with
  | false =>
    have hr2 : latE a b c = 2 := by
      rw [he, if_pos]
      rw [hr]
      unfold fromB at f1
      simp at f1 ⊢
      omega
    rw [f1] at hc1
    have HB := Lib.hid hb; have HX := Lib.hid hx; have HR := Lib.hid hr; have HE := Lib.hid he; have HR2 := Lib.hid hr2; have HC1 := Lib.hid hc1; have HC2 := Lib.hid hc2; have HC3 := Lib.hid hc3; have F1 := Lib.hid f1; clear hb hx hr he hr2 hc1 hc2 hc3 f1
    go_enter Try.func66, Try.ntmps66
    go_wp2_with fail
    refine (HC1.out _).mono ?_
    rintro e w1 ⟨rfl, rfl⟩
    go_wp2
    go_ret
    exact ⟨by rw [HR2.out]; rfl, HB.out⟩
  | true =>
  rw [f1] at hc1
  cases f2 : fromB c 1 10000 with
  | false =>
    have hr2 : latE a b c = 2 := by
      rw [he, if_pos]
      rw [hr]
      unfold fromB at f2
      simp at f2 ⊢
      omega
    rw [f2] at hc2
    have HB := Lib.hid hb; have HX := Lib.hid hx; have HR := Lib.hid hr; have HE := Lib.hid he; have HR2 := Lib.hid hr2; have HC1 := Lib.hid hc1; have HC2 := Lib.hid hc2; have HC3 := Lib.hid hc3; have F1 := Lib.hid f1; have F2 := Lib.hid f2; clear hb hx hr he hr2 hc1 hc2 hc3 f1 f2
    go_enter Try.func66, Try.ntmps66
    go_wp2_with fail
    refine (HC1.out _).mono ?_
    rintro e w1 ⟨rfl, rfl⟩
    go_wp2_with fail
    refine (HC2.out _).mono ?_
    rintro e w1 ⟨rfl, rfl⟩
    go_wp2
    go_ret
    exact ⟨by rw [HR2.out]; rfl, HB.out⟩
  | true =>
  rw [f2] at hc2
  have ha : 1 ≤ a ∧ a ≤ 10000 := by unfold fromB at f1; simpa using f1
  have hcc : 1 ≤ c ∧ c ≤ 10000 := by unfold fromB at f2; simpa using f2
  cases f3 : outB b 10000 with
  | true =>
    have hr2 : latE a b c = 2 := by
      rw [he, if_pos]
      rw [hr, f3]
      simp
    rw [f3] at hc3
    clear ha hcc
    have HB := Lib.hid hb; have HX := Lib.hid hx; have HR := Lib.hid hr; have HE := Lib.hid he; have HR2 := Lib.hid hr2; have HC1 := Lib.hid hc1; have HC2 := Lib.hid hc2; have HC3 := Lib.hid hc3; have F1 := Lib.hid f1; have F2 := Lib.hid f2; have F3 := Lib.hid f3; clear hb hx hr he hr2 hc1 hc2 hc3 f1 f2 f3
    go_enter Try.func66, Try.ntmps66
    go_wp2_with fail
    refine (HC1.out _).mono ?_
    rintro e w1 ⟨rfl, rfl⟩
    go_wp2_with fail
    refine (HC2.out _).mono ?_
    rintro e w1 ⟨rfl, rfl⟩
    go_wp2_with fail
    refine (HC3.out _).mono ?_
    rintro e w1 ⟨rfl, rfl⟩
    go_wp2
    go_ret
    exact ⟨by rw [HR2.out]; rfl, HB.out⟩
  | false =>
    rw [f3] at hc3
    have hbb : -10000 ≤ b ∧ b ≤ 10000 := by unfold outB at f3; simp at f3; omega
    have hdt := fun W => g6Det_ a b c W ha hbb hcc
    have hlb : latB a b c = decide (a * c ≤ b * b) := by
      rw [hr, f3, decide_eq_false (show ¬ a < 1 by omega), decide_eq_false (show ¬ c < 1 by omega), decide_eq_false (show ¬ 10000 < a by omega), decide_eq_false (show ¬ 10000 < c by omega)]
      rfl
    obtain ⟨D, hD⟩ : ∃ D, D = a * c - b * b := ⟨_, rfl⟩
    rw [← hD] at hdt
    have hlb2 : latB a b c = decide (D < 1) := by
      rw [hlb, hD]
      by_cases h : a * c ≤ b * b
      · rw [decide_eq_true h, decide_eq_true (by omega)]
      · rw [decide_eq_false h, decide_eq_false (by omega)]
    clear hlb hr
    by_cases hd : D < 1
    · have d1 : decide (D < 1) = true := decide_eq_true hd
      have hr2 : latE a b c = 2 := by rw [he, hlb2, d1]; rfl
      clear ha hcc hbb
      have HB := Lib.hid hb; have HX := Lib.hid hx; have HE := Lib.hid he; have HR2 := Lib.hid hr2; have HC1 := Lib.hid hc1; have HC2 := Lib.hid hc2; have HC3 := Lib.hid hc3; have F1 := Lib.hid f1; have F2 := Lib.hid f2; have F3 := Lib.hid f3; have HDT := Lib.hid hdt; have HD := Lib.hid hD; have HLB2 := Lib.hid hlb2; clear hb hx he hr2 hc1 hc2 hc3 f1 f2 f3 hdt hD hlb2
      go_enter Try.func66, Try.ntmps66
      go_wp2_with fail
      refine (HC1.out _).mono ?_
      rintro e w1 ⟨rfl, rfl⟩
      go_wp2_with fail
      refine (HC2.out _).mono ?_
      rintro e w1 ⟨rfl, rfl⟩
      go_wp2_with fail
      refine (HC3.out _).mono ?_
      rintro e w1 ⟨rfl, rfl⟩
      go_wp2_with fail
      refine (HDT.out _).mono ?_
      rintro e w1 ⟨rfl, b1⟩
      have hb1 := HB.out.trans (b1.mono HB.out.size)
      clear b1
      have HB1 := Lib.hid hb1; clear hb1
      go_wp2
      go_ret
      exact ⟨by rw [HR2.out]; rfl, HB1.out⟩
    · have d1 : decide (D < 1) = false := decide_eq_false hd
      have hr2 : latE a b c = 0 := by rw [he, hlb2, d1]; rfl
      clear ha hcc hbb
      have HB := Lib.hid hb; have HX := Lib.hid hx; have HE := Lib.hid he; have HR2 := Lib.hid hr2; have HC1 := Lib.hid hc1; have HC2 := Lib.hid hc2; have HC3 := Lib.hid hc3; have F1 := Lib.hid f1; have F2 := Lib.hid f2; have F3 := Lib.hid f3; have HDT := Lib.hid hdt; have HD := Lib.hid hD; have HLB2 := Lib.hid hlb2; clear hb hx he hr2 hc1 hc2 hc3 f1 f2 f3 hdt hD hlb2
      go_enter Try.func66, Try.ntmps66
      go_wp2_with fail
      refine (HC1.out _).mono ?_
      rintro e w1 ⟨rfl, rfl⟩
      go_wp2_with fail
      refine (HC2.out _).mono ?_
      rintro e w1 ⟨rfl, rfl⟩
      go_wp2_with fail
      refine (HC3.out _).mono ?_
      rintro e w1 ⟨rfl, rfl⟩
      go_wp2_with fail
      refine (HDT.out _).mono ?_
      rintro e w1 ⟨rfl, b1⟩
      have hb1 := HB.out.trans (b1.mono HB.out.size)
      clear b1
      have HB1 := Lib.hid hb1; clear hb1
      go_wp2
      go_ret
      exact ⟨by rw [HR2.out]; rfl, HB1.out⟩
set_option maxRecDepth 100000 in
set_option maxHeartbeats 4000000 in
theorem g6step_ (p q : Int × Int) (w : World) (h1 : offP p = false) (h2 : offP q = false) :
    Calls Try.prog 106 #[.agg #[.int .i64 p.1, .int .i64 p.2], .agg #[.int .i64 q.1, .int .i64 q.2]] w fun e w' => e = .returned (.agg #[.int .i64 (stp p q).1, .int .i64 (stp p q).2]) ∧ Below w.heap.size w w' := by
  obtain ⟨⟨p1, p2⟩, p3, p4⟩ := offP_no h1
  obtain ⟨⟨q1, q2⟩, q3, q4⟩ := offP_no h2
  have t1 : IntKind.i64.wrap (q.1 - p.1) = q.1 - p.1 := IntWalk.i64_in _ (by omega)
  have t2 : IntKind.i64.wrap (q.2 - p.2) = q.2 - p.2 := IntWalk.i64_in _ (by omega)
  unfold stp
  obtain ⟨w1, hw1⟩ : ∃ w1, w1 = ((w.alloc (.cells #[.int .i64 p.1, .int .i64 p.2] 45)).alloc (.cells #[.int .i64 q.1, .int .i64 q.2] 45)).alloc (.cells #[.int .i64 0, .int .i64 0] 45) := ⟨_, rfl⟩
  have hb1 : Below w.heap.size w w1 := by rw [hw1]; exact (((Below.refl _ _).alloc (Nat.le_refl _) _).alloc (by simp) _).alloc (by simp; omega) _
  have k3 : w1.cell? ⟨w.heap.size, 0, none⟩ = some (.int .i64 p.1) := by rw [hw1]; go_simp
  have k4 : w1.cell? ⟨w.heap.size, 1, none⟩ = some (.int .i64 p.2) := by rw [hw1]; go_simp
  have k5 : w1.cell? ⟨w.heap.size + 1, 0, none⟩ = some (.int .i64 q.1) := by rw [hw1]; go_simp
  have k6 : w1.cell? ⟨w.heap.size + 1, 1, none⟩ = some (.int .i64 q.2) := by rw [hw1]; go_simp
  have hT : w1.heap[w.heap.size + 2]? = some (.cells #[.int .i64 0, .int .i64 0] 45 (0, 0)) := by
    rw [hw1]
    have := heap_alloc_new ((w.alloc (.cells #[.int .i64 p.1, .int .i64 p.2] 45)).alloc (.cells #[.int .i64 q.1, .int .i64 q.2] 45)) (.cells #[.int .i64 0, .int .i64 0] 45)
    simpa using this
  have hs1 : w.heap.size + 3 ≤ w1.heap.size := by rw [hw1]; simp
  have x0 : w.heap.size < w1.heap.size := by omega
  have x1 : w.heap.size + 1 < w1.heap.size := by omega
  have z0 := frozen_of_row _ _ 0 _ _ hT
  have z1 := frozen_of_row _ _ 1 _ _ hT
  have y0 := cell_of_row _ _ 0 _ _ _ hT
  have y1 := cell_of_row _ _ 1 _ _ _ hT
  have hTl := lt_of_block hT
  simp only [List.getElem?_toArray, List.getElem?_cons_zero, List.getElem?_cons_succ] at y0 y1
  have hb2 := fun u v => (hb1.setCell (p := ⟨w.heap.size + 2, 0, none⟩) (by show w.heap.size ≤ w.heap.size + 2; omega) u).setCell (p := ⟨w.heap.size + 2, 1, none⟩) (by show w.heap.size ≤ w.heap.size + 2; omega) v
  clear p1 p2 p3 p4 q1 q2 q3 q4
  have HB1 := Lib.hid hb1; have HW1 := Lib.hid hw1; have HB2 := Lib.hid hb2; have HT := Lib.hid hT; have HS1 := Lib.hid hs1; have H1 := Lib.hid h1; have H2 := Lib.hid h2; clear hb1 hw1 hb2 hT hs1 h1 h2
  go_enter Try.func106, Try.ntmps106
  go_upto_region 1 with fail
  rw [← HW1.out]
  go_wp2
  refine bodyPost_ret (v := .agg #[.int .i64 (q.1 - p.1), .int .i64 (q.2 - p.2)]) (by obtain ⟨r1, _, r3⟩ := res2_ (w := w1) HT.out (.int .i64 (q.1 - p.1)) (.int .i64 (q.2 - p.2)); simp [results, Try.results106, go_sem, r1, r3]) rfl ⟨rfl, HB2.out _ _⟩
set_option maxRecDepth 100000 in
set_option maxHeartbeats 4000000 in
theorem g6Product_ (a b c : Int) (s t : Int × Int) (w : World) (hl : latB a b c = false) (hs : Stp s) (ht : Stp t) : Calls Try.prog 105 #[.agg #[.int .i64 a, .int .i64 b, .int .i64 c], .agg #[.int .i64 s.1, .int .i64 s.2], .agg #[.int .i64 t.1, .int .i64 t.2]] w fun e w' => e = .returned (.int .i64 (prodG a b c s t)) ∧ Below w.heap.size w w' := by
  obtain ⟨⟨l1, l2⟩, ⟨l3, l4⟩, ⟨l5, l6⟩, _⟩ := lat_rng hl
  obtain ⟨⟨a1, a2⟩, a3, a4⟩ := hs
  obtain ⟨⟨b1, b2⟩, b3, b4⟩ := ht
  have hr : prodG a b c s t = a * s.1 * t.1 + b * (s.1 * t.2 + s.2 * t.1) + c * s.2 * t.2 := by unfold prodG; grind
  have m1 := mul_rng (X := 10000) (Y := 2000000) (show -10000 ≤ a by omega) l2 a1 a2
  have m2 := mul_rng (X := 10000 * 2000000) (Y := 2000000) m1.1 m1.2 b1 b2
  have m3 := mul_rng (X := 2000000) (Y := 2000000) a1 a2 b3 b4
  have m4 := mul_rng (X := 2000000) (Y := 2000000) a3 a4 b1 b2
  have m5 := mul_rng (X := 10000) (Y := 8000000000000) (show -10000 ≤ b by omega) l4 (show -8000000000000 ≤ s.1 * t.2 + s.2 * t.1 by omega) (by omega)
  have m6 := mul_rng (X := 10000) (Y := 2000000) (show -10000 ≤ c by omega) l6 a3 a4
  have m7 := mul_rng (X := 10000 * 2000000) (Y := 2000000) m6.1 m6.2 b3 b4
  have t1 : IntKind.i64.wrap (a * s.1) = a * s.1 := IntWalk.i64_in _ (by omega)
  have t2 : IntKind.i64.wrap (a * s.1 * t.1) = a * s.1 * t.1 := IntWalk.i64_in _ (by omega)
  have t3 : IntKind.i64.wrap (s.1 * t.2) = s.1 * t.2 := IntWalk.i64_in _ (by omega)
  have t4 : IntKind.i64.wrap (s.2 * t.1) = s.2 * t.1 := IntWalk.i64_in _ (by omega)
  have t5 : IntKind.i64.wrap (s.1 * t.2 + s.2 * t.1) = s.1 * t.2 + s.2 * t.1 := IntWalk.i64_in _ (by omega)
  have t6 : IntKind.i64.wrap (b * (s.1 * t.2 + s.2 * t.1)) = b * (s.1 * t.2 + s.2 * t.1) := IntWalk.i64_in _ (by omega)
  have t7 : IntKind.i64.wrap (a * s.1 * t.1 + b * (s.1 * t.2 + s.2 * t.1)) = a * s.1 * t.1 + b * (s.1 * t.2 + s.2 * t.1) := IntWalk.i64_in _ (by omega)
  have t8 : IntKind.i64.wrap (c * s.2) = c * s.2 := IntWalk.i64_in _ (by omega)
  have t9 : IntKind.i64.wrap (c * s.2 * t.2) = c * s.2 * t.2 := IntWalk.i64_in _ (by omega)
  have t10 : IntKind.i64.wrap (a * s.1 * t.1 + b * (s.1 * t.2 + s.2 * t.1) + c * s.2 * t.2) = a * s.1 * t.1 + b * (s.1 * t.2 + s.2 * t.1) + c * s.2 * t.2 := IntWalk.i64_in _ (by omega)
  have hb : Below w.heap.size w (((w.alloc (.cells #[.int .i64 a, .int .i64 b, .int .i64 c] 38)).alloc (.cells #[.int .i64 s.1, .int .i64 s.2] 45)).alloc (.cells #[.int .i64 t.1, .int .i64 t.2] 45)) := (((Below.refl _ _).alloc (Nat.le_refl _) _).alloc (by simp) _).alloc (by simp; omega) _
  clear m1 m2 m3 m4 m5 m6 m7 l1 l2 l3 l4 l5 l6 a1 a2 a3 a4 b1 b2 b3 b4
  rw [hr]
  have HR := Lib.hid hr; have HB := Lib.hid hb; have HL := Lib.hid hl; clear hr hb hl
  go_enter Try.func105, Try.ntmps105
  go_wp2
  go_ret
  exact ⟨rfl, HB.out⟩
end Go.Proofs.Ytlmhgcllikcedaa
/- The reference's plus: one more root in a sum (printed by mkTnRPl.py). -/
namespace Go.Proofs.Ytlmhgcllikcedaa
open Go.RowKit

def plV (xs : List (Int × Int)) (x : Int × Int) : List (Int × Int) := if x.1 = 0 then xs else mg 1 xs [x]
/-- What is still to come. -/
def plT (x : Int × Int) (dn : Bool) (l : List (Int × Int)) : List (Int × Int) := if dn = true then l else mg 1 l [x]
theorem plT_done (x : Int × Int) (l : List (Int × Int)) : plT x true l = l := rfl
theorem plT_low {x y : Int × Int} {l : List (Int × Int)} (h : y.2 < x.2) : plT x false (y :: l) = y :: plT x false l := by
  show mg 1 (y :: l) [x] = y :: mg 1 l [x]
  rw [mg_cons, if_pos h]
theorem plT_high {x y : Int × Int} {l : List (Int × Int)} (h : x.2 < y.2) : plT x false (y :: l) = x :: y :: l := by
  show mg 1 (y :: l) [x] = _
  rw [mg_cons, if_neg (by omega), if_pos h, mg_nil2, Int.one_mul]
theorem plT_sum {x y : Int × Int} {l : List (Int × Int)} (h : y.2 = x.2) (h0 : y.1 + x.1 ≠ 0) : plT x false (y :: l) = (y.1 + x.1, x.2) :: l := by
  show mg 1 (y :: l) [x] = _
  rw [mg_cons, if_neg (by omega), if_neg (by omega), Int.one_mul, if_neg h0, mg_nil2, h]
theorem plT_zero {x y : Int × Int} {l : List (Int × Int)} (h : y.2 = x.2) (h0 : y.1 + x.1 = 0) : plT x false (y :: l) = l := by
  show mg 1 (y :: l) [x] = _
  rw [mg_cons, if_neg (by omega), if_neg (by omega), Int.one_mul, if_pos h0, mg_nil2]
theorem plT_end (x : Int × Int) : plT x false [] = [x] := by
  show mg 1 [] [x] = _
  rw [mg_nil, List.map_cons, Int.one_mul]
  rfl
set_option maxRecDepth 100000 in
set_option maxHeartbeats 16000000 in
theorem rPlusR_ (A : Option Addr) (c : Nat) (xs : List (Int × Int)) (x : Int × Int) (w : World) (hr : RdR w A xs) (hm : Med xs) (hx1 : -1000000000000000000 ≤ x.1 ∧ x.1 ≤ 1000000000000000000) (hln : xs.length ≤ 400000) :
    Calls Try.prog 107 #[.slice A xs.length c, .agg #[.int .i64 x.1, .int .i64 x.2]] w (MgPost (plV xs x) w) := by
  obtain ⟨w1, hw1⟩ : ∃ w1, w1 = w.alloc (.cells #[.int .i64 x.1, .int .i64 x.2] 26) := ⟨_, rfl⟩
  have hb1 : Below w.heap.size w w1 := by rw [hw1]; exact (Below.refl _ _).alloc (Nat.le_refl _) _
  have hX : w1.heap[w.heap.size]? = some (.cells #[.int .i64 x.1, .int .i64 x.2] 26 (0, 0)) := by rw [hw1]; exact heap_alloc_new _ _
  have x0 := cell_of_row _ _ 0 _ _ _ hX
  have x1 := cell_of_row _ _ 1 _ _ _ hX
  simp only [List.getElem?_toArray, List.getElem?_cons_zero, List.getElem?_cons_succ] at x0 x1
  have hxl := lt_of_block hX
  obtain ⟨G, hG⟩ : ∃ G, G = plV xs x := ⟨_, rfl⟩
  have hgo : G = [] ++ plT x (x.1 == 0) (xs.drop 0) := by
    rw [hG]
    unfold plV plT
    by_cases h : x.1 = 0
    · rw [if_pos h]; simp [h]
    · rw [if_neg h]; simp [h]
  rw [← hG]
  clear hG
  have hm2 : ∀ y ∈ xs, IntKind.i64.wrap (y.1 + x.1) = y.1 + x.1 := fun y hy => by
    have := hm y hy
    exact IntWalk.i64_in _ (by omega)
  have HR := Lib.hid hr; have HM := Lib.hid hm; have HB1 := Lib.hid hb1; have HX := Lib.hid hX; have HW1 := Lib.hid hw1; have HM2 := Lib.hid hm2; have HX1 := Lib.hid hx1; have HGO := Lib.hid hgo; have HLN := Lib.hid hln; clear hr hm hb1 hX hw1 hm2 hx1 hgo hln
  go_enter Try.func107, Try.ntmps107
  go_upto_region 1 with fail
  rw [← HW1.out]
  clear HW1
  generalize hz : (x.1 == 0) = dn0 at *
  have HZ := Lib.hid hz
  go_wp2
  clear hz x0 x1 hxl
  go_loopw [5, 6, 7] (fun ov dv iv wr => ∃ (k : Nat) (o : List (Int × Int)) (dn : Bool), iv = .int .i64 (k : Int) ∧ dv = .bool dn ∧ k ≤ xs.length ∧ G = o ++ plT x dn (xs.drop k) ∧ o.length ≤ 2 * k + 1 ∧ wr.ownsRow (w.heap.size + 1) 26 2 ov o.length (rootC o) ∧ wr.heap[w.heap.size]? = some (.cells #[.int .i64 x.1, .int .i64 x.2] 26 (0, 0)) ∧ Below w.heap.size w wr) (fun _ _ iv _ => xs.length - (intOf iv).toNat)
  case atStart => exact ⟨0, [], dn0, rfl, rfl, Nat.zero_le _, HGO.out, Nat.zero_le _, own_nilR _ _ _ _, HX.out, HB1.out⟩
  case round =>
    clear HX HB1 HGO HZ
    obtain ⟨k, o, dn, rfl, rfl, hk, hG, hol, hown, hx, hbw⟩ := hrel
    have hvl := hown.lt
    have hsz := hbw.size
    have hs1 := lt_of_block hx
    by_cases hlt : k < xs.length
    · have q1 : (0 : Int) ≤ (k : Int) := by omega
      have q2 : (k : Int) < (xs.length : Int) := by omega
      have d2 : decide ((k : Int) < (xs.length : Int)) = true := decide_eq_true q2
      have q3 : IntKind.i64.wrap ((k : Int) + 1) = ((k + 1 : Nat) : Int) := by have := HLN.out; rw [IntWalk.i64_in _ (by omega)]; omega
      obtain ⟨bl, ol, rfl, hbl, g0, g1⟩ := (HR.out.later hbw (Nat.le_refl _)).at_ hlt
      have t1 := HM2.out xs[k] (List.getElem_mem _)
      rw [List.drop_eq_getElem_cons hlt] at hG
      obtain ⟨y, hy⟩ : ∃ y, y = xs[k] := ⟨_, rfl⟩
      rw [← hy] at g0 g1 t1 hG
      have HYE0 := Lib.hid hy
      clear hy
      have HG := Lib.hid hG; have HOL := Lib.hid hol; have HOWN := Lib.hid hown; have HX := Lib.hid hx; have HBW := Lib.hid hbw; have HVL := Lib.hid hvl; have HSZ := Lib.hid hsz; have HS1 := Lib.hid hs1; clear hG hol hown hx hbw hvl hsz hs1
      have x0 := cell_of_row _ _ 0 _ _ _ HX.out
      have x1 := cell_of_row _ _ 1 _ _ _ HX.out
      simp only [List.getElem?_toArray, List.getElem?_cons_zero, List.getElem?_cons_succ] at x0 x1
      have hxl := lt_of_block HX.out
      obtain ⟨wr1, hwr1⟩ : ∃ wr1, wr1 = wr := ⟨_, rfl⟩
      cases dn with
      | true =>
        have hG2 : G = (o ++ [y]) ++ plT x true (xs.drop (k + 1)) := by rw [HG.out, plT_done, plT_done]; simp
        clear hwr1
        have HG2 := Lib.hid hG2; clear hG2
        go_upto_region 6 with fail
        have hbelc : ∀ (u : Bel wr.heap.size wr) b o, b < wr.heap.size → u.wd.cell? ⟨b, o, none⟩ = wr.cell? ⟨b, o, none⟩ := fun u b o h => u.h.cell (p := ⟨b, o, none⟩) h
        have hbeln : Nonempty (Bel wr.heap.size wr) := ⟨⟨wr, Below.refl _ _⟩⟩
        refine wp_region_bel wr.heap.size (by kernel_rfl) (by kernel_rfl) ?_
        repeat (go_big_quiet_step ((fail)))
        refine wpQuiet_nil ?_
        intro wB hB0; obtain ⟨uB, hu⟩ := hB0; have hbB0 := uB.h; rw [← hu] at hbB0; clear hu uB hbelc hbeln
        obtain ⟨hbB, hcB, hsB⟩ := bcell2 hbB0; clear hbB0
        have hown := own_keepR HOWN.out hbB
        have hx := (hbB.block _ (lt_of_block HX.out)).trans HX.out
        have hbw := HBW.out.trans (hbB.mono HBW.out.size)
        have g0z := (hcB bl (ol + k * 2) hbl).trans g0
        have g1z := (hcB bl (ol + k * 2 + 1) hbl).trans g1
        have hblz : bl < wB.heap.size := Nat.lt_of_lt_of_le hbl hsB
        clear hcB hsB hbB HOWN HX HBW HVL HSZ HS1 x0 x1 hxl g0 g1 hbl
        have g0 := g0z
        have g1 := g1z
        have hbl := hblz
        clear g0z g1z hblz
        have hvl := hown.lt
        have hsz := hbw.size
        have hs1 := lt_of_block hx
        generalize wB = wv1 at *
        have HOWN := Lib.hid hown; have HX := Lib.hid hx; have HBW := Lib.hid hbw; have HVL := Lib.hid hvl; have HSZ := Lib.hid hsz; have HS1 := Lib.hid hs1; clear hown hx hbw hvl hsz hs1
        have x0 := cell_of_row _ _ 0 _ _ _ HX.out
        have x1 := cell_of_row _ _ 1 _ _ _ HX.out
        simp only [List.getElem?_toArray, List.getElem?_cons_zero, List.getElem?_cons_succ] at x0 x1
        have hxl := lt_of_block HX.out
        go_wp2_with (refine wpList_app1Ro_Try (by rfl) _ _ (by rfl) (w.heap.size + 1) u5 o (by rfl) (by repeat (first | exact HOWN.out | refine World.ownsRow.alloc ?_ _ | exact (World.ownsRow.alloc HOWN.out _).drew)) wv1.heap.size y (by rfl) (heap_alloc_new _ _) (by have := HOL.out; have := HLN.out; first | omega | (simp; omega)) (by simp; have := HS1.out; omega) ?_; intro g cap w3 hown3 hgrow hat3 hlt3)
        have hb3 : Below w.heap.size w w3 := (HBW.out.alloc HBW.out.size _).grown hgrow (by simp; have := HSZ.out; omega) (fun k' hk' => by have := (HVL.out k' hk').1; omega)
        have hx3 := (hgrow.block _ (by simp; have := HS1.out; omega) (fun h => by have := (HVL.out _ h.symm).1; omega)).trans ((Below.heap_alloc wv1 _ _ HS1.out).trans HX.out)
        clear hgrow hat3 hlt3
        have HB3 := Lib.hid hb3; have HX3 := Lib.hid hx3; have HOWN3 := Lib.hid hown3; clear hb3 hx3 hown3
        go_wp2
        go_roundw
        case rel => exact ⟨k + 1, o ++ [y], true, by go_num, rfl, by omega, HG2.out, by have := HOL.out; simp; omega, HOWN3.out, HX3.out, HB3.out⟩
        case measure => simp [intOf]; omega
      | false =>
        clear hwr1
        by_cases h1 : y.2 < x.2
        · have e1 : decide (x.2 ≤ y.2) = false := decide_eq_false (by omega)
          have hG2 : G = (o ++ [y]) ++ plT x false (xs.drop (k + 1)) := by rw [HG.out, plT_low h1]; simp
          have HG2 := Lib.hid hG2; have H1 := Lib.hid h1; clear hG2 h1
          go_upto_region 6 with fail
          have hbelc : ∀ (u : Bel wr.heap.size wr) b o, b < wr.heap.size → u.wd.cell? ⟨b, o, none⟩ = wr.cell? ⟨b, o, none⟩ := fun u b o h => u.h.cell (p := ⟨b, o, none⟩) h
          have hbeln : Nonempty (Bel wr.heap.size wr) := ⟨⟨wr, Below.refl _ _⟩⟩
          refine wp_region_bel wr.heap.size (by kernel_rfl) (by kernel_rfl) ?_
          repeat (go_big_quiet_step ((fail)))
          refine wpQuiet_nil ?_
          intro wB hB0; obtain ⟨uB, hu⟩ := hB0; have hbB0 := uB.h; rw [← hu] at hbB0; clear hu uB hbelc hbeln
          obtain ⟨hbB, hcB, hsB⟩ := bcell2 hbB0; clear hbB0
          have hown := own_keepR HOWN.out hbB
          have hx := (hbB.block _ (lt_of_block HX.out)).trans HX.out
          have hbw := HBW.out.trans (hbB.mono HBW.out.size)
          have g0z := (hcB bl (ol + k * 2) hbl).trans g0
          have g1z := (hcB bl (ol + k * 2 + 1) hbl).trans g1
          have hblz : bl < wB.heap.size := Nat.lt_of_lt_of_le hbl hsB
          clear hcB hsB hbB HOWN HX HBW HVL HSZ HS1 x0 x1 hxl g0 g1 hbl
          have g0 := g0z
          have g1 := g1z
          have hbl := hblz
          clear g0z g1z hblz
          have hvl := hown.lt
          have hsz := hbw.size
          have hs1 := lt_of_block hx
          generalize wB = wv1 at *
          have HOWN := Lib.hid hown; have HX := Lib.hid hx; have HBW := Lib.hid hbw; have HVL := Lib.hid hvl; have HSZ := Lib.hid hsz; have HS1 := Lib.hid hs1; clear hown hx hbw hvl hsz hs1
          have x0 := cell_of_row _ _ 0 _ _ _ HX.out
          have x1 := cell_of_row _ _ 1 _ _ _ HX.out
          simp only [List.getElem?_toArray, List.getElem?_cons_zero, List.getElem?_cons_succ] at x0 x1
          have hxl := lt_of_block HX.out
          go_wp2_with (refine wpList_app1Ro_Try (by rfl) _ _ (by rfl) (w.heap.size + 1) u5 o (by rfl) (by repeat (first | exact HOWN.out | refine World.ownsRow.alloc ?_ _ | exact (World.ownsRow.alloc HOWN.out _).drew)) wv1.heap.size y (by rfl) (heap_alloc_new _ _) (by have := HOL.out; have := HLN.out; first | omega | (simp; omega)) (by simp; have := HS1.out; omega) ?_; intro g cap w3 hown3 hgrow hat3 hlt3)
          have hb3 : Below w.heap.size w w3 := (HBW.out.alloc HBW.out.size _).grown hgrow (by simp; have := HSZ.out; omega) (fun k' hk' => by have := (HVL.out k' hk').1; omega)
          have hx3 := (hgrow.block _ (by simp; have := HS1.out; omega) (fun h => by have := (HVL.out _ h.symm).1; omega)).trans ((Below.heap_alloc wv1 _ _ HS1.out).trans HX.out)
          clear hgrow hat3 hlt3
          have HB3 := Lib.hid hb3; have HX3 := Lib.hid hx3; have HOWN3 := Lib.hid hown3; clear hb3 hx3 hown3
          go_wp2
          go_roundw
          case rel => exact ⟨k + 1, o ++ [y], false, by go_num, rfl, by omega, HG2.out, by have := HOL.out; simp; omega, HOWN3.out, HX3.out, HB3.out⟩
          case measure => simp [intOf]; omega
        · have e1 : decide (x.2 ≤ y.2) = true := decide_eq_true (by omega)
          by_cases h2 : x.2 < y.2
          · have e2 : decide (x.2 < y.2) = true := decide_eq_true h2
            have hG2 : G = (o ++ [x] ++ [y]) ++ plT x true (xs.drop (k + 1)) := by rw [HG.out, plT_high h2, plT_done]; simp
            have HG2 := Lib.hid hG2; have H1 := Lib.hid h1; have H2 := Lib.hid h2; clear hG2 h1 h2
            go_upto_region 6 with fail
            have hbelc : ∀ (u : Bel wr.heap.size wr) b o, b < wr.heap.size → u.wd.cell? ⟨b, o, none⟩ = wr.cell? ⟨b, o, none⟩ := fun u b o h => u.h.cell (p := ⟨b, o, none⟩) h
            have hbeln : Nonempty (Bel wr.heap.size wr) := ⟨⟨wr, Below.refl _ _⟩⟩
            refine wp_region_bel wr.heap.size (by kernel_rfl) (by kernel_rfl) ?_
            repeat (go_big_quiet_step ((fail)))
            refine wpQuiet_nil ?_
            intro wB hB0; obtain ⟨uB, hu⟩ := hB0; have hbB0 := uB.h; rw [← hu] at hbB0; clear hu uB hbelc hbeln
            obtain ⟨hbB, hcB, hsB⟩ := bcell2 hbB0; clear hbB0
            have hown := own_keepR HOWN.out hbB
            have hx := (hbB.block _ (lt_of_block HX.out)).trans HX.out
            have hbw := HBW.out.trans (hbB.mono HBW.out.size)
            have g0z := (hcB bl (ol + k * 2) hbl).trans g0
            have g1z := (hcB bl (ol + k * 2 + 1) hbl).trans g1
            have hblz : bl < wB.heap.size := Nat.lt_of_lt_of_le hbl hsB
            clear hcB hsB hbB HOWN HX HBW HVL HSZ HS1 x0 x1 hxl g0 g1 hbl
            have g0 := g0z
            have g1 := g1z
            have hbl := hblz
            clear g0z g1z hblz
            have hvl := hown.lt
            have hsz := hbw.size
            have hs1 := lt_of_block hx
            generalize wB = wv1 at *
            have HOWN := Lib.hid hown; have HX := Lib.hid hx; have HBW := Lib.hid hbw; have HVL := Lib.hid hvl; have HSZ := Lib.hid hsz; have HS1 := Lib.hid hs1; clear hown hx hbw hvl hsz hs1
            have x0 := cell_of_row _ _ 0 _ _ _ HX.out
            have x1 := cell_of_row _ _ 1 _ _ _ HX.out
            simp only [List.getElem?_toArray, List.getElem?_cons_zero, List.getElem?_cons_succ] at x0 x1
            have hxl := lt_of_block HX.out
            go_upto_region 8 with fail
            have hbelc : ∀ (u : Bel wv1.heap.size wv1) b o, b < wv1.heap.size → u.wd.cell? ⟨b, o, none⟩ = wv1.cell? ⟨b, o, none⟩ := fun u b o h => u.h.cell (p := ⟨b, o, none⟩) h
            have hbeln : Nonempty (Bel wv1.heap.size wv1) := ⟨⟨wv1, Below.refl _ _⟩⟩
            refine wp_region_bel wv1.heap.size (by kernel_rfl) (by kernel_rfl) ?_
            repeat (go_big_quiet_step ((fail)))
            refine wpQuiet_nil ?_
            intro wB hB0; obtain ⟨uB, hu⟩ := hB0; have hbB0 := uB.h; rw [← hu] at hbB0; clear hu uB hbelc hbeln
            obtain ⟨hbB, hcB, hsB⟩ := bcell2 hbB0; clear hbB0
            have hown := own_keepR HOWN.out hbB
            have hx := (hbB.block _ (lt_of_block HX.out)).trans HX.out
            have hbw := HBW.out.trans (hbB.mono HBW.out.size)
            have g0z := (hcB bl (ol + k * 2) hbl).trans g0
            have g1z := (hcB bl (ol + k * 2 + 1) hbl).trans g1
            have hblz : bl < wB.heap.size := Nat.lt_of_lt_of_le hbl hsB
            clear hcB hsB hbB HOWN HX HBW HVL HSZ HS1 x0 x1 hxl g0 g1 hbl
            have g0 := g0z
            have g1 := g1z
            have hbl := hblz
            clear g0z g1z hblz
            have hvl := hown.lt
            have hsz := hbw.size
            have hs1 := lt_of_block hx
            generalize wB = wv2 at *
            have HOWN := Lib.hid hown; have HX := Lib.hid hx; have HBW := Lib.hid hbw; have HVL := Lib.hid hvl; have HSZ := Lib.hid hsz; have HS1 := Lib.hid hs1; clear hown hx hbw hvl hsz hs1
            have x0 := cell_of_row _ _ 0 _ _ _ HX.out
            have x1 := cell_of_row _ _ 1 _ _ _ HX.out
            simp only [List.getElem?_toArray, List.getElem?_cons_zero, List.getElem?_cons_succ] at x0 x1
            have hxl := lt_of_block HX.out
            go_upto_region 12 with (refine wpList_app1Ro_Try (by rfl) _ _ (by rfl) (w.heap.size + 1) u5 o (by rfl) (by repeat (first | exact HOWN.out | refine World.ownsRow.alloc ?_ _ | exact (World.ownsRow.alloc HOWN.out _).drew)) wv2.heap.size x (by rfl) (heap_alloc_new _ _) (by have := HOL.out; have := HLN.out; first | omega | (simp; omega)) (by simp; have := HS1.out; omega) ?_; intro g cap wv3 hown3 hgrow hat3 hlt3)
            have hb3 : Below w.heap.size w wv3 := (HBW.out.alloc HBW.out.size _).grown hgrow (by simp; have := HSZ.out; omega) (fun k' hk' => by have := (HVL.out k' hk').1; omega)
            have hx3 := (hgrow.block _ (by simp; have := HS1.out; omega) (fun h => by have := (HVL.out _ h.symm).1; omega)).trans ((Below.heap_alloc wv2 _ _ HS1.out).trans HX.out)
            clear hgrow hat3 hlt3
            have hrd3 := (HR.out.later hb3 (Nat.le_refl _)).at_ hlt
            have hy3 := HYE0.out
            rw [← hy3] at hrd3
            clear hy3
            obtain ⟨bl3, ol3, e3, hbl3, g03, g13⟩ := hrd3
            injection e3 with e3
            injection e3 with e4 e5
            subst e4
            subst e5
            have hown := hown3
            have hx := hx3
            have hbw := hb3
            clear HOWN HX HBW HVL HSZ HS1 x0 x1 hxl g0 g1 hbl hown3 hx3 hb3
            have hvl := hown.lt
            have hsz := hbw.size
            have hs1 := lt_of_block hx
            obtain ⟨o2, ho2⟩ : ∃ o2, o2 = o ++ [x] := ⟨_, rfl⟩
            have hol2 : o2.length ≤ 2 * k + 2 := by have := HOL.out; rw [ho2]; simp; omega
            have hG3 := HG2.out
            rw [← ho2] at hown hG3
            clear HOL HG2
            have HOL := Lib.hid hol2
            have HG2 := Lib.hid hG3
            clear hol2 hG3
            have HOWN := Lib.hid hown; have HX := Lib.hid hx; have HBW := Lib.hid hbw; have HVL := Lib.hid hvl; have HSZ := Lib.hid hsz; have HS1 := Lib.hid hs1; have HO2 := Lib.hid ho2; clear hown hx hbw hvl hsz hs1 ho2
            go_wp2_with (refine wpList_app1Ro_Try (by rfl) _ _ (by rfl) (w.heap.size + 1) (.slice (some ⟨g, 0, none⟩) (o.length + 1) cap) o2 (by rfl) (by repeat (first | exact HOWN.out | refine World.ownsRow.alloc ?_ _ | exact (World.ownsRow.alloc HOWN.out _).drew)) wv3.heap.size y (by rfl) (heap_alloc_new _ _) (by have := HOL.out; have := HLN.out; first | omega | (simp; omega)) (by simp; have := HS1.out; omega) ?_; intro g cap w3 hown3 hgrow hat3 hlt3)
            have hb3 : Below w.heap.size w w3 := (HBW.out.alloc HBW.out.size _).grown hgrow (by simp; have := HSZ.out; omega) (fun k' hk' => by have := (HVL.out k' hk').1; omega)
            have hx3 := (hgrow.block _ (by simp; have := HS1.out; omega) (fun h => by have := (HVL.out _ h.symm).1; omega)).trans ((Below.heap_alloc wv3 _ _ HS1.out).trans HX.out)
            clear hgrow hat3 hlt3
            have HB3 := Lib.hid hb3; have HX3 := Lib.hid hx3; have HOWN3 := Lib.hid hown3; clear hb3 hx3 hown3
            go_wp2
            go_roundw
            case rel => exact ⟨k + 1, o2 ++ [y], true, by go_num, rfl, by omega, HG2.out, by have := HOL.out; simp; omega, HOWN3.out, HX3.out, HB3.out⟩
            case measure => simp [intOf]; omega
          · have hye : y.2 = x.2 := by omega
            have e2 : decide (x.2 < y.2) = false := decide_eq_false h2
            by_cases h3 : y.1 + x.1 = 0
            · have e3 : (y.1 + x.1 != 0) = false := by rw [h3]; rfl
              have hG2 : G = o ++ plT x true (xs.drop (k + 1)) := by rw [HG.out, plT_zero hye h3, plT_done]
              have HG2 := Lib.hid hG2; have H1 := Lib.hid h1; have H2 := Lib.hid h2; have H3 := Lib.hid h3; have HYE := Lib.hid hye; clear hG2 h1 h2 h3 hye
              go_upto_region 6 with fail
              have hbelc : ∀ (u : Bel wr.heap.size wr) b o, b < wr.heap.size → u.wd.cell? ⟨b, o, none⟩ = wr.cell? ⟨b, o, none⟩ := fun u b o h => u.h.cell (p := ⟨b, o, none⟩) h
              have hbeln : Nonempty (Bel wr.heap.size wr) := ⟨⟨wr, Below.refl _ _⟩⟩
              refine wp_region_bel wr.heap.size (by kernel_rfl) (by kernel_rfl) ?_
              repeat (go_big_quiet_step ((fail)))
              refine wpQuiet_nil ?_
              intro wB hB0; obtain ⟨uB, hu⟩ := hB0; have hbB0 := uB.h; rw [← hu] at hbB0; clear hu uB hbelc hbeln
              obtain ⟨hbB, hcB, hsB⟩ := bcell2 hbB0; clear hbB0
              have hown := own_keepR HOWN.out hbB
              have hx := (hbB.block _ (lt_of_block HX.out)).trans HX.out
              have hbw := HBW.out.trans (hbB.mono HBW.out.size)
              have g0z := (hcB bl (ol + k * 2) hbl).trans g0
              have g1z := (hcB bl (ol + k * 2 + 1) hbl).trans g1
              have hblz : bl < wB.heap.size := Nat.lt_of_lt_of_le hbl hsB
              clear hcB hsB hbB HOWN HX HBW HVL HSZ HS1 x0 x1 hxl g0 g1 hbl
              have g0 := g0z
              have g1 := g1z
              have hbl := hblz
              clear g0z g1z hblz
              have hvl := hown.lt
              have hsz := hbw.size
              have hs1 := lt_of_block hx
              generalize wB = wv1 at *
              have HOWN := Lib.hid hown; have HX := Lib.hid hx; have HBW := Lib.hid hbw; have HVL := Lib.hid hvl; have HSZ := Lib.hid hsz; have HS1 := Lib.hid hs1; clear hown hx hbw hvl hsz hs1
              have x0 := cell_of_row _ _ 0 _ _ _ HX.out
              have x1 := cell_of_row _ _ 1 _ _ _ HX.out
              simp only [List.getElem?_toArray, List.getElem?_cons_zero, List.getElem?_cons_succ] at x0 x1
              have hxl := lt_of_block HX.out
              go_upto_region 8 with fail
              have hbelc : ∀ (u : Bel wv1.heap.size wv1) b o, b < wv1.heap.size → u.wd.cell? ⟨b, o, none⟩ = wv1.cell? ⟨b, o, none⟩ := fun u b o h => u.h.cell (p := ⟨b, o, none⟩) h
              have hbeln : Nonempty (Bel wv1.heap.size wv1) := ⟨⟨wv1, Below.refl _ _⟩⟩
              refine wp_region_bel wv1.heap.size (by kernel_rfl) (by kernel_rfl) ?_
              repeat (go_big_quiet_step ((fail)))
              refine wpQuiet_nil ?_
              intro wB hB0; obtain ⟨uB, hu⟩ := hB0; have hbB0 := uB.h; rw [← hu] at hbB0; clear hu uB hbelc hbeln
              obtain ⟨hbB, hcB, hsB⟩ := bcell2 hbB0; clear hbB0
              have hown := own_keepR HOWN.out hbB
              have hx := (hbB.block _ (lt_of_block HX.out)).trans HX.out
              have hbw := HBW.out.trans (hbB.mono HBW.out.size)
              have g0z := (hcB bl (ol + k * 2) hbl).trans g0
              have g1z := (hcB bl (ol + k * 2 + 1) hbl).trans g1
              have hblz : bl < wB.heap.size := Nat.lt_of_lt_of_le hbl hsB
              clear hcB hsB hbB HOWN HX HBW HVL HSZ HS1 x0 x1 hxl g0 g1 hbl
              have g0 := g0z
              have g1 := g1z
              have hbl := hblz
              clear g0z g1z hblz
              have hvl := hown.lt
              have hsz := hbw.size
              have hs1 := lt_of_block hx
              generalize wB = wv2 at *
              have HOWN := Lib.hid hown; have HX := Lib.hid hx; have HBW := Lib.hid hbw; have HVL := Lib.hid hvl; have HSZ := Lib.hid hsz; have HS1 := Lib.hid hs1; clear hown hx hbw hvl hsz hs1
              have x0 := cell_of_row _ _ 0 _ _ _ HX.out
              have x1 := cell_of_row _ _ 1 _ _ _ HX.out
              simp only [List.getElem?_toArray, List.getElem?_cons_zero, List.getElem?_cons_succ] at x0 x1
              have hxl := lt_of_block HX.out
              go_upto_region 10 with fail
              have hbelc : ∀ (u : Bel wv2.heap.size wv2) b o, b < wv2.heap.size → u.wd.cell? ⟨b, o, none⟩ = wv2.cell? ⟨b, o, none⟩ := fun u b o h => u.h.cell (p := ⟨b, o, none⟩) h
              have hbeln : Nonempty (Bel wv2.heap.size wv2) := ⟨⟨wv2, Below.refl _ _⟩⟩
              refine wp_region_bel wv2.heap.size (by kernel_rfl) (by kernel_rfl) ?_
              repeat (go_big_quiet_step ((fail)))
              refine wpQuiet_nil ?_
              intro wB hB0; obtain ⟨uB, hu⟩ := hB0; have hbB0 := uB.h; rw [← hu] at hbB0; clear hu uB hbelc hbeln
              obtain ⟨hbB, hcB, hsB⟩ := bcell2 hbB0; clear hbB0
              have hown := own_keepR HOWN.out hbB
              have hx := (hbB.block _ (lt_of_block HX.out)).trans HX.out
              have hbw := HBW.out.trans (hbB.mono HBW.out.size)
              have g0z := (hcB bl (ol + k * 2) hbl).trans g0
              have g1z := (hcB bl (ol + k * 2 + 1) hbl).trans g1
              have hblz : bl < wB.heap.size := Nat.lt_of_lt_of_le hbl hsB
              clear hcB hsB hbB HOWN HX HBW HVL HSZ HS1 x0 x1 hxl g0 g1 hbl
              have g0 := g0z
              have g1 := g1z
              have hbl := hblz
              clear g0z g1z hblz
              have hvl := hown.lt
              have hsz := hbw.size
              have hs1 := lt_of_block hx
              generalize wB = wv3 at *
              have HOWN := Lib.hid hown; have HX := Lib.hid hx; have HBW := Lib.hid hbw; have HVL := Lib.hid hvl; have HSZ := Lib.hid hsz; have HS1 := Lib.hid hs1; clear hown hx hbw hvl hsz hs1
              have x0 := cell_of_row _ _ 0 _ _ _ HX.out
              have x1 := cell_of_row _ _ 1 _ _ _ HX.out
              simp only [List.getElem?_toArray, List.getElem?_cons_zero, List.getElem?_cons_succ] at x0 x1
              have hxl := lt_of_block HX.out
              go_wp2
              go_roundw
              case rel => exact ⟨k + 1, o, true, by go_num, rfl, by omega, HG2.out, by have := HOL.out; omega, HOWN.out, HX.out, HBW.out⟩
              case measure => simp [intOf]; omega
            · have e3 : (y.1 + x.1 != 0) = true := by simp [h3]
              have hG2 : G = (o ++ [(y.1 + x.1, x.2)]) ++ plT x true (xs.drop (k + 1)) := by rw [HG.out, plT_sum hye h3, plT_done]; simp
              have HG2 := Lib.hid hG2; have H1 := Lib.hid h1; have H2 := Lib.hid h2; have H3 := Lib.hid h3; have HYE := Lib.hid hye; clear hG2 h1 h2 h3 hye
              go_upto_region 6 with fail
              have hbelc : ∀ (u : Bel wr.heap.size wr) b o, b < wr.heap.size → u.wd.cell? ⟨b, o, none⟩ = wr.cell? ⟨b, o, none⟩ := fun u b o h => u.h.cell (p := ⟨b, o, none⟩) h
              have hbeln : Nonempty (Bel wr.heap.size wr) := ⟨⟨wr, Below.refl _ _⟩⟩
              refine wp_region_bel wr.heap.size (by kernel_rfl) (by kernel_rfl) ?_
              repeat (go_big_quiet_step ((fail)))
              refine wpQuiet_nil ?_
              intro wB hB0; obtain ⟨uB, hu⟩ := hB0; have hbB0 := uB.h; rw [← hu] at hbB0; clear hu uB hbelc hbeln
              obtain ⟨hbB, hcB, hsB⟩ := bcell2 hbB0; clear hbB0
              have hown := own_keepR HOWN.out hbB
              have hx := (hbB.block _ (lt_of_block HX.out)).trans HX.out
              have hbw := HBW.out.trans (hbB.mono HBW.out.size)
              have g0z := (hcB bl (ol + k * 2) hbl).trans g0
              have g1z := (hcB bl (ol + k * 2 + 1) hbl).trans g1
              have hblz : bl < wB.heap.size := Nat.lt_of_lt_of_le hbl hsB
              clear hcB hsB hbB HOWN HX HBW HVL HSZ HS1 x0 x1 hxl g0 g1 hbl
              have g0 := g0z
              have g1 := g1z
              have hbl := hblz
              clear g0z g1z hblz
              have hvl := hown.lt
              have hsz := hbw.size
              have hs1 := lt_of_block hx
              generalize wB = wv1 at *
              have HOWN := Lib.hid hown; have HX := Lib.hid hx; have HBW := Lib.hid hbw; have HVL := Lib.hid hvl; have HSZ := Lib.hid hsz; have HS1 := Lib.hid hs1; clear hown hx hbw hvl hsz hs1
              have x0 := cell_of_row _ _ 0 _ _ _ HX.out
              have x1 := cell_of_row _ _ 1 _ _ _ HX.out
              simp only [List.getElem?_toArray, List.getElem?_cons_zero, List.getElem?_cons_succ] at x0 x1
              have hxl := lt_of_block HX.out
              go_upto_region 8 with fail
              have hbelc : ∀ (u : Bel wv1.heap.size wv1) b o, b < wv1.heap.size → u.wd.cell? ⟨b, o, none⟩ = wv1.cell? ⟨b, o, none⟩ := fun u b o h => u.h.cell (p := ⟨b, o, none⟩) h
              have hbeln : Nonempty (Bel wv1.heap.size wv1) := ⟨⟨wv1, Below.refl _ _⟩⟩
              refine wp_region_bel wv1.heap.size (by kernel_rfl) (by kernel_rfl) ?_
              repeat (go_big_quiet_step ((fail)))
              refine wpQuiet_nil ?_
              intro wB hB0; obtain ⟨uB, hu⟩ := hB0; have hbB0 := uB.h; rw [← hu] at hbB0; clear hu uB hbelc hbeln
              obtain ⟨hbB, hcB, hsB⟩ := bcell2 hbB0; clear hbB0
              have hown := own_keepR HOWN.out hbB
              have hx := (hbB.block _ (lt_of_block HX.out)).trans HX.out
              have hbw := HBW.out.trans (hbB.mono HBW.out.size)
              have g0z := (hcB bl (ol + k * 2) hbl).trans g0
              have g1z := (hcB bl (ol + k * 2 + 1) hbl).trans g1
              have hblz : bl < wB.heap.size := Nat.lt_of_lt_of_le hbl hsB
              clear hcB hsB hbB HOWN HX HBW HVL HSZ HS1 x0 x1 hxl g0 g1 hbl
              have g0 := g0z
              have g1 := g1z
              have hbl := hblz
              clear g0z g1z hblz
              have hvl := hown.lt
              have hsz := hbw.size
              have hs1 := lt_of_block hx
              generalize wB = wv2 at *
              have HOWN := Lib.hid hown; have HX := Lib.hid hx; have HBW := Lib.hid hbw; have HVL := Lib.hid hvl; have HSZ := Lib.hid hsz; have HS1 := Lib.hid hs1; clear hown hx hbw hvl hsz hs1
              have x0 := cell_of_row _ _ 0 _ _ _ HX.out
              have x1 := cell_of_row _ _ 1 _ _ _ HX.out
              simp only [List.getElem?_toArray, List.getElem?_cons_zero, List.getElem?_cons_succ] at x0 x1
              have hxl := lt_of_block HX.out
              go_upto_region 10 with fail
              have hbelc : ∀ (u : Bel wv2.heap.size wv2) b o, b < wv2.heap.size → u.wd.cell? ⟨b, o, none⟩ = wv2.cell? ⟨b, o, none⟩ := fun u b o h => u.h.cell (p := ⟨b, o, none⟩) h
              have hbeln : Nonempty (Bel wv2.heap.size wv2) := ⟨⟨wv2, Below.refl _ _⟩⟩
              refine wp_region_bel wv2.heap.size (by kernel_rfl) (by kernel_rfl) ?_
              repeat (go_big_quiet_step ((fail)))
              refine wpQuiet_nil ?_
              intro wB hB0; obtain ⟨uB, hu⟩ := hB0; have hbB0 := uB.h; rw [← hu] at hbB0; clear hu uB hbelc hbeln
              obtain ⟨hbB, hcB, hsB⟩ := bcell2 hbB0; clear hbB0
              have hown := own_keepR HOWN.out hbB
              have hx := (hbB.block _ (lt_of_block HX.out)).trans HX.out
              have hbw := HBW.out.trans (hbB.mono HBW.out.size)
              have g0z := (hcB bl (ol + k * 2) hbl).trans g0
              have g1z := (hcB bl (ol + k * 2 + 1) hbl).trans g1
              have hblz : bl < wB.heap.size := Nat.lt_of_lt_of_le hbl hsB
              clear hcB hsB hbB HOWN HX HBW HVL HSZ HS1 x0 x1 hxl g0 g1 hbl
              have g0 := g0z
              have g1 := g1z
              have hbl := hblz
              clear g0z g1z hblz
              have hvl := hown.lt
              have hsz := hbw.size
              have hs1 := lt_of_block hx
              generalize wB = wv3 at *
              have HOWN := Lib.hid hown; have HX := Lib.hid hx; have HBW := Lib.hid hbw; have HVL := Lib.hid hvl; have HSZ := Lib.hid hsz; have HS1 := Lib.hid hs1; clear hown hx hbw hvl hsz hs1
              have x0 := cell_of_row _ _ 0 _ _ _ HX.out
              have x1 := cell_of_row _ _ 1 _ _ _ HX.out
              simp only [List.getElem?_toArray, List.getElem?_cons_zero, List.getElem?_cons_succ] at x0 x1
              have hxl := lt_of_block HX.out
              go_upto_region 11 with fail
              go_region_law (first | (refine step_app1Ro_Try (by rfl) _ _ (by rfl) (w.heap.size + 1) u5 o (by rfl) (by repeat (first | exact HOWN.out | refine World.ownsRow.alloc ?_ _ | exact (World.ownsRow.alloc HOWN.out _).drew)) wv3.heap.size (y.1 + x.1, x.2) (by rfl) (heap_alloc_new _ _) (by have := HOL.out; have := HLN.out; first | omega | (simp; omega)) (by simp; have := HS1.out; omega) ?_; intro g cap w3 hown3 hgrow hat3 hlt3))
              all_goals
                have hb3 : Below w.heap.size w w3 := (HBW.out.alloc HBW.out.size _).drew.grown hgrow (by simp; have := HSZ.out; omega) (fun k' hk' => by have := (HVL.out k' hk').1; omega)
                have hx3 := (hgrow.block _ (by simp; have := HS1.out; omega) (fun h => by have := (HVL.out _ h.symm).1; omega)).trans ((Below.heap_alloc wv3 _ _ HS1.out).trans HX.out)
                clear hgrow hat3 hlt3
                have HB3 := Lib.hid hb3; have HX3 := Lib.hid hx3; have HOWN3 := Lib.hid hown3; clear hb3 hx3 hown3
                go_simp
                go_wp2
                go_roundw
                case rel => exact ⟨k + 1, o ++ [(y.1 + x.1, x.2)], true, by go_num, rfl, by omega, HG2.out, by have := HOL.out; simp; omega, HOWN3.out, HX3.out, HB3.out⟩
                case measure => simp [intOf]; omega
    · obtain rfl : k = xs.length := by omega
      have d2 : decide ((xs.length : Int) < (xs.length : Int)) = false := decide_eq_false (by omega)
      rw [List.drop_length] at hG
      have hlen9 := HLN.out
      cases dn with
      | true =>
        rw [plT_done, List.append_nil] at hG
        subst hG
        obtain ⟨A', c', rfl, hc'⟩ := own_sliceN hown
        have hrd := RdR.of_own hown (by omega)
        clear hvl
        have HOWN := Lib.hid hown; have HX := Lib.hid hx; have HBW := Lib.hid hbw; have HRD := Lib.hid hrd; have HCp := Lib.hid hc'; have HSZ := Lib.hid hsz; have HS1 := Lib.hid hs1; have HOL := Lib.hid hol; clear hown hx hbw hrd hc' hsz hs1 hol
        go_wp2
        go_ret
        exact ⟨_, _, rfl, HRD.out, HCp.out, HBW.out⟩
      | false =>
        rw [plT_end] at hG
        have HOWN := Lib.hid hown; have HX := Lib.hid hx; have HBW := Lib.hid hbw; have HVL := Lib.hid hvl; have HSZ := Lib.hid hsz; have HS1 := Lib.hid hs1; have HOL := Lib.hid hol; have HG := Lib.hid hG; clear hown hx hbw hvl hsz hs1 hol hG
        have x0 := cell_of_row _ _ 0 _ _ _ HX.out
        have x1 := cell_of_row _ _ 1 _ _ _ HX.out
        simp only [List.getElem?_toArray, List.getElem?_cons_zero, List.getElem?_cons_succ] at x0 x1
        have hxl := lt_of_block HX.out
        go_wp2_with (refine wpList_app1Ro_Try (by rfl) _ _ (by rfl) (w.heap.size + 1) u5 o (by rfl) (by repeat (first | exact HOWN.out | refine World.ownsRow.alloc ?_ _ | exact (World.ownsRow.alloc HOWN.out _).drew)) wr.heap.size x (by rfl) (heap_alloc_new _ _) (by have := HOL.out; have := HLN.out; first | omega | (simp; omega)) (by simp; have := HS1.out; omega) ?_; intro g cap w3 hown3 hgrow hat3 hlt3)
        have hb3 : Below w.heap.size w w3 := (HBW.out.alloc HBW.out.size _).grown hgrow (by simp; have := HSZ.out; omega) (fun k' hk' => by have := (HVL.out k' hk').1; omega)
        have hx3 := (hgrow.block _ (by simp; have := HS1.out; omega) (fun h => by have := (HVL.out _ h.symm).1; omega)).trans ((Below.heap_alloc wr _ _ HS1.out).trans HX.out)
        clear hgrow hat3 hlt3
        have hlen : o.length + 1 = (o ++ [x]).length := by simp
        rw [hlen] at hown3 ⊢
        clear hlen
        rw [← HG.out] at hown3 ⊢
        have hrd := RdR.of_own hown3 (by have := HOL.out; have := congrArg List.length HG.out; simp at this; omega)
        obtain ⟨A', c', e', hc'⟩ := own_sliceN hown3
        injection e' with e1 _ e3
        subst e1
        subst e3
        have HB3 := Lib.hid hb3; have HX3 := Lib.hid hx3; have HRD := Lib.hid hrd; have HCp := Lib.hid hc'; have HOWN3 := Lib.hid hown3; clear hb3 hx3 hrd hc' hown3
        go_wp2
        go_ret
        exact ⟨_, _, rfl, HRD.out, HCp.out, HB3.out⟩
end Go.Proofs.Ytlmhgcllikcedaa
/- The reference's lengths. -/
namespace Go.Proofs.Ytlmhgcllikcedaa
open Go.RowKit

set_option maxRecDepth 100000 in
set_option maxHeartbeats 4000000 in
theorem g6Square_ (a b c : Int) (p q : Int × Int) (w : World) (hl : latB a b c = false) (h1 : offP p = false) (h2 : offP q = false) :
    Calls Try.prog 68 #[.agg #[.int .i64 a, .int .i64 b, .int .i64 c], .agg #[.int .i64 p.1, .int .i64 p.2], .agg #[.int .i64 q.1, .int .i64 q.2]] w fun e w' => e = .returned (.tuple #[.int .i64 (sqN a b c p q), .int .i64 0]) ∧ Below w.heap.size w w' := by
  obtain ⟨w1, hw1⟩ : ∃ w1, w1 = ((w.alloc (.cells #[.int .i64 a, .int .i64 b, .int .i64 c] 38)).alloc (.cells #[.int .i64 p.1, .int .i64 p.2] 45)).alloc (.cells #[.int .i64 q.1, .int .i64 q.2] 45) := ⟨_, rfl⟩
  have hb1 : Below w.heap.size w w1 := by rw [hw1]; exact (((Below.refl _ _).alloc (Nat.le_refl _) _).alloc (by simp) _).alloc (by simp; omega) _
  have k0 : w1.cell? ⟨w.heap.size, 0, none⟩ = some (.int .i64 a) := by rw [hw1]; go_simp
  have k1 : w1.cell? ⟨w.heap.size, 1, none⟩ = some (.int .i64 b) := by rw [hw1]; go_simp
  have k2 : w1.cell? ⟨w.heap.size, 2, none⟩ = some (.int .i64 c) := by rw [hw1]; go_simp
  have k3 : w1.cell? ⟨w.heap.size + 1, 0, none⟩ = some (.int .i64 p.1) := by rw [hw1]; go_simp
  have k4 : w1.cell? ⟨w.heap.size + 1, 1, none⟩ = some (.int .i64 p.2) := by rw [hw1]; go_simp
  have k5 : w1.cell? ⟨w.heap.size + 2, 0, none⟩ = some (.int .i64 q.1) := by rw [hw1]; go_simp
  have k6 : w1.cell? ⟨w.heap.size + 2, 1, none⟩ = some (.int .i64 q.2) := by rw [hw1]; go_simp
  have hs1 : w.heap.size + 3 ≤ w1.heap.size := by rw [hw1]; simp
  have x0 : w.heap.size < w1.heap.size := by omega
  have x1 : w.heap.size + 1 < w1.heap.size := by omega
  have x2 : w.heap.size + 2 < w1.heap.size := by omega
  have hck := fun W => g6Check_ a b c W
  have he : latE a b c = 0 := by unfold latE; rw [hl]; rfl
  rw [he] at hck
  have hsq : sqN a b c p q = prodG a b c (stp p q) (stp p q) := rfl
  have hst := fun W => g6step_ p q W h1 h2
  have hpr : ∀ W, Calls Try.prog 105 #[.agg #[.int .i64 a, .int .i64 b, .int .i64 c], .agg #[.int .i64 (stp p q).1, .int .i64 (stp p q).2], .agg #[.int .i64 (stp p q).1, .int .i64 (stp p q).2]] W fun e w' => e = .returned (.int .i64 (sqN a b c p q)) ∧ Below W.heap.size W w' := fun W => g6Product_ a b c (stp p q) (stp p q) W hl (stp_stp h1 h2) (stp_stp h1 h2)
  generalize sqN a b c p q = N at *
  generalize (stp p q).1 = S1 at *
  generalize (stp p q).2 = S2 at *
  have HB1 := Lib.hid hb1; have HW1 := Lib.hid hw1; have HS1 := Lib.hid hs1; have HCK := Lib.hid hck; have HE := Lib.hid he; have HL := Lib.hid hl; have H1 := Lib.hid h1; have H2 := Lib.hid h2; have HST := Lib.hid hst; have HPR := Lib.hid hpr; have HSQ := Lib.hid hsq; clear hb1 hw1 hs1 hck he hl h1 h2 hst hpr hsq
  go_enter Try.func68, Try.ntmps68
  go_upto_region 1 with fail
  rw [← HW1.out]
  clear HW1
  go_wp2_with fail
  refine (HCK.out _).mono ?_
  rintro e w2 ⟨rfl, b1⟩
  have k0 := below_at b1 (Nat.le_refl _) k0
  have k1 := below_at b1 (Nat.le_refl _) k1
  have k2 := below_at b1 (Nat.le_refl _) k2
  have k3 := below_at b1 (Nat.le_refl _) k3
  have k4 := below_at b1 (Nat.le_refl _) k4
  have k5 := below_at b1 (Nat.le_refl _) k5
  have k6 := below_at b1 (Nat.le_refl _) k6
  have x0 := Nat.lt_of_lt_of_le x0 b1.size
  have x1 := Nat.lt_of_lt_of_le x1 b1.size
  have x2 := Nat.lt_of_lt_of_le x2 b1.size
  have hb2 := HB1.out.trans (b1.mono HB1.out.size)
  clear b1
  obtain ⟨w3, hw3⟩ : ∃ w3, w3 = w2.alloc (.cells #[.int .i64 p.1, .int .i64 p.2, .int .i64 q.1, .int .i64 q.2] 45) := ⟨_, rfl⟩
  have b1 : Below w2.heap.size w2 w3 := by rw [hw3]; exact (Below.refl _ _).alloc (Nat.le_refl _) _
  have hpt := g6points_ (some ⟨w2.heap.size, 0, none⟩) 2 [p, q] w3 (rdR_two (by rw [hw3]; exact heap_alloc_new _ _))
  unfold BoolPost at hpt
  have hany : [p, q].any offP = false := by simp [H1.out, H2.out]
  rw [hany] at hpt
  have hb3 := hb2.trans (b1.mono hb2.size)
  have HB3 := Lib.hid hb3; have HPT := Lib.hid hpt; have HW3 := Lib.hid hw3; have HANY := Lib.hid hany; have B1 := Lib.hid b1; have HB2 := Lib.hid hb2; clear hb3 hpt hw3 hany b1 hb2
  go_wp2_with fail
  rw [← HW3.out]
  refine HPT.out.mono ?_
  rintro e w4 ⟨rfl, b2⟩
  have b3 := B1.out.trans (b2.mono B1.out.size)
  have k0 := below_at b3 (Nat.le_refl _) k0
  have k1 := below_at b3 (Nat.le_refl _) k1
  have k2 := below_at b3 (Nat.le_refl _) k2
  have k3 := below_at b3 (Nat.le_refl _) k3
  have k4 := below_at b3 (Nat.le_refl _) k4
  have k5 := below_at b3 (Nat.le_refl _) k5
  have k6 := below_at b3 (Nat.le_refl _) k6
  have x0 := Nat.lt_of_lt_of_le x0 b3.size
  have x1 := Nat.lt_of_lt_of_le x1 b3.size
  have x2 := Nat.lt_of_lt_of_le x2 b3.size
  have hb4 := HB2.out.trans (b3.mono HB2.out.size)
  clear b2 b3
  have HB4 := Lib.hid hb4; clear hb4
  go_upto_region 3 with fail
  have hbelc : ∀ (u : Bel w4.heap.size w4) b o, b < w4.heap.size → u.wd.cell? ⟨b, o, none⟩ = w4.cell? ⟨b, o, none⟩ := fun u b o h => u.h.cell (p := ⟨b, o, none⟩) h
  have hbeln : Nonempty (Bel w4.heap.size w4) := ⟨⟨w4, Below.refl _ _⟩⟩
  refine wp_region_bel w4.heap.size (by kernel_rfl) (by kernel_rfl) ?_
  repeat (go_big_quiet_step ((first | (go_at_call 106; exact quiet_bel (Nat.le_refl _) (HST.out _)) | (go_at_call 105; exact quiet_bel (Nat.le_refl _) (HPR.out _)))))
  refine wpQuiet_nil ?_
  intro wB hB0; obtain ⟨uB, hu⟩ := hB0; have hbB0 := uB.h; rw [← hu] at hbB0; clear hu uB hbelc hbeln
  obtain ⟨hbB, hcB, hsB⟩ := bcell2 hbB0; clear hbB0
  have hb5 := HB4.out.trans (hbB.mono HB4.out.size)
  clear hbB hcB hsB
  have HB5 := Lib.hid hb5; clear hb5
  go_wp2
  go_ret2
  exact ⟨rfl, HB5.out⟩
/-- The squares along a path. -/
def sqsP (a b c : Int) : List (Int × Int) → List Int
  | [] => []
  | p :: l => sqsL a b c p l
theorem sqsP_len (a b c : Int) (ps : List (Int × Int)) : (sqsP a b c ps).length = ps.length - 1 := by
  cases ps with
  | nil => rfl
  | cons p l => show (sqsL a b c p l).length = _; rw [sqs_is]; simp
theorem sqsP_at (a b c : Int) (ps : List (Int × Int)) (k : Nat) (h : k < (sqsP a b c ps).length) : (sqsP a b c ps)[k] = sqN a b c (ps.getD k (0, 0)) (ps.getD (k + 1) (0, 0)) := by
  cases ps with
  | nil => simp [sqsP] at h
  | cons p l =>
    have e : sqsP a b c (p :: l) = (List.range l.length).map fun i => sqN a b c ((p :: l).getD i (0, 0)) ((p :: l).getD (i + 1) (0, 0)) := sqs_is a b c l p
    simp only [e, List.getElem_map, List.getElem_range]
theorem plV_step (o : List (Int × Int)) (n : Int) : plV o (nrm19 n) = stepL o n (nrt n) := by
  unfold plV nrm19 stepL
  by_cases h : 0 < n
  · obtain ⟨K, S, h1, _, h3, _⟩ := nrt_facts h
    rw [if_pos h, if_pos h, h1, if_neg (by simp; omega)]
  · rw [if_neg h, if_neg h, if_pos rfl]
/-- A sum of moderate size. -/
structure Sml (k : Nat) (o : List (Int × Int)) : Prop where
  ln : o.length ≤ k
  ps : Pos (4000000 * k) o
theorem nrt_mod {n : Int} (h0 : 0 < n) (h1 : n ≤ 10000000000000) : 0 < (nrt n).1 ∧ (nrt n).1 ≤ 4000000 := by
  obtain ⟨K, S, h2, h3, h4, h5⟩ := nrt_facts h0
  rw [h2]
  refine ⟨by simp; omega, ?_⟩
  have h6 := h3.1
  have h7 : K * K ≤ K * K * S := Nat.le_mul_of_pos_right _ h5
  rcases Nat.lt_or_ge K 4000000 with h | h
  · simp; omega
  · have := Nat.mul_le_mul h h
    omega
theorem Sml.step {k : Nat} {o : List (Int × Int)} (h : Sml k o) {n : Int} (hn : n ≤ 10000000000000) : Sml (k + 1) (stepL o n (nrt n)) := by
  unfold stepL
  split
  · rename_i h0
    have hm := nrt_mod h0 hn
    refine ⟨by have := mg_len 1 o [nrt n]; have := h.ln; simp at *; omega, ?_⟩
    have hp : Pos 4000000 [nrt n] := fun x hx => by rw [List.mem_singleton.1 hx]; exact hm
    have := mg_pos (X := 4000000 * k) (Y := 4000000) (by omega) (by omega) o [nrt n] h.ps hp
    rw [show (4000000 : Int) * ((k + 1 : Nat) : Int) = 4000000 * (k : Int) + 4000000 by omega]
    exact this
  · exact ⟨by have := h.ln; omega, fun x hx => by have := h.ps x hx; omega⟩
theorem lenF_sml : ∀ (l : List Int) (o : List (Int × Int)) (k : Nat), (∀ n ∈ l, n ≤ 10000000000000) → Sml k o → Sml (k + l.length) (lenF l o)
  | [], o, k, _, h => h
  | n :: l, o, k, hn, h => by
    have := lenF_sml l (stepL o n (nrt n)) (k + 1) (fun m hm => hn m (List.mem_cons_of_mem _ hm)) (h.step (hn n (List.mem_cons_self ..)))
    rw [lenF, List.length_cons, show k + (l.length + 1) = k + 1 + l.length by omega]
    exact this
set_option maxRecDepth 100000 in
set_option maxHeartbeats 8000000 in
theorem rlength19_ (A : Option Addr) (d : Nat) (a b c : Int) (ps : List (Int × Int)) (w : World) (hr : RdR w A ps) (hl : latB a b c = false) (hp : ps.any offP = false) (hs : ∀ n ∈ sqsP a b c ps, n ≤ 10000000000000) (hn : ps.length ≤ 1000) :
    Calls Try.prog 69 #[.agg #[.int .i64 a, .int .i64 b, .int .i64 c], .slice A ps.length d] w (MgPost (lenF (sqsP a b c ps) []) w) := by
  have hb : Below w.heap.size w (w.alloc (.cells #[.int .i64 a, .int .i64 b, .int .i64 c] 38)) := (Below.refl _ _).alloc (Nat.le_refl _) _
  have hx := heap_alloc_new w (.cells #[.int .i64 a, .int .i64 b, .int .i64 c] 38)
  have hpt := fun i => offP_getD hp i
  have hlen := sqsP_len a b c ps
  have hat := sqsP_at a b c ps
  have hsq0 : ∀ n ∈ sqsP a b c ps, 0 ≤ n := fun n h => by
    obtain ⟨k, hk, rfl⟩ := List.getElem_of_mem h
    rw [hat k hk]
    exact sq_nonneg hl _ _
  obtain ⟨G, hG⟩ : ∃ G, G = lenF (sqsP a b c ps) [] := ⟨_, rfl⟩
  rw [← hG]
  have hsm := fun k => lenF_sml ((sqsP a b c ps).take k) [] 0 (fun n hn => hs n (List.mem_of_mem_take hn)) ⟨Nat.zero_le _, fun x hx => by cases hx⟩
  have hat2 : ∀ k (h : k < (sqsP a b c ps).length), sqN a b c (ps.getD k (0, 0)) (ps.getD (k + 1) (0, 0)) ≤ 10000000000000 ∧ 0 ≤ sqN a b c (ps.getD k (0, 0)) (ps.getD (k + 1) (0, 0)) := fun k h => by
    rw [← hat k h]
    exact ⟨hs _ (List.getElem_mem _), hsq0 _ (List.getElem_mem _)⟩
  have htk : ∀ k (h : k < (sqsP a b c ps).length), lenF ((sqsP a b c ps).take (k + 1)) [] = plV (lenF ((sqsP a b c ps).take k) []) (nrm19 (sqN a b c (ps.getD k (0, 0)) (ps.getD (k + 1) (0, 0)))) := fun k h => by
    rw [lenF_take h, plV_step, hat k h]
  clear hs hsq0 hat hp
  generalize sqsP a b c ps = sq at *
  have HR := Lib.hid hr; have HL := Lib.hid hl; have HPT := Lib.hid hpt; have HLEN := Lib.hid hlen; have HG := Lib.hid hG; have HSM := Lib.hid hsm; have HAT2 := Lib.hid hat2; have HTK := Lib.hid htk; have HB := Lib.hid hb; have HX := Lib.hid hx; have HN := Lib.hid hn; clear hr hl hpt hlen hG hsm hat2 htk hb hx hn
  go_enter Try.func69, Try.ntmps69
  go_wp2
  go_loopw [5, 6, 7, 8] (fun ov iv _ _ wr => ∃ (i : Nat) (B : Option Addr) (e : Nat), iv = .int .i64 (i : Int) ∧ 1 ≤ i ∧ i ≤ sq.length + 1 ∧ ov = .slice B (lenF (sq.take (i - 1)) []).length e ∧ RdR wr B (lenF (sq.take (i - 1)) []) ∧ (lenF (sq.take (i - 1)) []).length ≤ e ∧ wr.heap[w.heap.size]? = some (.cells #[.int .i64 a, .int .i64 b, .int .i64 c] 38 (0, 0)) ∧ Below w.heap.size w wr) (fun _ iv _ _ _ => sq.length + 1 - (intOf iv).toNat)
  case atStart => exact ⟨1, none, 0, rfl, Nat.le_refl _, by omega, rfl, ⟨by simp [lenF], fun h => by simp [lenF] at h⟩, Nat.zero_le _, HX.out, HB.out⟩
  case round =>
    clear HX HB
    obtain ⟨i, B, e, rfl, hi1, hi2, rfl, hro, hce, hx, hbw⟩ := hrel
    obtain ⟨k, hki⟩ : ∃ k, k = i - 1 := ⟨_, rfl⟩
    rw [← hki] at hro hce ⊢
    have hik : i = k + 1 := by omega
    by_cases hlt : k < sq.length
    · have hkl : k + 1 < ps.length := by have := HLEN.out; omega
      have q1 : (0 : Int) ≤ (i : Int) := by omega
      have q2 : (i : Int) < (ps.length : Int) := by omega
      have d2 : decide ((i : Int) < (ps.length : Int)) = true := decide_eq_true q2
      have hn9 := HN.out
      have q3 : IntKind.i64.wrap ((i : Int) + 1) = ((i + 1 : Nat) : Int) := by rw [IntWalk.i64_in _ (by omega)]; omega
      have q4 : IntKind.i64.wrap ((i : Int) - 1) = (k : Int) := by rw [IntWalk.i64_in _ (by omega)]; omega
      have q5 : (0 : Int) ≤ (k : Int) := by omega
      have q6 : (k : Int) < (ps.length : Int) := by omega
      obtain ⟨bl, ol, rfl, hbl, hc⟩ := (HR.out.later hbw (Nat.le_refl _)).all (by omega)
      obtain ⟨g0, g1⟩ := hc k (by omega)
      obtain ⟨g2, g3⟩ := hc i (by omega)
      have hsq := fun W => g6Square_ a b c (ps.getD k (0, 0)) (ps.getD i (0, 0)) W HL.out (HPT.out k) (HPT.out i)
      obtain ⟨n1, n2⟩ := HAT2.out k hlt
      have htk := HTK.out k hlt
      have hsmk := HSM.out k
      rw [← hik] at n1 n2 htk
      generalize sqN a b c (ps.getD k (0, 0)) (ps.getD i (0, 0)) = Nn at *
      have hnm := fun W => rNormal_ Nn W n2 n1
      have hr1 : -1000000000000000000 ≤ (nrm19 Nn).1 ∧ (nrm19 Nn).1 ≤ 1000000000000000000 := by
        unfold nrm19
        split
        · rename_i h0
          have := nrt_mod h0 n1
          omega
        · decide
      generalize (ps.getD k (0, 0)).1 = P1 at *
      generalize (ps.getD k (0, 0)).2 = P2 at *
      generalize (ps.getD i (0, 0)).1 = Q1 at *
      generalize (ps.getD i (0, 0)).2 = Q2 at *
      generalize nrm19 Nn = R at *
      have hmd : Med (lenF (sq.take k) []) := fun x hx => by
        have := hsmk.ps x hx
        have hl9 : (sq.take k).length ≤ k := by simp; omega
        omega
      have hln9 : (lenF (sq.take k) []).length ≤ 400000 := by
        have := hsmk.ln
        have hl9 : (sq.take k).length ≤ k := by simp; omega
        omega
      generalize lenF (sq.take k) [] = acc at *
      clear hc hsmk
      have x0 := cell_of_row _ _ 0 _ _ _ hx
      have x1 := cell_of_row _ _ 1 _ _ _ hx
      have x2 := cell_of_row _ _ 2 _ _ _ hx
      simp only [List.getElem?_toArray, List.getElem?_cons_zero, List.getElem?_cons_succ] at x0 x1 x2
      have hxl := lt_of_block hx
      obtain ⟨wq, hwq⟩ : ∃ wq, wq = wr := ⟨_, rfl⟩
      clear hwq
      have HRO := Lib.hid hro; have HCE := Lib.hid hce; have HX := Lib.hid hx; have HBW := Lib.hid hbw; have HSQ := Lib.hid hsq; have HTK := Lib.hid htk; have HNM := Lib.hid hnm; have HR1 := Lib.hid hr1; have HMD := Lib.hid hmd; have HLN9 := Lib.hid hln9; have N1 := Lib.hid n1; have N2 := Lib.hid n2; have HN9 := Lib.hid hn9; have HKI := Lib.hid hki; have HIK := Lib.hid hik; have HI1 := Lib.hid hi1; have HI2 := Lib.hid hi2; have HLT := Lib.hid hlt; have HKL := Lib.hid hkl; clear hro hce hx hbw hsq htk hnm hr1 hmd hln9 n1 n2 hn9 hki hik hi1 hi2 hlt hkl
      go_upto_region 5 with fail
      have hbelc : ∀ (u : Bel wr.heap.size wr) b o, b < wr.heap.size → u.wd.cell? ⟨b, o, none⟩ = wr.cell? ⟨b, o, none⟩ := fun u b o h => u.h.cell (p := ⟨b, o, none⟩) h
      have hbeln : Nonempty (Bel wr.heap.size wr) := ⟨⟨wr, Below.refl _ _⟩⟩
      refine wp_region_bel wr.heap.size (by kernel_rfl) (by kernel_rfl) ?_
      repeat (go_big_quiet_step ((go_at_call 68; exact quiet_bel (Nat.le_refl _) (HSQ.out _))))
      refine wpQuiet_nil ?_
      intro wB hB0; obtain ⟨uB, hu⟩ := hB0; have hbB0 := uB.h; rw [← hu] at hbB0; clear hu uB hbelc hbeln
      obtain ⟨hbB, hcB, hsB⟩ := bcell2 hbB0; clear hbB0
      have hro2 := HRO.out.later hbB (Nat.le_refl _)
      have hx2 := (hbB.block _ (lt_of_block HX.out)).trans HX.out
      have hb2 := HBW.out.trans (hbB.mono HBW.out.size)
      clear hbB hcB hsB x0 x1 x2 hxl g0 g1 g2 g3 hbl
      have HRO2 := Lib.hid hro2; have HX2 := Lib.hid hx2; have HB2 := Lib.hid hb2; clear hro2 hx2 hb2
      go_wp2_with fail
      refine (HNM.out _).mono ?_
      rintro e2 w3 ⟨rfl, b1⟩
      have hro3 := HRO2.out.later b1 (Nat.le_refl _)
      have hx3 := (b1.block _ (lt_of_block HX2.out)).trans HX2.out
      have hb3 := HB2.out.trans (b1.mono HB2.out.size)
      clear b1
      have hpl := rPlusR_ B e acc R w3 hro3 HMD.out HR1.out HLN9.out
      have HX3 := Lib.hid hx3; have HB3 := Lib.hid hb3; have HPL := Lib.hid hpl; clear hx3 hb3 hpl
      go_wp2_with fail
      refine HPL.out.mono ?_
      rintro e3 w4 ⟨B2, c2, rfl, hro4, hc4, b1⟩
      have hx4 := (b1.block _ (lt_of_block HX3.out)).trans HX3.out
      have hb4 := HB3.out.trans (b1.mono HB3.out.size)
      clear b1
      rw [← HTK.out] at hro4 hc4 ⊢
      have HX4 := Lib.hid hx4; have HB4 := Lib.hid hb4; have HRO4 := Lib.hid hro4; have HC4 := Lib.hid hc4; clear hx4 hb4 hro4 hc4
      go_wp2
      go_roundw
      case rel => exact ⟨i + 1, B2, c2, by go_num, by omega, by have := HIK.out; have := HLT.out; omega, rfl, HRO4.out, HC4.out, HX4.out, HB4.out⟩
      case measure => have := HIK.out; have := HLT.out; simp [intOf]; omega
    · obtain rfl : k = sq.length := by omega
      have d2 : decide ((i : Int) < (ps.length : Int)) = false := decide_eq_false (by have := HLEN.out; omega)
      rw [List.take_length, ← HG.out] at hro hce ⊢
      have x9 : ¬ (i : Int) < (ps.length : Int) := by have := HLEN.out; omega
      have HRO := Lib.hid hro; have HCE := Lib.hid hce; have HX := Lib.hid hx; have HBW := Lib.hid hbw; have HKI := Lib.hid hki; have HIK := Lib.hid hik; have HI1 := Lib.hid hi1; have HI2 := Lib.hid hi2; clear hro hce hx hbw hki hik hi1 hi2
      go_wp2
      trace_state
      go_ret
      exact ⟨_, _, rfl, HRO.out, HCE.out, HBW.out⟩
end Go.Proofs.Ytlmhgcllikcedaa
/- The reference's Length. -/
namespace Go.Proofs.Ytlmhgcllikcedaa
open Go.RowKit

/-- Length's answer, as the reference looks for it. -/
theorem lenR_ref (a b c : Int) (ps : List (Int × Int)) : lenR a b c ps = if 500 < ps.length then ([], 3) else if latB a b c = true then ([], 2) else if ps.any offP = true then ([], 2)
    else if (sqsP a b c ps).any (fun n => decide (1000000000000 < n)) = true then ([], 7) else if 64 < (lenF (sqsP a b c ps) []).length then ([], 3) else (lenF (sqsP a b c ps) [], 0) := by
  have h1 : (sqsK a b c ps ps.length).any (fun n => decide (1000000000000 < n)) = (sqsP a b c ps).any (fun n => decide (1000000000000 < n)) := by
    cases ps with
    | nil => rfl
    | cons p l => rw [sqsK_cons, List.any_cons]; rfl
  have h2 : lenF (sqsK a b c ps ps.length) [] = lenF (sqsP a b c ps) [] := by
    cases ps with
    | nil => rfl
    | cons p l =>
      rw [sqsK_cons, lenF]
      have : stepL [] 0 (nrt 0) = [] := by unfold stepL; rw [if_neg (by decide)]
      rw [this]
      rfl
  unfold lenR
  rw [h1, h2]
def LnPost (r : List (Int × Int) × Int) (w : World) (e : Ending) (w' : World) : Prop := ∃ A c, e = .returned (.tuple #[.slice A r.1.length c, .int .i64 r.2]) ∧ RdR w' A r.1 ∧ Below w.heap.size w w'
theorem LnPost.bad {r : List (Int × Int) × Int} {x : Int} {w w' : World} (h : r = ([], x)) (hb : Below w.heap.size w w') : LnPost r w (.returned (.tuple #[.slice none 0 0, .int .i64 x])) w' := by
  subst h; exact ⟨none, 0, rfl, ⟨by simp, fun h => by simp at h⟩, hb⟩
set_option maxRecDepth 100000 in
set_option maxHeartbeats 8000000 in
theorem rLength19_ (A : Option Addr) (d : Nat) (a b c : Int) (ps : List (Int × Int)) (w : World) (hr : RdR w A ps) :
    Calls Try.prog 23 #[.agg #[.int .i64 a, .int .i64 b, .int .i64 c], .slice A ps.length d] w (LnPost (lenR a b c ps) w) := by
  have hln := hr.1
  have hb : Below w.heap.size w (w.alloc (.cells #[.int .i64 a, .int .i64 b, .int .i64 c] 38)) := (Below.refl _ _).alloc (Nat.le_refl _) _
  have hx := heap_alloc_new w (.cells #[.int .i64 a, .int .i64 b, .int .i64 c] 38)
  have hres0 := lenR_ref a b c ps
  generalize lenR a b c ps = res at *
  by_cases h500 : 500 < ps.length
  · rw [if_pos h500] at hres0
    have f1 : decide ((500 : Int) < (ps.length : Int)) = true := decide_eq_true (by omega)
    have HR := Lib.hid hr; have HB := Lib.hid hb; have HX := Lib.hid hx; have HRES0 := Lib.hid hres0; clear hr hb hx hres0
    go_enter Try.func23, Try.ntmps23
    go_wp2
    go_ret2
    exact LnPost.bad HRES0.out HB.out
  rw [if_neg h500] at hres0
  have f1 : decide ((500 : Int) < (ps.length : Int)) = false := decide_eq_false (by omega)
  have hck := fun W => g6Check_ a b c W
  have he : latE a b c = if latB a b c = true then 2 else 0 := rfl
  cases hlat : latB a b c with
  | true =>
    rw [hlat, if_pos rfl] at he
    rw [he] at hck
    rw [hlat, if_pos rfl] at hres0
    have HR := Lib.hid hr; have HB := Lib.hid hb; have HX := Lib.hid hx; have HRES0 := Lib.hid hres0; have HCK := Lib.hid hck; have HE := Lib.hid he; have HLAT := Lib.hid hlat; clear hr hb hx hres0 hck he hlat
    go_enter Try.func23, Try.ntmps23
    go_wp2_with fail
    refine (HCK.out _).mono ?_
    rintro e w1 ⟨rfl, b1⟩
    have hb1 := HB.out.trans (b1.mono HB.out.size)
    clear b1
    have HB1 := Lib.hid hb1; clear hb1
    go_wp2
    go_ret2
    exact LnPost.bad HRES0.out HB1.out
  | false =>
  rw [hlat, if_neg (by decide)] at he
  rw [he] at hck
  rw [hlat, if_neg (by decide)] at hres0
  have h500 : ps.length ≤ 500 := by omega
  have HR := Lib.hid hr; have HB := Lib.hid hb; have HX := Lib.hid hx; have HRES0 := Lib.hid hres0; have HCK := Lib.hid hck; have HE := Lib.hid he; have HLAT := Lib.hid hlat; have H500 := Lib.hid h500; clear hr hb hx hres0 hck he hlat h500
  go_enter Try.func23, Try.ntmps23
  go_wp2_with fail
  refine (HCK.out _).mono ?_
  rintro e w1 ⟨rfl, b1⟩
  have hx1 := (b1.block _ (lt_of_block HX.out)).trans HX.out
  have hb1 := HB.out.trans (b1.mono HB.out.size)
  clear b1 f1
  have HX1 := Lib.hid hx1; have HB1 := Lib.hid hb1; clear hx1 hb1
  go_wp2
  go_loopw [6] (fun iv wr => ∃ k : Nat, iv = .int .i64 (k : Int) ∧ k ≤ ps.length ∧ (ps.take k).any offP = false ∧ Below w1.heap.size w1 wr) (fun iv _ => ps.length - (intOf iv).toNat)
  case atStart => exact ⟨0, rfl, Nat.zero_le _, rfl, Below.refl _ _⟩
  case round =>
    obtain ⟨k, rfl, hk, hno, hbx⟩ := hrel
    have hbw := HB1.out.trans (hbx.mono HB1.out.size)
    by_cases hlt : k < ps.length
    · have q1 : (0 : Int) ≤ (k : Int) := by omega
      have q2 : (k : Int) < (ps.length : Int) := by omega
      have d2 : decide ((k : Int) < (ps.length : Int)) = true := decide_eq_true q2
      have q3 : IntKind.i64.wrap ((k : Int) + 1) = ((k + 1 : Nat) : Int) := by rw [IntWalk.i64_in _ (by omega)]; omega
      obtain ⟨bl, ol, rfl, hbl, g0, g1⟩ := (HR.out.later hbw (Nat.le_refl _)).at_ hlt
      have hnx : (ps.take (k + 1)).any offP = offP ps[k] := by
        rw [List.take_succ_eq_append_getElem hlt, List.any_append, hno]; simp
      have hall : offP ps[k] = true → ps.any offP = true := fun h => List.any_eq_true.2 ⟨_, List.getElem_mem _, h⟩
      have hS := fun W => g6Point_ ps[k] W
      generalize hp : offP ps[k] = P at *
      generalize ps[k].1 = X at *
      generalize ps[k].2 = Y at *
      cases P with
      | true =>
        have hres := HRES0.out
        rw [if_pos (hall rfl)] at hres
        have HNO := Lib.hid hno; have HBX := Lib.hid hbx; have HBW := Lib.hid hbw; have HNX := Lib.hid hnx; have HALL := Lib.hid hall; have HS := Lib.hid hS; have HP := Lib.hid hp; have HRES := Lib.hid hres; clear hno hbx hbw hnx hall hS hp hres
        go_wp2_with fail
        refine (HS.out _).mono ?_
        rintro e w2 ⟨rfl, b1⟩
        have hb2 := HBW.out.trans (b1.mono HBW.out.size)
        clear b1
        have HB2 := Lib.hid hb2; clear hb2
        go_wp2
        go_ret2
        exact LnPost.bad HRES.out HB2.out
      | false =>
        have HNO := Lib.hid hno; have HBX := Lib.hid hbx; have HBW := Lib.hid hbw; have HNX := Lib.hid hnx; have HALL := Lib.hid hall; have HS := Lib.hid hS; have HP := Lib.hid hp; clear hno hbx hbw hnx hall hS hp
        go_wp2_with fail
        refine (HS.out _).mono ?_
        rintro e w2 ⟨rfl, b1⟩
        have hb2 := HBX.out.trans (b1.mono HBX.out.size)
        clear b1
        have HB2 := Lib.hid hb2; clear hb2
        go_wp2
        go_roundw
        case rel => exact ⟨k + 1, by go_num, by omega, HNX.out, HB2.out⟩
        case measure => simp [intOf]; omega
    · obtain rfl : k = ps.length := by omega
      rw [List.take_length] at hno
      have d2 : decide ((ps.length : Int) < (ps.length : Int)) = false := decide_eq_false (by omega)
      have hres1 := HRES0.out
      rw [if_neg (by rw [hno]; decide)] at hres1
      have hx2 := (hbx.block _ (lt_of_block HX1.out)).trans HX1.out
      have hlen := sqsP_len a b c ps
      have hat := sqsP_at a b c ps
      have hpt := fun i => offP_getD hno i
      have hsqall : (sqsP a b c ps).any (fun n => decide (1000000000000 < n)) = false → ∀ W, RdR W A ps → Calls Try.prog 69 #[.agg #[.int .i64 a, .int .i64 b, .int .i64 c], .slice A ps.length d] W (MgPost (lenF (sqsP a b c ps) []) W) := fun h W hR => rlength19_ A d a b c ps W hR HLAT.out hno (fun n hn => by
        have := List.any_eq_false.1 h n hn
        simp at this
        omega) (by have := H500.out; omega)
      obtain ⟨L, hL⟩ : ∃ L, L = lenF (sqsP a b c ps) [] := ⟨_, rfl⟩
      rw [← hL] at hres1 hsqall
      obtain ⟨w2, rfl⟩ : ∃ w2, w2 = wr := ⟨_, rfl⟩
      clear hbx
      generalize sqsP a b c ps = sq at *
      have HNO := Lib.hid hno; have HBW := Lib.hid hbw; have HRES1 := Lib.hid hres1; have HX2 := Lib.hid hx2; have HLEN := Lib.hid hlen; have HAT := Lib.hid hat; have HPT := Lib.hid hpt; have HSQALL := Lib.hid hsqall; have HL := Lib.hid hL; clear hno hbw hres1 hx2 hlen hat hpt hsqall hL
      go_wp2
      go_loopw [7, 8, 9] (fun iv _ _ wr => ∃ i : Nat, iv = .int .i64 (i : Int) ∧ 1 ≤ i ∧ i ≤ sq.length + 1 ∧ (sq.take (i - 1)).any (fun n => decide (1000000000000 < n)) = false ∧ Below w2.heap.size w2 wr) (fun iv _ _ _ => sq.length + 1 - (intOf iv).toNat)
      case atStart => exact ⟨1, rfl, Nat.le_refl _, by omega, rfl, Below.refl _ _⟩
      case round =>
        obtain ⟨i, rfl, hi1, hi2, hno2, hbx⟩ := hrel
        have hbv := HBW.out.trans (hbx.mono HBW.out.size)
        have hx3 := (hbx.block _ (lt_of_block HX2.out)).trans HX2.out
        have x0 := cell_of_row _ _ 0 _ _ _ hx3
        have x1 := cell_of_row _ _ 1 _ _ _ hx3
        have x2 := cell_of_row _ _ 2 _ _ _ hx3
        simp only [List.getElem?_toArray, List.getElem?_cons_zero, List.getElem?_cons_succ] at x0 x1 x2
        have hxl := lt_of_block hx3
        obtain ⟨k, hki⟩ : ∃ k, k = i - 1 := ⟨_, rfl⟩
        rw [← hki] at hno2
        have hik : i = k + 1 := by omega
        by_cases hlt : k < sq.length
        · have hkl : k + 1 < ps.length := by have := HLEN.out; omega
          have q1 : (0 : Int) ≤ (i : Int) := by omega
          have q2 : (i : Int) < (ps.length : Int) := by omega
          have d2 : decide ((i : Int) < (ps.length : Int)) = true := decide_eq_true q2
          have hn9 := H500.out
          have q3 : IntKind.i64.wrap ((i : Int) + 1) = ((i + 1 : Nat) : Int) := by rw [IntWalk.i64_in _ (by omega)]; omega
          have q4 : IntKind.i64.wrap ((i : Int) - 1) = (k : Int) := by rw [IntWalk.i64_in _ (by omega)]; omega
          have q5 : (0 : Int) ≤ (k : Int) := by omega
          have q6 : (k : Int) < (ps.length : Int) := by omega
          obtain ⟨bl, ol, rfl, hbl, hc⟩ := (HR.out.later hbv (Nat.le_refl _)).all (by omega)
          obtain ⟨g0, g1⟩ := hc k (by omega)
          obtain ⟨g2, g3⟩ := hc i (by omega)
          have hsq := fun W => g6Square_ a b c (ps.getD k (0, 0)) (ps.getD i (0, 0)) W HLAT.out (HPT.out k) (HPT.out i)
          have hatk := HAT.out k hlt
          rw [← hik] at hatk
          have hnx : (sq.take (k + 1)).any (fun n => decide (1000000000000 < n)) = decide (1000000000000 < sq[k]) := by
            rw [List.take_succ_eq_append_getElem hlt, List.any_append, hno2]; simp
          have hall : decide (1000000000000 < sq[k]) = true → sq.any (fun n => decide (1000000000000 < n)) = true := fun h => List.any_eq_true.2 ⟨_, List.getElem_mem _, h⟩
          rw [hatk] at hnx hall
          clear hatk
          generalize sqN a b c (ps.getD k (0, 0)) (ps.getD i (0, 0)) = Nn at *
          generalize (ps.getD k (0, 0)).1 = P1 at *
          generalize (ps.getD k (0, 0)).2 = P2 at *
          generalize (ps.getD i (0, 0)).1 = Q1 at *
          generalize (ps.getD i (0, 0)).2 = Q2 at *
          clear hc
          by_cases hbig : 1000000000000 < Nn
          · have d5 : decide (1000000000000 < Nn) = true := decide_eq_true hbig
            have hres := HRES1.out
            rw [if_pos (hall d5)] at hres
            have HNO2 := Lib.hid hno2; have HBX := Lib.hid hbx; have HBV := Lib.hid hbv; have HX3 := Lib.hid hx3; have HSQ := Lib.hid hsq; have HNX := Lib.hid hnx; have HALL := Lib.hid hall; have HKI := Lib.hid hki; have HIK := Lib.hid hik; have HI1 := Lib.hid hi1; have HI2 := Lib.hid hi2; have HLT := Lib.hid hlt; have HKL := Lib.hid hkl; have HN9 := Lib.hid hn9; have HRES := Lib.hid hres; have HBIG := Lib.hid hbig; clear hno2 hbx hbv hx3 hsq hnx hall hki hik hi1 hi2 hlt hkl hn9 hres hbig
            go_upto_region 13 with fail
            have hbelc : ∀ (u : Bel wr.heap.size wr) b o, b < wr.heap.size → u.wd.cell? ⟨b, o, none⟩ = wr.cell? ⟨b, o, none⟩ := fun u b o h => u.h.cell (p := ⟨b, o, none⟩) h
            have hbeln : Nonempty (Bel wr.heap.size wr) := ⟨⟨wr, Below.refl _ _⟩⟩
            refine wp_region_bel wr.heap.size (by kernel_rfl) (by kernel_rfl) ?_
            repeat (go_big_quiet_step ((go_at_call 68; exact quiet_bel (Nat.le_refl _) (HSQ.out _))))
            refine wpQuiet_nil ?_
            intro wB hB0; obtain ⟨uB, hu⟩ := hB0; have hbB0 := uB.h; rw [← hu] at hbB0; clear hu uB hbelc hbeln
            obtain ⟨hbB, hcB, hsB⟩ := bcell2 hbB0; clear hbB0
            have hb3 := HBV.out.trans (hbB.mono HBV.out.size)
            clear hbB hcB hsB
            have HB3 := Lib.hid hb3; clear hb3
            go_wp2
            go_ret2
            exact LnPost.bad HRES.out HB3.out
          · have d5 : decide (1000000000000 < Nn) = false := decide_eq_false hbig
            rw [d5] at hnx
            have HNO2 := Lib.hid hno2; have HBX := Lib.hid hbx; have HBV := Lib.hid hbv; have HX3 := Lib.hid hx3; have HSQ := Lib.hid hsq; have HNX := Lib.hid hnx; have HALL := Lib.hid hall; have HKI := Lib.hid hki; have HIK := Lib.hid hik; have HI1 := Lib.hid hi1; have HI2 := Lib.hid hi2; have HLT := Lib.hid hlt; have HKL := Lib.hid hkl; have HN9 := Lib.hid hn9; have HBIG := Lib.hid hbig; clear hno2 hbx hbv hx3 hsq hnx hall hki hik hi1 hi2 hlt hkl hn9 hbig
            go_upto_region 13 with fail
            have hbelc : ∀ (u : Bel wr.heap.size wr) b o, b < wr.heap.size → u.wd.cell? ⟨b, o, none⟩ = wr.cell? ⟨b, o, none⟩ := fun u b o h => u.h.cell (p := ⟨b, o, none⟩) h
            have hbeln : Nonempty (Bel wr.heap.size wr) := ⟨⟨wr, Below.refl _ _⟩⟩
            refine wp_region_bel wr.heap.size (by kernel_rfl) (by kernel_rfl) ?_
            repeat (go_big_quiet_step ((go_at_call 68; exact quiet_bel (Nat.le_refl _) (HSQ.out _))))
            refine wpQuiet_nil ?_
            intro wB hB0; obtain ⟨uB, hu⟩ := hB0; have hbB0 := uB.h; rw [← hu] at hbB0; clear hu uB hbelc hbeln
            obtain ⟨hbB, hcB, hsB⟩ := bcell2 hbB0; clear hbB0
            have hb3 := HBX.out.trans (hbB.mono HBX.out.size)
            clear hbB hcB hsB
            have HB3 := Lib.hid hb3; clear hb3
            go_wp2
            go_roundw
            case rel => exact ⟨i + 1, by go_num, by omega, by have := HIK.out; have := HLT.out; omega, by rw [Nat.add_sub_cancel, HIK.out]; exact HNX.out, HB3.out⟩
            case measure => have := HIK.out; have := HLT.out; simp [intOf]; omega
        · obtain rfl : k = sq.length := by omega
          rw [List.take_length] at hno2
          have hno3 := hno2
          have d2 : decide ((i : Int) < (ps.length : Int)) = false := decide_eq_false (by have := HLEN.out; omega)
          have x9 : ¬ (i : Int) < (ps.length : Int) := by have := HLEN.out; omega
          have hres2 := HRES1.out
          rw [if_neg (by rw [hno2]; decide)] at hres2
          have hcall := HSQALL.out hno2 wr (HR.out.later hbv (Nat.le_refl _))
          have HNO2 := Lib.hid hno2; have HBX := Lib.hid hbx; have HBV := Lib.hid hbv; have HX3 := Lib.hid hx3; have HKI := Lib.hid hki; have HIK := Lib.hid hik; have HI1 := Lib.hid hi1; have HI2 := Lib.hid hi2; have HRES2 := Lib.hid hres2; have HCALL := Lib.hid hcall; have HNO3 := Lib.hid hno3; clear hno2 hbx hbv hx3 hki hik hi1 hi2 hres2 hcall hno3
          go_wp2_with fail
          refine HCALL.out.mono ?_
          rintro e w3 ⟨B, c3, rfl, hro, _, b1⟩
          have hb3 := HBV.out.trans (b1.mono HBV.out.size)
          clear b1 x0 x1 x2 hxl
          by_cases h64 : 64 < L.length
          · have f1 : decide ((64 : Int) < (L.length : Int)) = true := decide_eq_true (by omega)
            have hres := HRES2.out
            rw [if_pos h64] at hres
            have HRO := Lib.hid hro; have HB3 := Lib.hid hb3; have HRES := Lib.hid hres; clear hro hb3 hres
            go_wp2
            go_ret2
            exact LnPost.bad HRES.out HB3.out
          · have f1 : decide ((64 : Int) < (L.length : Int)) = false := decide_eq_false (by omega)
            have hres := HRES2.out
            rw [if_neg h64] at hres
            have HRO := Lib.hid hro; have HB3 := Lib.hid hb3; have HRES := Lib.hid hres; clear hro hb3 hres
            go_wp2
            go_ret2
            rw [HRES.out]
            exact ⟨_, _, rfl, HRO.out, HB3.out⟩
end Go.Proofs.Ytlmhgcllikcedaa
/- The law TensionLengths, walked. -/
namespace Go.Proofs.Ytlmhgcllikcedaa
open Go.RowKit

def farP (n : Nat) : Bool := (decide (15 < n) && decide (n ≤ 500)) || decide (510 < n)
set_option maxRecDepth 100000 in
set_option maxHeartbeats 8000000 in
theorem lawLengths_ (A : Option Addr) (d : Nat) (a b c : Int) (ps : List (Int × Int)) (w : World) (hr : RdR w A ps) :
    Calls Try.prog 5 #[.agg #[.int .i64 a, .int .i64 b, .int .i64 c], .slice A ps.length d] w fun e w' => e = .returned (.bool true) ∧ Below w.heap.size w w' := by
  have hln := hr.1
  have haw := fun W => awake19_ W
  have hb : Below w.heap.size w (w.alloc (.cells #[.int .i64 a, .int .i64 b, .int .i64 c] 38)) := (Below.refl _ _).alloc (Nat.le_refl _) _
  have hx := heap_alloc_new w (.cells #[.int .i64 a, .int .i64 b, .int .i64 c] 38)
  have far : ∀ (h : farP ps.length = true), Calls Try.prog 5 #[.agg #[.int .i64 a, .int .i64 b, .int .i64 c], .slice A ps.length d] w fun e w' => e = .returned (.bool true) ∧ Below w.heap.size w w' := fun h => by
    unfold farP at h
    by_cases h1 : 15 < ps.length
    · have d1 : decide ((15 : Int) < (ps.length : Int)) = true := decide_eq_true (by omega)
      by_cases h2 : ps.length ≤ 500
      · have d2 : decide ((ps.length : Int) ≤ 500) = true := decide_eq_true (by omega)
        have HR := Lib.hid hr; have HLN := Lib.hid hln; have HAW := Lib.hid haw; have HB := Lib.hid hb; have HX := Lib.hid hx; have H := Lib.hid h; clear hr hln haw hb hx h
        go_enter Try.func5, Try.ntmps5
        go_wp2_with fail
        refine (HAW.out _).mono ?_
        rintro e w1 ⟨rfl, b1⟩
        have hb1 := HB.out.trans (b1.mono HB.out.size)
        clear b1
        have HB1 := Lib.hid hb1; clear hb1
        go_wp2
        go_ret
        exact ⟨rfl, HB1.out⟩
      · have d2 : decide ((ps.length : Int) ≤ 500) = false := decide_eq_false (by omega)
        have h3 : 510 < ps.length := by simp at h; omega
        have d3 : decide ((510 : Int) < (ps.length : Int)) = true := decide_eq_true (by omega)
        have HR := Lib.hid hr; have HLN := Lib.hid hln; have HAW := Lib.hid haw; have HB := Lib.hid hb; have HX := Lib.hid hx; have H := Lib.hid h; clear hr hln haw hb hx h
        go_enter Try.func5, Try.ntmps5
        go_wp2_with fail
        refine (HAW.out _).mono ?_
        rintro e w1 ⟨rfl, b1⟩
        have hb1 := HB.out.trans (b1.mono HB.out.size)
        clear b1
        have HB1 := Lib.hid hb1; clear hb1
        go_wp2
        go_ret
        exact ⟨rfl, HB1.out⟩
    · simp at h; omega
  cases hf : farP ps.length with
  | true => exact far hf
  | false =>
    clear far
    have hfn : ¬ 510 < ps.length ∧ (15 < ps.length → ¬ ps.length ≤ 500) := by unfold farP at hf; simp at hf; omega
    have d3 : decide ((510 : Int) < (ps.length : Int)) = false := decide_eq_false (by omega)
    have hc1 := fun W (h : Below w.heap.size w W) => tnLength_ A d a b c ps W (hr.later h (Nat.le_refl _))
    have hc2 := fun W (h : Below w.heap.size w W) => rLength19_ A d a b c ps W (hr.later h (Nat.le_refl _))
    generalize lenR a b c ps = r at *
    obtain ⟨L, E⟩ := r
    have x1 : (E == E) = true := by simp
    have go : ∀ (d1 : decide ((15 : Int) < (ps.length : Int)) = false ∨ decide ((15 : Int) < (ps.length : Int)) = true ∧ decide ((ps.length : Int) ≤ 500) = false), Calls Try.prog 5 #[.agg #[.int .i64 a, .int .i64 b, .int .i64 c], .slice A ps.length d] w fun e w' => e = .returned (.bool true) ∧ Below w.heap.size w w' := fun d1 => by
      rcases d1 with d1 | ⟨d1, d2⟩
      all_goals
        have HR := Lib.hid hr; have HLN := Lib.hid hln; have HAW := Lib.hid haw; have HB := Lib.hid hb; have HX := Lib.hid hx; have HF := Lib.hid hf; have HFN := Lib.hid hfn; have HC1 := Lib.hid hc1; have HC2 := Lib.hid hc2; clear hr hln haw hb hx hf hfn hc1 hc2
        go_enter Try.func5, Try.ntmps5
        go_wp2_with fail
        refine (HC1.out _ HB.out).mono ?_
        rintro e w1 ⟨A1, c1, rfl, hr1, _, _, b1⟩
        have hx1 := (b1.block _ (lt_of_block HX.out)).trans HX.out
        have hb1 := HB.out.trans (b1.mono HB.out.size)
        clear b1
        have k0 := cell_of_row _ _ 0 _ _ _ hx1
        have k1 := cell_of_row _ _ 1 _ _ _ hx1
        have k2 := cell_of_row _ _ 2 _ _ _ hx1
        simp only [List.getElem?_toArray, List.getElem?_cons_zero, List.getElem?_cons_succ] at k0 k1 k2
        have hxl := lt_of_block hx1
        have HX1 := Lib.hid hx1; have HB1 := Lib.hid hb1; have HR1 := Lib.hid hr1; clear hx1 hb1 hr1
        go_wp2_with fail
        refine (HC2.out _ HB1.out).mono ?_
        rintro e w2 ⟨A2, c2, rfl, hr2, b1⟩
        have hr12 := HR1.out.later b1 (Nat.le_refl _)
        have hb2 := HB1.out.trans (b1.mono HB1.out.size)
        clear b1 k0 k1 k2 hxl
        have hcall := lSame19_ A1 A2 c1 c2 L L w2 hr12 hr2
        rw [decide_eq_true rfl] at hcall
        have HB2 := Lib.hid hb2; have HCALL := Lib.hid hcall; have HR12 := Lib.hid hr12; have HR2 := Lib.hid hr2; clear hb2 hcall hr12 hr2
        go_wp2_with fail
        refine HCALL.out.mono ?_
        rintro e w3 ⟨rfl, b1⟩
        have hb3 := HB2.out.trans (b1.mono HB2.out.size)
        clear b1
        have HB3 := Lib.hid hb3; clear hb3
        go_wp2_with fail
        refine (HAW.out _).mono ?_
        rintro e w4 ⟨rfl, b1⟩
        have hb4 := HB3.out.trans (b1.mono HB3.out.size)
        clear b1
        have HB4 := Lib.hid hb4; clear hb4
        go_wp2
        go_ret
        exact ⟨rfl, HB4.out⟩
    by_cases h1 : 15 < ps.length
    · exact go (.inr ⟨decide_eq_true (by omega), decide_eq_false (by have := hfn.2 h1; omega)⟩)
    · exact go (.inl (decide_eq_false (by omega)))
end Go.Proofs.Ytlmhgcllikcedaa
