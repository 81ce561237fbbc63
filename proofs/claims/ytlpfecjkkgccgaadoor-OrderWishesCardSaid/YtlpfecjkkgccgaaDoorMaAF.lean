/- Texts of this claim, laid together: OrLess. -/
import Derived.Test.YtlpfecjkkgccgaaDoorMaU
/- The law's less. -/
namespace Go.Proofs.YtlpfecjkkgccgaaDoor
open Go.RowKit

theorem less_pre : ∀ (l m : List Int) (k : Nat) (h : k < l.length) (h' : k < m.length), (∀ j, j < k → l[j]? = m[j]?) → l[k] ≠ m[k] → lessL l m = decide (l[k] < m[k])
  | [], _, _, h, _, _, _ => absurd h (by simp)
  | _ :: _, [], _, _, h', _, _ => absurd h' (by simp)
  | x :: l, y :: m, 0, _, _, _, hn => by
    show (if x ≠ y then decide (x < y) else lessL l m) = _
    rw [if_pos (by simpa using hn)]; rfl
  | x :: l, y :: m, k + 1, h, h', he, hn => by
    have h0 := he 0 (by omega)
    have hxy : x = y := by simpa using h0
    show (if x ≠ y then decide (x < y) else lessL l m) = _
    rw [if_neg (by simpa using hxy)]
    exact less_pre l m k (by simpa using h) (by simpa using h') (fun j hj => by have := he (j + 1) (by omega); simpa using this) (by simpa using hn)
theorem less_self : ∀ l : List Int, lessL l l = false
  | [] => rfl
  | x :: l => by
    show (if x ≠ x then decide (x < x) else lessL l l) = _
    rw [if_neg (by simp)]; exact less_self l
theorem less_same {l m : List Int} (h : l.length = m.length) (he : ∀ j, j < l.length → l[j]? = m[j]?) : lessL l m = false := by
  have : l = m := by
    apply List.ext_getElem?
    intro j
    rcases Nat.lt_or_ge j l.length with h1 | h1
    · exact he j h1
    · rw [List.getElem?_eq_none h1, List.getElem?_eq_none (by omega)]
  rw [this]; exact less_self m
set_option maxRecDepth 100000 in
set_option maxHeartbeats 2000000 in
theorem less13_ (A B : Option Addr) (c d : Nat) (xs ys : List Int) (w : World) (ha : RdI w A xs) (hb : RdI w B ys) (hl : xs.length = ys.length) :
    Calls Tryd.prog 23 #[.slice A xs.length c, .slice B ys.length d] w fun e w' => e = .returned (.bool (lessL xs ys)) ∧ Below w.heap.size w w' := by
  have hla := ha.1
  have hlb := hb.1
  have HL := Lib.hid hl; clear hl
  have HA := Lib.hid ha; clear ha
  have HB := Lib.hid hb; clear hb
  go_enter Tryd.func23, Tryd.ntmps23
  go_wp2
  go_loopw [5] (fun i wr => ∃ k n : Nat, i = .int .i64 k ∧ k ≤ xs.length ∧ wr = w.drewN n ∧ (∀ j, j < k → xs[j]? = ys[j]?)) (fun i _ => xs.length - (intOf i).toNat)
  case atStart => exact ⟨0, 0, rfl, Nat.zero_le _, rfl, fun j h => absurd h (by omega)⟩
  case round =>
    obtain ⟨k, n, rfl, hk, rfl, heq⟩ := hrel
    have HE := Lib.hid heq; clear heq
    by_cases hlt : k < xs.length
    · have hlt' : k < ys.length := by rw [← HL.out]; exact hlt
      obtain ⟨ba, oa, rfl, hba, hca⟩ := HA.out.at_ hlt
      obtain ⟨bb, ob, rfl, hbb, hcb⟩ := HB.out.at_ hlt'
      by_cases hx : xs[k] = ys[k]
      · have hxb : (xs[k] != ys[k]) = false := by simp [hx]
        have HX := Lib.hid hx; clear hx
        go_wp2
        go_quiet (fail)
        go_wp2
        go_roundw
        case rel =>
          refine ⟨k + 1, n + nq, by go_num, by omega, rfl, fun j hj => ?_⟩
          rcases Nat.lt_or_ge j k with h | h
          · exact HE.out j h
          · obtain rfl : j = k := by omega
            rw [List.getElem?_eq_getElem hlt, List.getElem?_eq_getElem hlt', HX.out]
        case measure => simp [intOf]; omega
      · have hxb : (xs[k] != ys[k]) = true := by simp [hx]
        have hr := less_pre xs ys k hlt hlt' HE.out hx
        have HX := Lib.hid hx; clear hx
        have HR := Lib.hid hr; clear hr
        go_wp2
        go_quiet (fail)
        go_wp2
        go_quiet (fail)
        go_wp2
        go_ret
        exact ⟨by rw [HR.out]; first | rfl | (apply ret_bool; rfl), below_drewN (below_drewN (below_drewN (Below.refl _ _) _) _) _⟩
    · have hr : lessL xs ys = false := less_same HL.out fun j hj => HE.out j (by omega)
      have HR := Lib.hid hr; clear hr
      go_wp2
      go_ret
      exact ⟨by rw [HR.out]; rfl, below_drewN (Below.refl _ _) _⟩
end Go.Proofs.YtlpfecjkkgccgaaDoor
