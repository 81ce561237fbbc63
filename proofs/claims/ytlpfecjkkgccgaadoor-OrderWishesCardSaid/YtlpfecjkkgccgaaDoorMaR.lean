/- Texts of this claim, laid together: OrSound. -/
import Derived.Test.YtlpfecjkkgccgaaDoorMaA
import Derived.Test.YtlpfecjkkgccgaaDoorMaD
import Derived.Test.YtlpfecjkkgccgaaDoorMaP
/- The program's sound and plus. -/
namespace Go.Proofs.YtlpfecjkkgccgaaDoor
open Go.RowKit

/-- All that comes before the works of a set is in it. -/
def sndB (n : Nat) (L : Nat → Nat) (S : Nat) : Bool := (List.range n).all fun b => !S.testBit b || decide (L b &&& S = L b)
theorem sndB_iff {n : Nat} {L : Nat → Nat} {S : Nat} : sndB n L S = true ↔ SndB n L S := by
  unfold sndB SndB
  rw [List.all_eq_true]
  constructor
  · intro h b hb hS a ha
    have := h b (List.mem_range.2 hb)
    rw [hS, Bool.not_true, Bool.false_or, decide_eq_true_eq] at this
    have h2 := congrArg (fun z => z.testBit a) this
    simp only [Nat.testBit_and, ha, Bool.true_and] at h2
    exact h2
  · intro h b hb
    have hb := List.mem_range.1 hb
    cases hS : S.testBit b with
    | false => rfl
    | true =>
      rw [Bool.not_true, Bool.false_or, decide_eq_true_eq]
      apply Nat.eq_of_testBit_eq
      intro a
      rw [Nat.testBit_and]
      cases ha : (L b).testBit a with
      | false => rfl
      | true => rw [h b hb hS a ha]; rfl
theorem wd_small {S : Nat} (h : S < 2 ^ 64) : wd S 0 = S ∧ ∀ k, 1 ≤ k → wd S k = 0 := by
  constructor
  · unfold wd; rw [Nat.mul_zero, Nat.pow_zero, Nat.div_one, Nat.mod_eq_of_lt h]
  · intro k hk
    unfold wd
    rw [Nat.div_eq_of_lt (Nat.lt_of_lt_of_le h (Nat.pow_le_pow_right (by decide) (by omega))), Nat.zero_mod]
/-- A set of one word that was just laid. -/
theorem setAt_one (w : World) {S : Nat} (h : S < 2 ^ 64) (T : TypeId) : SetAt (w.alloc (.cells #[.int .u64 (S : Nat), .int .u64 0, .int .u64 0, .int .u64 0, .int .u64 0, .int .u64 0, .int .u64 0] T)) w.heap.size 0 S := fun k hk => by
  obtain ⟨h0, h1⟩ := wd_small h
  have hb := heap_alloc_new w (.cells #[.int .u64 (S : Nat), .int .u64 0, .int .u64 0, .int .u64 0, .int .u64 0, .int .u64 0, .int .u64 0] T)
  refine ⟨?_, frozen_of_row _ _ _ _ _ hb⟩
  rw [cell_of_row _ _ _ _ _ _ hb]
  obtain rfl | rfl | rfl | rfl | rfl | rfl | rfl : k = 0 ∨ k = 1 ∨ k = 2 ∨ k = 3 ∨ k = 4 ∨ k = 5 ∨ k = 6 := by omega
  · rw [h0]; rfl
  all_goals (rw [h1 _ (by omega)]; rfl)
theorem plus_ok (a b : Int) (w : World) (ha : 0 ≤ a) (hb : 0 ≤ b) (h : a + b ≤ 1000000000) : Calls Tryd.prog 38 #[.int .i64 a, .int .i64 b] w fun e w' => e = .returned (.int .i64 (a + b)) ∧ w = w' := by
  have q1 : IntKind.i64.wrap (1000000000 - b) = 1000000000 - b := IntWalk.i64_in _ (by omega)
  have q2 : IntKind.i64.wrap (a + b) = a + b := IntWalk.i64_in _ (by omega)
  have q3 : decide (1000000000 - b < a) = false := by simp; omega
  go_enter Tryd.func38, Tryd.ntmps38
  go_wp2
  go_ret
  exact ⟨rfl, rfl⟩
theorem plus_no (a b : Int) (w : World) (_ : 0 ≤ a ∧ a ≤ 1000000000) (hb : 0 ≤ b ∧ b ≤ 1000000000) (h : 1000000000 < a + b) : Calls Tryd.prog 38 #[.int .i64 a, .int .i64 b] w fun e w' => e = .panicked [{ v := .iface 63 (.agg #[]), recovered := false }] ∧ w = w' := by
  have q1 : IntKind.i64.wrap (1000000000 - b) = 1000000000 - b := IntWalk.i64_in _ (by omega)
  have q3 : 1000000000 - b < a := by omega
  go_enter Tryd.func38, Tryd.ntmps38
  go_wp2
  exact ⟨rfl, rfl, rfl⟩
theorem and_nat64 (a b : Nat) (ha : a < 2 ^ 64) (hb : b < 2 ^ 64) : bits .and .u64 (a : Int) (b : Int) = ((a &&& b : Nat) : Int) := (bits_nat .u64 64 (by decide) wraps64 a b ha hb).1
set_option maxRecDepth 100000 in
set_option maxHeartbeats 4000000 in
theorem oSound_ (R c n S : Nat) (L : Nat → Nat) (w : World) (hn : n ≤ 60) (hLn : ∀ b, b < n → ∀ a, (L b).testBit a = true → a < n) (hR : SBo w R n L) (hS : S < 2 ^ n) (hT : Tz w) :
    Calls Tryd.prog 36 #[.slice (some ⟨R, 0, none⟩) n c, .int .u64 (S : Int)] w fun e w' => e = .returned (.bool (sndB n L S)) ∧ Below w.heap.size w w' := by
  have hp60 : 2 ^ n ≤ 2 ^ 60 := Nat.pow_le_pow_right (by decide) hn
  have hS64 : S < 2 ^ 64 := by omega
  have hA0 := setAt_one w hS64 68
  have hb0 : Below w.heap.size w (w.alloc (.cells #[.int .u64 (S : Nat), .int .u64 0, .int .u64 0, .int .u64 0, .int .u64 0, .int .u64 0, .int .u64 0] 68)) := (Below.refl _ _).alloc (Nat.le_refl _) _
  have hRl := hR.lt
  clear hp60
  have HLN := Lib.hid hLn; have HR := Lib.hid hR; have HT := Lib.hid hT; have HA0 := Lib.hid hA0; have HB0 := Lib.hid hb0; have HS64 := Lib.hid hS64; have HS := Lib.hid hS; clear hLn hR hT hA0 hb0 hS64 hS
  go_enter Tryd.func36, Tryd.ntmps36
  go_wp2
  go_loopw [6] (fun xv wr => ∃ x : Nat, xv = .int .u64 (x : Int) ∧ (∀ i, x.testBit i = true → S.testBit i = true) ∧ (∀ i, i < n → S.testBit i = true → x.testBit i = false → L i &&& S = L i) ∧ SetAt wr w.heap.size 0 S ∧ Below w.heap.size w wr) (fun xv _ => (intOf xv).toNat)
  case atStart => exact ⟨S, rfl, (fun _ h => h), (fun i _ h1 h2 => by rw [h1] at h2; cases h2), HA0.out, HB0.out⟩
  case round =>
    obtain ⟨x, rfl, hsub, hok, hA, hbw⟩ := hrel
    by_cases hx : x = 0
    · subst hx
      have hr2 : sndB n L S = true := by
        unfold sndB
        rw [List.all_eq_true]
        intro b hb
        cases hSb : S.testBit b with
        | false => rfl
        | true => rw [hok b (List.mem_range.1 hb) hSb (by simp)]; simp
      have HSUB := Lib.hid hsub; have HOK := Lib.hid hok; have HA := Lib.hid hA; have HBW := Lib.hid hbw; have HR2 := Lib.hid hr2; clear hsub hok hA hbw hr2
      go_wp2
      go_ret
      exact ⟨ret_bool HR2.out.symm, HBW.out⟩
    · have hx1 : ((x : Int) != 0) = true := by simpa using hx
      obtain ⟨wk, hwb, hwl, hwn⟩ := low_bit hx
      have hSw := hsub wk hwb
      have hwkn : wk < n := Nat.lt_of_not_le fun h => by
        rw [Nat.testBit_lt_two_pow (Nat.lt_of_lt_of_le HS.out (Nat.pow_le_pow_right (by decide) h))] at hSw; cases hSw
      have hx64 : x < 2 ^ 64 := by
        have : x ≤ S := Nat.le_of_testBit hsub
        have := HS64.out
        omega
      have htz := fun W h => tz_ x hx64 W h
      rw [ctz_iff hx64 hwb hwl] at htz
      have htz2 := htz wr (HT.out.later hbw (Nat.le_refl _))
      have e1 : IntKind.u64.wrap ((x : Int) - 1) = ((x - 1 : Nat) : Int) := by
        rw [show (x : Int) - 1 = ((x - 1 : Nat) : Int) by omega]
        exact wraps64 _ (Int.natCast_nonneg _) (by omega)
      have e2 := and_nat64 x (x - 1) hx64 (by omega)
      have hdec : x &&& (x - 1) < x := by
        have := Nat.and_le_right (n := x) (m := x - 1)
        omega
      have hRw : SBo wr R n L := (hbw.block R hRl).trans HR.out
      have hwi := owWithin_ R (wk * 7) w.heap.size 0 (L wk) S wr (SBo.at_ hRw hwkn) hA
      rw [win_free (S := S) fun a ha => by have := HLN.out wk hwkn a ha; omega] at hwi
      have z1 : (0 : Int) ≤ (wk : Int) := by omega
      have z2 : (wk : Int) < (n : Int) := by omega
      have hsub2 : ∀ i, (x &&& (x - 1)).testBit i = true → S.testBit i = true := fun i h => by
        rw [hwn i, Bool.and_eq_true] at h
        exact hsub i h.1
      have hok2 : L wk &&& S = L wk → ∀ i, i < n → S.testBit i = true → (x &&& (x - 1)).testBit i = false → L i &&& S = L i := fun h i h1 h2 h3 => by
        by_cases hi : i = wk
        · subst hi; exact h
        · refine hok i h1 h2 ?_
          rw [hwn i, decide_eq_false hi] at h3
          simpa using h3
      generalize hx2 : x &&& (x - 1) = x2 at *
      generalize x - 1 = xm at *
      clear htz
      cases hd : decide (L wk &&& S = L wk) with
      | true =>
        have hok3 := hok2 (of_decide_eq_true hd)
        rw [hd] at hwi
        have HSUB := Lib.hid hsub; have HOK := Lib.hid hok; have HA := Lib.hid hA; have HBW := Lib.hid hbw; have HWB := Lib.hid hwb; have HWL := Lib.hid hwl; have HWN := Lib.hid hwn; have HSW := Lib.hid hSw; have HX64 := Lib.hid hx64; have HDEC := Lib.hid hdec; have HRW := Lib.hid hRw; have HWI := Lib.hid hwi; have HSUB2 := Lib.hid hsub2; have HOK2 := Lib.hid hok2; have HX2 := Lib.hid hx2; have HD := Lib.hid hd; have HOK3 := Lib.hid hok3; have HTZ2 := Lib.hid htz2; clear hsub hok hA hbw hwb hwl hwn hSw hx64 hdec hRw hwi hsub2 hok2 hx2 hd hok3 htz2
        go_wp2_with (go_at_call 54; refine HTZ2.out.mono ?_; rintro e w9 ⟨rfl, rfl⟩)
        refine HWI.out.mono ?_
        rintro e w3 ⟨rfl, hb3⟩
        have hA3 := HA.out.kept (hb3.block _ HA.out.lt)
        have hbw3 := HBW.out.trans (hb3.mono HBW.out.size)
        clear hb3
        have HA3 := Lib.hid hA3; have HBW3 := Lib.hid hbw3; clear hA3 hbw3
        go_wp2
        go_roundw
        case rel => exact ⟨x2, rfl, HSUB2.out, HOK3.out, HA3.out, HBW3.out⟩
        case measure =>
          have := HDEC.out
          simp [intOf]; omega
      | false =>
        have hr2 : sndB n L S = false := by
          unfold sndB
          rw [List.all_eq_false]
          exact ⟨wk, List.mem_range.2 hwkn, by rw [hSw, hd]; simp⟩
        rw [hd] at hwi
        have HSUB := Lib.hid hsub; have HOK := Lib.hid hok; have HA := Lib.hid hA; have HBW := Lib.hid hbw; have HWB := Lib.hid hwb; have HWL := Lib.hid hwl; have HWN := Lib.hid hwn; have HSW := Lib.hid hSw; have HX64 := Lib.hid hx64; have HDEC := Lib.hid hdec; have HRW := Lib.hid hRw; have HWI := Lib.hid hwi; have HSUB2 := Lib.hid hsub2; have HOK2 := Lib.hid hok2; have HX2 := Lib.hid hx2; have HD := Lib.hid hd; have HTZ2 := Lib.hid htz2; have HR2 := Lib.hid hr2; clear hsub hok hA hbw hwb hwl hwn hSw hx64 hdec hRw hwi hsub2 hok2 hx2 hd htz2 hr2
        go_wp2_with (go_at_call 54; refine HTZ2.out.mono ?_; rintro e w9 ⟨rfl, rfl⟩)
        refine HWI.out.mono ?_
        rintro e w3 ⟨rfl, hb3⟩
        have hbw3 := HBW.out.trans (hb3.mono HBW.out.size)
        clear hb3
        have HBW3 := Lib.hid hbw3; clear hbw3
        go_wp2
        go_ret
        exact ⟨ret_bool HR2.out.symm, HBW3.out⟩
end Go.Proofs.YtlpfecjkkgccgaaDoor
