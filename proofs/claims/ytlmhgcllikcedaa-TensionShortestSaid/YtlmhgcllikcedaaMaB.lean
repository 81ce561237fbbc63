/- Texts of this claim, laid together: Nat4, Nat5, Nat6, TnRoot. -/
import Derived.Test.YtlmhgcllikcedaaMaA
import Derived.StillTailTactics
/- Numbers of the program to the base 2^32: up, power, square. -/
namespace Go.Proofs.Ytlmhgcllikcedaa
open Go.RowKit

set_option maxRecDepth 100000 in
set_option maxHeartbeats 4000000 in
theorem natUp_ (A : Option Addr) (c a m : Nat) (w : World) (ha : RdN w A a) (hla : nl a ≤ 35184372088832) (hm : m < 32) :
    Calls Try.prog 124 #[.slice A (nl a) c, .int .u64 (m : Int)] w (NatPost (a * 2 ^ m) w) := by
  obtain ⟨q, hq⟩ : ∃ q, q = 2 ^ m := ⟨_, rfl⟩
  have hqr : q * 2 ^ (32 - m) = 4294967296 := by
    rw [hq, ← Nat.pow_add, show m + (32 - m) = 32 by omega]
  have hq0 : 0 < q := by rw [hq]; exact Nat.two_pow_pos _
  have hq31 : q ≤ 2147483648 := by
    rw [hq]
    exact Nat.pow_le_pow_right (by decide) (show m ≤ 31 by omega)
  obtain ⟨N, hN⟩ : ∃ N, N = nl a + 1 := ⟨_, rfl⟩
  have hab : a * q < pw N := by
    have h1 := lt_pw a
    rw [hN, pw_succ]
    calc a * q < pw (nl a) * q := Nat.mul_lt_mul_of_pos_right h1 hq0
      _ ≤ pw (nl a) * 4294967296 := Nat.mul_le_mul_left _ (by omega)
  have hN2 : N ≤ 35184372088833 := by omega
  have hmk := run_make_row' (P := Try.prog) 97 104 (.int .u32 0) 4 Try.underlying97 infoU4_Try rfl .i64 .i64 N (by omega) (by omega)
  have hm0 := u4_zero w N
  have hb0 : Below w.heap.size w (w.alloc (.cells (madeCells #[.int .u32 0] N) 104)) := (Below.refl _ _).alloc (Nat.le_refl _) _
  have e5 : wrap64 (((nl a : Nat) : Int) + 1) = (N : Int) := by rw [IntWalk.wrap64_in _ (by omega)]; omega
  have e6 : IntKind.i64.wrap (((nl a : Nat) : Int) + 1) = (N : Int) := by rw [IntWalk.i64_in _ (by omega)]; omega
  have hqi : (2 : Int) ^ m = (q : Int) := by rw [hq]; push_cast; rfl
  rw [← hq]
  have z0 : (0 : Int) ≤ (m : Int) := by omega
  have z1 : (m : Int) < 64 := by omega
  have HA := Lib.hid ha; have HN := Lib.hid hN; have HAB := Lib.hid hab; have HM0 := Lib.hid hm0; have HB0 := Lib.hid hb0; have HLA := Lib.hid hla; have HQ := Lib.hid hq; have HQR := Lib.hid hqr; have HQ0 := Lib.hid hq0; have HQ31 := Lib.hid hq31; clear ha hN hab hm0 hb0 hla hq hqr hq0 hq31
  go_enter Try.func124, Try.ntmps124
  go_wp2
  clear hmk e5 e6
  go_loopw [6, 13] (fun _ iv wr => ∃ k : Nat, iv = .int .i64 (k : Int) ∧ k ≤ N ∧ U4 wr w.heap.size N (fun j => if j < k then dg (a * q) j else 0) ∧ Below w.heap.size w wr) (fun _ iv _ => N - (intOf iv).toNat)
  case atStart => exact ⟨0, rfl, Nat.zero_le _, HM0.out.eqv fun j _ => by simp, HB0.out⟩
  case round =>
    clear HM0 HB0
    obtain ⟨k, rfl, hk, hu, hbw⟩ := hrel
    have hul := hu.lt
    by_cases hkN : k < N
    · have x1 : (0 : Int) ≤ (k : Int) := by omega
      have x2 : (k : Int) < (N : Int) := by omega
      have hc1 := fun W h => natDigit_ A c a k W (by omega) (h : RdN W A a)
      have hra := HA.out.later hbw (Nat.le_refl _)
      have q3 := hu.at_ hkN
      have q4 := hu.free k
      have hd := dg_lt a k
      obtain ⟨dq, hdq⟩ : ∃ dq, dq = dg a k * q := ⟨_, rfl⟩
      have hdl : dq ≤ 4294967295 * 2147483648 := by rw [hdq]; exact Nat.mul_le_mul (by omega) HQ31.out
      have t1 : IntKind.u64.wrap (((dg a k : Nat) : Int) * (q : Int)) = (dq : Int) := by
        rw [IntWalk.u64_in _ (by rw [← Int.natCast_mul, ← hdq]; omega), hdq]; push_cast; rfl
      have t2 : (dq : Int) % 4294967296 = ((dq % 4294967296 : Nat) : Int) := rfl
      have hpu : ∀ W z, U4 W w.heap.size N (fun j => if j < k then dg (a * q) j else 0) → z = dg (a * q) k → U4 (W.setCell ⟨w.heap.size, k, none⟩ (.int .u32 (z : Int))) w.heap.size N (fun j => if j < k + 1 then dg (a * q) j else 0) := fun W z h e => by rw [e]; exact h.fill
      by_cases hk0 : k = 0
      · subst hk0
        have hds : dq % 4294967296 = dg (a * q) 0 := by rw [hdq]; exact (dg_up 0 _ HQ0.out HQR.out).2.symm
        have hu2 := hpu wr _ hu hds
        have hbw2 := hbw.setCell (p := ⟨w.heap.size, 0, none⟩) (Nat.le_refl _) (.int .u32 ((dq % 4294967296 : Nat) : Int))
        generalize dq % 4294967296 = ds at *
        generalize dg a 0 = d0 at *
        have HU := Lib.hid hu; have HBW := Lib.hid hbw; have HC1 := Lib.hid hc1; have HRA := Lib.hid hra; have HD := Lib.hid hd; have HDL := Lib.hid hdl; have HDQ := Lib.hid hdq; have HU2 := Lib.hid hu2; have HBW2 := Lib.hid hbw2; have HDS := Lib.hid hds; have HPU := Lib.hid hpu; clear hu hbw hc1 hra hd hdl hdq hu2 hbw2 hds hpu
        go_wp2_with fail
        refine (HC1.out _ HRA.out).mono ?_
        rintro e wv ⟨rfl, rfl⟩
        go_wp2
        go_roundw
        case rel => exact ⟨1, by go_num, by omega, HU2.out, HBW2.out⟩
        case measure => simp [intOf]; omega
      · obtain ⟨j, hj⟩ : ∃ j, k = j + 1 := ⟨k - 1, by omega⟩
        have hc2 := fun W h => natDigit_ A c a j W (by omega) (h : RdN W A a)
        have hd2 := dg_lt a j
        obtain ⟨eq, heq⟩ : ∃ eq, eq = dg a j * q := ⟨_, rfl⟩
        have hel : eq ≤ 4294967295 * 2147483648 := by rw [heq]; exact Nat.mul_le_mul (by omega) HQ31.out
        have t3 : IntKind.u64.wrap (((dg a j : Nat) : Int) * (q : Int)) = (eq : Int) := by
          rw [IntWalk.u64_in _ (by rw [← Int.natCast_mul, ← heq]; omega), heq]; push_cast; rfl
        have t4 : (eq : Int) / 4294967296 = ((eq / 4294967296 : Nat) : Int) := rfl
        have hhi : eq / 4294967296 < q := by rw [heq]; exact Nat.div_lt_of_lt_mul (Nat.mul_lt_mul_of_pos_right hd2 HQ0.out)
        have hq31 := HQ31.out
        have t5 : ((eq / 4294967296 : Nat) : Int) % 4294967296 = ((eq / 4294967296 : Nat) : Int) := by omega
        have hds := (dg_up (a := a) j _ HQ0.out HQR.out).1
        rw [← hj, ← hdq, ← heq] at hds
        have hor : bits .or .u32 ((dq % 4294967296 : Nat) : Int) ((eq / 4294967296 : Nat) : Int) = ((dg (a * q) k : Nat) : Int) := by
          have h1 := (bits_nat .u32 32 (by decide) (fun n h0 h1 => IntWalk.u32_in n (by omega)) (dq % 4294967296) (eq / 4294967296) (by omega) (by omega)).2
          rw [h1, hds]
          congr 1
          have e6 : dq % 4294967296 = (dg a k % 2 ^ (32 - m)) * q := by
            have := HQR.out
            rw [hdq]
            conv => lhs; rw [← this]
            rw [Nat.mul_comm q, Nat.mul_mod_mul_right]
          rw [e6, HQ.out, ← Nat.shiftLeft_eq]
          exact (Nat.shiftLeft_add_eq_or_of_lt (by rw [← HQ.out]; exact hhi) _).symm
        have y1 : IntKind.i64.wrap ((k : Int) - 1) = (j : Int) := by rw [IntWalk.i64_in _ (by omega)]; omega
        have y2 : (0 : Int) < (k : Int) := by omega
        have hq5 := hu.put k (dq % 4294967296)
        have hbw2 := hbw.setCell (p := ⟨w.heap.size, k, none⟩) (Nat.le_refl _) (.int .u32 ((dq % 4294967296 : Nat) : Int))
        generalize dq % 4294967296 = lowd at *
        generalize eq / 4294967296 = hi at *
        generalize hdk : dg a k = dk at *
        generalize hdj : dg a j = dj at *
        generalize hdsk : dg (a * q) k = ds at *
        have HU := Lib.hid hu; have HBW := Lib.hid hbw; have HC1 := Lib.hid hc1; have HC2 := Lib.hid hc2; have HRA := Lib.hid hra; have HD := Lib.hid hd; have HD2 := Lib.hid hd2; have HDL := Lib.hid hdl; have HDQ := Lib.hid hdq; have HDK := Lib.hid hdk; have HDJ := Lib.hid hdj; have HDSK := Lib.hid hdsk; have HEL := Lib.hid hel; have HEQ := Lib.hid heq; have HHI := Lib.hid hhi; have HQ31 := Lib.hid hq31; have HDS := Lib.hid hds; have HPU := Lib.hid hpu; have HBW2 := Lib.hid hbw2; have HQ5 := Lib.hid hq5; have HJ := Lib.hid hj; have HK0 := Lib.hid hk0; clear hu hbw hc1 hc2 hra hd hd2 hdl hdq hdk hdj hdsk hel heq hhi hq31 hds hpu hbw2 hq5 hj hk0
        go_wp2_with fail
        refine (HC1.out _ HRA.out).mono ?_
        rintro e wv ⟨rfl, rfl⟩
        go_upto_region 7 with fail
        have hq6 := HQ5.out
        have hbw5 := HBW2.out
        have hu6 := HU.out
        generalize wr.setCell ⟨w.heap.size, k, none⟩ (.int .u32 (lowd : Int)) = w5 at *
        have q6 := hq6.at_ hkN
        have q7 := hq6.free k
        rw [upD_same] at q6
        have hul5 := hq6.lt
        have hra5 := HA.out.later hbw5 (Nat.le_refl _)
        clear q3 q4
        have HQ6 := Lib.hid hq6; have HBW5 := Lib.hid hbw5; have HRA5 := Lib.hid hra5; have HU6 := Lib.hid hu6; clear hq6 hbw5 hra5 hu6
        go_still_tail 14, (by kernel_rfl)
        still_call ((HC2.out w5.drew HRA5.out).mono fun e w' h => (⟨h.1, h.2.symm⟩ : e = _ ∧ w' = _))
        repeat still_step
        refine wpStill_nil ?_
        change wpList _ _ _ _ _ w5.drew
        have hq8 : U4 w5.drew w.heap.size N (upD (fun j => if j < k then dg (a * q) j else 0) k lowd) := HQ6.out
        have hbw8 : Below w.heap.size w w5.drew := HBW5.out.drew
        clear q6 q7 hul5
        generalize w5.drew = w6 at *
        have q6 := hq8.at_ hkN
        have q7 := hq8.free k
        rw [upD_same] at q6
        have hul5 := hq8.lt
        have hu9 : U4 (w6.setCell ⟨w.heap.size, k, none⟩ (.int .u32 (ds : Int))) w.heap.size N (fun j => if j < k + 1 then dg (a * q) j else 0) := (hq8.put k ds).eqv fun j _ => by
          show (if j = k then ds else if j = k then lowd else if j < k then dg (a * q) j else 0) = _
          by_cases h : j = k
          · rw [if_pos h, if_pos (by omega), h, HDSK.out]
          · rw [if_neg h, if_neg h]
            by_cases h2 : j < k
            · rw [if_pos h2, if_pos (by omega)]
            · rw [if_neg h2, if_neg (by omega)]
        have hbw9 := hbw8.setCell (p := ⟨w.heap.size, k, none⟩) (Nat.le_refl _) (.int .u32 (ds : Int))
        have HQ8 := Lib.hid hq8; have HBW8 := Lib.hid hbw8; have HU9 := Lib.hid hu9; have HBW9 := Lib.hid hbw9; clear hq8 hbw8 hu9 hbw9
        go_wp2
        go_roundw
        case rel => exact ⟨k + 1, by go_num, by omega, HU9.out, HBW9.out⟩
        case measure => simp [intOf]; omega
    · obtain rfl : k = N := by omega
      have hrd : RdD wr (some ⟨w.heap.size, 0, none⟩) k (a * q) := RdD.of_u4 hu fun j hj => if_pos hj
      have hl := nl_le.2 HAB.out
      have HU := Lib.hid hu; have HBW := Lib.hid hbw; have HRD := Lib.hid hrd; have HL := Lib.hid hl; clear hu hbw hrd hl
      go_wp2_with fail
      refine (natTrim_ _ k k (a * q) _ HAB.out (by omega) (Nat.le_refl _) HRD.out).mono ?_
      rintro e w1 ⟨rfl, rfl⟩
      go_wp2
      go_ret
      exact ⟨_, _, rfl, HRD.out.less HL.out, HL.out, HBW.out⟩
/-- 2^m. -/
theorem pow_dg (m : Nat) : nl (2 ^ m) = m / 32 + 1 ∧ ∀ j, dg (2 ^ m) j = if j = m / 32 then 2 ^ (m % 32) else 0 := by
  have hpm : 2 ^ m = 2 ^ (m % 32) * pw (m / 32) := by
    unfold pw
    rw [← Nat.pow_add, show m % 32 + 32 * (m / 32) = m by omega]
  have hr : 2 ^ (m % 32) < 4294967296 := Nat.pow_lt_pow_right (by decide) (show m % 32 < 32 by omega)
  constructor
  · unfold nl
    rw [if_neg (by have := Nat.two_pow_pos m; omega), Nat.log2_two_pow]
  · intro j
    by_cases h : j = m / 32
    · rw [if_pos h, h]
      unfold dg
      rw [hpm, Nat.mul_div_cancel _ (pw_pos _), Nat.mod_eq_of_lt hr]
    · rw [if_neg h]
      rcases Nat.lt_or_ge j (m / 32) with h1 | h1
      · rw [hpm, show 2 ^ (m % 32) * pw (m / 32) = 0 + 2 ^ (m % 32) * pw (m / 32) by omega, dg_low h1]
        unfold dg; rw [Nat.zero_div]
      · refine dg_zero ?_
        have h2 := pw_le (show m / 32 + 1 ≤ j by omega)
        rw [pw_succ] at h2
        have h3 : 2 ^ (m % 32) * pw (m / 32) < 4294967296 * pw (m / 32) := Nat.mul_lt_mul_of_pos_right hr (pw_pos _)
        rw [hpm, Nat.mul_comm (pw (m / 32))] at *
        omega
set_option maxRecDepth 100000 in
set_option maxHeartbeats 2000000 in
theorem tPower_ (m : Nat) (w : World) (hm : m ≤ 1125899906842624) :
    Calls Try.prog 97 #[.int .u64 (m : Int)] w (NatPost (2 ^ m) w) := by
  obtain ⟨h1, h2⟩ := pow_dg m
  obtain ⟨N, hN⟩ : ∃ N, N = m / 32 := ⟨_, rfl⟩
  rw [← hN] at h1 h2
  obtain ⟨M, hM⟩ : ∃ M, M = N + 1 := ⟨_, rfl⟩
  rw [← hM] at h1
  have hmk := run_make_row' (P := Try.prog) 97 104 (.int .u32 0) 4 Try.underlying97 infoU4_Try rfl .u64 .u64 M (by omega) (by omega)
  have hm0 := u4_zero w M
  have hb0 : Below w.heap.size w (w.alloc (.cells (madeCells #[.int .u32 0] M) 104)) := (Below.refl _ _).alloc (Nat.le_refl _) _
  have hl0 : w.heap.size < (w.alloc (.cells (madeCells #[.int .u32 0] M) 104)).heap.size := by simp
  have e1 : (m : Int) / 32 = (N : Int) := by omega
  have e2 : IntKind.u64.wrap ((N : Int) + 1) = (M : Int) := by rw [IntWalk.u64_in _ (by omega)]; omega
  have e3 : (m : Int) % 32 = ((m % 32 : Nat) : Int) := by omega
  obtain ⟨p, hp⟩ : ∃ p, p = 2 ^ (m % 32) := ⟨_, rfl⟩
  have hr : p < 4294967296 := by rw [hp]; exact Nat.pow_lt_pow_right (by decide) (show m % 32 < 32 by omega)
  have hpi : (2 : Int) ^ (m % 32) = (p : Int) := by rw [hp]; push_cast; rfl
  have e4 : IntKind.u32.wrap (p : Int) = (p : Int) := IntWalk.u32_in _ (by omega)
  have e5 : (p : Int) % 4294967296 = (p : Int) := by omega
  have z0 : (0 : Int) ≤ ((m % 32 : Nat) : Int) := by omega
  have z1 : (0 : Int) ≤ (N : Int) := by omega
  have z2 : (N : Int) < (M : Int) := by omega
  rw [← hp] at h2
  generalize m % 32 = r at *
  have q3 := hm0.at_ (show N < M by omega)
  have q4 := hm0.free N
  have hrd : RdN ((w.alloc (.cells (madeCells #[.int .u32 0] M) 104)).setCell ⟨w.heap.size, N, none⟩ (.int .u32 (p : Int))) (some ⟨w.heap.size, 0, none⟩) (2 ^ m) :=
    RdD.of_u4 (g := upD (fun _ => 0) N p) (by rw [h1]; exact hm0.put N p) fun j _ => by
      rw [h2 j]; rfl
  have hbw := hb0.setCell (p := ⟨w.heap.size, N, none⟩) (Nat.le_refl _) (.int .u32 (p : Int))
  rw [show NatPost (2 ^ m) w = fun e w' => ∃ A c, e = .returned (.slice A M c) ∧ RdN w' A (2 ^ m) ∧ M ≤ c ∧ Below w.heap.size w w' by unfold NatPost; rw [h1]]
  have H1 := Lib.hid h1; have H2 := Lib.hid h2; have HN := Lib.hid hN; have HM := Lib.hid hM; have HB0 := Lib.hid hb0; have HM0 := Lib.hid hm0; have HR := Lib.hid hr; have HP := Lib.hid hp; have HRD := Lib.hid hrd; have HBW := Lib.hid hbw; clear h1 h2 hN hM hb0 hm0 hr hp hrd hbw
  go_enter Try.func97, Try.ntmps97
  go_upto_region 2 with fail
  clear hmk
  generalize w.alloc (.cells (madeCells #[.int .u32 0] M) 104) = w1 at *
  go_wp2
  go_ret
  exact ⟨_, _, rfl, HRD.out, Nat.le_refl _, HBW.out⟩
end Go.Proofs.Ytlmhgcllikcedaa
/- Numbers of the program to the base 2^32: square, root. -/
namespace Go.Proofs.Ytlmhgcllikcedaa
open Go.RowKit

theorem isq {n r : Nat} (h1 : r * r ≤ n) (h2 : n < (r + 1) * (r + 1)) : Nat.sqrt n = r := by
  have g1 := Nat.sqrt_le n
  have g2 := Nat.lt_succ_sqrt n
  rw [Nat.succ_eq_add_one] at g2
  rcases Nat.lt_trichotomy (Nat.sqrt n) r with h | h | h
  · have := Nat.mul_self_le_mul_self (show Nat.sqrt n + 1 ≤ r by omega)
    omega
  · exact h
  · have := Nat.mul_self_le_mul_self (show r + 1 ≤ Nat.sqrt n by omega)
    omega
set_option maxRecDepth 100000 in
set_option maxHeartbeats 4000000 in
theorem tSquare_ (n : Nat) (w : World) (hn : n < 18446744073709551616) :
    Calls Try.prog 88 #[.int .u64 (n : Int)] w fun e w' => e = .returned (.int .u64 ((Nat.sqrt n : Nat) : Int)) ∧ w = w' := by
  have HN := Lib.hid hn; clear hn
  go_enter Try.func88, Try.ntmps88
  go_wp2
  go_loopw [3, 4] (fun rv bv wr => ∃ r j b : Nat, rv = .int .u64 (r : Int) ∧ bv = .int .u64 (b : Int) ∧ b = 2 ^ j / 2 ∧ j ≤ 32 ∧ r * r ≤ n ∧ n < (r + 2 ^ j) * (r + 2 ^ j) ∧ r + 2 ^ j ≤ 4294967296 ∧ wr = w) (fun _ bv _ => (intOf bv).toNat)
  case atStart => exact ⟨0, 32, 2147483648, rfl, rfl, rfl, Nat.le_refl _, Nat.zero_le _, by have := HN.out; omega, by decide, rfl⟩
  case round =>
    obtain ⟨r, j, b, rfl, rfl, hb, hj, h1, h2, h3, rfl⟩ := hrel
    by_cases h0 : j = 0
    · subst h0
      have hb0 : b = 0 := hb
      subst hb0
      have hr := isq h1 h2
      have HR := Lib.hid hr; have H1 := Lib.hid h1; have H2 := Lib.hid h2; have H3 := Lib.hid h3; have HB := Lib.hid hb; clear hr h1 h2 h3 hb
      go_wp2
      go_ret
      exact ⟨by rw [HR.out]; rfl, rfl⟩
    · obtain ⟨i, rfl⟩ : ∃ i, j = i + 1 := ⟨j - 1, by omega⟩
      have e0 : 2 ^ (i + 1) = 2 ^ i * 2 := Nat.pow_succ 2 i
      have hbi : b = 2 ^ i := by rw [hb, e0]; omega
      have hb0 : 0 < b := by rw [hbi]; exact Nat.two_pow_pos i
      rw [e0, ← hbi] at h2 h3
      have x1 : (0 : Int) < (b : Int) := by omega
      have t1 : IntKind.u64.wrap ((r : Int) + (b : Int)) = (r : Int) + (b : Int) := IntWalk.u64_in _ (by omega)
      obtain ⟨c, hc⟩ : ∃ c, c = r + b := ⟨_, rfl⟩
      have hcc : c * c ≤ 4294967295 * 4294967295 := Nat.mul_le_mul (by omega) (by omega)
      have t2 : IntKind.u64.wrap (((r : Int) + (b : Int)) * ((r : Int) + (b : Int))) = ((c * c : Nat) : Int) := by
        rw [show (r : Int) + (b : Int) = (c : Int) by omega, ← Int.natCast_mul]
        exact IntWalk.u64_in _ (by omega)
      have t3 : (b : Int) / 2 = ((b / 2 : Nat) : Int) := by omega
      have hb2 : b / 2 = 2 ^ i / 2 := by rw [hbi]
      have hbl : b / 2 < b := by omega
      have hq : n < (r + b * 2) * (r + b * 2) := h2
      generalize b / 2 = b2 at *
      by_cases hle : c * c ≤ n
      · have y1 : ((c * c : Nat) : Int) ≤ (n : Int) := by omega
        have y2 : decide (((c * c : Nat) : Int) ≤ (n : Int)) = true := decide_eq_true y1
        have hn2 : n < (c + 2 ^ i) * (c + 2 ^ i) := by rw [← hbi, hc, show r + b + b = r + b * 2 by omega]; exact hq
        have hr3 : c + 2 ^ i ≤ 4294967296 := by rw [← hbi]; omega
        have hr : (r : Int) + (b : Int) = (c : Int) := by omega
        generalize hcc2 : c * c = cc at *
        rw [hr] at t1 t2
        have HB := Lib.hid hb; have H1 := Lib.hid h1; have H2 := Lib.hid h2; have H3 := Lib.hid h3; have HBI := Lib.hid hbi; have HCC := Lib.hid hcc; have HB2 := Lib.hid hb2; have HBL := Lib.hid hbl; have HQ := Lib.hid hq; have HLE := Lib.hid hle; have HN2 := Lib.hid hn2; have HR3 := Lib.hid hr3; have HC := Lib.hid hc; have E0 := Lib.hid e0; have HCC2 := Lib.hid hcc2; clear hb h1 h2 h3 hbi hcc hb2 hbl hq hle hn2 hr3 hc e0 hcc2
        go_wp2
        go_roundw
        case rel => exact ⟨c, i, b2, rfl, rfl, HB2.out, by omega, by rw [HCC2.out]; exact HLE.out, HN2.out, HR3.out, trivial⟩
        case measure => simp [intOf]; exact HBL.out
      · have y1 : ¬ ((c * c : Nat) : Int) ≤ (n : Int) := by omega
        have y2 : decide (((c * c : Nat) : Int) ≤ (n : Int)) = false := decide_eq_false y1
        have hn2 : n < (r + 2 ^ i) * (r + 2 ^ i) := by rw [← hbi, ← hc]; omega
        have hr3 : r + 2 ^ i ≤ 4294967296 := by rw [← hbi]; omega
        have hr : (r : Int) + (b : Int) = (c : Int) := by omega
        generalize hcc2 : c * c = cc at *
        rw [hr] at t1 t2
        have HB := Lib.hid hb; have H1 := Lib.hid h1; have H2 := Lib.hid h2; have H3 := Lib.hid h3; have HBI := Lib.hid hbi; have HCC := Lib.hid hcc; have HB2 := Lib.hid hb2; have HBL := Lib.hid hbl; have HQ := Lib.hid hq; have HLE := Lib.hid hle; have HN2 := Lib.hid hn2; have HR3 := Lib.hid hr3; have HC := Lib.hid hc; have E0 := Lib.hid e0; have HCC2 := Lib.hid hcc2; clear hb h1 h2 h3 hbi hcc hb2 hbl hq hle hn2 hr3 hc e0 hcc2
        go_wp2
        go_roundw
        case rel => exact ⟨r, i, b2, rfl, rfl, HB2.out, by omega, H1.out, HN2.out, HR3.out, trivial⟩
        case measure => simp [intOf]; exact HBL.out
end Go.Proofs.Ytlmhgcllikcedaa
/- The program's root, bit by bit. -/
namespace Go.Proofs.Ytlmhgcllikcedaa
open Go.RowKit

theorem natUp2_ (A : Option Addr) (c a : Nat) (w : World) (ha : RdN w A a) (hla : nl a ≤ 35184372088832) :
    Calls Try.prog 124 #[.slice A (nl a) c, .int .u64 2] w (NatPost (4 * a) w) := by
  have h : Calls Try.prog 124 #[.slice A (nl a) c, .int .u64 2] w (NatPost (a * 2 ^ 2) w) := natUp_ A c a 2 w ha hla (by decide)
  rwa [show a * 2 ^ 2 = 4 * a by omega] at h
theorem natPlus1_ (A : Option Addr) (c a R : Nat) (w : World) (ha : RdN w A a) (h1 : RdN w (some ⟨R, 0, none⟩) 1) (hla : nl a ≤ 35184372088832) :
    Calls Try.prog 57 #[.slice A (nl a) c, .slice (some ⟨R, 0, none⟩) 1 1] w (NatPost (a + 1) w) :=
  natPlus_ A (some ⟨R, 0, none⟩) c 1 a 1 w ha h1 hla (by decide)
theorem natUp1_ (A : Option Addr) (c a : Nat) (w : World) (ha : RdN w A a) (hla : nl a ≤ 35184372088832) :
    Calls Try.prog 124 #[.slice A (nl a) c, .int .u64 1] w (NatPost (2 * a) w) := by
  have h : Calls Try.prog 124 #[.slice A (nl a) c, .int .u64 1] w (NatPost (a * 2 ^ 1) w) := natUp_ A c a 1 w ha hla (by decide)
  rwa [show a * 2 ^ 1 = 2 * a by omega] at h
/-- Numbers below 2^b have not many digits. -/
theorem nl_bits {v b : Nat} (h : v < 2 ^ b) : nl v ≤ b / 32 + 1 := by
  refine nl_le.2 (Nat.lt_of_lt_of_le h ?_)
  unfold pw
  exact Nat.pow_le_pow_right (by decide) (by omega)
/-- One bit more of a root. -/
theorem root_step {n r t : Nat} (hr : Nat.sqrt n = r) (ht : t = n - r * r) :
    (4 * r + 1 ≤ 4 * t → Nat.sqrt (4 * n) = 2 * r + 1 ∧ 4 * n - (2 * r + 1) * (2 * r + 1) = 4 * t - (4 * r + 1)) ∧ (4 * t < 4 * r + 1 → Nat.sqrt (4 * n) = 2 * r ∧ 4 * n - (2 * r) * (2 * r) = 4 * t) := by
  have h1 := Nat.sqrt_le n
  have h2 := Nat.lt_succ_sqrt n
  rw [Nat.succ_eq_add_one] at h2
  rw [hr] at h1 h2
  have e1 : (2 * r + 1) * (2 * r + 1) = 4 * (r * r) + 4 * r + 1 := by grind
  have e2 : (2 * r) * (2 * r) = 4 * (r * r) := by grind
  have e3 : (r + 1) * (r + 1) = r * r + 2 * r + 1 := by grind
  have e4 : (2 * r + 1 + 1) * (2 * r + 1 + 1) = 4 * (r * r + 2 * r + 1) := by grind
  rw [e3] at h2
  constructor
  · intro h
    refine ⟨isq (by rw [e1]; omega) (by rw [e4]; omega), by rw [e1]; omega⟩
  · intro h
    refine ⟨isq (by rw [e2]; omega) (by rw [e1]; omega), by rw [e2]; omega⟩
theorem sqrt_bits {n b : Nat} (h : n < 2 ^ (2 * b)) : Nat.sqrt n < 2 ^ b ∧ n - Nat.sqrt n * Nat.sqrt n < 2 ^ (b + 1) := by
  have h1 := Nat.sqrt_le n
  have h2 := Nat.lt_succ_sqrt n
  rw [Nat.succ_eq_add_one] at h2
  have h3 : Nat.sqrt n < 2 ^ b := by
    rcases Nat.lt_or_ge (Nat.sqrt n) (2 ^ b) with h4 | h4
    · exact h4
    · have := Nat.mul_self_le_mul_self h4
      rw [← Nat.pow_add, show b + b = 2 * b by omega] at this
      omega
  refine ⟨h3, ?_⟩
  rw [Nat.pow_succ]
  have e3 : (Nat.sqrt n + 1) * (Nat.sqrt n + 1) = Nat.sqrt n * Nat.sqrt n + 2 * Nat.sqrt n + 1 := by grind
  rw [e3] at h2
  omega
set_option maxRecDepth 100000 in
set_option maxHeartbeats 8000000 in
theorem tRoot_ (s bits : Nat) (w : World) (hs : s < 18446744073709551616) (hb : bits ≤ 562949953421312) :
    Calls Try.prog 92 #[.int .u64 (s : Int), .int .u64 (bits : Int)] w (NatPost (Nat.sqrt (s * 4 ^ bits)) w) := by
  have hrr := Nat.sqrt_le s
  obtain ⟨r0, hr0⟩ : ∃ r0, r0 = Nat.sqrt s := ⟨_, rfl⟩
  have hsq4 : r0 < 4294967296 := by
    have := (sqrt_bits (n := s) (b := 32) hs).1
    rw [hr0]; exact this
  have hsq : r0 < 18446744073709551616 := by omega
  rw [← hr0] at hrr
  have hl1 : nl r0 ≤ 17592186044416 := Nat.le_trans (nl_le.2 (show r0 < pw 1 from hsq4)) (by decide)
  have hl2 : nl s ≤ 17592186044416 := Nat.le_trans (nl_le.2 (show s < pw 2 from hs)) (by decide)
  have hl3 : nl (r0 * r0) ≤ 17592186044416 := Nat.le_trans (nl_mono hrr) hl2
  have hB0 := Below.refl w.heap.size w
  have HS := Lib.hid hs; have HB := Lib.hid hb; have HSQ := Lib.hid hsq; have HRR := Lib.hid hrr; have HR0 := Lib.hid hr0; have HL1 := Lib.hid hl1; have HL2 := Lib.hid hl2; have HL3 := Lib.hid hl3; have HB0 := Lib.hid hB0; clear hs hb hsq hrr hr0 hl1 hl2 hl3 hB0
  go_enter Try.func92, Try.ntmps92
  go_wp2_with fail
  refine (tSquare_ s _ HS.out).mono ?_
  rintro e w1 ⟨rfl, rfl⟩
  rw [← HR0.out]
  go_wp2_with fail
  refine (tOf_ r0 w HSQ.out).mono ?_
  rintro e w1 ⟨A1, c1, rfl, h1, hc1, b1⟩
  have H1 := Lib.hid h1; have B1 := Lib.hid b1; have HC1 := Lib.hid hc1; clear h1 b1 hc1
  go_wp2_with fail
  refine (tOf_ s w1 HS.out).mono ?_
  rintro e w2 ⟨A2, c2, rfl, h2, _, b2⟩
  have g1 := H1.out.later b2 (Nat.le_refl _)
  have B2 := Lib.hid (B1.out.trans (b2.mono B1.out.size))
  clear H1 B1 b2
  have H2 := Lib.hid h2; have G1 := Lib.hid g1; clear h2 g1
  go_wp2_with fail
  refine (natTimes_ A1 A1 c1 c1 r0 r0 w2 G1.out G1.out HL1.out HL1.out).mono ?_
  rintro e w3 ⟨A3, c3, rfl, h3, _, b3⟩
  have k1 := G1.out.later b3 (Nat.le_refl _)
  have g2 := H2.out.later b3 (Nat.le_refl _)
  have B3 := Lib.hid (B2.out.trans (b3.mono B2.out.size))
  clear G1 H2 B2 b3
  have H3 := Lib.hid h3; have K1 := Lib.hid k1; have G2 := Lib.hid g2; clear h3 k1 g2
  go_wp2_with fail
  refine (natMinus_ A2 A3 c2 c3 s (r0 * r0) w3 G2.out H3.out (by have := HL2.out; omega) HRR.out).mono ?_
  rintro e w4 ⟨A4, c4, rfl, h4, _, b4⟩
  have h1 := K1.out.later b4 (Nat.le_refl _)
  have B4 := Lib.hid (B3.out.trans (b4.mono B3.out.size))
  clear K1 G2 H3 B3 b4
  have ho := heap_alloc_new w4 (.cells #[.int .u32 1] 104)
  have hb5 : Below w4.heap.size w4 (w4.alloc (.cells #[.int .u32 1] 104)) := (Below.refl _ _).alloc (Nat.le_refl _) _
  have h1b := h1.later hb5 (Nat.le_refl _)
  have h4b := h4.later hb5 (Nat.le_refl _)
  have B5 := Lib.hid (B4.out.trans (hb5.mono B4.out.size))
  have hone : RdN (w4.alloc (.cells #[.int .u32 1] 104)) (some ⟨w4.heap.size, 0, none⟩) 1 := RdD.of_u4 (R := w4.heap.size) (n := 1) (g := fun _ => 1) ho fun j hj => by
    obtain rfl : j = 0 := by have : nl 1 = 1 := by decide
                             omega
    decide
  clear h1 h4 hb5 ho B4
  have H1B := Lib.hid h1b; have H4B := Lib.hid h4b; have HONE := Lib.hid hone; clear h1b h4b hone
  go_upto_region 4 with fail
  generalize w4.alloc (.cells #[.int .u32 1] 104) = w5 at *
  have h1c := H1B.out
  have h4c := H4B.out
  have hoc := HONE.out
  clear H1B H4B HONE
  generalize w4.heap.size = R1 at *
  have H1C := Lib.hid h1c; have H4C := Lib.hid h4c; have HOC := Lib.hid hoc; clear h1c h4c hoc
  go_wp2
  go_loopw [5, 6, 8, 20] (fun rv tv _ iv wr => ∃ (k : Nat) (A : Option Addr) (c : Nat) (B : Option Addr) (d r t : Nat), iv = .int .u64 (k : Int) ∧ k ≤ bits ∧ r = Nat.sqrt (s * 4 ^ k) ∧ t = s * 4 ^ k - r * r ∧ rv = .slice A (nl r) c ∧ tv = .slice B (nl t) d ∧ RdN wr A r ∧ RdN wr B t ∧ RdN wr (some ⟨R1, 0, none⟩) 1 ∧ nl r ≤ c ∧ Below w.heap.size w wr) (fun _ _ _ iv _ => bits - (intOf iv).toNat)
  case atStart => exact ⟨0, A1, c1, A4, c4, r0, s - r0 * r0, rfl, Nat.zero_le _, by rw [HR0.out]; simp, by simp, rfl, rfl, H1C.out, H4C.out, HOC.out, HC1.out, B5.out⟩
  case round =>
    clear H1C H4C HOC B5 HC1
    obtain ⟨k, A, c, B, d, r, t, rfl, hk, hr, ht, rfl, rfl, h1, h2, h3, hrc, hbw⟩ := hrel
    by_cases hkb : k < bits
    · have hlt : s * 4 ^ k < 2 ^ (2 * (32 + k)) := by
        rw [show 2 * (32 + k) = 64 + 2 * k by omega, Nat.pow_add, show (4 : Nat) = 2 ^ 2 by decide, ← Nat.pow_mul]
        exact Nat.mul_lt_mul_of_pos_right HS.out (Nat.two_pow_pos _)
      obtain ⟨g1, g2⟩ := sqrt_bits hlt
      rw [← hr] at g1 g2
      rw [← ht] at g2
      have hstep := root_step hr.symm ht
      have en : s * 4 ^ (k + 1) = 4 * (s * 4 ^ k) := by rw [Nat.pow_succ]; ac_rfl
      rw [← en] at hstep
      have hb := HB.out
      have n1 : nl r ≤ 17592186044420 := Nat.le_trans (nl_bits g1) (by omega)
      have n2 : nl t ≤ 17592186044420 := Nat.le_trans (nl_bits g2) (by omega)
      have p1 : 4 * r < 2 ^ (32 + k + 2) := by rw [Nat.pow_add]; omega
      have p2 : 4 * t < 2 ^ (32 + k + 1 + 2) := by rw [Nat.pow_add 2 (32 + k + 1)]; omega
      have p3 : 4 * r + 1 < 2 ^ (32 + k + 3) := by rw [Nat.pow_add] at p1 ⊢; omega
      have p4 : 2 * r < 2 ^ (32 + k + 1) := by rw [Nat.pow_add]; omega
      have n3 : nl (4 * r) ≤ 17592186044420 := Nat.le_trans (nl_bits p1) (by omega)
      have n4 : nl (4 * t) ≤ 17592186044420 := Nat.le_trans (nl_bits p2) (by omega)
      have n5 : nl (4 * r + 1) ≤ 17592186044420 := Nat.le_trans (nl_bits p3) (by omega)
      have n6 : nl (2 * r) ≤ 17592186044420 := Nat.le_trans (nl_bits p4) (by omega)
      have x1 : (k : Int) < (bits : Int) := by omega
      have x2 : IntKind.u64.wrap ((k : Int) + 1) = (k : Int) + 1 := IntWalk.u64_in _ (by omega)
      clear hb g1 g2 p1 p2 p3 p4 en hlt
      have HK := Lib.hid hk; have HR := Lib.hid hr; have HT := Lib.hid ht; have H1 := Lib.hid h1; have H2 := Lib.hid h2; have H3 := Lib.hid h3; have HBW := Lib.hid hbw; have HKB := Lib.hid hkb; have HSTEP := Lib.hid hstep; have N1 := Lib.hid n1; have N2 := Lib.hid n2; have N3 := Lib.hid n3; have N4 := Lib.hid n4; have N5 := Lib.hid n5; have N6 := Lib.hid n6; have HRC := Lib.hid hrc; clear hk hr ht h1 h2 h3 hbw hkb hstep n1 n2 n3 n4 n5 n6 hrc
      go_wp2_with fail
      refine (natUp2_ B d t wr H2.out (by have := N2.out; omega)).mono ?_
      rintro e x0 ⟨A0, c0, rfl, h0, _, b1⟩
      have qH1 := H1.out.later b1 (Nat.le_refl _)
      have qH2 := H2.out.later b1 (Nat.le_refl _)
      have qH3 := H3.out.later b1 (Nat.le_refl _)
      have qB := HBW.out.trans (b1.mono HBW.out.size)
      clear b1 HBW H1 H2 H3
      have H1 := Lib.hid qH1; clear qH1
      have H2 := Lib.hid qH2; clear qH2
      have H3 := Lib.hid qH3; clear qH3
      have HBW := Lib.hid qB; clear qB
      have T4 := Lib.hid h0; clear h0
      go_wp2_with fail
      refine (natUp2_ A c r x0 H1.out (by have := N1.out; omega)).mono ?_
      rintro e x1 ⟨A1, c1, rfl, h1, _, b1⟩
      have qH1 := H1.out.later b1 (Nat.le_refl _)
      have qH2 := H2.out.later b1 (Nat.le_refl _)
      have qH3 := H3.out.later b1 (Nat.le_refl _)
      have qT4 := T4.out.later b1 (Nat.le_refl _)
      have qB := HBW.out.trans (b1.mono HBW.out.size)
      clear b1 HBW H1 H2 H3 T4
      have H1 := Lib.hid qH1; clear qH1
      have H2 := Lib.hid qH2; clear qH2
      have H3 := Lib.hid qH3; clear qH3
      have T4 := Lib.hid qT4; clear qT4
      have HBW := Lib.hid qB; clear qB
      have R4 := Lib.hid h1; clear h1
      go_wp2_with fail
      refine (natPlus1_ A1 c1 (4 * r) R1 x1 R4.out H3.out (by have := N3.out; omega)).mono ?_
      rintro e x2 ⟨A2, c2, rfl, h2, _, b1⟩
      have qH1 := H1.out.later b1 (Nat.le_refl _)
      have qH2 := H2.out.later b1 (Nat.le_refl _)
      have qH3 := H3.out.later b1 (Nat.le_refl _)
      have qT4 := T4.out.later b1 (Nat.le_refl _)
      have qR4 := R4.out.later b1 (Nat.le_refl _)
      have qB := HBW.out.trans (b1.mono HBW.out.size)
      clear b1 HBW H1 H2 H3 T4 R4
      have H1 := Lib.hid qH1; clear qH1
      have H2 := Lib.hid qH2; clear qH2
      have H3 := Lib.hid qH3; clear qH3
      have T4 := Lib.hid qT4; clear qT4
      have R4 := Lib.hid qR4; clear qR4
      have HBW := Lib.hid qB; clear qB
      have S4 := Lib.hid h2; clear h2
      go_wp2_with fail
      refine (natUp1_ A c r x2 H1.out (by have := N1.out; omega)).mono ?_
      rintro e x3 ⟨A3, c3, rfl, h3, hc3, b1⟩
      have HC3 := Lib.hid hc3; clear hc3
      have qH1 := H1.out.later b1 (Nat.le_refl _)
      have qH2 := H2.out.later b1 (Nat.le_refl _)
      have qH3 := H3.out.later b1 (Nat.le_refl _)
      have qT4 := T4.out.later b1 (Nat.le_refl _)
      have qR4 := R4.out.later b1 (Nat.le_refl _)
      have qS4 := S4.out.later b1 (Nat.le_refl _)
      have qB := HBW.out.trans (b1.mono HBW.out.size)
      clear b1 HBW H1 H2 H3 T4 R4 S4
      have H1 := Lib.hid qH1; clear qH1
      have H2 := Lib.hid qH2; clear qH2
      have H3 := Lib.hid qH3; clear qH3
      have T4 := Lib.hid qT4; clear qT4
      have R4 := Lib.hid qR4; clear qR4
      have S4 := Lib.hid qS4; clear qS4
      have HBW := Lib.hid qB; clear qB
      have R2 := Lib.hid h3; clear h3
      go_wp2_with fail
      refine (natCompare_ A0 A2 c0 c2 (4 * t) (4 * r + 1) x3 T4.out S4.out (by have := N4.out; omega) (by have := N5.out; omega)).mono ?_
      rintro e x4 ⟨z, rfl, hz, b1⟩
      have qH1 := H1.out.later b1 (Nat.le_refl _)
      have qH2 := H2.out.later b1 (Nat.le_refl _)
      have qH3 := H3.out.later b1 (Nat.le_refl _)
      have qT4 := T4.out.later b1 (Nat.le_refl _)
      have qR4 := R4.out.later b1 (Nat.le_refl _)
      have qS4 := S4.out.later b1 (Nat.le_refl _)
      have qR2 := R2.out.later b1 (Nat.le_refl _)
      have qB := HBW.out.trans (b1.mono HBW.out.size)
      clear b1 HBW H1 H2 H3 T4 R4 S4 R2
      have H1 := Lib.hid qH1; clear qH1
      have H2 := Lib.hid qH2; clear qH2
      have H3 := Lib.hid qH3; clear qH3
      have T4 := Lib.hid qT4; clear qT4
      have R4 := Lib.hid qR4; clear qR4
      have S4 := Lib.hid qS4; clear qS4
      have R2 := Lib.hid qR2; clear qR2
      have HBW := Lib.hid qB; clear qB
      by_cases hge : 4 * r + 1 ≤ 4 * t
      · have hz0 : (0 : Int) ≤ z := by have := hz.1; omega
        have hz1 : decide ((0 : Int) ≤ z) = true := decide_eq_true hz0
        obtain ⟨j1, j2⟩ := HSTEP.out.1 hge
        have HZ := Lib.hid hz; have HGE := Lib.hid hge; have J1 := Lib.hid j1; have J2 := Lib.hid j2; clear hz hge j1 j2
        go_wp2_with fail
        refine (natMinus_ A0 A2 c0 c2 (4 * t) (4 * r + 1) x4 T4.out S4.out (by have := N4.out; omega) HGE.out).mono ?_
        rintro e x5 ⟨A5, c5, rfl, h5, _, b1⟩
        have qH1 := H1.out.later b1 (Nat.le_refl _)
        have qH2 := H2.out.later b1 (Nat.le_refl _)
        have qH3 := H3.out.later b1 (Nat.le_refl _)
        have qT4 := T4.out.later b1 (Nat.le_refl _)
        have qR4 := R4.out.later b1 (Nat.le_refl _)
        have qS4 := S4.out.later b1 (Nat.le_refl _)
        have qR2 := R2.out.later b1 (Nat.le_refl _)
        have qB := HBW.out.trans (b1.mono HBW.out.size)
        clear b1 HBW H1 H2 H3 T4 R4 S4 R2
        have H1 := Lib.hid qH1; clear qH1
        have H2 := Lib.hid qH2; clear qH2
        have H3 := Lib.hid qH3; clear qH3
        have T4 := Lib.hid qT4; clear qT4
        have R4 := Lib.hid qR4; clear qR4
        have S4 := Lib.hid qS4; clear qS4
        have R2 := Lib.hid qR2; clear qR2
        have HBW := Lib.hid qB; clear qB
        have T5 := Lib.hid h5; clear h5
        go_wp2_with fail
        refine (natPlus1_ A3 c3 (2 * r) R1 x5 R2.out H3.out (by have := N6.out; omega)).mono ?_
        rintro e x6 ⟨A6, c6, rfl, h6, hc6, b1⟩
        have HC6 := Lib.hid hc6; clear hc6
        have qH1 := H1.out.later b1 (Nat.le_refl _)
        have qH2 := H2.out.later b1 (Nat.le_refl _)
        have qH3 := H3.out.later b1 (Nat.le_refl _)
        have qT4 := T4.out.later b1 (Nat.le_refl _)
        have qR4 := R4.out.later b1 (Nat.le_refl _)
        have qS4 := S4.out.later b1 (Nat.le_refl _)
        have qR2 := R2.out.later b1 (Nat.le_refl _)
        have qT5 := T5.out.later b1 (Nat.le_refl _)
        have qB := HBW.out.trans (b1.mono HBW.out.size)
        clear b1 HBW H1 H2 H3 T4 R4 S4 R2 T5
        have H1 := Lib.hid qH1; clear qH1
        have H2 := Lib.hid qH2; clear qH2
        have H3 := Lib.hid qH3; clear qH3
        have T4 := Lib.hid qT4; clear qT4
        have R4 := Lib.hid qR4; clear qR4
        have S4 := Lib.hid qS4; clear qS4
        have R2 := Lib.hid qR2; clear qR2
        have T5 := Lib.hid qT5; clear qT5
        have HBW := Lib.hid qB; clear qB
        have R5 := Lib.hid h6; clear h6
        go_wp2
        go_roundw
        case rel => exact ⟨k + 1, A6, c6, A5, c5, 2 * r + 1, 4 * t - (4 * r + 1), by go_num, by have := HKB.out; omega, J1.out.symm, J2.out.symm, rfl, rfl, R5.out, T5.out, H3.out, HC6.out, HBW.out⟩
        case measure => simp [intOf]; have := HKB.out; omega
      · have hz0 : ¬ (0 : Int) ≤ z := by have := hz.1; omega
        have hz1 : decide ((0 : Int) ≤ z) = false := decide_eq_false hz0
        obtain ⟨j1, j2⟩ := HSTEP.out.2 (by omega)
        have HZ := Lib.hid hz; have HGE := Lib.hid hge; have J1 := Lib.hid j1; have J2 := Lib.hid j2; clear hz hge j1 j2
        go_wp2
        go_roundw
        case rel => exact ⟨k + 1, A3, c3, A0, c0, 2 * r, 4 * t, by go_num, by have := HKB.out; omega, J1.out.symm, J2.out.symm, rfl, rfl, R2.out, T4.out, H3.out, HC3.out, HBW.out⟩
        case measure => simp [intOf]; have := HKB.out; omega
    · obtain rfl : k = bits := by omega
      have x1 : ¬ (k : Int) < (k : Int) := by omega
      subst hr
      have HT := Lib.hid ht; have H1 := Lib.hid h1; have H2 := Lib.hid h2; have H3 := Lib.hid h3; have HBW := Lib.hid hbw; have HRC := Lib.hid hrc; clear ht h1 h2 h3 hbw hrc
      go_wp2
      go_ret
      exact ⟨_, _, rfl, H1.out, HRC.out, HBW.out⟩
end Go.Proofs.Ytlmhgcllikcedaa
/- The normal root of a number. -/
namespace Go.Proofs.Ytlmhgcllikcedaa
open Go.RowKit

def RtPost (n : Nat) (w : World) (e : Ending) (w' : World) : Prop := ∃ K S : Nat, e = .returned (.agg #[.int .i64 (K : Int), .int .i64 (S : Int)]) ∧ IsRt n K S ∧ Below w.heap.size w w'
theorem tdiv_nat (a b : Nat) : Int.tdiv (a : Int) (b : Int) = ((a / b : Nat) : Int) := (Int.ofNat_tdiv a b).symm
theorem tmod_nat (a b : Nat) : Int.tmod (a : Int) (b : Int) = ((a % b : Nat) : Int) := (Int.ofNat_tmod a b).symm
theorem wrap_nat {a : Nat} (h : a ≤ 9223372036854775807) : IntKind.i64.wrap (a : Int) = (a : Int) := IntWalk.i64_in _ (by omega)
theorem cube_le {t m : Nat} (h : t * t * t ≤ m) (hm : m ≤ 1000000000000) : t ≤ 10000 := by
  rcases Nat.lt_or_ge 10000 t with h1 | h1
  · have h2 := Nat.mul_le_mul (Nat.mul_le_mul h1 h1) h1
    omega
  · exact h1
set_option maxRecDepth 100000 in
set_option maxHeartbeats 4000000 in
theorem tnLarge_ (n k m d : Nat) (w : World) (hn : n ≤ 1000000000000) (hk : 0 < k) (hdef : n = k * k * m) (hm : 0 < m) (hd : m < d * d * d) (hs : NoSq m d) :
    Calls Try.prog 48 #[.int .i64 (n : Int), .int .i64 (k : Int)] w (RtPost n w) := by
  have hkn : k ≤ n := by
    rw [hdef, Nat.mul_assoc]
    exact Nat.le_mul_of_pos_right _ (Nat.mul_pos hk hm)
  have e1 : n / k = k * m := by rw [hdef, Nat.mul_assoc, Nat.mul_div_cancel_left _ hk]
  have e2 : k * m / k = m := Nat.mul_div_cancel_left _ hk
  have hkm : k * m ≤ n := by rw [hdef, Nat.mul_assoc]; exact Nat.le_mul_of_pos_left _ hk
  have hmk : m ≤ k * m := Nat.le_mul_of_pos_left _ hk
  have t1 : Int.tdiv (n : Int) (k : Int) = ((k * m : Nat) : Int) := by rw [tdiv_nat, e1]
  have t2 : Int.tdiv ((k * m : Nat) : Int) (k : Int) = (m : Int) := by rw [tdiv_nat, e2]
  have v1 : IntKind.i64.wrap ((k * m : Nat) : Int) = ((k * m : Nat) : Int) := wrap_nat (by omega)
  have v2 : IntKind.i64.wrap (m : Int) = (m : Int) := wrap_nat (by omega)
  have k0 : ¬ (k : Int) = 0 := by omega
  have k1 : ((k : Int) == 0) = false := by rw [beq_eq_false_iff_ne]; omega
  generalize hkme : k * m = km at *
  have HN := Lib.hid hn; have HDEF := Lib.hid hdef; have HD := Lib.hid hd; have HS := Lib.hid hs; have HKN := Lib.hid hkn; have E1 := Lib.hid e1; have E2 := Lib.hid e2; have HKM := Lib.hid hkm; have HMK := Lib.hid hmk; have HKME := Lib.hid hkme; clear hn hdef hd hs hkn e1 e2 hkm hmk hkme
  go_enter Try.func48, Try.ntmps48
  go_wp2
  obtain ⟨w1, hw1⟩ : ∃ w1, w1 = w.alloc (.cells #[.int .i64 0, .int .i64 0] 26) := ⟨_, rfl⟩
  rw [← hw1]
  have hE : w1.heap[w.heap.size]? = some (.cells #[.int .i64 0, .int .i64 0] 26 (0, 0)) := by rw [hw1]; exact heap_alloc_new _ _
  have hbw : Below w.heap.size w w1 := by rw [hw1]; exact (Below.refl _ _).alloc (Nat.le_refl _) _
  have hEl := lt_of_block hE
  have g0 := frozen_of_row _ _ 0 _ _ hE
  have g1 := frozen_of_row _ _ 1 _ _ hE
  have x0 := cell_of_row _ _ 0 _ _ _ hE
  have x1 := cell_of_row _ _ 1 _ _ _ hE
  simp only [List.getElem?_toArray, List.getElem?_cons_zero, List.getElem?_cons_succ] at x0 x1
  have hfin : ∀ u v : Int, ((w1.setCell ⟨w.heap.size, 0, none⟩ (.int .i64 u)).setCell ⟨w.heap.size, 1, none⟩ (.int .i64 v)).heap[w.heap.size]? = some (.cells #[.int .i64 u, .int .i64 v] 26 (0, 0)) ∧ Below w.heap.size w ((w1.setCell ⟨w.heap.size, 0, none⟩ (.int .i64 u)).setCell ⟨w.heap.size, 1, none⟩ (.int .i64 v)) := fun u v => by
    have k0 := heap_setCell_same w1 w.heap.size 0 _ _ (.int .i64 u) hE
    have k1 := heap_setCell_same _ w.heap.size 1 _ _ (.int .i64 v) k0
    exact ⟨k1, (hbw.setCell (Nat.le_refl _) _).setCell (Nat.le_refl _) _⟩
  clear hw1 t1 t2
  have HE := Lib.hid hE; have HBW := Lib.hid hbw; have HFIN := Lib.hid hfin; clear hE hbw hfin
  go_loopw [6, 7, 8] (fun tv _ _ wr => ∃ t : Nat, tv = .int .i64 (t : Int) ∧ 0 < t ∧ t ≤ 10001 ∧ (∀ t', 0 < t' → t' < t → t' ∣ m → ∀ r, 1 < r → r * r ≠ m / t') ∧ wr = w1) (fun tv _ _ _ => 10002 - (intOf tv).toNat)
  case atStart => exact ⟨1, rfl, by decide, by decide, fun t' h1 h2 => by omega, rfl⟩
  case round =>
    obtain ⟨t, rfl, ht0, ht1, hno, rfl⟩ := hrel
    have htt : t * t ≤ 10001 * 10001 := Nat.mul_le_mul ht1 ht1
    have httt : t * t * t ≤ 10001 * 10001 * 10001 := Nat.mul_le_mul htt ht1
    have c1 : IntKind.i64.wrap ((t : Int) * (t : Int)) = ((t * t : Nat) : Int) := by rw [← Int.natCast_mul]; exact wrap_nat (Nat.le_trans htt (by decide))
    have c2 : IntKind.i64.wrap (((t * t : Nat) : Int) * (t : Int)) = ((t * t * t : Nat) : Int) := by rw [← Int.natCast_mul]; exact wrap_nat (Nat.le_trans httt (by decide))
    by_cases hle : t * t * t ≤ m
    · have ht2 := cube_le hle (by have := HN.out; have := HKM.out; have := HMK.out; omega)
      have y1 : ((t * t * t : Nat) : Int) ≤ (m : Int) := by omega
      have y2 : decide (((t * t * t : Nat) : Int) ≤ (m : Int)) = true := decide_eq_true y1
      have y3 : ¬ (t : Int) = 0 := by omega
      have y4 : ((t : Int) == 0) = false := by rw [beq_eq_false_iff_ne]; omega
      have y5 : Int.tmod (m : Int) (t : Int) = ((m % t : Nat) : Int) := tmod_nat m t
      have y6 : IntKind.i64.wrap ((m % t : Nat) : Int) = ((m % t : Nat) : Int) := wrap_nat (Nat.le_trans (Nat.le_of_lt (Nat.mod_lt m ht0)) (by omega))
      have y7 : IntKind.i64.wrap ((t : Int) + 1) = (t : Int) + 1 := IntWalk.i64_in _ (by omega)
      have y8 : Int.tdiv (m : Int) (t : Int) = ((m / t : Nat) : Int) := tdiv_nat m t
      have hq := Nat.div_le_self m t
      have hm12 : m ≤ 1000000000000 := by have := HN.out; have := HKM.out; have := HMK.out; omega
      have y9 : IntKind.i64.wrap ((m / t : Nat) : Int) = ((m / t : Nat) : Int) := wrap_nat (by omega)
      have y10 : IntKind.u64.wrap ((m / t : Nat) : Int) = ((m / t : Nat) : Int) := IntWalk.u64_in _ ⟨Int.natCast_nonneg _, by have : ((m / t : Nat) : Int) ≤ (m : Int) := Int.ofNat_le.2 hq; omega⟩
      have hlf : ∀ r, m = t * (r * r) → SqF t := fun r h => large_found HS.out HD.out hm hle h
      clear htt httt
      generalize hp2 : t * t * t = ttt at *
      generalize hp1 : t * t = tt at *
      by_cases hdv : m % t = 0
      · have hmt : m = t * (m / t) := by have := Nat.div_add_mod m t; omega
        have hcall := fun W => tSquare_ (m / t) W (by omega)
        have hsl := Nat.sqrt_le (m / t)
        obtain ⟨r, hr⟩ : ∃ r, r = Nat.sqrt (m / t) := ⟨_, rfl⟩
        rw [← hr] at hsl
        have hrr : ∀ r', r' * r' = m / t → r' = r := fun r' h => by
          rw [hr]; exact (isq (by omega) (by rw [← h]; exact Nat.mul_self_lt_mul_self (Nat.lt_succ_self r'))).symm
        rw [hdv] at y5 y6
        simp only [← hr] at hcall
        generalize hqe : m / t = q at *
        have hrl : r ≤ q := by
          rcases Nat.eq_zero_or_pos r with h | h
          · omega
          · have := Nat.mul_le_mul_left r h; omega
        have z1 : IntKind.i64.wrap (r : Int) = (r : Int) := wrap_nat (by omega)
        have z2 : IntKind.i64.wrap ((r : Int) * (r : Int)) = ((r * r : Nat) : Int) := by rw [← Int.natCast_mul]; exact wrap_nat (by omega)
        have hnx : r * r ≠ q ∨ ¬ 1 < r → ∀ t', 0 < t' → t' < t + 1 → t' ∣ m → ∀ r', 1 < r' → r' * r' ≠ m / t' := fun h t' h1 h2 h3 r' h4 h5 => by
          rcases Nat.lt_or_ge t' t with h6 | h6
          · exact hno t' h1 h6 h3 r' h4 h5
          · have : t' = t := by omega
            subst this
            rw [hqe] at h5
            have h7 := hrr r' h5
            subst h7
            rcases h with h | h
            · exact h h5
            · exact h h4
        by_cases h1r : 1 < r
        · have z3 : (1 : Int) < (r : Int) := by omega
          have z4 : decide ((1 : Int) < (r : Int)) = true := decide_eq_true z3
          by_cases hfound : r * r = q
          · have hres : IsRt n (k * r) t := ⟨by rw [HDEF.out, hmt, ← hfound]; ac_rfl, hlf r (by rw [hfound]; exact hmt)⟩
            have hkr : k * r ≤ n := by
              rw [HDEF.out, hmt, ← hfound]
              calc k * r = k * r * (1 * 1 * 1) := by omega
                _ ≤ k * r * (k * t * r) := Nat.mul_le_mul_left _ (Nat.mul_le_mul (Nat.mul_le_mul hk ht0) (by omega))
                _ = k * k * (t * (r * r)) := by ac_rfl
            have z5 : (((r * r : Nat) : Int) == (q : Int)) = true := by rw [hfound]; simp
            have z6 : ((r * r : Nat) : Int) = (q : Int) := by rw [hfound]
            have z7 : IntKind.i64.wrap ((k : Int) * (r : Int)) = ((k * r : Nat) : Int) := by rw [← Int.natCast_mul]; exact wrap_nat (by have := HN.out; omega)
            obtain ⟨f1, f2⟩ := HFIN.out ((k * r : Nat) : Int) (t : Int)
            generalize hr2 : r * r = rr at *
            generalize hkr2 : k * r = kr at *
            subst hfound
            clear hsl hrr hnx hlf z5 hq
            have HRES := Lib.hid hres; have HKR := Lib.hid hkr; have F1 := Lib.hid f1; have F2 := Lib.hid f2; have HNO := Lib.hid hno; have HMT := Lib.hid hmt; have HDV := Lib.hid hdv; have HQE := Lib.hid hqe; have HR := Lib.hid hr; have HR2 := Lib.hid hr2; have HKR2 := Lib.hid hkr2; have HP1 := Lib.hid hp1; have HP2 := Lib.hid hp2; have HCALL := Lib.hid hcall; clear hres hkr f1 f2 hno hmt hdv hqe hr hr2 hkr2 hp1 hp2 hcall
            go_wp2_with fail
            refine (HCALL.out _).mono ?_
            rintro e wv ⟨rfl, rfl⟩
            go_wp2
            have g2 := cell_of_row _ _ 0 _ _ _ F1.out
            have g3 := cell_of_row _ _ 1 _ _ _ F1.out
            simp only [List.getElem?_toArray, List.getElem?_cons_zero, List.getElem?_cons_succ] at g2 g3
            exact bodyPost_ret (v := .agg #[.int .i64 (kr : Int), .int .i64 (t : Int)]) (by simp [results, Try.results48, go_sem, g2, g3]) rfl ⟨kr, t, rfl, HRES.out, F2.out⟩
          · have z5 : (((r * r : Nat) : Int) == (q : Int)) = false := by rw [beq_eq_false_iff_ne]; omega
            have z6 : ¬ ((r * r : Nat) : Int) = (q : Int) := by omega
            have hnx2 := hnx (.inl hfound)
            generalize hr2 : r * r = rr at *
            clear hsl hrr hnx hlf
            have HNO := Lib.hid hno; have HMT := Lib.hid hmt; have HDV := Lib.hid hdv; have HQE := Lib.hid hqe; have HR := Lib.hid hr; have HR2 := Lib.hid hr2; have HP1 := Lib.hid hp1; have HP2 := Lib.hid hp2; have HNX2 := Lib.hid hnx2; have HCALL := Lib.hid hcall; have HQ := Lib.hid hq; clear hno hmt hdv hqe hr hr2 hp1 hp2 hnx2 hcall hq
            go_wp2_with fail
            refine (HCALL.out _).mono ?_
            rintro e wv ⟨rfl, rfl⟩
            go_wp2
            go_roundw
            case rel => exact ⟨t + 1, by go_num, by omega, by omega, HNX2.out, trivial⟩
            case measure => simp [intOf]; omega
        · have z3 : ¬ (1 : Int) < (r : Int) := by omega
          have z4 : decide ((1 : Int) < (r : Int)) = false := decide_eq_false z3
          have hnx2 := hnx (.inr h1r)
          generalize hr2 : r * r = rr at *
          clear hsl hrr hnx hlf
          have HNO := Lib.hid hno; have HMT := Lib.hid hmt; have HDV := Lib.hid hdv; have HQE := Lib.hid hqe; have HR := Lib.hid hr; have HR2 := Lib.hid hr2; have HP1 := Lib.hid hp1; have HP2 := Lib.hid hp2; have HNX2 := Lib.hid hnx2; have HCALL := Lib.hid hcall; have HQ := Lib.hid hq; clear hno hmt hdv hqe hr hr2 hp1 hp2 hnx2 hcall hq
          go_wp2_with fail
          refine (HCALL.out _).mono ?_
          rintro e wv ⟨rfl, rfl⟩
          go_wp2
          go_roundw
          case rel => exact ⟨t + 1, by go_num, by omega, by omega, HNX2.out, trivial⟩
          case measure => simp [intOf]; omega
      · have hnd : ¬ t ∣ m := fun h => hdv (Nat.mod_eq_zero_of_dvd h)
        have hnx2 : ∀ t', 0 < t' → t' < t + 1 → t' ∣ m → ∀ r', 1 < r' → r' * r' ≠ m / t' := fun t' h1 h2 h3 r' h4 h5 => by
          rcases Nat.lt_or_ge t' t with h6 | h6
          · exact hno t' h1 h6 h3 r' h4 h5
          · have : t' = t := by omega
            subst this
            exact hnd h3
        have z1 : (((m % t : Nat) : Int) != 0) = true := by simp; omega
        have z2 : ¬ ((m % t : Nat) : Int) = 0 := by omega
        generalize hmte : m % t = mt at *
        clear hlf y8 y9 y10
        have HNO := Lib.hid hno; have HDV := Lib.hid hdv; have HP1 := Lib.hid hp1; have HP2 := Lib.hid hp2; have HNX2 := Lib.hid hnx2; have HND := Lib.hid hnd; have HMTE := Lib.hid hmte; have HQ := Lib.hid hq; clear hno hdv hp1 hp2 hnx2 hnd hmte hq
        go_wp2
        go_roundw
        case rel => exact ⟨t + 1, by go_num, by omega, by omega, HNX2.out, trivial⟩
        case measure => simp [intOf]; omega
    · have hall : SqF m := large_none HS.out HD.out hm fun t' h1 h2 h3 r' h4 h5 => by
        rcases Nat.lt_or_ge t' t with h6 | h6
        · exact hno t' h1 h6 h3 r' h4 h5
        · have h7 := Nat.mul_le_mul (Nat.mul_le_mul h6 h6) h6
          omega
      have hres : IsRt n k m := ⟨HDEF.out, hall⟩
      have y1 : ¬ ((t * t * t : Nat) : Int) ≤ (m : Int) := by omega
      have y2 : decide (((t * t * t : Nat) : Int) ≤ (m : Int)) = false := decide_eq_false y1
      obtain ⟨f1, f2⟩ := HFIN.out (k : Int) (m : Int)
      clear htt httt
      generalize hp2 : t * t * t = ttt at *
      generalize hp1 : t * t = tt at *
      have HRES := Lib.hid hres; have F1 := Lib.hid f1; have F2 := Lib.hid f2; have HNO := Lib.hid hno; have HALL := Lib.hid hall; have HP1 := Lib.hid hp1; have HP2 := Lib.hid hp2; clear hres f1 f2 hno hall hp1 hp2
      go_wp2
      have g2 := cell_of_row _ _ 0 _ _ _ F1.out
      have g3 := cell_of_row _ _ 1 _ _ _ F1.out
      simp only [List.getElem?_toArray, List.getElem?_cons_zero, List.getElem?_cons_succ] at g2 g3
      exact bodyPost_ret (v := .agg #[.int .i64 (k : Int), .int .i64 (m : Int)]) (by simp [results, Try.results48, go_sem, g2, g3]) rfl ⟨k, m, rfl, HRES.out, F2.out⟩
/-- What Root says: the error, and the normal root. -/
def RootPost (n : Int) (w : World) (e : Ending) (w' : World) : Prop := ∃ K S x : Int, e = .returned (.tuple #[.agg #[.int .i64 K, .int .i64 S], .int .i64 x]) ∧ Below w.heap.size w w' ∧
  (n < 0 ∨ 1000000000000 < n → K = 0 ∧ S = 0 ∧ x = 7) ∧ (n = 0 → K = 0 ∧ S = 1 ∧ x = 0) ∧ (0 < n → n ≤ 1000000000000 → x = 0 ∧ 0 < K ∧ 0 < S ∧ IsRt n.toNat K.toNat S.toNat)
theorem root_bad {n : Int} {w w' : World} (h : n < 0 ∨ 1000000000000 < n) (hb : Below w.heap.size w w') : RootPost n w (.returned (.tuple #[.agg #[.int .i64 0, .int .i64 0], .int .i64 7])) w' :=
  ⟨0, 0, 7, rfl, hb, fun _ => ⟨rfl, rfl, rfl⟩, fun h => by omega, fun h => by omega⟩
theorem root_ok {n : Nat} {w w' : World} {K S : Nat} (h0 : 0 < n) (h12 : n ≤ 1000000000000) (hr : IsRt n K S) (hb : Below w.heap.size w w') : RootPost (n : Int) w (.returned (.tuple #[.agg #[.int .i64 (K : Int), .int .i64 (S : Int)], .int .i64 0])) w' := by
  have hS := hr.2.1
  have hK : 0 < K := by
    rcases Nat.eq_zero_or_pos K with h | h
    · have := hr.1
      subst h; simp at this; omega
    · exact h
  exact ⟨K, S, 0, rfl, hb, fun h => by omega, fun h => by omega, fun _ _ => ⟨rfl, by omega, by omega, by simpa using hr⟩⟩
set_option maxRecDepth 100000 in
set_option maxHeartbeats 4000000 in
theorem tnRoot_ (n : Int) (w : World) (h1 : -9223372036854775808 ≤ n) (h2 : n ≤ 9223372036854775807) :
    Calls Try.prog 16 #[.int .i64 n] w (RootPost n w) := by
  obtain ⟨w1, hw1⟩ : ∃ w1, w1 = w.alloc (.cells #[.int .i64 0, .int .i64 0] 26) := ⟨_, rfl⟩
  have hE : w1.heap[w.heap.size]? = some (.cells #[.int .i64 0, .int .i64 0] 26 (0, 0)) := by rw [hw1]; exact heap_alloc_new _ _
  have hbw : Below w.heap.size w w1 := by rw [hw1]; exact (Below.refl _ _).alloc (Nat.le_refl _) _
  have hfin : ∀ (W : World) (u v : Int), W.heap[w.heap.size]? = some (.cells #[.int .i64 0, .int .i64 0] 26 (0, 0)) → Below w.heap.size w W → ((W.setCell ⟨w.heap.size, 0, none⟩ (.int .i64 u)).setCell ⟨w.heap.size, 1, none⟩ (.int .i64 v)).heap[w.heap.size]? = some (.cells #[.int .i64 u, .int .i64 v] 26 (0, 0)) ∧ Below w.heap.size w ((W.setCell ⟨w.heap.size, 0, none⟩ (.int .i64 u)).setCell ⟨w.heap.size, 1, none⟩ (.int .i64 v)) := fun W u v hE hb => by
    have k0 := heap_setCell_same W w.heap.size 0 _ _ (.int .i64 u) hE
    have k1 := heap_setCell_same _ w.heap.size 1 _ _ (.int .i64 v) k0
    exact ⟨k1, (hb.setCell (Nat.le_refl _) _).setCell (Nat.le_refl _) _⟩
  have HE := Lib.hid hE; have HBW := Lib.hid hbw; have HFIN := Lib.hid hfin; have HW1 := Lib.hid hw1; have H1 := Lib.hid h1; have H2 := Lib.hid h2; clear hE hbw hfin hw1 h1 h2
  go_enter Try.func16, Try.ntmps16
  go_upto_region 1 with fail
  rw [← HW1.out]
  have hEl := lt_of_block HE.out
  have g0 := frozen_of_row _ _ 0 _ _ HE.out
  have g1 := frozen_of_row _ _ 1 _ _ HE.out
  have x0 := cell_of_row _ _ 0 _ _ _ HE.out
  have x1 := cell_of_row _ _ 1 _ _ _ HE.out
  simp only [List.getElem?_toArray, List.getElem?_cons_zero, List.getElem?_cons_succ] at x0 x1
  clear HW1
  by_cases hneg : n < 0
  · have y1 : decide (n < 0) = true := decide_eq_true hneg
    obtain ⟨f1, f2⟩ := HFIN.out w1 0 0 HE.out HBW.out
    have F1 := Lib.hid f1; have F2 := Lib.hid f2; clear f1 f2
    go_wp2
    have g2 := cell_of_row _ _ 0 _ _ _ F1.out
    have g3 := cell_of_row _ _ 1 _ _ _ F1.out
    simp only [List.getElem?_toArray, List.getElem?_cons_zero, List.getElem?_cons_succ] at g2 g3
    exact bodyPost_ret (v := .tuple #[.agg #[.int .i64 0, .int .i64 0], .int .i64 7]) (by simp [results, Try.results16, go_sem, g2, g3]) rfl (root_bad (by omega) F2.out)
  have y1 : decide (n < 0) = false := decide_eq_false hneg
  by_cases hbig : 1000000000000 < n
  · have y2 : decide ((1000000000000 : Int) < n) = true := decide_eq_true hbig
    obtain ⟨f1, f2⟩ := HFIN.out w1 0 0 HE.out HBW.out
    have F1 := Lib.hid f1; have F2 := Lib.hid f2; clear f1 f2
    go_wp2
    have g2 := cell_of_row _ _ 0 _ _ _ F1.out
    have g3 := cell_of_row _ _ 1 _ _ _ F1.out
    simp only [List.getElem?_toArray, List.getElem?_cons_zero, List.getElem?_cons_succ] at g2 g3
    exact bodyPost_ret (v := .tuple #[.agg #[.int .i64 0, .int .i64 0], .int .i64 7]) (by simp [results, Try.results16, go_sem, g2, g3]) rfl (root_bad (by omega) F2.out)
  have y2 : decide ((1000000000000 : Int) < n) = false := decide_eq_false hbig
  by_cases hz : n = 0
  · subst hz
    obtain ⟨f1, f2⟩ := HFIN.out w1 0 1 HE.out HBW.out
    clear hneg hbig
    have F1 := Lib.hid f1; have F2 := Lib.hid f2; clear f1 f2
    go_wp2
    have g2 := cell_of_row _ _ 0 _ _ _ F1.out
    have g3 := cell_of_row _ _ 1 _ _ _ F1.out
    simp only [List.getElem?_toArray, List.getElem?_cons_zero, List.getElem?_cons_succ] at g2 g3
    exact bodyPost_ret (v := .tuple #[.agg #[.int .i64 0, .int .i64 1], .int .i64 0]) (by simp [results, Try.results16, go_sem, g2, g3]) rfl ⟨0, 1, 0, rfl, F2.out, fun h => by omega, fun _ => ⟨rfl, rfl, rfl⟩, fun h => by omega⟩
  obtain ⟨nn, hnn⟩ := Int.eq_ofNat_of_zero_le (show 0 ≤ n by omega)
  subst hnn
  have hn1 : 0 < nn := by omega
  have hn2 : nn ≤ 1000000000000 := by omega
  have y3 : ((nn : Int) == 0) = false := by rw [beq_eq_false_iff_ne]; exact hz
  clear H1 H2
  have HN1 := Lib.hid hn1; have HN2 := Lib.hid hn2; clear hn1 hn2
  go_wp2
  go_loopw [4, 5] (fun kv dv wr => ∃ k d m : Nat, kv = .int .i64 (k : Int) ∧ dv = .int .i64 (d : Int) ∧ 0 < k ∧ 2 ≤ d ∧ d ≤ 10001 ∧ nn = k * k * m ∧ 0 < m ∧ NoSq m d ∧ wr = w1) (fun _ dv _ => 10002 - (intOf dv).toNat)
  case atStart => exact ⟨1, 2, nn, rfl, rfl, by decide, by decide, by decide, by simp, HN1.out, NoSq.two _, rfl⟩
  case round =>
    obtain ⟨k, d, m, rfl, rfl, hk, hd2, hd3, hen, hm, hs, rfl⟩ := hrel
    have hdd : d * d ≤ 10001 * 10001 := Nat.mul_le_mul hd3 hd3
    have hddd : d * d * d ≤ 10001 * 10001 * 10001 := Nat.mul_le_mul hdd hd3
    have c1 : IntKind.i64.wrap ((d : Int) * (d : Int)) = ((d * d : Nat) : Int) := by rw [← Int.natCast_mul]; exact wrap_nat (Nat.le_trans hdd (by decide))
    have c2 : IntKind.i64.wrap (((d * d : Nat) : Int) * (d : Int)) = ((d * d * d : Nat) : Int) := by rw [← Int.natCast_mul]; exact wrap_nat (Nat.le_trans hddd (by decide))
    have quot : ∀ k m : Nat, 0 < k → 0 < m → nn = k * k * m → Int.tdiv (nn : Int) (k : Int) = ((k * m : Nat) : Int) ∧ Int.tdiv ((k * m : Nat) : Int) (k : Int) = (m : Int) ∧ IntKind.i64.wrap ((k * m : Nat) : Int) = ((k * m : Nat) : Int) ∧ IntKind.i64.wrap (m : Int) = (m : Int) ∧ k * m ≤ nn ∧ m ≤ nn ∧ k ≤ nn := fun k m hk hm hen => by
      have e1 : nn / k = k * m := by rw [hen, Nat.mul_assoc, Nat.mul_div_cancel_left _ hk]
      have e2 : k * m / k = m := Nat.mul_div_cancel_left _ hk
      have hkm : k * m ≤ nn := by rw [hen, Nat.mul_assoc]; exact Nat.le_mul_of_pos_left _ hk
      have hmk : m ≤ k * m := Nat.le_mul_of_pos_left _ hk
      have hkn : k ≤ k * m := Nat.le_mul_of_pos_right _ hm
      have h12 := HN2.out
      exact ⟨by rw [tdiv_nat, e1], by rw [tdiv_nat, e2], wrap_nat (by omega), wrap_nat (by omega), hkm, by omega, by omega⟩
    obtain ⟨t1, t2, t3, t4, hkm, hmn, hkn⟩ := quot k m hk hm hen
    have k0 : ¬ (k : Int) = 0 := by omega
    have k1 : ((k : Int) == 0) = false := by rw [beq_eq_false_iff_ne]; exact k0
    by_cases hle : d * d * d ≤ m
    · have hd4 := cube_le hle (by have := HN2.out; omega)
      have y4 : ((d * d * d : Nat) : Int) ≤ (m : Int) := by omega
      have y5 : decide (((d * d * d : Nat) : Int) ≤ (m : Int)) = true := decide_eq_true y4
      have hdsq : 0 < d * d := Nat.mul_pos (by omega) (by omega)
      have k2 : ¬ ((d * d : Nat) : Int) = 0 := by omega
      have k3 : (((d * d : Nat) : Int) == 0) = false := by rw [beq_eq_false_iff_ne]; exact k2
      have y7 : IntKind.i64.wrap ((d : Int) + 1) = (d : Int) + 1 := IntWalk.i64_in _ (by omega)
      have hdvm : ∀ m, d * d ∣ m ↔ m % (d * d) = 0 := fun m => Nat.dvd_iff_mod_eq_zero
      have hdm := fun m => Nat.div_add_mod m (d * d)
      have hml := fun m => Nat.mod_lt m hdsq
      have hsucc : ∀ m, NoSq m d → ¬ m % (d * d) = 0 → NoSq m (d + 1) := fun m h1 h2 => h1.succ fun h => h2 ((hdvm m).1 h)
      have hkd : ∀ k m, nn = k * k * m → m % (d * d) = 0 → 0 < m → nn = (k * d) * (k * d) * (m / (d * d)) ∧ 0 < m / (d * d) ∧ m / (d * d) ∣ m := fun k m h1 h2 h3 => by
        have h4 := hdm m
        rw [h2, Nat.add_zero] at h4
        refine ⟨?_, ?_, ⟨d * d, by rw [Nat.mul_comm]; exact h4.symm⟩⟩
        · rw [h1]
          conv => lhs; rw [← h4]
          ac_rfl
        · rcases Nat.eq_zero_or_pos (m / (d * d)) with h5 | h5
          · rw [h5, Nat.mul_zero] at h4; omega
          · exact h5
      have htm : ∀ m : Nat, Int.tmod (m : Int) ((d * d : Nat) : Int) = ((m % (d * d) : Nat) : Int) := fun m => tmod_nat m _
      clear hddd
      have hddl : d * d ≤ 100020001 := hdd
      clear hdd
      generalize hp2 : d * d * d = ddd at *
      generalize hp1 : d * d = dd at *
      generalize hp3 : k * m = km at *
      have HEN := Lib.hid hen; have HS := Lib.hid hs; have HDSQ := Lib.hid hdsq; have HDVM := Lib.hid hdvm; have HDM := Lib.hid hdm; have HML := Lib.hid hml; have HSUCC := Lib.hid hsucc; have HKD := Lib.hid hkd; have HTM := Lib.hid htm; have QUOT := Lib.hid quot; have HP1 := Lib.hid hp1; have HP2 := Lib.hid hp2; have HP3 := Lib.hid hp3; have HKM := Lib.hid hkm; have HMN := Lib.hid hmn; have HKN := Lib.hid hkn; have HDDL := Lib.hid hddl; clear hen hs hdsq hdvm hdm hml hsucc hkd htm quot hp1 hp2 hp3 hkm hmn hkn hddl
      go_wp2
      go_loopw [4] (fun kv wx => ∃ k m : Nat, kv = .int .i64 (k : Int) ∧ 0 < k ∧ nn = k * k * m ∧ 0 < m ∧ NoSq m d ∧ wx = wr) (fun kv _ => nn + 1 - (intOf kv).toNat)
      case atStart => exact ⟨k, m, rfl, hk, HEN.out, hm, HS.out, rfl⟩
      case round =>
        clear t1 t2 t3 t4 k0 k1 hle y4 y5 c2
        obtain ⟨k, m, rfl, hk, hen, hm, hs, rfl⟩ := hrel
        obtain ⟨t1, t2, t3, t4, hkm, hmn, hkn⟩ := QUOT.out k m hk hm hen
        have k0 : ¬ (k : Int) = 0 := by omega
        have k1 : ((k : Int) == 0) = false := by rw [beq_eq_false_iff_ne]; exact k0
        have u1 := HTM.out m
        have hmodl := HML.out m
        have u2 : IntKind.i64.wrap ((m % dd : Nat) : Int) = ((m % dd : Nat) : Int) := wrap_nat (by have := HDDL.out; omega)
        by_cases hmod : m % dd = 0
        · obtain ⟨e1, e2, e3⟩ := HKD.out k m hen hmod hm
          have hs2 := hs.dvd e3
          rw [hmod] at u1 u2
          have hkdn : k * d ≤ nn := by
            rw [e1]
            calc k * d = k * d * (1 * 1) := by omega
              _ ≤ k * d * (k * d * (m / dd)) := Nat.mul_le_mul_left _ (Nat.mul_le_mul (Nat.mul_pos hk (by omega)) e2)
              _ = k * d * (k * d) * (m / dd) := by ac_rfl
          have hklt : k < k * d := by
            calc k = k * 1 := by omega
              _ < k * d := Nat.mul_lt_mul_of_pos_left (by omega) hk
          have u3 : IntKind.i64.wrap ((k : Int) * (d : Int)) = ((k * d : Nat) : Int) := by rw [← Int.natCast_mul]; exact wrap_nat (by have := HN2.out; omega)
          generalize hp4 : k * m = km2 at *
          generalize hp5 : k * d = kd at *
          generalize m / dd = m2 at *
          have HEN := Lib.hid hen; have HS := Lib.hid hs; have E1 := Lib.hid e1; have E2 := Lib.hid e2; have E3 := Lib.hid e3; have HS2 := Lib.hid hs2; have HMOD := Lib.hid hmod; have HMODL := Lib.hid hmodl; have HKDN := Lib.hid hkdn; have HKLT := Lib.hid hklt; have HP4 := Lib.hid hp4; have HP5 := Lib.hid hp5; have HKM := Lib.hid hkm; have HMN := Lib.hid hmn; have HKN := Lib.hid hkn; clear hen hs e1 e2 e3 hs2 hmod hmodl hkdn hklt hp4 hp5 hkm hmn hkn
          go_wp2
          go_roundw
          case rel => exact ⟨kd, m2, rfl, by have := HKLT.out; omega, E1.out, E2.out, HS2.out, trivial⟩
          case measure => simp [intOf]; have := HKLT.out; have := HKDN.out; omega
        · have hs2 := HSUCC.out m hs hmod
          have u4 : (((m % dd : Nat) : Int) == 0) = false := by rw [beq_eq_false_iff_ne]; omega
          have u5 : ¬ ((m % dd : Nat) : Int) = 0 := by omega
          generalize hp4 : k * m = km2 at *
          generalize hp6 : m % dd = mr at *
          have HEN := Lib.hid hen; have HS := Lib.hid hs; have HS2 := Lib.hid hs2; have HMOD := Lib.hid hmod; have HMODL := Lib.hid hmodl; have HP4 := Lib.hid hp4; have HP6 := Lib.hid hp6; have HKM := Lib.hid hkm; have HMN := Lib.hid hmn; have HKN := Lib.hid hkn; clear hen hs hs2 hmod hmodl hp4 hp6 hkm hmn hkn
          go_wp2
          go_roundw
          case rel => exact ⟨k, d + 1, m, rfl, by go_num, hk, by omega, by omega, HEN.out, hm, HS2.out, trivial⟩
          case measure => simp [intOf]; omega
    · have hlt : m < d * d * d := by omega
      have y4 : ¬ ((d * d * d : Nat) : Int) ≤ (m : Int) := by omega
      have y5 : decide (((d * d * d : Nat) : Int) ≤ (m : Int)) = false := decide_eq_false y4
      have hcall := fun W => tnLarge_ nn k m d W HN2.out hk hen hm hlt hs
      clear hddd hdd
      generalize hp2 : d * d * d = ddd at *
      generalize hp1 : d * d = dd at *
      generalize hp3 : k * m = km at *
      have HEN := Lib.hid hen; have HS := Lib.hid hs; have HLT := Lib.hid hlt; have HCALL := Lib.hid hcall; have QUOT := Lib.hid quot; have HP1 := Lib.hid hp1; have HP2 := Lib.hid hp2; have HP3 := Lib.hid hp3; have HKM := Lib.hid hkm; have HMN := Lib.hid hmn; have HKN := Lib.hid hkn; have HLE := Lib.hid hle; clear hen hs hlt hcall quot hp1 hp2 hp3 hkm hmn hkn hle
      go_wp2_with fail
      refine (HCALL.out _).mono ?_
      rintro e w3 ⟨K, S, rfl, hres, b1⟩
      have hE3 := (b1.block _ (lt_of_block HE.out)).trans HE.out
      have hb3 := HBW.out.trans (b1.mono HBW.out.size)
      obtain ⟨f1, f2⟩ := HFIN.out w3 (K : Int) (S : Int) hE3 hb3
      clear hEl g0 g1 x0 x1 b1
      have hEl := lt_of_block hE3
      have g0 := frozen_of_row _ _ 0 _ _ hE3
      have g1 := frozen_of_row _ _ 1 _ _ hE3
      have x0 := cell_of_row _ _ 0 _ _ _ hE3
      have x1 := cell_of_row _ _ 1 _ _ _ hE3
      simp only [List.getElem?_toArray, List.getElem?_cons_zero, List.getElem?_cons_succ] at x0 x1
      have HE3 := Lib.hid hE3; have HB3 := Lib.hid hb3; have F1 := Lib.hid f1; have F2 := Lib.hid f2; have HRES := Lib.hid hres; clear hE3 hb3 f1 f2 hres
      go_wp2
      have g2 := cell_of_row _ _ 0 _ _ _ F1.out
      have g3 := cell_of_row _ _ 1 _ _ _ F1.out
      simp only [List.getElem?_toArray, List.getElem?_cons_zero, List.getElem?_cons_succ] at g2 g3
      exact bodyPost_ret (v := .tuple #[.agg #[.int .i64 (K : Int), .int .i64 (S : Int)], .int .i64 0]) (by simp [results, Try.results16, go_sem, g2, g3]) rfl (root_ok HN1.out HN2.out HRES.out F2.out)
end Go.Proofs.Ytlmhgcllikcedaa
