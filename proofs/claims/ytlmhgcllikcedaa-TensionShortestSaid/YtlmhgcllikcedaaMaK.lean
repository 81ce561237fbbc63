/- Texts of this claim, laid together: TnRWh, TnRCk, TnLRo. -/
import Derived.Test.YtlmhgcllikcedaaMaI
/- The reference's normal root and check of a sum. -/
namespace Go.Proofs.Ytlmhgcllikcedaa
open Go.RowKit

theorem nosq_all {m d : Nat} (h0 : 0 < m) (h : NoSq m d) (hd : m < d * d) : SqF m := by
  refine ⟨h0, fun e he hdv => ?_⟩
  have h1 := Nat.le_of_dvd h0 hdv
  rcases Nat.lt_or_ge e d with h2 | h2
  · exact h e he h2 hdv
  · have := Nat.mul_le_mul h2 h2
    omega
def WhPost (n : Nat) (w : World) (e : Ending) (w' : World) : Prop := ∃ k m : Nat, e = .returned (.int .i64 (k : Int)) ∧ n = k * k * m ∧ SqF m ∧ w' = w
set_option maxRecDepth 100000 in
set_option maxHeartbeats 8000000 in
theorem rWhole0_ (n : Nat) (w : World) (h0 : 0 < n) (hn : n ≤ 10000000000000) :
    Calls Try.prog 54 #[.int .i64 (n : Int)] w (WhPost n w) := by
  have H0 := Lib.hid h0; have HN := Lib.hid hn; clear h0 hn
  go_enter Try.func54, Try.ntmps54
  go_wp2
  go_loopw [0, 3, 4] (fun nv kv dv wr => ∃ m k d : Nat, nv = .int .i64 (m : Int) ∧ kv = .int .i64 (k : Int) ∧ dv = .int .i64 (d : Int) ∧ 0 < k ∧ 2 ≤ d ∧ d ≤ 4000000 ∧ n = k * k * m ∧ 0 < m ∧ NoSq m d ∧ wr = w) (fun _ _ dv _ => 4000001 - (intOf dv).toNat)
  case atStart => exact ⟨n, 1, 2, rfl, rfl, rfl, by decide, by decide, by decide, by simp, H0.out, NoSq.two _, rfl⟩
  case round =>
    obtain ⟨m, k, d, rfl, rfl, rfl, hk, hd2, hd3, hen, hm, hs, rfl⟩ := hrel
    have hdd : d * d ≤ 4000000 * 4000000 := Nat.mul_le_mul hd3 hd3
    have c1 : IntKind.i64.wrap ((d : Int) * (d : Int)) = ((d * d : Nat) : Int) := by rw [← Int.natCast_mul]; exact wrap_nat (Nat.le_trans hdd (by decide))
    have hmn : m ≤ n := by rw [hen]; exact Nat.le_mul_of_pos_left _ (Nat.mul_pos hk hk)
    by_cases hle : d * d ≤ m
    · have y4 : ((d * d : Nat) : Int) ≤ (m : Int) := by omega
      have y5 : decide (((d * d : Nat) : Int) ≤ (m : Int)) = true := decide_eq_true y4
      have hdsq : 4 ≤ d * d := Nat.mul_le_mul hd2 hd2
      have hd4 : d + 1 ≤ 4000000 := by
        rcases Nat.lt_or_ge d 3999999 with h | h
        · omega
        · have h1 := Nat.mul_le_mul h h
          have := HN.out
          omega
      have k2 : ¬ ((d * d : Nat) : Int) = 0 := by omega
      have k3 : (((d * d : Nat) : Int) == 0) = false := by rw [beq_eq_false_iff_ne]; exact k2
      have y7 : IntKind.i64.wrap ((d : Int) + 1) = (d : Int) + 1 := IntWalk.i64_in _ (by omega)
      have hdvm : ∀ m, d * d ∣ m ↔ m % (d * d) = 0 := fun m => Nat.dvd_iff_mod_eq_zero
      have hdm := fun m => Nat.div_add_mod m (d * d)
      have hml := fun m => Nat.mod_lt m (show 0 < d * d by omega)
      have hsucc : ∀ m, NoSq m d → ¬ m % (d * d) = 0 → NoSq m (d + 1) := fun m h1 h2 => h1.succ fun h => h2 ((hdvm m).1 h)
      have hkd : ∀ k m, n = k * k * m → m % (d * d) = 0 → 0 < m → n = (k * d) * (k * d) * (m / (d * d)) ∧ 0 < m / (d * d) ∧ m / (d * d) ∣ m ∧ m / (d * d) < m := fun k m h1 h2 h3 => by
        have h4 := hdm m
        rw [h2, Nat.add_zero] at h4
        refine ⟨?_, ?_, ⟨d * d, by rw [Nat.mul_comm]; exact h4.symm⟩, Nat.div_lt_self h3 (by omega)⟩
        · rw [h1]
          conv => lhs; rw [← h4]
          ac_rfl
        · rcases Nat.eq_zero_or_pos (m / (d * d)) with h5 | h5
          · rw [h5, Nat.mul_zero] at h4; omega
          · exact h5
      have htm : ∀ m : Nat, Int.tmod (m : Int) ((d * d : Nat) : Int) = ((m % (d * d) : Nat) : Int) := fun m => tmod_nat m _
      have htd : ∀ m : Nat, Int.tdiv (m : Int) ((d * d : Nat) : Int) = ((m / (d * d) : Nat) : Int) := fun m => tdiv_nat m _
      have hddl : d * d ≤ 16000000000000 := hdd
      clear hdd
      generalize hp1 : d * d = dd at *
      obtain ⟨w2, hw2⟩ : ∃ w2, w2 = wr := ⟨_, rfl⟩
      have HEN := Lib.hid hen; have HS := Lib.hid hs; have HDSQ := Lib.hid hdsq; have HDVM := Lib.hid hdvm; have HDM := Lib.hid hdm; have HML := Lib.hid hml; have HSUCC := Lib.hid hsucc; have HKD := Lib.hid hkd; have HTM := Lib.hid htm; have HTD := Lib.hid htd; have HP1 := Lib.hid hp1; have HMN := Lib.hid hmn; have HDDL := Lib.hid hddl; have HD4 := Lib.hid hd4; have HW2 := Lib.hid hw2; clear hen hs hdsq hdvm hdm hml hsucc hkd htm htd hp1 hmn hddl hd4 hw2
      go_wp2
      go_loopw [0, 3] (fun nv kv wx => ∃ m k : Nat, nv = .int .i64 (m : Int) ∧ kv = .int .i64 (k : Int) ∧ 0 < k ∧ n = k * k * m ∧ 0 < m ∧ NoSq m d ∧ wx = wr) (fun nv _ _ => (intOf nv).toNat)
      case atStart => exact ⟨m, k, rfl, rfl, hk, HEN.out, hm, HS.out, rfl⟩
      case round =>
        clear hle y4 y5
        obtain ⟨m, k, rfl, rfl, hk, hen, hm, hs, rfl⟩ := hrel
        have hmn : m ≤ n := by rw [hen]; exact Nat.le_mul_of_pos_left _ (Nat.mul_pos hk hk)
        have u1 := HTM.out m
        have u2 := HTD.out m
        have hmodl := HML.out m
        have hml2 : m / dd ≤ m := Nat.div_le_self ..
        have u3 : IntKind.i64.wrap ((m % dd : Nat) : Int) = ((m % dd : Nat) : Int) := wrap_nat (by have := HDDL.out; omega)
        have u6 : IntKind.i64.wrap ((m / dd : Nat) : Int) = ((m / dd : Nat) : Int) := wrap_nat (by have := HN.out; omega)
        by_cases hmod : m % dd = 0
        · obtain ⟨e1, e2, e3, e4⟩ := HKD.out k m hen hmod hm
          have hs2 := hs.dvd e3
          rw [hmod] at u1 u3
          have hkdn : k * d ≤ n := by
            rw [e1]
            calc k * d = k * d * (1 * 1) := by omega
              _ ≤ k * d * (k * d * (m / dd)) := Nat.mul_le_mul_left _ (Nat.mul_le_mul (Nat.mul_pos hk (by omega)) e2)
              _ = k * d * (k * d) * (m / dd) := by ac_rfl
          have hkpos : 0 < k * d := Nat.mul_pos hk (by omega)
          have u7 : IntKind.i64.wrap ((k : Int) * (d : Int)) = ((k * d : Nat) : Int) := by rw [← Int.natCast_mul]; exact wrap_nat (by have := HN.out; omega)
          generalize hp5 : k * d = kd at *
          generalize m / dd = m2 at *
          have HEN := Lib.hid hen; have HS := Lib.hid hs; have E1 := Lib.hid e1; have E2 := Lib.hid e2; have E3 := Lib.hid e3; have E4 := Lib.hid e4; have HS2 := Lib.hid hs2; have HMOD := Lib.hid hmod; have HMODL := Lib.hid hmodl; have HKDN := Lib.hid hkdn; have HKPOS := Lib.hid hkpos; have HP5 := Lib.hid hp5; have HMN := Lib.hid hmn; have HML2 := Lib.hid hml2; clear hen hs e1 e2 e3 e4 hs2 hmod hmodl hkdn hkpos hp5 hmn hml2
          go_wp2
          go_roundw
          case rel => exact ⟨m2, kd, rfl, rfl, HKPOS.out, E1.out, E2.out, HS2.out, trivial⟩
          case measure => simp [intOf]; have := E4.out; omega
        · have hs2 := HSUCC.out m hs hmod
          have u4 : (((m % dd : Nat) : Int) == 0) = false := by rw [beq_eq_false_iff_ne]; omega
          have u5 : ¬ ((m % dd : Nat) : Int) = 0 := by omega
          clear u2 u6
          generalize hp6 : m % dd = mr at *
          have HEN := Lib.hid hen; have HS := Lib.hid hs; have HS2 := Lib.hid hs2; have HMOD := Lib.hid hmod; have HMODL := Lib.hid hmodl; have HP6 := Lib.hid hp6; have HMN := Lib.hid hmn; have HML2 := Lib.hid hml2; clear hen hs hs2 hmod hmodl hp6 hmn hml2
          go_wp2
          go_roundw
          case rel => exact ⟨m, k, d + 1, rfl, rfl, by go_num, hk, by omega, HD4.out, HEN.out, hm, HS2.out, by first | trivial | exact HW2.out.symm | rfl⟩
          case measure => simp [intOf]; have := HD4.out; omega
    · have y4 : ¬ ((d * d : Nat) : Int) ≤ (m : Int) := by omega
      have y5 : decide (((d * d : Nat) : Int) ≤ (m : Int)) = false := decide_eq_false y4
      have hsq := nosq_all hm hs (by omega)
      generalize hp1 : d * d = dd at *
      have HEN := Lib.hid hen; have HS := Lib.hid hs; have HSQ := Lib.hid hsq; have HMN := Lib.hid hmn; have HDD := Lib.hid hdd; have HP1 := Lib.hid hp1; have HLE := Lib.hid hle; clear hen hs hsq hmn hdd hp1 hle
      go_wp2
      go_ret
      exact ⟨k, m, rfl, HEN.out, HSQ.out, rfl⟩
theorem rWhole_ (n : Int) (w : World) (h0 : 0 < n) (hn : n ≤ 10000000000000) : Calls Try.prog 54 #[.int .i64 n] w fun e w' => e = .returned (.int .i64 (nrt n).1) ∧ w = w' := by
  obtain ⟨N, rfl⟩ : ∃ N : Nat, n = (N : Int) := ⟨n.toNat, by omega⟩
  refine (rWhole0_ N w (by omega) (by omega)).mono ?_
  rintro e w' ⟨k, m, rfl, h1, h2, rfl⟩
  rw [nrt_is h0 (K := k) (S := m) ⟨by simpa using h1, h2⟩]
  exact ⟨rfl, rfl⟩
/-- The root's own facts. -/
theorem nrt_facts {n : Int} (h0 : 0 < n) : ∃ K S : Nat, nrt n = ((K : Int), (S : Int)) ∧ IsRt n.toNat K S ∧ 0 < K ∧ 0 < S := by
  obtain ⟨K, S, hr⟩ := isRt_ex n.toNat (by omega)
  have hS := hr.2.1
  refine ⟨K, S, nrt_is h0 hr, hr, ?_, hS⟩
  rcases Nat.eq_zero_or_pos K with h | h
  · have := hr.1
    rw [h] at this
    simp at this
    omega
  · exact h
noncomputable def nrm19 (n : Int) : Int × Int := if 0 < n then nrt n else (0, 1)
set_option maxRecDepth 100000 in
set_option maxHeartbeats 8000000 in
theorem rNormal_ (n : Int) (w : World) (h0 : 0 ≤ n) (hn : n ≤ 10000000000000) :
    Calls Try.prog 49 #[.int .i64 n] w fun e w' => e = .returned (.agg #[.int .i64 (nrm19 n).1, .int .i64 (nrm19 n).2]) ∧ Below w.heap.size w w' := by
  obtain ⟨w1, hw1⟩ : ∃ w1, w1 = w.alloc (.cells #[.int .i64 0, .int .i64 0] 26) := ⟨_, rfl⟩
  have hb1 : Below w.heap.size w w1 := by rw [hw1]; exact (Below.refl _ _).alloc (Nat.le_refl _) _
  have hT : w1.heap[w.heap.size]? = some (.cells #[.int .i64 0, .int .i64 0] 26 (0, 0)) := by rw [hw1]; exact heap_alloc_new _ _
  have z0 := frozen_of_row _ _ 0 _ _ hT
  have z1 := frozen_of_row _ _ 1 _ _ hT
  have y0 := cell_of_row _ _ 0 _ _ _ hT
  have y1 := cell_of_row _ _ 1 _ _ _ hT
  have hTl := lt_of_block hT
  simp only [List.getElem?_toArray, List.getElem?_cons_zero, List.getElem?_cons_succ] at y0 y1
  have hb2 := fun u v => (hb1.setCell (p := ⟨w.heap.size, 0, none⟩) (Nat.le_refl _) u).setCell (p := ⟨w.heap.size, 1, none⟩) (Nat.le_refl _) v
  by_cases hz : n = 0
  · have hr : nrm19 n = (0, 1) := by unfold nrm19; rw [if_neg (by omega)]
    rw [hr]
    subst hz
    clear h0 hn
    have HB1 := Lib.hid hb1; have HW1 := Lib.hid hw1; have HB2 := Lib.hid hb2; have HT := Lib.hid hT; have HR := Lib.hid hr; clear hb1 hw1 hb2 hT hr
    go_enter Try.func49, Try.ntmps49
    go_upto_region 1 with fail
    rw [← HW1.out]
    go_wp2
    refine bodyPost_ret (v := .agg #[.int .i64 0, .int .i64 1]) (by obtain ⟨r1, _, r3⟩ := res2_ (w := w1) HT.out (.int .i64 0) (.int .i64 1); simp [results, Try.results49, go_sem, r1, r3]) rfl ⟨rfl, HB2.out _ _⟩
  · have hpos : 0 < n := by omega
    have hcall := fun W => rWhole_ n W hpos hn
    obtain ⟨K, S, he, hr, hK, hS⟩ := nrt_facts hpos
    have hnr : nrm19 n = ((K : Int), (S : Int)) := by unfold nrm19; rw [if_pos hpos, he]
    rw [he] at hcall
    rw [hnr]
    obtain ⟨N, rfl⟩ : ∃ N : Nat, n = (N : Int) := ⟨n.toNat, by omega⟩
    rw [Int.toNat_natCast] at hr
    have hen := hr.1
    have e1 : N / K = K * S := by rw [hen, Nat.mul_assoc, Nat.mul_div_cancel_left _ hK]
    have e2 : K * S / K = S := Nat.mul_div_cancel_left _ hK
    have hkm : K * S ≤ N := by rw [hen, Nat.mul_assoc]; exact Nat.le_mul_of_pos_left _ hK
    have hmk : S ≤ K * S := Nat.le_mul_of_pos_left _ hK
    have t1 : Int.tdiv (N : Int) (K : Int) = ((K * S : Nat) : Int) := by rw [tdiv_nat, e1]
    have t2 : Int.tdiv ((K * S : Nat) : Int) (K : Int) = (S : Int) := by rw [tdiv_nat, e2]
    have v1 : IntKind.i64.wrap ((K * S : Nat) : Int) = ((K * S : Nat) : Int) := wrap_nat (by omega)
    have v2 : IntKind.i64.wrap (S : Int) = (S : Int) := wrap_nat (by omega)
    have k0 : ¬ (K : Int) = 0 := by omega
    have k1 : ((K : Int) == 0) = false := by rw [beq_eq_false_iff_ne]; omega
    have k2 : ((N : Int) == 0) = false := by rw [beq_eq_false_iff_ne]; omega
    generalize hp : K * S = KS at *
    have HB1 := Lib.hid hb1; have HW1 := Lib.hid hw1; have HB2 := Lib.hid hb2; have HT := Lib.hid hT; have HCALL := Lib.hid hcall; have HE := Lib.hid he; have HR := Lib.hid hr; have HNR := Lib.hid hnr; have HEN := Lib.hid hen; have E1 := Lib.hid e1; have E2 := Lib.hid e2; have HKM := Lib.hid hkm; have HMK := Lib.hid hmk; have HP := Lib.hid hp; have HPOS := Lib.hid hpos; have H0 := Lib.hid h0; have HN := Lib.hid hn; have HZ := Lib.hid hz; have HK := Lib.hid hK; have HS := Lib.hid hS; clear hb1 hw1 hb2 hT hcall he hr hnr hen e1 e2 hkm hmk hp hpos h0 hn hz hK hS
    go_enter Try.func49, Try.ntmps49
    go_upto_region 1 with fail
    rw [← HW1.out]
    go_wp2_with fail
    refine (HCALL.out _).mono ?_
    rintro e w2 ⟨rfl, rfl⟩
    go_wp2
    refine bodyPost_ret (v := .agg #[.int .i64 (K : Int), .int .i64 (S : Int)]) (by obtain ⟨r1, _, r3⟩ := res2_ (w := w1) HT.out (.int .i64 (K : Int)) (.int .i64 (S : Int)); simp [results, Try.results49, go_sem, r1, r3]) rfl ⟨rfl, HB2.out _ _⟩
end Go.Proofs.Ytlmhgcllikcedaa
/- The reference's Root and Check. -/
namespace Go.Proofs.Ytlmhgcllikcedaa
open Go.RowKit

set_option maxRecDepth 100000 in
set_option maxHeartbeats 8000000 in
theorem rRoot19_ (n : Int) (w : World) : Calls Try.prog 17 #[.int .i64 n] w (RootPost n w) := by
  obtain ⟨w1, hw1⟩ : ∃ w1, w1 = w.alloc (.cells #[.int .i64 0, .int .i64 0] 26) := ⟨_, rfl⟩
  have hb1 : Below w.heap.size w w1 := by rw [hw1]; exact (Below.refl _ _).alloc (Nat.le_refl _) _
  have hT : w1.heap[w.heap.size]? = some (.cells #[.int .i64 0, .int .i64 0] 26 (0, 0)) := by rw [hw1]; exact heap_alloc_new _ _
  have z0 := frozen_of_row _ _ 0 _ _ hT
  have z1 := frozen_of_row _ _ 1 _ _ hT
  have y0 := cell_of_row _ _ 0 _ _ _ hT
  have y1 := cell_of_row _ _ 1 _ _ _ hT
  have hTl := lt_of_block hT
  simp only [List.getElem?_toArray, List.getElem?_cons_zero, List.getElem?_cons_succ] at y0 y1
  have hb2 := fun u v => (hb1.setCell (p := ⟨w.heap.size, 0, none⟩) (Nat.le_refl _) u).setCell (p := ⟨w.heap.size, 1, none⟩) (Nat.le_refl _) v
  by_cases hneg : n < 0
  · have d1 : decide (n < 0) = true := decide_eq_true hneg
    have HB1 := Lib.hid hb1; have HW1 := Lib.hid hw1; have HB2 := Lib.hid hb2; have HT := Lib.hid hT; clear hb1 hw1 hb2 hT
    go_enter Try.func17, Try.ntmps17
    go_upto_region 1 with fail
    rw [← HW1.out]
    go_wp2
    refine bodyPost_ret (v := .tuple #[.agg #[.int .i64 0, .int .i64 0], .int .i64 7]) (by obtain ⟨r1, _, r3⟩ := res2_ (w := w1) HT.out (.int .i64 0) (.int .i64 0); simp [results, Try.results17, go_sem, r1, r3]) rfl (root_bad (by omega) (HB2.out _ _))
  have d1 : decide (n < 0) = false := decide_eq_false hneg
  by_cases hbig : 1000000000000 < n
  · have d2 : decide ((1000000000000 : Int) < n) = true := decide_eq_true hbig
    have HB1 := Lib.hid hb1; have HW1 := Lib.hid hw1; have HB2 := Lib.hid hb2; have HT := Lib.hid hT; clear hb1 hw1 hb2 hT
    go_enter Try.func17, Try.ntmps17
    go_upto_region 1 with fail
    rw [← HW1.out]
    go_wp2
    refine bodyPost_ret (v := .tuple #[.agg #[.int .i64 0, .int .i64 0], .int .i64 7]) (by obtain ⟨r1, _, r3⟩ := res2_ (w := w1) HT.out (.int .i64 0) (.int .i64 0); simp [results, Try.results17, go_sem, r1, r3]) rfl (root_bad (by omega) (HB2.out _ _))
  have d2 : decide ((1000000000000 : Int) < n) = false := decide_eq_false hbig
  have hcall := fun W => rNormal_ n W (by omega) (by omega)
  have hfin : ∀ e w', e = Ending.returned (.tuple #[.agg #[.int .i64 (nrm19 n).1, .int .i64 (nrm19 n).2], .int .i64 0]) → Below w.heap.size w w' → RootPost n w e w' := fun e w' he hb => by
    by_cases hz : n = 0
    · have hr : nrm19 n = (0, 1) := by unfold nrm19; rw [if_neg (by omega)]
      rw [hr] at he
      exact ⟨0, 1, 0, he, hb, fun h => by omega, fun _ => ⟨rfl, rfl, rfl⟩, fun h => by omega⟩
    · obtain ⟨K, S, h1, h2, h3, h4⟩ := nrt_facts (show 0 < n by omega)
      have hr : nrm19 n = ((K : Int), (S : Int)) := by unfold nrm19; rw [if_pos (by omega), h1]
      rw [hr] at he
      exact ⟨K, S, 0, he, hb, fun h => by omega, fun h => by omega, fun _ _ => ⟨rfl, by omega, by omega, by simpa using h2⟩⟩
  generalize (nrm19 n).1 = P at *
  generalize (nrm19 n).2 = Q at *
  clear z0 z1 y0 y1 hTl hb2
  have HB1 := Lib.hid hb1; have HW1 := Lib.hid hw1; have HT := Lib.hid hT; have HCALL := Lib.hid hcall; have HFIN := Lib.hid hfin; clear hb1 hw1 hT hcall hfin
  go_enter Try.func17, Try.ntmps17
  go_upto_region 1 with fail
  rw [← HW1.out]
  go_wp2_with fail
  refine (HCALL.out _).mono ?_
  rintro e w2 ⟨rfl, b1⟩
  have hT2 := (b1.block _ (lt_of_block HT.out)).trans HT.out
  have hbb := HB1.out.trans (b1.mono HB1.out.size)
  clear b1
  have z0 := frozen_of_row _ _ 0 _ _ hT2
  have z1 := frozen_of_row _ _ 1 _ _ hT2
  have y0 := cell_of_row _ _ 0 _ _ _ hT2
  have y1 := cell_of_row _ _ 1 _ _ _ hT2
  have hTl := lt_of_block hT2
  simp only [List.getElem?_toArray, List.getElem?_cons_zero, List.getElem?_cons_succ] at y0 y1
  have hb2 := fun u v => (hbb.setCell (p := ⟨w.heap.size, 0, none⟩) (Nat.le_refl _) u).setCell (p := ⟨w.heap.size, 1, none⟩) (Nat.le_refl _) v
  have HT2 := Lib.hid hT2; have HBB := Lib.hid hbb; have HB2 := Lib.hid hb2; clear hT2 hbb hb2
  go_wp2
  refine bodyPost_ret (v := .tuple #[.agg #[.int .i64 P, .int .i64 Q], .int .i64 0]) (by obtain ⟨r1, _, r3⟩ := res2_ (w := w2) HT2.out (.int .i64 P) (.int .i64 Q); simp [results, Try.results17, go_sem, r1, r3]) rfl (HFIN.out _ _ rfl (HB2.out _ _))
def rightB (K : Int) : Bool := !(decide (K = 0) || decide (K < -1000000000) || decide (1000000000 < K))
set_option maxRecDepth 100000 in
set_option maxHeartbeats 4000000 in
theorem rRight19_ (K : Int) (w : World) : Calls Try.prog 53 #[.int .i64 K] w fun e w' => e = .returned (.bool (rightB K)) ∧ w = w' := by
  by_cases h0 : K = 0
  · have hr : rightB K = false := by unfold rightB; simp [h0]
    subst h0
    have HR := Lib.hid hr; clear hr
    go_enter Try.func53, Try.ntmps53
    go_wp2
    go_ret
    exact ⟨by rw [HR.out]; rfl, rfl⟩
  have f0 : (K != 0) = true := by simp [h0]
  by_cases h1 : K < -1000000000
  · have hr : rightB K = false := by unfold rightB; simp [h1]
    have f1 : decide (-1000000000 ≤ K) = false := decide_eq_false (by omega)
    have HR := Lib.hid hr; have H0 := Lib.hid h0; clear hr h0
    go_enter Try.func53, Try.ntmps53
    go_wp2
    go_ret
    exact ⟨by rw [HR.out]; rfl, rfl⟩
  have f1 : decide (-1000000000 ≤ K) = true := decide_eq_true (by omega)
  by_cases h2 : 1000000000 < K
  · have hr : rightB K = false := by unfold rightB; simp [h2]
    have f2 : decide (K ≤ 1000000000) = false := decide_eq_false (by omega)
    have HR := Lib.hid hr; have H0 := Lib.hid h0; clear hr h0
    go_enter Try.func53, Try.ntmps53
    go_wp2
    go_ret
    exact ⟨by rw [HR.out]; rfl, rfl⟩
  have hr : rightB K = true := by unfold rightB; simp [h0]; omega
  have f2 : decide (K ≤ 1000000000) = true := decide_eq_true (by omega)
  have HR := Lib.hid hr; have H0 := Lib.hid h0; clear hr h0
  go_enter Try.func53, Try.ntmps53
  go_wp2
  go_ret
  exact ⟨by rw [HR.out]; rfl, rfl⟩
theorem rng_right (x : Int × Int) : rngB x = (!rightB x.1 || decide (x.2 < 1) || decide (1000000000000 < x.2)) := by
  unfold rngB wrongB rightB
  rw [Bool.not_not]
theorem sqf_whole {s : Int} (h0 : 0 < s) : decide (1 < (nrt s).1) = !sqfB s.toNat := by
  obtain ⟨K, S, h1, h2, h3, h4⟩ := nrt_facts h0
  rw [h1]
  by_cases hs : SqF s.toNat
  · have := (isRt_unique (n := s.toNat) (k' := 1) (s' := s.toNat) (by omega) h2 ⟨by simp, hs⟩).1
    rw [sqfB_iff.2 hs, this]
    rfl
  · have hn : sqfB s.toNat = false := by
      have : ¬ sqfB s.toNat = true := fun h => hs (sqfB_iff.1 h)
      simpa using this
    rw [hn]
    refine decide_eq_true ?_
    rcases (by omega : K = 1 ∨ 1 < K) with h | h
    · exfalso
      apply hs
      have e := h2.1
      rw [h] at e
      have : s.toNat = S := by omega
      rw [this]
      exact h2.2
    · show (1 : Int) < (K : Int)
      omega
set_option maxRecDepth 100000 in
set_option maxHeartbeats 8000000 in
theorem rCheck19_ (A : Option Addr) (c : Nat) (xs : List (Int × Int)) (w : World) (hr : RdR w A xs) :
    Calls Try.prog 19 #[.slice A xs.length c] w fun e w' => e = .returned (.int .i64 (chkE xs)) ∧ Below w.heap.size w w' := by
  have hln := hr.1
  have hb := Below.refl w.heap.size w
  by_cases hlong : 64 < xs.length
  · have y1 : (64 : Int) < (xs.length : Int) := by omega
    have y2 : decide ((64 : Int) < (xs.length : Int)) = true := decide_eq_true y1
    have hres : chkE xs = 3 := by unfold chkE; rw [if_pos hlong]
    have HR := Lib.hid hr; have HB := Lib.hid hb; have HRES := Lib.hid hres; clear hr hb hres
    go_enter Try.func19, Try.ntmps19
    go_wp2
    go_ret
    exact ⟨by rw [HRES.out]; rfl, HB.out⟩
  have y1 : ¬ (64 : Int) < (xs.length : Int) := by omega
  have y2 : decide ((64 : Int) < (xs.length : Int)) = false := decide_eq_false y1
  have hres0 : chkE xs = if xs.any rngB = true then 7 else if normB 0 xs = true then 0 else 6 := by unfold chkE; rw [if_neg hlong]
  have HR := Lib.hid hr; have HB := Lib.hid hb; have HRES0 := Lib.hid hres0; clear hr hb hres0
  go_enter Try.func19, Try.ntmps19
  go_wp2
  clear y1 y2
  go_loopw [3] (fun iv wr => ∃ k : Nat, iv = .int .i64 (k : Int) ∧ k ≤ xs.length ∧ (xs.take k).any rngB = false ∧ Below w.heap.size w wr) (fun iv _ => xs.length - (intOf iv).toNat)
  case atStart => exact ⟨0, rfl, Nat.zero_le _, rfl, HB.out⟩
  case round =>
    obtain ⟨k, rfl, hk, hno, hbw⟩ := hrel
    by_cases hlt : k < xs.length
    · have q1 : (0 : Int) ≤ (k : Int) := by omega
      have q2 : (k : Int) < (xs.length : Int) := by omega
      have d2 : decide ((k : Int) < (xs.length : Int)) = true := decide_eq_true q2
      have q3 : IntKind.i64.wrap ((k : Int) + 1) = ((k + 1 : Nat) : Int) := by rw [IntWalk.i64_in _ (by omega)]; omega
      obtain ⟨bl, ol, rfl, hbl, g0, g1⟩ := (HR.out.later hbw (Nat.le_refl _)).at_ hlt
      have hnx : (xs.take (k + 1)).any rngB = rngB xs[k] := by
        rw [List.take_succ_eq_append_getElem hlt, List.any_append, hno]; simp
      have hall : rngB xs[k] = true → xs.any rngB = true := fun h => List.any_eq_true.2 ⟨_, List.getElem_mem _, h⟩
      have hrg := rng_right xs[k]
      have hcall := fun W => rRight19_ xs[k].1 W
      generalize rngB xs[k] = B at *
      generalize xs[k].1 = K at *
      generalize xs[k].2 = S at *
      generalize rightB K = R at *
      cases R with
      | false =>
        have hres : chkE xs = 7 := by rw [HRES0.out, hall (by rw [hrg]; rfl)]; rfl
        have HNO := Lib.hid hno; have HBW := Lib.hid hbw; have HNX := Lib.hid hnx; have HALL := Lib.hid hall; have HRG := Lib.hid hrg; have HCALL := Lib.hid hcall; have HRES := Lib.hid hres; clear hno hbw hnx hall hrg hcall hres
        go_wp2_with fail
        refine (HCALL.out _).mono ?_
        rintro e w2 ⟨rfl, rfl⟩
        go_wp2
        go_ret
        exact ⟨by rw [HRES.out]; rfl, HBW.out⟩
      | true =>
        by_cases h1 : S < 1
        · have d5 : decide (S < 1) = true := decide_eq_true h1
          have hres : chkE xs = 7 := by rw [HRES0.out, hall (by rw [hrg, d5]; rfl)]; rfl
          have HNO := Lib.hid hno; have HBW := Lib.hid hbw; have HNX := Lib.hid hnx; have HALL := Lib.hid hall; have HRG := Lib.hid hrg; have HCALL := Lib.hid hcall; have HRES := Lib.hid hres; clear hno hbw hnx hall hrg hcall hres
          go_wp2_with fail
          refine (HCALL.out _).mono ?_
          rintro e w2 ⟨rfl, rfl⟩
          go_wp2
          go_ret
          exact ⟨by rw [HRES.out]; rfl, HBW.out⟩
        · have d5 : decide (S < 1) = false := decide_eq_false h1
          by_cases h2 : 1000000000000 < S
          · have d6 : decide (1000000000000 < S) = true := decide_eq_true h2
            have hres : chkE xs = 7 := by rw [HRES0.out, hall (by rw [hrg, d5, d6]; rfl)]; rfl
            have HNO := Lib.hid hno; have HBW := Lib.hid hbw; have HNX := Lib.hid hnx; have HALL := Lib.hid hall; have HRG := Lib.hid hrg; have HCALL := Lib.hid hcall; have HRES := Lib.hid hres; clear hno hbw hnx hall hrg hcall hres
            go_wp2_with fail
            refine (HCALL.out _).mono ?_
            rintro e w2 ⟨rfl, rfl⟩
            go_wp2
            go_ret
            exact ⟨by rw [HRES.out]; rfl, HBW.out⟩
          · have d6 : decide (1000000000000 < S) = false := decide_eq_false h2
            have hnx2 : (xs.take (k + 1)).any rngB = false := by rw [hnx, hrg, d5, d6]; rfl
            have HNO := Lib.hid hno; have HBW := Lib.hid hbw; have HNX := Lib.hid hnx; have HALL := Lib.hid hall; have HRG := Lib.hid hrg; have HCALL := Lib.hid hcall; have HNX2 := Lib.hid hnx2; clear hno hbw hnx hall hrg hcall hnx2
            go_wp2_with fail
            refine (HCALL.out _).mono ?_
            rintro e w2 ⟨rfl, rfl⟩
            go_wp2
            go_roundw
            case rel => exact ⟨k + 1, by go_num, by omega, HNX2.out, HBW.out⟩
            case measure => simp [intOf]; omega
    · obtain rfl : k = xs.length := by omega
      rw [List.take_length] at hno
      have x3 : ¬ (xs.length : Int) < (xs.length : Int) := by omega
      have d2 : decide ((xs.length : Int) < (xs.length : Int)) = false := decide_eq_false x3
      have hres2 : chkE xs = if normB 0 xs = true then 0 else 6 := by rw [HRES0.out, hno]; rfl
      have hin : ∀ x ∈ xs, 0 < x.2 ∧ x.2 ≤ 1000000000000 := fun x hx => by
        have := List.any_eq_false.1 hno x hx
        unfold rngB at this
        simp at this
        omega
      obtain ⟨w2, rfl⟩ : ∃ w2, w2 = wr := ⟨_, rfl⟩
      clear hk
      have HNO := Lib.hid hno; have HBW := Lib.hid hbw; have HRES2 := Lib.hid hres2; have HIN := Lib.hid hin; clear hno hbw hres2 hin
      go_wp2
      go_loopw [4] (fun iv wr => ∃ k : Nat, iv = .int .i64 (k : Int) ∧ k ≤ xs.length ∧ normB 0 (xs.take k) = true ∧ Below w2.heap.size w2 wr) (fun iv _ => xs.length - (intOf iv).toNat)
      case atStart => exact ⟨0, rfl, Nat.zero_le _, rfl, Below.refl _ _⟩
      case round =>
        obtain ⟨k, rfl, hk, hno, hbx⟩ := hrel
        have hbw := HBW.out.trans (hbx.mono HBW.out.size)
        by_cases hlt : k < xs.length
        · have q1 : (0 : Int) ≤ (k : Int) := by omega
          have q2 : (k : Int) < (xs.length : Int) := by omega
          have d2 : decide ((k : Int) < (xs.length : Int)) = true := decide_eq_true q2
          have q3 : IntKind.i64.wrap ((k : Int) + 1) = ((k + 1 : Nat) : Int) := by rw [IntWalk.i64_in _ (by omega)]; omega
          have hrd := HR.out.later hbw (Nat.le_refl _)
          obtain ⟨bl, ol, hA, hbl, hc⟩ := hrd.all (by omega)
          subst hA
          obtain ⟨g0, g1⟩ := hc k hlt
          obtain ⟨p0, p1⟩ := hc (k - 1) (by omega)
          obtain ⟨m1, m2⟩ := HIN.out xs[k] (List.getElem_mem _)
          have hx : xs.getD k (0, 0) = xs[k] := getD_at hlt _
          rw [hx] at g0 g1
          have hsp : normB 0 xs = (normB 0 (xs.take (k + 1)) && normB (lastS 0 (xs.take (k + 1))) (xs.drop (k + 1))) := by rw [← normB_app, List.take_append_drop]
          have hnk : normB 0 (xs.take (k + 1)) = (sqfB xs[k].2.toNat && decide (lastS 0 (xs.take k) < xs[k].2)) := by
            rw [List.take_succ_eq_append_getElem hlt, normB_app, hno]; simp [normB]
          have hl0 : k = 0 → lastS 0 (xs.take k) = 0 := fun h => by subst h; rfl
          have hlk : 0 < k → lastS 0 (xs.take k) = (xs.getD (k - 1) (0, 0)).2 := fun h => by
            obtain ⟨j, rfl⟩ : ∃ j, k = j + 1 := ⟨k - 1, by omega⟩
            rw [List.take_succ_eq_append_getElem (by omega), lastS_snoc, Nat.add_sub_cancel, getD_at (by omega)]
          have hcall := fun W => rWhole_ xs[k].2 W m1 (by omega)
          have hsw := sqf_whole m1
          clear hc p0 hx
          generalize (nrt xs[k].2).1 = V at *
          generalize sqfB xs[k].2.toNat = SQ at *
          generalize xs[k].1 = K at *
          generalize xs[k].2 = S at *
          generalize (xs.getD (k - 1) (0, 0)).2 = P at *
          generalize lastS 0 (xs.take k) = LS at *
          cases SQ with
          | false =>
            have hres : chkE xs = 6 := by rw [HRES2.out, hsp, hnk]; rfl
            have f1 : decide (1 < V) = true := hsw
            have HNO := Lib.hid hno; have HBX := Lib.hid hbx; have HBW := Lib.hid hbw; have HRD := Lib.hid hrd; have HSP := Lib.hid hsp; have HNK := Lib.hid hnk; have HL0 := Lib.hid hl0; have HLK := Lib.hid hlk; have HCALL := Lib.hid hcall; have HRES := Lib.hid hres; have M1 := Lib.hid m1; have M2 := Lib.hid m2; clear hno hbx hbw hrd hsp hnk hl0 hlk hcall hres m1 m2
            go_upto_region 11 with fail
            have hbelc : ∀ (u : Bel wr.heap.size wr) b o, b < wr.heap.size → u.wd.cell? ⟨b, o, none⟩ = wr.cell? ⟨b, o, none⟩ := fun u b o h => u.h.cell (p := ⟨b, o, none⟩) h
            have hbeln : Nonempty (Bel wr.heap.size wr) := ⟨⟨wr, Below.refl _ _⟩⟩
            refine wp_region_bel wr.heap.size (by kernel_rfl) (by kernel_rfl) ?_
            repeat (go_big_quiet_step ((go_at_call 54; exact quiet_bel_same (HCALL.out _))))
            refine wpQuiet_nil ?_
            intro wB hB0; obtain ⟨uB, hu⟩ := hB0; have hbB0 := uB.h; rw [← hu] at hbB0; clear hu uB hbelc hbeln
            obtain ⟨hbB, hcB, hsB⟩ := bcell2 hbB0; clear hbB0
            have hb3 := HBW.out.trans (hbB.mono HBW.out.size)
            clear hcB hsB hbB
            have HB3 := Lib.hid hb3; clear hb3
            go_wp2
            go_ret
            exact ⟨by rw [HRES.out]; rfl, HB3.out⟩
          | true =>
            have f1 : decide (1 < V) = false := hsw
            by_cases hk0 : k = 0
            · have f2 : decide ((0 : Int) < (k : Int)) = false := by simp; omega
              have f3 : ¬ (0 : Int) < (k : Int) := by omega
              have f2n : decide (0 < k) = false := by simp; omega
              have hno2 : normB 0 (xs.take (k + 1)) = true := by rw [hnk, hl0 hk0, decide_eq_true m1]; rfl
              clear p1
              have HNO := Lib.hid hno; have HBX := Lib.hid hbx; have HBW := Lib.hid hbw; have HRD := Lib.hid hrd; have HSP := Lib.hid hsp; have HNK := Lib.hid hnk; have HL0 := Lib.hid hl0; have HLK := Lib.hid hlk; have HCALL := Lib.hid hcall; have M1 := Lib.hid m1; have M2 := Lib.hid m2; have HNO2 := Lib.hid hno2; have HK0 := Lib.hid hk0; clear hno hbx hbw hrd hsp hnk hl0 hlk hcall m1 m2 hno2 hk0
              go_upto_region 11 with fail
              have hbelc : ∀ (u : Bel wr.heap.size wr) b o, b < wr.heap.size → u.wd.cell? ⟨b, o, none⟩ = wr.cell? ⟨b, o, none⟩ := fun u b o h => u.h.cell (p := ⟨b, o, none⟩) h
              have hbeln : Nonempty (Bel wr.heap.size wr) := ⟨⟨wr, Below.refl _ _⟩⟩
              refine wp_region_bel wr.heap.size (by kernel_rfl) (by kernel_rfl) ?_
              repeat (go_big_quiet_step ((go_at_call 54; exact quiet_bel_same (HCALL.out _))))
              refine wpQuiet_nil ?_
              intro wB hB0; obtain ⟨uB, hu⟩ := hB0; have hbB0 := uB.h; rw [← hu] at hbB0; clear hu uB hbelc hbeln
              obtain ⟨hbB, hcB, hsB⟩ := bcell2 hbB0; clear hbB0
              have hb3 := HBX.out.trans (hbB.mono HBX.out.size)
              clear hcB hsB hbB
              have HB3 := Lib.hid hb3; clear hb3
              go_wp2
              go_roundw
              case rel => exact ⟨k + 1, by go_num, by omega, HNO2.out, HB3.out⟩
              case measure => simp [intOf]; omega
            · have f2 : decide ((0 : Int) < (k : Int)) = true := by simp; omega
              have f3 : (0 : Int) < (k : Int) := by omega
              have f2n : decide (0 < k) = true := by simp; omega
              have f4 : IntKind.i64.wrap ((k : Int) - 1) = ((k - 1 : Nat) : Int) := by rw [IntWalk.i64_in _ (by omega)]; omega
              have f5 : (0 : Int) ≤ ((k - 1 : Nat) : Int) := by omega
              have f6 : ((k - 1 : Nat) : Int) < (xs.length : Int) := by omega
              have hlk2 := hlk (by omega)
              by_cases hPS : P < S
              · have hno2 : normB 0 (xs.take (k + 1)) = true := by rw [hnk, hlk2, decide_eq_true hPS]; rfl
                have f7 : decide (S ≤ P) = false := by simp; omega
                generalize hke : k - 1 = k1 at *
                have HNO := Lib.hid hno; have HBX := Lib.hid hbx; have HBW := Lib.hid hbw; have HRD := Lib.hid hrd; have HSP := Lib.hid hsp; have HNK := Lib.hid hnk; have HL0 := Lib.hid hl0; have HLK := Lib.hid hlk; have HLK2 := Lib.hid hlk2; have HCALL := Lib.hid hcall; have M1 := Lib.hid m1; have M2 := Lib.hid m2; have HNO2 := Lib.hid hno2; have HK0 := Lib.hid hk0; have HPS := Lib.hid hPS; have HKE := Lib.hid hke; clear hno hbx hbw hrd hsp hnk hl0 hlk hlk2 hcall m1 m2 hno2 hk0 hPS hke
                go_upto_region 11 with fail
                have hbelc : ∀ (u : Bel wr.heap.size wr) b o, b < wr.heap.size → u.wd.cell? ⟨b, o, none⟩ = wr.cell? ⟨b, o, none⟩ := fun u b o h => u.h.cell (p := ⟨b, o, none⟩) h
                have hbeln : Nonempty (Bel wr.heap.size wr) := ⟨⟨wr, Below.refl _ _⟩⟩
                refine wp_region_bel wr.heap.size (by kernel_rfl) (by kernel_rfl) ?_
                repeat (go_big_quiet_step ((go_at_call 54; exact quiet_bel_same (HCALL.out _))))
                refine wpQuiet_nil ?_
                intro wB hB0; obtain ⟨uB, hu⟩ := hB0; have hbB0 := uB.h; rw [← hu] at hbB0; clear hu uB hbelc hbeln
                obtain ⟨hbB, hcB, hsB⟩ := bcell2 hbB0; clear hbB0
                have hb3 := HBX.out.trans (hbB.mono HBX.out.size)
                clear hcB hsB hbB
                have HB3 := Lib.hid hb3; clear hb3
                go_wp2
                go_roundw
                case rel => exact ⟨k + 1, by go_num, by omega, HNO2.out, HB3.out⟩
                case measure => simp [intOf]; omega
              · have hres : chkE xs = 6 := by rw [HRES2.out, hsp, hnk, hlk2, decide_eq_false hPS]; rfl
                have f7 : decide (S ≤ P) = true := by simp; omega
                generalize hke : k - 1 = k1 at *
                have HNO := Lib.hid hno; have HBX := Lib.hid hbx; have HBW := Lib.hid hbw; have HRD := Lib.hid hrd; have HSP := Lib.hid hsp; have HNK := Lib.hid hnk; have HL0 := Lib.hid hl0; have HLK := Lib.hid hlk; have HLK2 := Lib.hid hlk2; have HCALL := Lib.hid hcall; have M1 := Lib.hid m1; have M2 := Lib.hid m2; have HRES := Lib.hid hres; have HK0 := Lib.hid hk0; have HPS := Lib.hid hPS; have HKE := Lib.hid hke; clear hno hbx hbw hrd hsp hnk hl0 hlk hlk2 hcall m1 m2 hres hk0 hPS hke
                go_upto_region 11 with fail
                have hbelc : ∀ (u : Bel wr.heap.size wr) b o, b < wr.heap.size → u.wd.cell? ⟨b, o, none⟩ = wr.cell? ⟨b, o, none⟩ := fun u b o h => u.h.cell (p := ⟨b, o, none⟩) h
                have hbeln : Nonempty (Bel wr.heap.size wr) := ⟨⟨wr, Below.refl _ _⟩⟩
                refine wp_region_bel wr.heap.size (by kernel_rfl) (by kernel_rfl) ?_
                repeat (go_big_quiet_step ((go_at_call 54; exact quiet_bel_same (HCALL.out _))))
                refine wpQuiet_nil ?_
                intro wB hB0; obtain ⟨uB, hu⟩ := hB0; have hbB0 := uB.h; rw [← hu] at hbB0; clear hu uB hbelc hbeln
                obtain ⟨hbB, hcB, hsB⟩ := bcell2 hbB0; clear hbB0
                have hb3 := HBW.out.trans (hbB.mono HBW.out.size)
                clear hcB hsB hbB
                have HB3 := Lib.hid hb3; clear hb3
                go_wp2
                go_ret
                exact ⟨by rw [HRES.out]; rfl, HB3.out⟩
        · obtain rfl : k = xs.length := by omega
          rw [List.take_length] at hno
          have hres : chkE xs = 0 := by rw [HRES2.out, hno]; rfl
          have d2 : decide ((xs.length : Int) < (xs.length : Int)) = false := decide_eq_false (by omega)
          have HNO := Lib.hid hno; have HBX := Lib.hid hbx; have HBW := Lib.hid hbw; have HRES := Lib.hid hres; clear hno hbx hbw hres
          go_wp2
          go_ret
          exact ⟨by rw [HRES.out]; rfl, HBW.out⟩
end Go.Proofs.Ytlmhgcllikcedaa
/- The law TensionRoots, walked. -/
namespace Go.Proofs.Ytlmhgcllikcedaa
open Go.RowKit

def farB (n most : Nat) : Bool := (decide (most < n) && decide (n ≤ 64)) || decide (70 < n)
set_option maxRecDepth 100000 in
set_option maxHeartbeats 4000000 in
theorem lFar19_ (A : Option Addr) (c : Nat) (n most : Nat) (w : World) : Calls Try.prog 14 #[.slice A n c, .int .i64 (most : Int)] w fun e w' => e = .returned (.bool (farB n most)) ∧ w = w' := by
  obtain ⟨R, hR⟩ : ∃ R, R = farB n most := ⟨_, rfl⟩
  rw [← hR]
  have hr : R = ((decide (most < n) && decide (n ≤ 64)) || decide (70 < n)) := hR
  clear hR
  by_cases h1 : most < n
  · have d1 : decide ((most : Int) < (n : Int)) = true := decide_eq_true (by omega)
    rw [decide_eq_true h1] at hr
    by_cases h2 : n ≤ 64
    · have d2 : decide ((n : Int) ≤ 64) = true := decide_eq_true (by omega)
      rw [decide_eq_true h2] at hr
      have HR := Lib.hid hr; have H1 := Lib.hid h1; have H2 := Lib.hid h2; clear hr h1 h2
      go_enter Try.func14, Try.ntmps14
      go_wp2
      go_ret
      exact ⟨by rw [HR.out]; rfl, rfl⟩
    · have d2 : decide ((n : Int) ≤ 64) = false := decide_eq_false (by omega)
      rw [decide_eq_false h2] at hr
      by_cases h3 : 70 < n
      · have d3 : decide ((70 : Int) < (n : Int)) = true := decide_eq_true (by omega)
        rw [decide_eq_true h3] at hr
        have HR := Lib.hid hr; have H1 := Lib.hid h1; have H2 := Lib.hid h2; have H3 := Lib.hid h3; clear hr h1 h2 h3
        go_enter Try.func14, Try.ntmps14
        go_wp2
        go_ret
        exact ⟨by rw [HR.out]; rfl, rfl⟩
      · have d3 : decide ((70 : Int) < (n : Int)) = false := decide_eq_false (by omega)
        rw [decide_eq_false h3] at hr
        have HR := Lib.hid hr; have H1 := Lib.hid h1; have H2 := Lib.hid h2; have H3 := Lib.hid h3; clear hr h1 h2 h3
        go_enter Try.func14, Try.ntmps14
        go_wp2
        go_ret
        exact ⟨by rw [HR.out]; rfl, rfl⟩
  · have d1 : decide ((most : Int) < (n : Int)) = false := decide_eq_false (by omega)
    rw [decide_eq_false h1] at hr
    by_cases h3 : 70 < n
    · have d3 : decide ((70 : Int) < (n : Int)) = true := decide_eq_true (by omega)
      rw [decide_eq_true h3] at hr
      have HR := Lib.hid hr; have H1 := Lib.hid h1; have H3 := Lib.hid h3; clear hr h1 h3
      go_enter Try.func14, Try.ntmps14
      go_wp2
      go_ret
      exact ⟨by rw [HR.out]; rfl, rfl⟩
    · have d3 : decide ((70 : Int) < (n : Int)) = false := decide_eq_false (by omega)
      rw [decide_eq_false h3] at hr
      have HR := Lib.hid hr; have H1 := Lib.hid h1; have H3 := Lib.hid h3; clear hr h1 h3
      go_enter Try.func14, Try.ntmps14
      go_wp2
      go_ret
      exact ⟨by rw [HR.out]; rfl, rfl⟩
set_option maxRecDepth 100000 in
theorem rootEq_ (K S : Int) (w : World) : (binOp .eql 26 (.agg #[.int .i64 K, .int .i64 S]) (.agg #[.int .i64 K, .int .i64 S])).run Try.prog w = .ok (.bool true) w := by
  have hS : Try.prog.underlying 26 = some (.struct (Try.prog.fieldsOf 26)) := by kernel_rfl
  have hp : Try.prog.stoodInHeld 26 = false := by kernel_rfl
  rw [run_eql_struct, show (10000 : Nat) = 9999 + 1 from rfl, run_equalIn_agg w 9999 26 _ _ hS hp]
  simp only [Program.fieldsOf, Try.underlying26]
  go_simp
/-- Root's answer. -/
noncomputable def rootO (n : Int) : (Int × Int) × Int := if n < 0 ∨ 1000000000000 < n then ((0, 0), 7) else (nrm19 n, 0)
theorem root_is {n : Int} {w : World} {e : Ending} {w' : World} (h : RootPost n w e w') : e = .returned (.tuple #[.agg #[.int .i64 (rootO n).1.1, .int .i64 (rootO n).1.2], .int .i64 (rootO n).2]) ∧ Below w.heap.size w w' := by
  obtain ⟨K, S, x, rfl, hb, h1, h2, h3⟩ := h
  refine ⟨?_, hb⟩
  unfold rootO
  by_cases hb : n < 0 ∨ 1000000000000 < n
  · rw [if_pos hb]
    obtain ⟨rfl, rfl, rfl⟩ := h1 hb
    rfl
  · rw [if_neg hb]
    unfold nrm19
    by_cases h0 : 0 < n
    · obtain ⟨rfl, hK, hS, hr⟩ := h3 h0 (by omega)
      rw [if_pos h0, nrt_is h0 hr, show ((K.toNat : Nat) : Int) = K by omega, show ((S.toNat : Nat) : Int) = S by omega]
    · obtain ⟨rfl, rfl, rfl⟩ := h2 (by omega)
      rw [if_neg h0]
set_option maxRecDepth 100000 in
set_option maxHeartbeats 8000000 in
theorem lawRoots_ (n : Int) (A : Option Addr) (c : Nat) (xs : List (Int × Int)) (w : World) (hr : RdR w A xs) (h1 : -9223372036854775808 ≤ n) (h2 : n ≤ 9223372036854775807) :
    Calls Try.prog 3 #[.int .i64 n, .slice A xs.length c] w fun e w' => e = .returned (.bool true) ∧ Below w.heap.size w w' := by
  have hln := hr.1
  have haw := fun W => awake19_ W
  have hfar := fun W => lFar19_ A c xs.length 12 W
  have hb := Below.refl w.heap.size w
  cases hf : farB xs.length 12 with
  | true =>
    rw [hf] at hfar
    have HR := Lib.hid hr; have HAW := Lib.hid haw; have HLN := Lib.hid hln; have HFAR := Lib.hid hfar; have HF := Lib.hid hf; have HB := Lib.hid hb; clear hr haw hln hfar hf hb
    go_enter Try.func3, Try.ntmps3
    go_wp2_with fail
    refine (HFAR.out _).mono ?_
    rintro e w0 ⟨rfl, rfl⟩
    go_wp2_with fail
    refine (HAW.out _).mono ?_
    rintro e w1 ⟨rfl, hb1⟩
    have HB1 := Lib.hid hb1; clear hb1
    go_wp2
    go_ret
    exact ⟨rfl, HB1.out⟩
  | false =>
    rw [hf] at hfar
    obtain ⟨r, hO⟩ : ∃ r, r = rootO n := ⟨_, rfl⟩
    have hc1 : ∀ W, Calls Try.prog 16 #[.int .i64 n] W fun e w' => e = .returned (.tuple #[.agg #[.int .i64 r.1.1, .int .i64 r.1.2], .int .i64 r.2]) ∧ Below W.heap.size W w' := fun W => by
      rw [hO]
      exact (tnRoot_ n W h1 h2).mono fun e w' h => root_is h
    have hc2 : ∀ W, Calls Try.prog 17 #[.int .i64 n] W fun e w' => e = .returned (.tuple #[.agg #[.int .i64 r.1.1, .int .i64 r.1.2], .int .i64 r.2]) ∧ Below W.heap.size W w' := fun W => by
      rw [hO]
      exact (rRoot19_ n W).mono fun e w' h => root_is h
    obtain ⟨⟨K, S⟩, X⟩ := r
    simp only at hc1 hc2
    have hv := fun W => rootEq_ K S W
    have x1 : (X == X) = true := by simp
    have hck1 := fun W (h : Below w.heap.size w W) => tnCheck_ A c xs W (hr.later h (Nat.le_refl _))
    have hck2 := fun W (h : Below w.heap.size w W) => rCheck19_ A c xs W (hr.later h (Nat.le_refl _))
    generalize chkE xs = E at *
    have x2 : (E == E) = true := by simp
    clear h1 h2
    have HR := Lib.hid hr; have HAW := Lib.hid haw; have HLN := Lib.hid hln; have HFAR := Lib.hid hfar; have HF := Lib.hid hf; have HC1 := Lib.hid hc1; have HC2 := Lib.hid hc2; have HCK1 := Lib.hid hck1; have HCK2 := Lib.hid hck2; have HB := Lib.hid hb; have HO := Lib.hid hO; clear hr haw hln hfar hf hc1 hc2 hck1 hck2 hb hO
    go_enter Try.func3, Try.ntmps3
    go_wp2_with fail
    refine (HFAR.out _).mono ?_
    rintro e w0 ⟨rfl, rfl⟩
    go_wp2_with fail
    refine (HC1.out _).mono ?_
    rintro e w1 ⟨rfl, b1⟩
    obtain ⟨w2, hw2⟩ : ∃ w2, w2 = w1.alloc (.cells #[.int .i64 K, .int .i64 S] 26) := ⟨_, rfl⟩
    have hb2 : Below w.heap.size w w2 := by rw [hw2]; exact b1.alloc b1.size _
    have hI : w2.heap[w1.heap.size]? = some (.cells #[.int .i64 K, .int .i64 S] 26 (0, 0)) := by rw [hw2]; exact heap_alloc_new _ _
    clear b1
    have HW2 := Lib.hid hw2; have HB2 := Lib.hid hb2; have HI := Lib.hid hI; clear hw2 hb2 hI
    go_upto_region 4 with fail
    rw [← HW2.out]
    clear HW2
    generalize w1.heap.size = R1 at *
    go_wp2_with fail
    refine (HC2.out _).mono ?_
    rintro e w3 ⟨rfl, b1⟩
    obtain ⟨w4, hw4⟩ : ∃ w4, w4 = w3.alloc (.cells #[.int .i64 K, .int .i64 S] 26) := ⟨_, rfl⟩
    have b2 : Below w2.heap.size w2 w4 := by rw [hw4]; exact b1.alloc b1.size _
    have hI4 := (b2.block _ (lt_of_block HI.out)).trans HI.out
    have hJ4 : w4.heap[w3.heap.size]? = some (.cells #[.int .i64 K, .int .i64 S] 26 (0, 0)) := by rw [hw4]; exact heap_alloc_new _ _
    have hb4 := HB2.out.trans (b2.mono HB2.out.size)
    clear b1 b2
    have HW4 := Lib.hid hw4; have HB4 := Lib.hid hb4; have HI4 := Lib.hid hI4; have HJ4 := Lib.hid hJ4; clear hw4 hb4 hI4 hJ4
    go_upto_region 5 with fail
    rw [← HW4.out]
    clear HW4
    generalize w3.heap.size = R2 at *
    have i0 := cell_of_row _ _ 0 _ _ _ HI4.out
    have i1 := cell_of_row _ _ 1 _ _ _ HI4.out
    have j0 := cell_of_row _ _ 0 _ _ _ HJ4.out
    have j1 := cell_of_row _ _ 1 _ _ _ HJ4.out
    simp only [List.getElem?_toArray, List.getElem?_cons_zero, List.getElem?_cons_succ] at i0 i1 j0 j1
    have hIl := lt_of_block HI4.out
    have hJl := lt_of_block HJ4.out
    go_wp2_with fail
    refine (HCK1.out _ HB4.out).mono ?_
    rintro e w5 ⟨rfl, b1⟩
    have hb5 := HB4.out.trans (b1.mono HB4.out.size)
    clear b1 i0 i1 j0 j1 hIl hJl
    have HB5 := Lib.hid hb5; clear hb5
    go_wp2_with fail
    refine (HCK2.out _ HB5.out).mono ?_
    rintro e w6 ⟨rfl, b1⟩
    have hb6 := HB5.out.trans (b1.mono HB5.out.size)
    clear b1
    have HB6 := Lib.hid hb6; clear hb6
    go_wp2_with fail
    refine (HAW.out _).mono ?_
    rintro e w7 ⟨rfl, b1⟩
    have hb7 := HB6.out.trans (b1.mono HB6.out.size)
    clear b1
    have HB7 := Lib.hid hb7; clear hb7
    go_wp2
    go_ret
    exact ⟨rfl, HB7.out⟩
end Go.Proofs.Ytlmhgcllikcedaa
