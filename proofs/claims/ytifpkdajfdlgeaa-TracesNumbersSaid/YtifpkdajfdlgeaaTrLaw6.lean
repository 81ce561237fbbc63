/- The law TracesOrders: its walk. -/
import Derived.Test.YtifpkdajfdlgeaaTrRankT
import Derived.Test.YtifpkdajfdlgeaaTrLaw2
namespace Go.Proofs.Ytifpkdajfdlgeaa
open Go.RowKit

set_option maxRecDepth 100000 in
set_option maxHeartbeats 2000000 in
theorem lawOrders_ (p : Int) (A L : Option Addr) (c lc : Nat) (ws : List GW) (k : Int) (l : List Int) (w : World) (ha : ShIn w p A ws) (hcap : ws.length ≤ c) (hk1 : -9223372036854775808 ≤ k) (hk2 : k ≤ 9223372036854775807) (hl : RdI w L l) :
    Calls Try.prog 10 #[.agg #[.int .i64 p, .slice A ws.length c], .int .i64 k, .slice L l.length lc] w fun e w' => e = .returned (.bool true) ∧ Below w.heap.size w w' := by
  have hla := ha.rd.1
  have hll := hl.1
  have hb2 : Below w.heap.size w (w.alloc (.cells #[.int .i64 p, .slice A ws.length c] 24)) := (Below.refl _ _).alloc (Nat.le_refl _) _
  have Y0 := Lib.hid hb2; clear hb2
  have X0 := Lib.hid (Box1.made w p A c ws.length)
  have hne : ∀ w1, Below w.heap.size w w1 → 0 < ws.length → ∀ b off, A = some ⟨b, off, none⟩ → b < w1.heap.size := fun w1 hb h0 b off hA => rdW_ne (ha.rd.later hb (Nat.le_refl _)) h0 b off hA
  by_cases f1 : (12 < ws.length ∧ ws.length ≤ 16) ∨ 450 < ws.length ∨ 450 < l.length
  · have HA := Lib.hid ha; have HL := Lib.hid hl; have HK1 := Lib.hid hk1; have HK2 := Lib.hid hk2; have HNE := Lib.hid hne; clear ha hl hk1 hk2 hne
    have hsplit : (12 < ws.length ∧ ws.length ≤ 16) ∨ (¬ (12 < ws.length ∧ ws.length ≤ 16) ∧ 450 < ws.length) ∨ (¬ (12 < ws.length ∧ ws.length ≤ 16) ∧ ¬ 450 < ws.length ∧ 450 < l.length) := by omega
    clear f1
    rcases hsplit with ⟨g1, g2⟩ | ⟨g1, g2⟩ | ⟨g1, g2, g3⟩
    · have t1 : (12 : Int) < (ws.length : Int) := by omega
      have t2 : (ws.length : Int) ≤ 16 := by omega
      go_enter Try.func10, Try.ntmps10
      go_wp2_with fail
      refine (awake_ _).mono ?_; rintro e w8 ⟨rfl, hb1⟩
      go_wp2
      go_ret
      exact ⟨rfl, Y0.out.trans (hb1.mono (by simp))⟩
    · have t2 : (450 : Int) < (ws.length : Int) := by omega
      have t1 : ¬ (ws.length : Int) ≤ 16 := by omega
      have t3 : (12 : Int) < (ws.length : Int) := by omega
      clear g1
      go_enter Try.func10, Try.ntmps10
      go_wp2_with fail
      refine (awake_ _).mono ?_; rintro e w8 ⟨rfl, hb1⟩
      go_wp2
      go_ret
      exact ⟨rfl, Y0.out.trans (hb1.mono (by simp))⟩
    · have t2 : ¬ (450 : Int) < (ws.length : Int) := by omega
      have t4 : (450 : Int) < (l.length : Int) := by omega
      by_cases h12 : 12 < ws.length
      · have t1 : ¬ (ws.length : Int) ≤ 16 := by omega
        have t3 : (12 : Int) < (ws.length : Int) := by omega
        clear g1
        go_enter Try.func10, Try.ntmps10
        go_wp2_with fail
        refine (awake_ _).mono ?_; rintro e w8 ⟨rfl, hb1⟩
        go_wp2
        go_ret
        exact ⟨rfl, Y0.out.trans (hb1.mono (by simp))⟩
      · have t3 : ¬ (12 : Int) < (ws.length : Int) := by omega
        clear g1
        go_enter Try.func10, Try.ntmps10
        go_wp2_with fail
        refine (awake_ _).mono ?_; rintro e w8 ⟨rfl, hb1⟩
        go_wp2
        go_ret
        exact ⟨rfl, Y0.out.trans (hb1.mono (by simp))⟩
  · have t2 : ¬ (450 : Int) < (ws.length : Int) := by omega
    have t4 : ¬ (450 : Int) < (l.length : Int) := by omega
    have hk : 12 < ws.length → ¬ (ws.length : Int) ≤ 16 := by omega
    clear f1
    have HA := Lib.hid ha; have HL := Lib.hid hl; have HK1 := Lib.hid hk1; have HK2 := Lib.hid hk2; have HNE := Lib.hid hne; clear ha hl hk1 hk2 hne
    by_cases h12 : 12 < ws.length
    all_goals
      have t5 := hk
      first | (have t1 := hk h12; have t3 : (12 : Int) < (ws.length : Int) := by omega) | (have t3 : ¬ (12 : Int) < (ws.length : Int) := by omega)
      clear t5 hk
      go_enter Try.func10, Try.ntmps10
      go_wp2_with fail
      refine (tOrders_ p A c ws _ (HA.out.later Y0.out (Nat.le_refl _)) hcap).mono ?_; rintro e w1 ⟨rfl, hb1⟩
      have X1 := Lib.hid (X0.out.later hb1); have Y1 := Lib.hid (Y0.out.trans (hb1.mono Y0.out.size)); clear hb1; obtain ⟨c1, c2, s1⟩ := X1.out
      go_wp2_with fail
      clear c1 c2 s1
      refine (rOrders5_ p A c ws _ (HA.out.later Y1.out (Nat.le_refl _)) (HNE.out _ Y1.out)).mono ?_; rintro e w2 ⟨rfl, hb1⟩
      have X2 := Lib.hid (X1.out.later hb1); have Y2 := Lib.hid (Y1.out.trans (hb1.mono Y1.out.size)); clear hb1; obtain ⟨c1, c2, s1⟩ := X2.out
      go_wp2_with fail
      clear c1 c2 s1
      refine (tNth_ p A c ws k _ (HA.out.later Y2.out (Nat.le_refl _)) hcap HK1.out HK2.out).mono ?_; rintro e w3 ⟨_, rfl, ⟨L1, k1, rfl, hL1⟩, hb1⟩
      have HL1 := Lib.hid hL1; clear hL1
      have X3 := Lib.hid (X2.out.later hb1); have Y3 := Lib.hid (Y2.out.trans (hb1.mono Y2.out.size)); clear hb1; obtain ⟨c1, c2, s1⟩ := X3.out
      go_wp2_with fail
      clear c1 c2 s1
      refine (rNth_ p A c ws k _ (HA.out.later Y3.out (Nat.le_refl _)) (HNE.out _ Y3.out) HK1.out HK2.out).mono ?_; rintro e w4 ⟨_, rfl, ⟨L2, k2, rfl, hL2⟩, hb1⟩
      have HL2 := Lib.hid hL2; have HL3 := Lib.hid (HL1.out.later hb1 (Nat.le_refl _)); clear hL2 HL1
      have n1 : (cntdNum p ws != cntdNum p ws) = false := by simp
      have n2 : (cntdErr p ws != cntdErr p ws) = false := by simp
      have n3 : (nthX p ws k != nthX p ws k) = false := by simp
      have X4 := Lib.hid (X3.out.later hb1); have Y4 := Lib.hid (Y3.out.trans (hb1.mono Y3.out.size)); clear hb1; obtain ⟨c1, c2, s1⟩ := X4.out
      go_wp2_with fail
      clear c1 c2 s1
      refine (sameIntsR_ L1 L2 k1 k2 _ _ HL3.out HL2.out).mono ?_; rintro e w5 ⟨rfl, hb1⟩
      have X5 := Lib.hid (X4.out.later hb1); have Y5 := Lib.hid (Y4.out.trans (hb1.mono Y4.out.size)); clear hb1; obtain ⟨c1, c2, s1⟩ := X5.out
      go_wp2_with fail
      clear c1 c2 s1
      refine (tRank_ p A L c lc ws l _ (HA.out.later Y5.out (Nat.le_refl _)) hcap (HL.out.later Y5.out (Nat.le_refl _))).mono ?_; rintro e w6 ⟨rfl, hb1⟩
      have X6 := Lib.hid (X5.out.later hb1); have Y6 := Lib.hid (Y5.out.trans (hb1.mono Y5.out.size)); clear hb1; obtain ⟨c1, c2, s1⟩ := X6.out
      go_wp2_with fail
      clear c1 c2 s1
      refine (rRank_ p A L c lc ws l _ (HA.out.later Y6.out (Nat.le_refl _)) (HNE.out _ Y6.out) (HL.out.later Y6.out (Nat.le_refl _))).mono ?_; rintro e w7 ⟨rfl, hb1⟩
      have Y7 := Lib.hid (Y6.out.trans (hb1.mono Y6.out.size)); clear hb1
      go_wp2_with fail
      refine (awake_ _).mono ?_; rintro e w8 ⟨rfl, hb1⟩
      have Y8 := Lib.hid (Y7.out.trans (hb1.mono Y7.out.size)); clear hb1
      go_wp2
      go_ret
      exact ⟨ret_bool (by simp), Y8.out⟩
end Go.Proofs.Ytifpkdajfdlgeaa
