/- The laws' sameHistories, at histories that are the same. -/
import Derived.Test.YtifpkdajfdlgeaaClOwn
import Derived.Deep.QuietTactic
namespace Go.Proofs.Ytifpkdajfdlgeaa
open Go.RowKit

theorem RwsM.later {w w1 : World} {R T e m : Nat} {f : Nat → List (Nat × Bool)} (h : RwsM w R T e m f) (hb : Below w.heap.size w w1) : RwsM w1 R T e m f :=
  h.kept (row := none) ⟨hb.os, hb.tape, hb.output, hb.size, fun i hi _ => hb.block i hi⟩ (fun k hk => by cases hk)
set_option maxRecDepth 100000 in
set_option maxHeartbeats 4000000 in
theorem sameHist_ (R1 R2 m : Nat) (f : Nat → List (Nat × Bool)) (w : World) (hm : m ≤ 1000) (hN : ∀ t, (f t).length ≤ 100000) (h1 : RwsM w R1 66 68 m f) (h2 : RwsM w R2 66 68 m f) :
    Calls Try.prog 21 #[.slice (some ⟨R1, 0, none⟩) m m, .slice (some ⟨R2, 0, none⟩) m m] w fun e w' => e = .returned (.bool true) ∧ Below w.heap.size w w' := by
  have HN := Lib.hid hN; have H1 := Lib.hid h1; have H2 := Lib.hid h2; clear hN h1 h2
  go_enter Try.func21, Try.ntmps21
  go_wp2
  go_loopw [5] (fun iv wr => ∃ i : Nat, iv = .int .i64 i ∧ i ≤ m ∧ Below w.heap.size w wr) (fun iv _ => m - (intOf iv).toNat)
  case atStart => exact ⟨0, rfl, Nat.zero_le _, Below.refl _ _⟩
  case round =>
    obtain ⟨i, rfl, hi, hb⟩ := hrel
    by_cases hlt : i < m
    · obtain ⟨v1, d1, _, o1⟩ := (H1.out.later hb).at_ hlt
      obtain ⟨v2, d2, _, o2⟩ := (H2.out.later hb).at_ hlt
      obtain ⟨A1, k1, rfl⟩ := own_slice2 o1
      obtain ⟨A2, k2, rfl⟩ := own_slice2 o2
      have x1 : (0 : Int) ≤ (i : Int) := by omega
      have x2 : (i : Int) < (m : Int) := by omega
      have hl := HN.out i
      generalize f i = l at *
      have HB := Lib.hid hb; have O1 := Lib.hid o1; have O2 := Lib.hid o2; clear hb o1 o2
      obtain ⟨wo, hwo⟩ : ∃ wo : World, wo = wr := ⟨_, rfl⟩
      rw [← hwo] at HB O1 O2 d1 d2 ⊢
      clear hwo
      go_wp2
      go_quiet (fail)
      have HB2 := Lib.hid (below_drewN (Below.refl wo.heap.size wo) nq)
      obtain ⟨wq, hwq⟩ : ∃ wq, wq = wo.drewN nq := ⟨_, rfl⟩
      rw [← hwq] at HB2 ⊢
      clear hwq
      go_wp2
      go_loopw [6] (fun kv wr => ∃ k : Nat, kv = .int .i64 k ∧ k ≤ l.length ∧ Below wo.heap.size wo wr) (fun kv _ => l.length - (intOf kv).toNat)
      case atStart => exact ⟨0, rfl, Nat.zero_le _, HB2.out⟩
      case round =>
        obtain ⟨k, rfl, hk, hb3⟩ := hrel
        have e1 := below_at hb3 (Nat.le_refl _) d1
        have e2 := below_at hb3 (Nat.le_refl _) d2
        by_cases hlt2 : k < l.length
        · obtain ⟨g1, rfl, m1, m2⟩ := own_meet O1.out hlt2
          obtain ⟨g2, rfl, m3, m4⟩ := own_meet O2.out hlt2
          have m1' := below_at hb3 (Nat.le_refl _) m1
          have m2' := below_at hb3 (Nat.le_refl _) m2
          have m3' := below_at hb3 (Nat.le_refl _) m3
          have m4' := below_at hb3 (Nat.le_refl _) m4
          have x3 : (0 : Int) ≤ (k : Int) := by omega
          have x4 : (k : Int) < (l.length : Int) := by omega
          clear m1 m2 m3 m4
          generalize (l[k].1 : Int) = z1 at *
          generalize l[k].2 = z2 at *
          have HB3 := Lib.hid hb3; clear hb3
          go_wp2
          go_quiet (fail)
          go_wp2
          go_roundw
          case rel => exact ⟨k + 1, by go_num, by omega, below_drewN HB3.out _⟩
          case measure => simp [intOf]; omega
        · have HB3 := Lib.hid hb3; clear hb3
          go_wp2
          go_roundw
          case rel => exact ⟨i + 1, by go_num, by omega, HB.out.trans (HB3.out.mono HB.out.size)⟩
          case measure => simp [intOf]; omega
    · have HB := Lib.hid hb; clear hb
      go_wp2
      go_ret
      exact ⟨rfl, HB.out⟩
end Go.Proofs.Ytifpkdajfdlgeaa
