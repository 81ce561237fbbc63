/- The reference's Same, at two sheets that are the same. -/
import Derived.Test.YtepdgffccfcfpaaOk
import Derived.Test.YtepdgffccfcfpaaRows
namespace Go.Proofs.Ytepdgffccfcfpaa
open Go.RowKit

def BoxS (w w1 : World) (p q : Int) (A B : Option Addr) (c d n m : Nat) : Prop :=
  w1.cell? ⟨w.heap.size, 0, none⟩ = some (.int .i64 p) ∧ w1.cell? ⟨w.heap.size, 1, none⟩ = some (.slice A n c) ∧ w1.cell? ⟨w.heap.size + 1, 0, none⟩ = some (.int .i64 q) ∧ w1.cell? ⟨w.heap.size + 1, 1, none⟩ = some (.slice B m d) ∧ w.heap.size < w1.heap.size ∧ w.heap.size + 1 < w1.heap.size
theorem BoxS.later {w w1 w2 : World} {p q : Int} {A B : Option Addr} {c d n m : Nat} (h : BoxS w w1 p q A B c d n m) (hb : Below w1.heap.size w1 w2) : BoxS w w2 p q A B c d n m :=
  ⟨below_at hb (Nat.le_refl _) h.1, below_at hb (Nat.le_refl _) h.2.1, below_at hb (Nat.le_refl _) h.2.2.1, below_at hb (Nat.le_refl _) h.2.2.2.1, Nat.lt_of_lt_of_le h.2.2.2.2.1 hb.size, Nat.lt_of_lt_of_le h.2.2.2.2.2 hb.size⟩
theorem BoxS.made (w : World) (p q : Int) (A B : Option Addr) (c d n m : Nat) : BoxS w ((w.alloc (.cells #[.int .i64 p, .slice A n c] 24)).alloc (.cells #[.int .i64 q, .slice B m d] 24)) p q A B c d n m :=
  ⟨by go_simp, by go_simp, by go_simp, by go_simp, by simp; omega, by simp⟩

set_option maxRecDepth 100000 in
set_option maxHeartbeats 2000000 in
theorem rSame4_ (p : Int) (A B : Option Addr) (c d : Nat) (ws : List GW) (w : World) (ha : RdW w A ws) (hb : RdW w B ws) :
    Calls Try.prog 28 #[.agg #[.int .i64 p, .slice A ws.length c], .agg #[.int .i64 p, .slice B ws.length d]] w fun e w' => e = .returned (.bool true) ∧ Below w.heap.size w w' := by
  have hla := ha.1
  have hb2 : Below w.heap.size w ((w.alloc (.cells #[.int .i64 p, .slice A ws.length c] 24)).alloc (.cells #[.int .i64 p, .slice B ws.length d] 24)) := ((Below.refl _ _).alloc (Nat.le_refl _) _).alloc (by simp) _
  have X0 := Lib.hid (BoxS.made w p p A B c d ws.length ws.length)
  have HA := Lib.hid ha; have HB := Lib.hid hb; have HB2 := Lib.hid hb2; clear ha hb hb2
  go_enter Try.func28, Try.ntmps28
  go_wp2
  obtain ⟨w0, hw0⟩ : ∃ w0, w0 = (w.alloc (.cells #[.int .i64 p, .slice A ws.length c] 24)).alloc (.cells #[.int .i64 p, .slice B ws.length d] 24) := ⟨_, rfl⟩
  rw [← hw0] at X0 HB2 ⊢
  clear hw0
  go_loopw [5] (fun iv wr => ∃ j : Nat, iv = .int .i64 j ∧ j ≤ ws.length ∧ Below w0.heap.size w0 wr) (fun iv _ => ws.length - (intOf iv).toNat)
  case atStart => exact ⟨0, rfl, Nat.zero_le _, Below.refl _ _⟩
  case round =>
    obtain ⟨j, rfl, hj, hb3⟩ := hrel
    obtain ⟨c1, c2, c3, c4, s1, s2⟩ := X0.out.later hb3
    by_cases hlt : j < ws.length
    · obtain ⟨b, off, rfl, hbL, g1, g2, g3⟩ := (HA.out.later (HB2.out.trans (hb3.mono HB2.out.size)) (Nat.le_refl _)).at_ hlt
      obtain ⟨b', off', rfl, hbL', g1', g2', g3'⟩ := (HB.out.later (HB2.out.trans (hb3.mono HB2.out.size)) (Nat.le_refl _)).at_ hlt
      have x1 : (0 : Int) ≤ (j : Int) := by omega
      have x2 : (j : Int) < (ws.length : Int) := by omega
      generalize ws[j].kind = zk at *
      generalize ws[j].pl = zp at *
      generalize ws[j].word = zw at *
      have HB3 := Lib.hid hb3; clear hb3
      go_wp2
      go_quiet (fail)
      go_wp2
      go_roundw
      case rel => exact ⟨j + 1, by go_num, by omega, below_drewN HB3.out _⟩
      case measure => simp [intOf]; omega
    · have HB3 := Lib.hid hb3; clear hb3
      go_wp2
      go_ret
      exact ⟨rfl, HB2.out.trans (HB3.out.mono HB2.out.size)⟩
end Go.Proofs.Ytepdgffccfcfpaa
