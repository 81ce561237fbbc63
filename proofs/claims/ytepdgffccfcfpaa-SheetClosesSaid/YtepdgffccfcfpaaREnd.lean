/- The reference's Takes and end. -/
import Derived.Test.YtepdgffccfcfpaaLeaf
import Derived.Test.YtepdgffccfcfpaaEdges1
import Derived.Test.YtepdgffccfcfpaaOk
namespace Go.Proofs.Ytepdgffccfcfpaa
open Go.RowKit

def takesB (a q : Int) : Bool := decide (q = a ∨ q = a + 1)
set_option maxHeartbeats 400000 in
theorem rTakes_ (k a q : Int) (s : ByteArray) (w : World) (h1 : -1000 ≤ a) (h2 : a ≤ 1000) :
    Calls Try.prog 32 #[.agg #[.int .i64 k, .int .i64 a, .string s], .int .i64 q] w fun e w' => e = .returned (.bool (takesB a q)) ∧ Below w.heap.size w w' := by
  have x1 : IntKind.i64.wrap (a + 1) = a + 1 := IntWalk.i64_in _ (by omega)
  by_cases hc : q = a
  · have hr : takesB a q = true := by unfold takesB; simp [hc]
    subst hc
    have HR := Lib.hid hr; clear hr
    go_enter Try.func32, Try.ntmps32
    go_wp2
    go_ret
    exact ⟨ret_bool HR.out.symm, (Below.refl _ _).alloc (Nat.le_refl _) _⟩
  · have hc' : (q == a) = false := by simpa using hc
    have hr : takesB a q = (q == a + 1) := by unfold takesB; by_cases h : q = a + 1 <;> simp [hc, h]
    generalize hz : (q == a + 1) = z at *
    have HR := Lib.hid hr; clear hr
    go_enter Try.func32, Try.ntmps32
    go_wp2
    go_ret
    exact ⟨ret_bool HR.out.symm, (Below.refl _ _).alloc (Nat.le_refl _) _⟩

/-- Where an edge in place q behind so many works ends. -/
def EndIs (ws : List GW) (from' : Nat) (q tw inn : Int) : Prop :=
  (∃ k, from' ≤ k ∧ k < ws.length ∧ tw = k ∧ inn = q - (ws.getD k gwE).pl ∧ takesB (ws.getD k gwE).pl q = true ∧ ∀ j, from' ≤ j → j < k → takesB (ws.getD j gwE).pl q = false) ∨
  (tw = -1 ∧ inn = q ∧ ∀ j, from' ≤ j → j < ws.length → takesB (ws.getD j gwE).pl q = false)
def EndPost (ws : List GW) (from' : Nat) (q : Int) (w : World) (e : Ending) (w' : World) : Prop :=
  ∃ tw inn, e = .returned (.tuple #[.int .i64 tw, .int .i64 inn]) ∧ EndIs ws from' q tw inn ∧ Below w.heap.size w w'
set_option maxRecDepth 100000 in
set_option maxHeartbeats 2000000 in
theorem rEnd_ (p q : Int) (f : Nat) (A : Option Addr) (c : Nat) (ws : List GW) (w : World) (ha : RdW w A ws) (hf : f ≤ ws.length) (hpl : ∀ x ∈ ws, 0 ≤ x.pl ∧ x.pl ≤ 1000) (hq : 0 ≤ q ∧ q ≤ 1000) (hn : ws.length ≤ 1000) :
    Calls Try.prog 35 #[.agg #[.int .i64 p, .slice A ws.length c], .int .i64 (f : Int), .int .i64 q] w (EndPost ws f q w) := by
  have hb2 : Below w.heap.size w (w.alloc (.cells #[.int .i64 p, .slice A ws.length c] 24)) := (Below.refl _ _).alloc (Nat.le_refl _) _
  have hb3 : (w.alloc (.cells #[.int .i64 p, .slice A ws.length c] 24)).cell? ⟨w.heap.size, 1, none⟩ = some (.slice A ws.length c) := by go_simp
  obtain ⟨hq1, hq2⟩ := hq
  have HA := Lib.hid ha; have HPL := Lib.hid hpl; have HB2 := Lib.hid hb2; have HB3 := Lib.hid hb3; clear ha hpl hb2 hb3
  go_enter Try.func35, Try.ntmps35
  go_wp2
  go_loopw [8] (fun iv wr => ∃ k : Nat, iv = .int .i64 k ∧ f ≤ k ∧ k ≤ ws.length ∧ (∀ j, f ≤ j → j < k → takesB (ws.getD j gwE).pl q = false) ∧ wr.cell? ⟨w.heap.size, 1, none⟩ = some (.slice A ws.length c) ∧ Below w.heap.size w wr ∧ w.heap.size < wr.heap.size) (fun iv _ => ws.length - (intOf iv).toNat)
  case atStart => exact ⟨f, rfl, Nat.le_refl _, hf, (fun j h1 h2 => absurd h2 (by omega)), HB3.out, HB2.out, by simp⟩
  case round =>
    obtain ⟨k, rfl, hfk, hk, hno, g1, hbw, hz0⟩ := hrel
    by_cases hlt : k < ws.length
    · obtain ⟨b, off, rfl, hbL, t1, t2, t3⟩ := (HA.out.later hbw (Nat.le_refl _)).at_ hlt
      obtain ⟨p1, p2⟩ := HPL.out ws[k] (List.getElem_mem hlt)
      have hw : (ws.getD k gwE).pl = ws[k].pl := by simp [List.getD_eq_getElem?_getD, hlt]
      have hyes : takesB ws[k].pl q = true → EndIs ws f q k (q - ws[k].pl) := fun h => .inl ⟨k, hfk, hlt, rfl, by rw [hw], by rw [hw]; exact h, hno⟩
      have hnext : takesB ws[k].pl q = false → ∀ j, f ≤ j → j < k + 1 → takesB (ws.getD j gwE).pl q = false := fun h j h1 h2 => by
        by_cases e : j = k
        · rw [e, hw]; exact h
        · exact hno j h1 (by omega)
      have x1 : (0 : Int) ≤ (k : Int) := by omega
      have x2 : (k : Int) < (ws.length : Int) := by omega
      have HNO := Lib.hid hno; have HYES := Lib.hid hyes; have HNEXT := Lib.hid hnext; have HBW := Lib.hid hbw; have HW := Lib.hid hw; clear hno hyes hnext hbw hw
      generalize ws[k].kind = zk at *
      generalize ws[k].pl = pl at *
      generalize ws[k].word = zw at *
      have x3 : IntKind.i64.wrap (q - pl) = q - pl := IntWalk.i64_in _ (by omega)
      go_wp2_with fail
      refine (rTakes_ zk pl q zw _ (by omega) (by omega)).mono ?_
      rintro e w2 ⟨rfl, hb1⟩
      have g1' := below_at hb1 (Nat.le_refl _) g1
      have t1' := below_at hb1 (Nat.le_refl _) t1
      have t2' := below_at hb1 (Nat.le_refl _) t2
      have t3' := below_at hb1 (Nat.le_refl _) t3
      have hz1 : w.heap.size < w2.heap.size := Nat.lt_of_lt_of_le hz0 hb1.size
      have hbL2 : b < w2.heap.size := Nat.lt_of_lt_of_le hbL hb1.size
      have hbw2 := HBW.out.trans (hb1.mono HBW.out.size)
      clear g1 t1 t2 t3 hbL hz0
      have HBW2 := Lib.hid hbw2; have HB1 := Lib.hid hb1; clear hbw2 hb1
      by_cases ht : takesB pl q = true
      · have hend := HYES.out ht
        rw [ht]
        clear ht
        have HEND := Lib.hid hend; clear hend
        go_wp2
        go_quiet (fail)
        go_wp2_with fail
        all_goals
          go_ret2
          exact ⟨_, _, rfl, HEND.out, below_drewN HBW2.out _⟩
      · have ht' : takesB pl q = false := by simpa using ht
        have hnx := HNEXT.out ht'
        rw [ht']
        clear ht ht'
        have HNX := Lib.hid hnx; clear hnx
        go_wp2
        go_roundw
        case rel => exact ⟨k + 1, by go_num, by omega, by omega, HNX.out, g1', HBW2.out, hz1⟩
        case measure => simp [intOf]; omega
    · obtain rfl : k = ws.length := by omega
      have HNO := Lib.hid hno; have HBW := Lib.hid hbw; clear hno hbw
      go_wp2
      go_ret2
      exact ⟨_, _, rfl, .inr ⟨rfl, rfl, HNO.out⟩, HBW.out⟩
end Go.Proofs.Ytepdgffccfcfpaa
