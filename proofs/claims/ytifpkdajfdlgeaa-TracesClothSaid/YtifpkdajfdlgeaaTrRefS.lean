/- The reference's both, Same and Match. -/
import Derived.Test.YtifpkdajfdlgeaaTrRefM
namespace Go.Proofs.Ytifpkdajfdlgeaa
open Go.RowKit

theorem rmatch_ (p q : Int) (A B : Option Addr) (c d : Nat) (ws vs : List GW) (w : World) (hws : OkS p ws) (hvs : OkS q vs) (ha : RdW w A ws) (hb : RdW w B vs) :
    Calls Try.prog 46 #[shV p A c ws, shV q B d vs] w (MatchPost (matchG p ws q vs) w) := by
  by_cases h : p = q ∧ ws.length = vs.length
  · unfold matchG; rw [if_pos h]
    exact rmatch_yes p q A B c d ws vs w hws hvs ha hb h.1 h.2
  · unfold matchG; rw [if_neg h]
    exact rmatch_no p q A B c d ws vs w hws.all.2.2.1 hvs.all.2.2.1 h

theorem rCheckB_ (p : Int) (A : Option Addr) (c : Nat) (ws : List GW) (w : World) (ha : ShIn w p A ws) :
    Calls Try.prog 20 #[.agg #[.int .i64 p, .slice A ws.length c]] w fun e w' => e = .returned (.int .i64 (errSheet p ws)) ∧ Below w.heap.size w w' := rCheck_ p A c ws w ha.lo ha.hi ha.rd

set_option maxHeartbeats 1000000 in
theorem rboth_ (p q : Int) (A B : Option Addr) (c d : Nat) (ws vs : List GW) (w : World) (ha : ShIn w p A ws) (hb : ShIn w q B vs) :
    Calls Try.prog 45 #[shV p A c ws, shV q B d vs] w fun e w' => e = .returned (.int .i64 (bothErr p ws q vs)) ∧ Below w.heap.size w w' := by
  have HA := Lib.hid ha; clear ha
  have HB := Lib.hid hb; clear hb
  have hb2 : Below w.heap.size w ((w.alloc (.cells #[.int .i64 p, .slice A ws.length c] 24)).alloc (.cells #[.int .i64 q, .slice B vs.length d] 24)) := ((Below.refl _ _).alloc (Nat.le_refl _) _).alloc (by simp) _
  have HB2 := Lib.hid hb2; clear hb2
  unfold shV
  by_cases he : errSheet p ws = 0
  · have heb : (errSheet p ws != 0) = false := by simp [he]
    have HE := Lib.hid he; clear he
    go_enter Try.func45, Try.ntmps45
    go_wp2_with (first | (go_at_call 20; refine (rCheckB_ q B d vs _ (HB.out.later (HB2.out.trans (hb1.mono (by simp; omega))) (Nat.le_refl _))).mono ?_; rintro e w2 ⟨rfl, hb3⟩) | (go_at_call 20; refine (rCheckB_ p A c ws _ (HA.out.later HB2.out (Nat.le_refl _))).mono ?_; rintro e w1 ⟨rfl, hb1⟩; have q0 : w1.cell? ⟨w.heap.size + 1, 0, none⟩ = some (.int .i64 q) := below_at hb1 (Nat.le_refl _) (by go_simp); have q1 : w1.cell? ⟨w.heap.size + 1, 1, none⟩ = some (.slice B vs.length d) := below_at hb1 (Nat.le_refl _) (by go_simp); have hs1 : w.heap.size + 1 < w1.heap.size := by have := hb1.size; simp at this; omega))
    go_ret
    exact ⟨ret_int (by unfold bothErr orErr; rw [if_pos HE.out]), (HB2.out.trans (hb1.mono (by simp; omega))).trans (hb3.mono (by omega))⟩
  · have heb : (errSheet p ws != 0) = true := by simpa using he
    have HE := Lib.hid he; clear he
    go_enter Try.func45, Try.ntmps45
    go_wp2_with (go_at_call 20; refine (rCheckB_ p A c ws _ (HA.out.later HB2.out (Nat.le_refl _))).mono ?_; rintro e w1 ⟨rfl, hb1⟩)
    go_ret
    exact ⟨ret_int (by unfold bothErr orErr; rw [if_neg HE.out]), HB2.out.trans (hb1.mono (by simp; omega))⟩

theorem rmatchU_ (p q : Int) (A B : Option Addr) (c d : Nat) (ws vs : List GW) (w : World) (hws : OkS p ws) (hvs : OkS q vs) (ha : RdW w A ws) (hb : RdW w B vs) :
    Calls Try.prog 46 #[.agg #[.int .i64 p, .slice A ws.length c], .agg #[.int .i64 q, .slice B vs.length d]] w (MatchPost (matchG p ws q vs) w) := rmatch_ p q A B c d ws vs w hws hvs ha hb
theorem rbothU_ (p q : Int) (A B : Option Addr) (c d : Nat) (ws vs : List GW) (w : World) (ha : ShIn w p A ws) (hb : ShIn w q B vs) :
    Calls Try.prog 45 #[.agg #[.int .i64 p, .slice A ws.length c], .agg #[.int .i64 q, .slice B vs.length d]] w fun e w' => e = .returned (.int .i64 (bothErr p ws q vs)) ∧ Below w.heap.size w w' := rboth_ p q A B c d ws vs w ha hb

def sameG (p : Int) (ws : List GW) (q : Int) (vs : List GW) : Bool := decide (bothErr p ws q vs = 0) && (matchG p ws q vs).isSome
def matchErrG (p : Int) (ws : List GW) (q : Int) (vs : List GW) : Int := if bothErr p ws q vs = 0 then (if (matchG p ws q vs).isSome = true then 0 else 4) else bothErr p ws q vs
def matchLG (p : Int) (ws : List GW) (q : Int) (vs : List GW) : List Int := if bothErr p ws q vs = 0 then (matchG p ws q vs).getD [] else []

set_option maxHeartbeats 1000000 in
theorem rSame5_ (p q : Int) (A B : Option Addr) (c d : Nat) (ws vs : List GW) (w : World) (ha : ShIn w p A ws) (hb : ShIn w q B vs) :
    Calls Try.prog 16 #[shV p A c ws, shV q B d vs] w fun e w' => e = .returned (.tuple #[.bool (sameG p ws q vs), .int .i64 (bothErr p ws q vs)]) ∧ Below w.heap.size w w' := by
  have HA := Lib.hid ha; clear ha
  have HB := Lib.hid hb; clear hb
  have hb2 : Below w.heap.size w ((w.alloc (.cells #[.int .i64 p, .slice A ws.length c] 24)).alloc (.cells #[.int .i64 q, .slice B vs.length d] 24)) := ((Below.refl _ _).alloc (Nat.le_refl _) _).alloc (by simp) _
  have HB2 := Lib.hid hb2; clear hb2
  unfold shV
  by_cases he : bothErr p ws q vs = 0
  · obtain ⟨h1, h2⟩ := bothErr_ok he
    have H1 := Lib.hid h1; have H2 := Lib.hid h2; clear h1 h2
    have heb : (bothErr p ws q vs != 0) = false := by simp [he]
    have HE := Lib.hid he; clear he
    go_enter Try.func16, Try.ntmps16
    go_wp2_with (first | (go_at_call 46; refine (rmatchU_ p q A B c d ws vs _ H1.out H2.out (HA.out.rd.later (HB2.out.trans (hb1.mono (by simp; omega))) (Nat.le_refl _)) (HB.out.rd.later (HB2.out.trans (hb1.mono (by simp; omega))) (Nat.le_refl _))).mono ?_; rintro e w2 ⟨v, rfl, hv, hb2⟩) | (go_at_call 45; refine (rbothU_ p q A B c d ws vs _ (HA.out.later HB2.out (Nat.le_refl _)) (HB.out.later HB2.out (Nat.le_refl _))).mono ?_; rintro e w1 ⟨rfl, hb1⟩; have q0 : w1.cell? ⟨w.heap.size, 0, none⟩ = some (.int .i64 p) := below_at hb1 (Nat.le_refl _) (by go_simp); have q1 : w1.cell? ⟨w.heap.size, 1, none⟩ = some (.slice A ws.length c) := below_at hb1 (Nat.le_refl _) (by go_simp); have q2 : w1.cell? ⟨w.heap.size + 1, 0, none⟩ = some (.int .i64 q) := below_at hb1 (Nat.le_refl _) (by go_simp); have q3 : w1.cell? ⟨w.heap.size + 1, 1, none⟩ = some (.slice B vs.length d) := below_at hb1 (Nat.le_refl _) (by go_simp); have hs1 : w.heap.size + 1 < w1.heap.size := (by have := hb1.size; simp at this; omega); have hs0 : w.heap.size < w1.heap.size := (by omega)))
    go_ret2
    exact ⟨by unfold sameG; rw [HE.out]; rfl, (HB2.out.trans (hb1.mono (by simp; omega))).trans (hb2.mono (by have := hb1.size; simp at this; omega))⟩
  · have heb : (bothErr p ws q vs != 0) = true := by simpa using he
    have HE := Lib.hid he; clear he
    go_enter Try.func16, Try.ntmps16
    go_wp2_with (go_at_call 45; refine (rbothU_ p q A B c d ws vs _ (HA.out.later HB2.out (Nat.le_refl _)) (HB.out.later HB2.out (Nat.le_refl _))).mono ?_; rintro e w1 ⟨rfl, hb1⟩)
    go_ret2
    exact ⟨by unfold sameG; rw [decide_eq_false HE.out]; rfl, HB2.out.trans (hb1.mono (by simp; omega))⟩

set_option maxHeartbeats 1000000 in
theorem rMatch5_ (p q : Int) (A B : Option Addr) (c d : Nat) (ws vs : List GW) (w : World) (ha : ShIn w p A ws) (hb : ShIn w q B vs) :
    Calls Try.prog 18 #[shV p A c ws, shV q B d vs] w (ListPost (matchLG p ws q vs) (matchErrG p ws q vs) w) := by
  have HA := Lib.hid ha; clear ha
  have HB := Lib.hid hb; clear hb
  have hb2 : Below w.heap.size w ((w.alloc (.cells #[.int .i64 p, .slice A ws.length c] 24)).alloc (.cells #[.int .i64 q, .slice B vs.length d] 24)) := ((Below.refl _ _).alloc (Nat.le_refl _) _).alloc (by simp) _
  have HB2 := Lib.hid hb2; clear hb2
  unfold shV
  by_cases he : bothErr p ws q vs = 0
  · obtain ⟨h1, h2⟩ := bothErr_ok he
    have H1 := Lib.hid h1; have H2 := Lib.hid h2; clear h1 h2
    have heb : (bothErr p ws q vs != 0) = false := by simp [he]
    have HE := Lib.hid he; clear he
    by_cases hs : (matchG p ws q vs).isSome = true
    · go_enter Try.func18, Try.ntmps18
      go_wp2_with (first | (go_at_call 46; refine (rmatchU_ p q A B c d ws vs _ H1.out H2.out (HA.out.rd.later (HB2.out.trans (hb1.mono (by simp; omega))) (Nat.le_refl _)) (HB.out.rd.later (HB2.out.trans (hb1.mono (by simp; omega))) (Nat.le_refl _))).mono ?_; rintro e w2 ⟨v, rfl, hv, hb2⟩) | (go_at_call 45; refine (rbothU_ p q A B c d ws vs _ (HA.out.later HB2.out (Nat.le_refl _)) (HB.out.later HB2.out (Nat.le_refl _))).mono ?_; rintro e w1 ⟨rfl, hb1⟩; have q0 : w1.cell? ⟨w.heap.size, 0, none⟩ = some (.int .i64 p) := below_at hb1 (Nat.le_refl _) (by go_simp); have q1 : w1.cell? ⟨w.heap.size, 1, none⟩ = some (.slice A ws.length c) := below_at hb1 (Nat.le_refl _) (by go_simp); have q2 : w1.cell? ⟨w.heap.size + 1, 0, none⟩ = some (.int .i64 q) := below_at hb1 (Nat.le_refl _) (by go_simp); have q3 : w1.cell? ⟨w.heap.size + 1, 1, none⟩ = some (.slice B vs.length d) := below_at hb1 (Nat.le_refl _) (by go_simp); have hs1 : w.heap.size + 1 < w1.heap.size := (by have := hb1.size; simp at this; omega); have hs0 : w.heap.size < w1.heap.size := (by omega)))
      go_ret2
      exact ⟨v, by unfold matchErrG; rw [if_pos HE.out, if_pos hs]; rfl, by unfold matchLG; rw [if_pos HE.out]; exact hv, (HB2.out.trans (hb1.mono (by simp; omega))).trans (hb2.mono (by have := hb1.size; simp at this; omega))⟩
    · have hs' : (matchG p ws q vs).isSome = false := by simpa using hs
      go_enter Try.func18, Try.ntmps18
      go_wp2_with (first | (go_at_call 46; refine (rmatchU_ p q A B c d ws vs _ H1.out H2.out (HA.out.rd.later (HB2.out.trans (hb1.mono (by simp; omega))) (Nat.le_refl _)) (HB.out.rd.later (HB2.out.trans (hb1.mono (by simp; omega))) (Nat.le_refl _))).mono ?_; rintro e w2 ⟨v, rfl, hv, hb2⟩) | (go_at_call 45; refine (rbothU_ p q A B c d ws vs _ (HA.out.later HB2.out (Nat.le_refl _)) (HB.out.later HB2.out (Nat.le_refl _))).mono ?_; rintro e w1 ⟨rfl, hb1⟩; have q0 : w1.cell? ⟨w.heap.size, 0, none⟩ = some (.int .i64 p) := below_at hb1 (Nat.le_refl _) (by go_simp); have q1 : w1.cell? ⟨w.heap.size, 1, none⟩ = some (.slice A ws.length c) := below_at hb1 (Nat.le_refl _) (by go_simp); have q2 : w1.cell? ⟨w.heap.size + 1, 0, none⟩ = some (.int .i64 q) := below_at hb1 (Nat.le_refl _) (by go_simp); have q3 : w1.cell? ⟨w.heap.size + 1, 1, none⟩ = some (.slice B vs.length d) := below_at hb1 (Nat.le_refl _) (by go_simp); have hs1 : w.heap.size + 1 < w1.heap.size := (by have := hb1.size; simp at this; omega); have hs0 : w.heap.size < w1.heap.size := (by omega)))
      go_ret2
      exact ⟨.slice none 0 0, by unfold matchErrG; rw [if_pos HE.out, if_neg hs]; rfl, by unfold matchLG; rw [if_pos HE.out, show matchG p ws q vs = none by simpa using hs']; exact RdV.nil _, (HB2.out.trans (hb1.mono (by simp; omega))).trans (hb2.mono (by have := hb1.size; simp at this; omega))⟩
  · have heb : (bothErr p ws q vs != 0) = true := by simpa using he
    have HE := Lib.hid he; clear he
    go_enter Try.func18, Try.ntmps18
    go_wp2_with (go_at_call 45; refine (rbothU_ p q A B c d ws vs _ (HA.out.later HB2.out (Nat.le_refl _)) (HB.out.later HB2.out (Nat.le_refl _))).mono ?_; rintro e w1 ⟨rfl, hb1⟩)
    go_ret2
    exact ⟨.slice none 0 0, by unfold matchErrG; rw [if_neg HE.out]; rfl, by unfold matchLG; rw [if_neg HE.out]; exact RdV.nil _, HB2.out.trans (hb1.mono (by simp; omega))⟩

end Go.Proofs.Ytifpkdajfdlgeaa
