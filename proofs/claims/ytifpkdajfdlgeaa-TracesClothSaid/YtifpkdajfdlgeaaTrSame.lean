/- Package traces: Same and Match. -/
import Derived.Test.YtifpkdajfdlgeaaTrMatch
namespace Go.Proofs.Ytifpkdajfdlgeaa
open Go.RowKit

theorem tmatch_ (ba bb : Nat) (p q : Int) (A B : Option Addr) (c d : Nat) (ws vs : List GW) (w : World)
    (hws : OkS p ws) (hvs : OkS q vs) (ha : RdW w A ws) (hb : RdW w B vs)
    (a0 : w.cell? ⟨ba, 0, none⟩ = some (.int .i64 p)) (a1 : w.cell? ⟨ba, 1, none⟩ = some (.slice A ws.length c))
    (b0 : w.cell? ⟨bb, 0, none⟩ = some (.int .i64 q)) (b1 : w.cell? ⟨bb, 1, none⟩ = some (.slice B vs.length d)) :
    Calls Try.prog 44 #[.pointer (some ⟨ba, 0, none⟩), .pointer (some ⟨bb, 0, none⟩)] w (MatchPost (matchP p ws q vs) w) := by
  by_cases h : p = q ∧ ws.length = vs.length
  · unfold matchP; rw [if_pos h]
    exact tmatch_yes ba bb p q A B c d ws vs w hws hvs ha hb a0 a1 b0 b1 h.1 h.2
  · unfold matchP; rw [if_neg h]
    exact tmatch_no ba bb p q A B c d ws vs w hws.all.2.2.1 hvs.all.2.2.1 a0 a1 b0 b1 h

/-- The value of a sheet. -/
def shV (p : Int) (A : Option Addr) (c : Nat) (ws : List GW) : Value := .agg #[.int .i64 p, .slice A ws.length c]
/-- What is known of a sheet that came in. -/
structure ShIn (w : World) (p : Int) (A : Option Addr) (ws : List GW) : Prop where
  lo : -9223372036854775808 ≤ p
  hi : p ≤ 9223372036854775807
  rd : RdW w A ws
theorem ShIn.later {w w' : World} {B : Nat} {p : Int} {A : Option Addr} {ws : List GW} (h : ShIn w p A ws) (hb : Below B w w') (hB : w.heap.size ≤ B) : ShIn w' p A ws := ⟨h.lo, h.hi, h.rd.later hb hB⟩

def bothErr (p : Int) (ws : List GW) (q : Int) (vs : List GW) : Int := orErr (errSheet p ws) (errSheet q vs)
theorem bothErr_ok {p q : Int} {ws vs : List GW} (h : bothErr p ws q vs = 0) : OkS p ws ∧ OkS q vs := by
  unfold bothErr orErr at h
  unfold OkS
  split at h
  · rename_i h1; exact ⟨h1, h⟩
  · rename_i h1; exact absurd h h1

theorem tcheckB_ (ba bb : Nat) (p q : Int) (A B : Option Addr) (c d : Nat) (ws vs : List GW) (w : World) (ha : ShIn w p A ws) (hb : ShIn w q B vs)
    (a0 : w.cell? ⟨ba, 0, none⟩ = some (.int .i64 p)) (a1 : w.cell? ⟨ba, 1, none⟩ = some (.slice A ws.length c))
    (b0 : w.cell? ⟨bb, 0, none⟩ = some (.int .i64 q)) (b1 : w.cell? ⟨bb, 1, none⟩ = some (.slice B vs.length d)) :
    Calls Try.prog 43 #[.pointer (some ⟨ba, 0, none⟩), .pointer (some ⟨bb, 0, none⟩)] w fun e w' => e = .returned (.int .i64 (bothErr p ws q vs)) ∧ Below w.heap.size w w' :=
  tcheck_ ba bb p q A B c d ws vs w ha.lo ha.hi hb.lo hb.hi ha.rd hb.rd a0 a1 b0 b1

def sameE (p : Int) (ws : List GW) (q : Int) (vs : List GW) : Bool := decide (bothErr p ws q vs = 0) && (matchP p ws q vs).isSome

set_option maxHeartbeats 1000000 in
theorem tSame_ (p q : Int) (A B : Option Addr) (c d : Nat) (ws vs : List GW) (w : World) (ha : ShIn w p A ws) (hb : ShIn w q B vs) :
    Calls Try.prog 15 #[shV p A c ws, shV q B d vs] w fun e w' => e = .returned (.tuple #[.bool (sameE p ws q vs), .int .i64 (bothErr p ws q vs)]) ∧ Below w.heap.size w w' := by
  have HA := Lib.hid ha; clear ha
  have HB := Lib.hid hb; clear hb
  have hb2 : Below w.heap.size w ((w.alloc (.cells #[.int .i64 p, .slice A ws.length c] 24)).alloc (.cells #[.int .i64 q, .slice B vs.length d] 24)) := ((Below.refl _ _).alloc (Nat.le_refl _) _).alloc (by simp) _
  have HB2 := Lib.hid hb2; clear hb2
  unfold shV
  by_cases he : bothErr p ws q vs = 0
  · obtain ⟨h1, h2⟩ := bothErr_ok he
    have H1 := Lib.hid h1; have H2 := Lib.hid h2; clear h1 h2
    have heb : (bothErr p ws q vs != 0) = false := by simp [he]
    have HE := Lib.hid he; clear he
    go_enter Try.func15, Try.ntmps15
    go_wp2_with (first | (go_at_call 43; refine (tcheckB_ _ _ p q A B c d ws vs _ (HA.out.later HB2.out (Nat.le_refl _)) (HB.out.later HB2.out (Nat.le_refl _)) (by go_simp) (by go_simp) (by go_simp) (by go_simp)).mono ?_; rintro e w1 ⟨rfl, hb1⟩) | (go_at_call 44; refine (tmatch_ _ _ p q A B c d ws vs _ H1.out H2.out (HA.out.rd.later (HB2.out.trans (hb1.mono (by simp; omega))) (Nat.le_refl _)) (HB.out.rd.later (HB2.out.trans (hb1.mono (by simp; omega))) (Nat.le_refl _)) (below_at hb1 (Nat.le_refl _) (by go_simp)) (below_at hb1 (Nat.le_refl _) (by go_simp)) (below_at hb1 (Nat.le_refl _) (by go_simp)) (below_at hb1 (Nat.le_refl _) (by go_simp))).mono ?_; rintro e w2 ⟨v, rfl, hv, hb2⟩))
    go_ret2
    exact ⟨by unfold sameE; rw [HE.out]; rfl, (HB2.out.trans (hb1.mono (by simp; omega))).trans (hb2.mono (by have := hb1.size; simp at this; omega))⟩
  · have heb : (bothErr p ws q vs != 0) = true := by simpa using he
    have HE := Lib.hid he; clear he
    go_enter Try.func15, Try.ntmps15
    go_wp2_with (go_at_call 43; refine (tcheckB_ _ _ p q A B c d ws vs _ (HA.out.later HB2.out (Nat.le_refl _)) (HB.out.later HB2.out (Nat.le_refl _)) (by go_simp) (by go_simp) (by go_simp) (by go_simp)).mono ?_; rintro e w1 ⟨rfl, hb1⟩)
    go_ret2
    exact ⟨by unfold sameE; rw [decide_eq_false HE.out]; rfl, HB2.out.trans (hb1.mono (by simp; omega))⟩

/-- What Match returns: the list, or its error. -/
def matchErr (p : Int) (ws : List GW) (q : Int) (vs : List GW) : Int := if bothErr p ws q vs = 0 then (if (matchP p ws q vs).isSome = true then 0 else 4) else bothErr p ws q vs
def matchL (p : Int) (ws : List GW) (q : Int) (vs : List GW) : List Int := if bothErr p ws q vs = 0 then (matchP p ws q vs).getD [] else []
def ListPost (l : List Int) (x : Int) (w : World) (e : Ending) (w' : World) : Prop := ∃ v, e = .returned (.tuple #[v, .int .i64 x]) ∧ RdV w' v l ∧ Below w.heap.size w w'

set_option maxHeartbeats 1000000 in
theorem tMatch_ (p q : Int) (A B : Option Addr) (c d : Nat) (ws vs : List GW) (w : World) (ha : ShIn w p A ws) (hb : ShIn w q B vs) :
    Calls Try.prog 17 #[shV p A c ws, shV q B d vs] w (ListPost (matchL p ws q vs) (matchErr p ws q vs) w) := by
  have HA := Lib.hid ha; clear ha
  have HB := Lib.hid hb; clear hb
  have hb2 : Below w.heap.size w ((w.alloc (.cells #[.int .i64 p, .slice A ws.length c] 24)).alloc (.cells #[.int .i64 q, .slice B vs.length d] 24)) := ((Below.refl _ _).alloc (Nat.le_refl _) _).alloc (by simp) _
  have HB2 := Lib.hid hb2; clear hb2
  unfold shV
  by_cases he : bothErr p ws q vs = 0
  · obtain ⟨h1, h2⟩ := bothErr_ok he
    have H1 := Lib.hid h1; have H2 := Lib.hid h2; clear h1 h2
    have heb : (bothErr p ws q vs != 0) = false := by simp [he]
    have HE := Lib.hid he; clear he
    by_cases hs : (matchP p ws q vs).isSome = true
    · go_enter Try.func17, Try.ntmps17
      go_wp2_with (first | (go_at_call 43; refine (tcheckB_ _ _ p q A B c d ws vs _ (HA.out.later HB2.out (Nat.le_refl _)) (HB.out.later HB2.out (Nat.le_refl _)) (by go_simp) (by go_simp) (by go_simp) (by go_simp)).mono ?_; rintro e w1 ⟨rfl, hb1⟩) | (go_at_call 44; refine (tmatch_ _ _ p q A B c d ws vs _ H1.out H2.out (HA.out.rd.later (HB2.out.trans (hb1.mono (by simp; omega))) (Nat.le_refl _)) (HB.out.rd.later (HB2.out.trans (hb1.mono (by simp; omega))) (Nat.le_refl _)) (below_at hb1 (Nat.le_refl _) (by go_simp)) (below_at hb1 (Nat.le_refl _) (by go_simp)) (below_at hb1 (Nat.le_refl _) (by go_simp)) (below_at hb1 (Nat.le_refl _) (by go_simp))).mono ?_; rintro e w2 ⟨v, rfl, hv, hb2⟩))
      go_ret2
      exact ⟨v, by unfold matchErr; rw [if_pos HE.out, if_pos hs]; rfl, by unfold matchL; rw [if_pos HE.out]; exact hv, (HB2.out.trans (hb1.mono (by simp; omega))).trans (hb2.mono (by have := hb1.size; simp at this; omega))⟩
    · have hs' : (matchP p ws q vs).isSome = false := by simpa using hs
      go_enter Try.func17, Try.ntmps17
      go_wp2_with (first | (go_at_call 43; refine (tcheckB_ _ _ p q A B c d ws vs _ (HA.out.later HB2.out (Nat.le_refl _)) (HB.out.later HB2.out (Nat.le_refl _)) (by go_simp) (by go_simp) (by go_simp) (by go_simp)).mono ?_; rintro e w1 ⟨rfl, hb1⟩) | (go_at_call 44; refine (tmatch_ _ _ p q A B c d ws vs _ H1.out H2.out (HA.out.rd.later (HB2.out.trans (hb1.mono (by simp; omega))) (Nat.le_refl _)) (HB.out.rd.later (HB2.out.trans (hb1.mono (by simp; omega))) (Nat.le_refl _)) (below_at hb1 (Nat.le_refl _) (by go_simp)) (below_at hb1 (Nat.le_refl _) (by go_simp)) (below_at hb1 (Nat.le_refl _) (by go_simp)) (below_at hb1 (Nat.le_refl _) (by go_simp))).mono ?_; rintro e w2 ⟨v, rfl, hv, hb2⟩))
      go_ret2
      exact ⟨.slice none 0 0, by unfold matchErr; rw [if_pos HE.out, if_neg hs]; rfl, by unfold matchL; rw [if_pos HE.out, show matchP p ws q vs = none by simpa using hs']; exact RdV.nil _, (HB2.out.trans (hb1.mono (by simp; omega))).trans (hb2.mono (by have := hb1.size; simp at this; omega))⟩
  · have heb : (bothErr p ws q vs != 0) = true := by simpa using he
    have HE := Lib.hid he; clear he
    go_enter Try.func17, Try.ntmps17
    go_wp2_with (go_at_call 43; refine (tcheckB_ _ _ p q A B c d ws vs _ (HA.out.later HB2.out (Nat.le_refl _)) (HB.out.later HB2.out (Nat.le_refl _)) (by go_simp) (by go_simp) (by go_simp) (by go_simp)).mono ?_; rintro e w1 ⟨rfl, hb1⟩)
    go_ret2
    exact ⟨.slice none 0 0, by unfold matchErr; rw [if_neg HE.out]; rfl, by unfold matchL; rw [if_neg HE.out]; exact RdV.nil _, HB2.out.trans (hb1.mono (by simp; omega))⟩
end Go.Proofs.Ytifpkdajfdlgeaa
