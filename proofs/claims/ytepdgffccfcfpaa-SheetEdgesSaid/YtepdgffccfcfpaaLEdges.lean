/- The law SheetEdges returns true. -/
import Derived.Test.YtepdgffccfcfpaaEx4
import Derived.Test.YtepdgffccfcfpaaREdges
import Derived.Test.YtepdgffccfcfpaaSBad
import Derived.Test.YtepdgffccfcfpaaLFar4
namespace Go.Proofs.Ytepdgffccfcfpaa
open Go.RowKit

set_option maxRecDepth 100000 in
set_option maxHeartbeats 2000000 in
theorem rEdges_bad (p : Int) (A : Option Addr) (c : Nat) (ws : List GW) (w : World) (hsh : ShIn w p A ws) (he : errSheet p ws ≠ 0) :
    Calls Try.prog 13 #[.agg #[.int .i64 p, .slice A ws.length c]] w fun e w' => e = .returned (.tuple #[.slice none 0 0, .int .i64 (errSheet p ws)]) ∧ Below w.heap.size w w' := by
  have hb2 : Below w.heap.size w (w.alloc (.cells #[.int .i64 p, .slice A ws.length c] 24)) := (Below.refl _ _).alloc (Nat.le_refl _) _
  obtain ⟨hp1, hp2, ha⟩ := hsh
  have HA := Lib.hid ha; have HB2 := Lib.hid hb2; clear ha hb2
  go_enter Try.func13, Try.ntmps13
  go_wp2_with fail
  refine (rCheck_ _ _ _ _ _ hp1 hp2 (HA.out.later HB2.out (Nat.le_refl _))).mono ?_
  rintro e w1 ⟨rfl, hb1⟩
  have hs1 : w.heap.size < w1.heap.size := by have := hb1.size; simp at this; omega
  have Y1 := Lib.hid (HB2.out.trans (hb1.mono (by simp))); clear hb1
  generalize hge : errSheet p ws = E at *
  have HGE := Lib.hid hge; clear hge
  go_wp2
  go_ret2
  refine ⟨?_, Y1.out⟩
  try rw [HGE.out]
  rfl
/-- What both Edges return: a row of edges that reads as G, and an error. -/
def EdOut (x : Int) (m : Nat) (G : Nat → E4) (w : World) (e : Ending) (w' : World) : Prop :=
  ∃ B d, e = .returned (.tuple #[.slice B m d, .int .i64 x]) ∧ Rd w' B 4 m (fCell G) ∧ Below w.heap.size w w'
def edM (p : Int) (ws : List GW) : Nat := if errSheet p ws = 0 then p.toNat + 2 * ws.length else 0
def edFn (p : Int) (ws : List GW) : Nat → E4 := edG p.toNat ws
theorem fb_rd {w : World} {R m : Nat} {g : Nat → E4} (h : FB w R m g) : Rd w (some ⟨R, 0, none⟩) 4 m (fCell g) := fun _ => ⟨R, 0, rfl, h.lt, fun j hj => by
  rw [cell_of_row w R (0 + j) _ _ _ h, Nat.zero_add]; simp [fCells, hj]⟩
theorem sEdges_ (p : Int) (A : Option Addr) (c : Nat) (ws : List GW) (w : World) (hsh : ShIn w p A ws) :
    Calls Try.prog 12 #[.agg #[.int .i64 p, .slice A ws.length c]] w (EdOut (errSheet p ws) (edM p ws) (edFn p ws) w) := by
  by_cases he : errSheet p ws = 0
  · obtain ⟨hp2, _, _, _⟩ := okAll he
    obtain ⟨P, rfl⟩ := Int.eq_ofNat_of_zero_le (show 0 ≤ p by omega)
    refine (sEdges_ok P A c ws w he hsh.rd).mono ?_
    rintro e w' ⟨R, rfl, hE, hb⟩
    refine ⟨some ⟨R, 0, none⟩, P + 2 * ws.length, ?_, ?_, hb⟩
    · unfold edM; rw [if_pos he, he]; rfl
    · unfold edM; rw [if_pos he]; exact fb_rd hE
  · refine (sEdges_bad p A c ws w hsh he).mono ?_
    rintro e w' ⟨rfl, hb⟩
    refine ⟨none, 0, ?_, ?_, hb⟩
    · unfold edM; rw [if_neg he]
    · unfold edM; rw [if_neg he]; exact fun h => absurd h (by omega)
theorem rEdges_ (p : Int) (A : Option Addr) (c : Nat) (ws : List GW) (w : World) (hsh : ShIn w p A ws) :
    Calls Try.prog 13 #[.agg #[.int .i64 p, .slice A ws.length c]] w (EdOut (errSheet p ws) (edM p ws) (edFn p ws) w) := by
  by_cases he : errSheet p ws = 0
  · obtain ⟨hp2, _, _, _⟩ := okAll he
    obtain ⟨P, rfl⟩ := Int.eq_ofNat_of_zero_le (show 0 ≤ p by omega)
    refine (rEdges_ok P A c ws w he hsh.rd).mono ?_
    rintro e w' ⟨B, d, rfl, hE, hb⟩
    refine ⟨B, d, ?_, ?_, hb⟩
    · unfold edM; rw [if_pos he, he]; rfl
    · unfold edM; rw [if_pos he]; exact hE
  · refine (rEdges_bad p A c ws w hsh he).mono ?_
    rintro e w' ⟨rfl, hb⟩
    refine ⟨none, 0, ?_, ?_, hb⟩
    · unfold edM; rw [if_neg he]
    · unfold edM; rw [if_neg he]; exact fun h => absurd h (by omega)
theorem fCell_int (G : Nat → E4) : ∃ g : Nat → Int, fCell G = fun j => .int .i64 (g j) :=
  ⟨fun j => if j % 4 = 0 then (G (j / 4)).fr else if j % 4 = 1 then (G (j / 4)).out else if j % 4 = 2 then (G (j / 4)).to else (G (j / 4)).inn, by
    funext j
    unfold fCell
    by_cases h0 : j % 4 = 0
    · simp only [h0, if_true]
    · by_cases h1 : j % 4 = 1
      · simp [h1]
      · by_cases h2 : j % 4 = 2
        · simp [h2]
        · simp [h0, h1, h2]⟩
theorem sameE_ (A B : Option Addr) (c d n : Nat) (G : Nat → E4) (w : World) (hn : n ≤ 281474976710656) (ha : Rd w A 4 n (fCell G)) (hb : Rd w B 4 n (fCell G)) :
    Calls Try.prog 16 #[.slice A n c, .slice B n d] w fun e w' => e = .returned (.bool true) ∧ Below w.heap.size w w' := by
  obtain ⟨g, hg⟩ := fCell_int G
  rw [hg] at ha hb
  exact same4_ A B c d n g w hn ha hb
theorem edM_le {p : Int} {ws : List GW} : edM p ws ≤ 281474976710656 := by
  unfold edM
  split
  · rename_i h; obtain ⟨_, _, _, _⟩ := okAll h; omega
  · omega

set_option maxRecDepth 100000 in
set_option maxHeartbeats 4000000 in
theorem lawEdges_ (p : Int) (A : Option Addr) (c : Nat) (ws : List GW) (w : World) (ha : ShIn w p A ws) :
    Calls Try.prog 3 #[.agg #[.int .i64 p, .slice A ws.length c]] w fun e w' => e = .returned (.bool true) ∧ Below w.heap.size w w' := by
  have hb2 : Below w.heap.size w (w.alloc (.cells #[.int .i64 p, .slice A ws.length c] 24)) := (Below.refl _ _).alloc (Nat.le_refl _) _
  have Y0 := Lib.hid hb2; clear hb2
  have X0 := Lib.hid (Box1.made w p A c ws.length 24)
  have HA := Lib.hid ha; clear ha
  go_enter Try.func3, Try.ntmps3
  go_wp2_with fail
  refine (far4_ p A c ws _ (HA.out.rd.later Y0.out (Nat.le_refl _))).mono ?_; rintro e w1 ⟨z, rfl, _, hb1⟩
  cases z
  rotate_left
  · have X1 := Lib.hid (X0.out.later hb1); have Y1 := Lib.hid (Y0.out.trans (hb1.mono Y0.out.size)); clear hb1; obtain ⟨c1, c2, s1⟩ := X1.out
    go_wp2_with fail
    clear c1 c2 s1
    refine (shown_ _).mono ?_; rintro e w8 ⟨rfl, hb1⟩
    go_wp2
    go_ret
    exact ⟨rfl, Y1.out.trans (hb1.mono Y1.out.size)⟩
  · have X1 := Lib.hid (X0.out.later hb1); have Y1 := Lib.hid (Y0.out.trans (hb1.mono Y0.out.size)); clear hb1; obtain ⟨c1, c2, s1⟩ := X1.out
    go_wp2_with fail
    clear c1 c2 s1
    refine (sEdges_ p A c ws _ (HA.out.later Y1.out (Nat.le_refl _))).mono ?_; rintro e w2 ⟨B1, d1, rfl, hL1, hb1⟩
    have HL1 := Lib.hid hL1; clear hL1
    have X2 := Lib.hid (X1.out.later hb1); have Y2 := Lib.hid (Y1.out.trans (hb1.mono Y1.out.size)); clear hb1; obtain ⟨c1, c2, s1⟩ := X2.out
    go_wp2_with fail
    clear c1 c2 s1
    refine (rEdges_ p A c ws _ (HA.out.later Y2.out (Nat.le_refl _))).mono ?_; rintro e w3 ⟨B2, d2, rfl, hL2, hb1⟩
    have HL2 := Lib.hid hL2; have HM1 := Lib.hid (HL1.out.later hb1 (Nat.le_refl _)); clear hL2 HL1
    have X3 := Lib.hid (X2.out.later hb1); have Y3 := Lib.hid (Y2.out.trans (hb1.mono Y2.out.size)); clear hb1; obtain ⟨c1, c2, s1⟩ := X3.out
    have hm := edM_le (p := p) (ws := ws)
    generalize hgm : edM p ws = M at *
    generalize hgf : edFn p ws = G at *
    generalize hge : errSheet p ws = E at *
    have HGM := Lib.hid hgm; have HGF := Lib.hid hgf; have HGE := Lib.hid hge; clear hgm hgf hge
    go_wp2
    go_region_held3 (fun wX => Below w3.heap.size w3 wX ∧ (∀ b o, b < w3.heap.size → wX.cell? ⟨b, o, none⟩ = w3.cell? ⟨b, o, none⟩) ∧ w3.heap.size ≤ wX.heap.size) ((refine bcell2 ?_; first | exact (Below.refl _ _).drew | exact ‹Below w3.heap.size w3 _ ∧ _›.1.trans (hbH.mono ‹Below w3.heap.size w3 _ ∧ _›.1.size) | exact ‹Below w3.heap.size w3 _ ∧ _›.1.alloc ‹Below w3.heap.size w3 _ ∧ _›.1.size _ | exact ‹Below w3.heap.size w3 _ ∧ _›.1)) ((first | (go_at_call 14; refine (sCheck_ p A c ws _ HA.out.lo HA.out.hi (HA.out.rd.later (Y3.out.trans (‹Below w3.heap.size w3 _ ∧ _›.1.mono Y3.out.size)) (Nat.le_refl _))).mono ?_; rw [HGE.out]; rintro e w2 ⟨rfl, hbH⟩) | (go_at_call 15; refine (rCheck_ p A c ws _ HA.out.lo HA.out.hi (HA.out.rd.later (Y3.out.trans (‹Below w3.heap.size w3 _ ∧ _›.1.mono Y3.out.size)) (Nat.le_refl _))).mono ?_; rw [HGE.out]; rintro e w2 ⟨rfl, hbH⟩) | (go_at_call 16; refine (sameE_ B1 B2 d1 d2 M G _ hm (HM1.out.later ‹Below w3.heap.size w3 _ ∧ _›.1 (Nat.le_refl _)) (HL2.out.later ‹Below w3.heap.size w3 _ ∧ _›.1 (Nat.le_refl _))).mono ?_; rintro e w2 ⟨rfl, hbH⟩) | (go_at_call 11; refine (shown_ _).mono ?_; rintro e w2 ⟨rfl, hbH⟩)))
    go_wp2
    go_ret
    exact ⟨rfl, Y3.out.trans (‹Below w3.heap.size w3 _ ∧ _›.1.mono Y3.out.size)⟩
end Go.Proofs.Ytepdgffccfcfpaa
