/- The reference's two: the error of two works. -/
import Derived.Test.YtepdgffccfcfpaaSBefore
import Derived.Test.YtepdgffccfcfpaaREnd
import Derived.Test.YtepdgffccfcfpaaCheck
namespace Go.Proofs.Ytepdgffccfcfpaa
open Go.RowKit

set_option maxRecDepth 100000 in
set_option maxHeartbeats 2000000 in
theorem rTwo_ (p a b : Int) (A : Option Addr) (c : Nat) (ws : List GW) (w : World) (hsh : ShIn w p A ws) :
    Calls Try.prog 46 #[.agg #[.int .i64 p, .slice A ws.length c], .int .i64 a, .int .i64 b] w fun e w' => e = .returned (.int .i64 (askErr p ws [a, b])) ∧ Below w.heap.size w w' := by
  have hb2 : Below w.heap.size w (w.alloc (.cells #[.int .i64 p, .slice A ws.length c] 24)) := (Below.refl _ _).alloc (Nat.le_refl _) _
  obtain ⟨hp1, hp2, ha⟩ := hsh
  have hn := ha.1
  have HA := Lib.hid ha; have HB2 := Lib.hid hb2; clear ha hb2
  go_enter Try.func46, Try.ntmps46
  go_wp2_with fail
  refine (rCheck_ _ _ _ _ _ hp1 hp2 (HA.out.later HB2.out (Nat.le_refl _))).mono ?_
  rintro e w1 ⟨rfl, hb1⟩
  have a1 : w1.cell? ⟨w.heap.size, 1, none⟩ = some (.slice A ws.length c) := below_at hb1 (Nat.le_refl _) (by go_simp)
  have hs0 : w.heap.size < w1.heap.size := by have := hb1.size; simp at this; omega
  have Y1 := Lib.hid (HB2.out.trans (hb1.mono (by simp))); clear hb1
  by_cases he : errSheet p ws = 0
  rotate_left
  · have hr : askErr p ws [a, b] = errSheet p ws := by unfold askErr; rw [if_neg he]
    generalize hge : errSheet p ws = E at *
    have hE0 : (E == 0) = false := by simpa using he
    have HR := Lib.hid hr; have HGE := Lib.hid hge; clear hr hge
    go_wp2
    go_ret
    exact ⟨by rw [HR.out]; rfl, Y1.out⟩
  have hbad : ∀ z : Bool, [a, b].any (badI ws.length) = z → askErr p ws [a, b] = if z = true then 2 else 0 := fun z h => by
    unfold askErr
    rw [if_pos he, h]
  rw [he]
  clear he
  have HBAD := Lib.hid hbad; clear hbad
  by_cases r1 : a < 0
  · have hr : askErr p ws [a, b] = 2 := HBAD.out true (by simp [badI]; omega)
    have HR := Lib.hid hr; clear hr
    go_wp2
    go_ret
    exact ⟨by rw [HR.out]; rfl, Y1.out⟩
  · by_cases r2 : (ws.length : Int) ≤ a
    · have hr : askErr p ws [a, b] = 2 := HBAD.out true (by simp [badI]; omega)
      have HR := Lib.hid hr; clear hr
      go_wp2
      go_ret
      exact ⟨by rw [HR.out]; rfl, Y1.out⟩
    · have r2' : a < (ws.length : Int) := by omega
      have r1' : 0 ≤ a := by omega
      by_cases r3 : b < 0
      · have hr : askErr p ws [a, b] = 2 := HBAD.out true (by simp [badI]; omega)
        have HR := Lib.hid hr; clear hr
        go_wp2
        go_ret
        exact ⟨by rw [HR.out]; rfl, Y1.out⟩
      · by_cases r4 : (ws.length : Int) ≤ b
        · have hr : askErr p ws [a, b] = 2 := HBAD.out true (by simp [badI]; omega)
          have HR := Lib.hid hr; clear hr
          go_wp2
          go_ret
          exact ⟨by rw [HR.out]; rfl, Y1.out⟩
        · have hr : askErr p ws [a, b] = 0 := HBAD.out false (by simp [badI]; omega)
          have HR := Lib.hid hr; clear hr
          go_wp2
          go_ret
          exact ⟨by rw [HR.out]; rfl, Y1.out⟩
end Go.Proofs.Ytepdgffccfcfpaa
