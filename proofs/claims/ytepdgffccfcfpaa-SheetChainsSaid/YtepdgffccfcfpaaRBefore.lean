/- The reference's Before. -/
import Derived.Test.YtepdgffccfcfpaaRRows
import Derived.Test.YtepdgffccfcfpaaRTwo
namespace Go.Proofs.Ytepdgffccfcfpaa
open Go.RowKit

theorem ask_zero {p a b : Int} {ws : List GW} (he : askErr p ws [a, b] = 0) : errSheet p ws = 0 ∧ (0 ≤ a ∧ a < ws.length) ∧ 0 ≤ b ∧ b < ws.length := by
  unfold askErr at he
  split at he
  · rename_i hok
    refine ⟨hok, ?_⟩
    split at he
    · cases he
    · rename_i h
      have hin : [a, b].any (badI ws.length) = false := by simpa using h
      simp [badI] at hin
      omega
  · rename_i h; exact absurd he h
set_option maxRecDepth 100000 in
set_option maxHeartbeats 4000000 in
theorem rBefore_ (p a b : Int) (A : Option Addr) (c : Nat) (ws : List GW) (w : World) (hsh : ShIn w p A ws) :
    Calls Try.prog 23 #[.agg #[.int .i64 p, .slice A ws.length c], .int .i64 a, .int .i64 b] w fun e w' => e = .returned (.tuple #[.bool (befB p ws a b), .int .i64 (askErr p ws [a, b])]) ∧ Below w.heap.size w w' := by
  have hb2 : Below w.heap.size w (w.alloc (.cells #[.int .i64 p, .slice A ws.length c] 24)) := (Below.refl _ _).alloc (Nat.le_refl _) _
  have hbx := Box1.made w p A c ws.length 24
  have HSH := Lib.hid hsh; have HB2 := Lib.hid hb2; have HBX := Lib.hid hbx; clear hsh hb2 hbx
  go_enter Try.func23, Try.ntmps23
  go_wp2_with fail
  refine (rTwo_ p a b A c ws _ (HSH.out.later HB2.out (Nat.le_refl _))).mono ?_
  rintro e w1 ⟨rfl, hb1⟩
  have hx1 := HBX.out.later hb1
  have Y1 := Lib.hid (HB2.out.trans (hb1.mono (by simp))); clear hb1 HBX
  obtain ⟨c0, c1, hs0⟩ := hx1
  by_cases he : askErr p ws [a, b] = 0
  rotate_left
  · have hr : befB p ws a b = false := by unfold befB; simp [he]
    generalize hge : askErr p ws [a, b] = E at *
    have HR := Lib.hid hr; have HGE := Lib.hid hge; clear hr hge
    go_wp2
    go_ret2
    refine ⟨?_, Y1.out⟩
    rw [HR.out]
    try rw [HGE.out]
    rfl
  obtain ⟨hok, ⟨z1, z2⟩, z3, z4⟩ := ask_zero he
  obtain ⟨hp3, hp24, hn, hall⟩ := okAll hok
  obtain ⟨P, rfl⟩ := Int.eq_ofNat_of_zero_le (show 0 ≤ p by omega)
  obtain ⟨i, rfl⟩ := Int.eq_ofNat_of_zero_le z1
  obtain ⟨k, rfl⟩ := Int.eq_ofNat_of_zero_le z3
  have hr : befB P ws i k = befM P ws k i := by unfold befB befM; rw [he]; rfl
  have hil : i < ws.length := by omega
  have hkl : k < ws.length := by omega
  have hce := he
  rw [he]
  clear he
  have HR := Lib.hid hr; have HCE := Lib.hid hce; have HOK := Lib.hid hok; have HALL := Lib.hid hall; clear hr hce hok hall
  go_wp2_with fail
  refine (rRows_ P A c ws _ HOK.out (HSH.out.rd.later Y1.out (Nat.le_refl _))).mono ?_
  rintro e w2 ⟨RA, rc, rfl, hM, hb2⟩
  obtain ⟨g, o, R, rfl, hg, m1, hR, m2⟩ := hM k hkl
  have m3 := m2 i hil
  clear m2 hM
  have Y2 := Lib.hid (Y1.out.trans (hb2.mono Y1.out.size)); clear hb2
  generalize befM P ws k i = mv at *
  go_wp2
  go_ret2
  refine ⟨?_, Y2.out⟩
  rw [HR.out, HCE.out]
  rfl
end Go.Proofs.Ytepdgffccfcfpaa
