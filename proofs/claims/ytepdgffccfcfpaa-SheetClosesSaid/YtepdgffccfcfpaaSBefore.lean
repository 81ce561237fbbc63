/- The program's asked and Before. -/
import Derived.Test.YtepdgffccfcfpaaSLine
namespace Go.Proofs.Ytepdgffccfcfpaa
open Go.RowKit

def badI (n : Nat) (x : Int) : Bool := decide (x < 0 ∨ (n : Int) ≤ x)
theorem sAsked1_ (x : Int) (ob n lc : Nat) (L : Option Addr) (w : World) (hc : w.cell? ⟨ob, 1, none⟩ = some (.slice L n lc)) :
    Calls Try.prog 55 #[.int .i64 x, .pointer (some ⟨ob, 0, none⟩)] w fun e w' => e = .returned (.bool (badI n x)) ∧ w = w' := by
  by_cases h1 : x < 0
  · have hr : badI n x = true := by unfold badI; simp [h1]
    have HR := Lib.hid hr; clear hr
    go_enter Try.func55, Try.ntmps55
    go_wp2
    go_ret
    exact ⟨ret_bool HR.out.symm, rfl⟩
  · by_cases h2 : (n : Int) ≤ x
    · have hr : badI n x = true := by unfold badI; simp [h2]
      have HR := Lib.hid hr; clear hr
      go_enter Try.func55, Try.ntmps55
      go_wp2
      go_ret
      exact ⟨ret_bool HR.out.symm, rfl⟩
    · have hr : badI n x = false := by unfold badI; simp; omega
      have HR := Lib.hid hr; clear hr
      go_enter Try.func55, Try.ntmps55
      go_wp2
      go_ret
      exact ⟨ret_bool HR.out.symm, rfl⟩

def IdxPost (b : Bool) (w : World) (e : Ending) (w' : World) : Prop := ∃ r : Int, e = .returned (.int .i64 r) ∧ decide (0 ≤ r) = b ∧ w = w'
set_option maxHeartbeats 1000000 in
theorem indI_ (ob n lc lc2 : Nat) (L L2 : Option Addr) (l : List Int) (w : World) (hc : w.cell? ⟨ob, 1, none⟩ = some (.slice L2 n lc2)) (hl : RdI w L l) :
    Calls Try.prog 58 #[.slice L l.length lc, .func (.func 55) #[] #[.pointer (some ⟨ob, 0, none⟩)]] w (IdxPost (l.any (badI n)) w) := by
  have hln := hl.1
  have HL := Lib.hid hl; have HC := Lib.hid hc; clear hl hc
  go_enter Try.func58, Try.ntmps58
  go_wp2
  go_loop [8] (fun iv => ∃ k : Nat, iv = .int .i64 k ∧ k ≤ l.length ∧ (l.take k).any (badI n) = false) (fun iv => l.length - (intOf iv).toNat)
  case atStart => exact ⟨0, rfl, Nat.zero_le _, rfl⟩
  case round =>
    obtain ⟨k, rfl, hk, hno⟩ := hrel
    by_cases hlt : k < l.length
    · obtain ⟨bl, ol, hL, hbl, l1⟩ := HL.out.at_ hlt
      subst hL
      have hts := any_take_succ l (badI n) k hlt
      have hhit : badI n l[k] = true → l.any (badI n) = true := fun h => any_hit hlt h
      generalize l[k] = x at *
      have x1 : (0 : Int) ≤ (k : Int) := by omega
      have x2 : (k : Int) < (l.length : Int) := by omega
      by_cases hb : badI n x = true
      · have hres := hhit hb
        clear hhit
        have HNO := Lib.hid hno; have HTS := Lib.hid hts; have HRES := Lib.hid hres; clear hno hts hres
        go_wp2_with fail
        refine (sAsked1_ x ob n lc2 L2 _ HC.out).mono ?_
        rw [hb]
        rintro e w1 ⟨rfl, rfl⟩
        clear hb
        go_wp2
        go_ret
        exact ⟨k, rfl, by rw [HRES.out]; simp, rfl⟩
      · have hb' : badI n x = false := by simpa using hb
        clear hb hhit
        have hno2 : (l.take (k + 1)).any (badI n) = false := by rw [hts, hno, hb']; rfl
        have HNO := Lib.hid hno; have HTS := Lib.hid hts; have HNO2 := Lib.hid hno2; clear hno hts hno2
        go_wp2_with fail
        refine (sAsked1_ x ob n lc2 L2 _ HC.out).mono ?_
        rw [hb']
        rintro e w1 ⟨rfl, rfl⟩
        clear hb'
        go_wp2
        go_round
        case rel => exact ⟨k + 1, by go_num, by omega, HNO2.out⟩
        case measure => simp [intOf]; omega
    · have hres : l.any (badI n) = false := any_end hlt hno
      have HNO := Lib.hid hno; have HRES := Lib.hid hres; clear hno hres
      go_wp2
      go_ret
      exact ⟨-1, rfl, by rw [HRES.out]; simp, rfl⟩

set_option maxHeartbeats 1000000 in
theorem contI_ (ob n lc lc2 : Nat) (L L2 : Option Addr) (l : List Int) (w : World) (hc : w.cell? ⟨ob, 1, none⟩ = some (.slice L2 n lc2)) (hl : RdI w L l) :
    Calls Try.prog 54 #[.slice L l.length lc, .func (.func 55) #[] #[.pointer (some ⟨ob, 0, none⟩)]] w fun e w' => e = .returned (.bool (l.any (badI n))) ∧ w = w' := by
  have HL := Lib.hid hl; have HC := Lib.hid hc; clear hl hc
  go_enter Try.func54, Try.ntmps54
  go_wp2_with fail
  refine (indI_ ob n lc lc2 L L2 l _ HC.out HL.out).mono ?_
  rintro e w1 ⟨r, rfl, hr, rfl⟩
  have HR := Lib.hid hr; clear hr
  go_wp2
  go_ret
  exact ⟨ret_bool HR.out, rfl⟩

def askErr (p : Int) (ws : List GW) (l : List Int) : Int := if errSheet p ws = 0 then (if l.any (badI ws.length) = true then 2 else 0) else errSheet p ws
set_option maxHeartbeats 1000000 in
theorem sAsked_ (p : Int) (A L : Option Addr) (c lc : Nat) (ws : List GW) (l : List Int) (w : World) (hsh : ShIn w p A ws) (hl : RdI w L l) :
    Calls Try.prog 44 #[.agg #[.int .i64 p, .slice A ws.length c], .slice L l.length lc] w fun e w' => e = .returned (.int .i64 (askErr p ws l)) ∧ Below w.heap.size w w' := by
  have hb2 : Below w.heap.size w (w.alloc (.cells #[.int .i64 p, .slice A ws.length c] 24)) := (Below.refl _ _).alloc (Nat.le_refl _) _
  obtain ⟨hp1, hp2, ha⟩ := hsh
  have HA := Lib.hid ha; have HL := Lib.hid hl; have HB2 := Lib.hid hb2; clear ha hl hb2
  go_enter Try.func44, Try.ntmps44
  go_wp2_with fail
  refine (sCheck_ _ _ _ _ _ hp1 hp2 (HA.out.later HB2.out (Nat.le_refl _))).mono ?_
  rintro e w1 ⟨rfl, hb1⟩
  have a0 : w1.cell? ⟨w.heap.size, 0, none⟩ = some (.int .i64 p) := below_at hb1 (Nat.le_refl _) (by go_simp)
  have a1 : w1.cell? ⟨w.heap.size, 1, none⟩ = some (.slice A ws.length c) := below_at hb1 (Nat.le_refl _) (by go_simp)
  have hs0 : w.heap.size < w1.heap.size := by have := hb1.size; simp at this; omega
  have Y1 := Lib.hid (HB2.out.trans (hb1.mono (by simp))); clear hb1
  by_cases he : errSheet p ws = 0
  rotate_left
  · have hr : askErr p ws l = errSheet p ws := by unfold askErr; rw [if_neg he]
    have HR := Lib.hid hr; clear hr
    generalize errSheet p ws = E at *
    go_wp2
    go_ret
    exact ⟨by rw [HR.out]; rfl, Y1.out⟩
  have hr : askErr p ws l = if l.any (badI ws.length) = true then 2 else 0 := by unfold askErr; rw [if_pos he]
  rw [he]
  clear he
  have HR := Lib.hid hr; clear hr
  go_wp2_with fail
  refine (contI_ w.heap.size ws.length lc c L A l w1 a1 (HL.out.later Y1.out (Nat.le_refl _))).mono ?_
  rintro e w2 ⟨rfl, rfl⟩
  by_cases hb : l.any (badI ws.length) = true
  · have hr2 := HR.out
    rw [if_pos hb] at hr2
    rw [hb]
    have HR2 := Lib.hid hr2; clear hr2
    go_wp2
    go_ret
    exact ⟨by rw [HR2.out]; rfl, Y1.out⟩
  · have hr2 := HR.out
    rw [if_neg hb] at hr2
    rw [show l.any (badI ws.length) = false by simpa using hb]
    have HR2 := Lib.hid hr2; clear hr2
    go_wp2
    go_ret
    exact ⟨by rw [HR2.out]; rfl, Y1.out⟩
def befB (p : Int) (ws : List GW) (a b : Int) : Bool := decide (askErr p ws [a, b] = 0) && (setsOf p.toNat ws b.toNat).testBit a.toNat
set_option maxRecDepth 100000 in
set_option maxHeartbeats 4000000 in
theorem sBefore_ (p a b : Int) (A : Option Addr) (c : Nat) (ws : List GW) (w : World) (hsh : ShIn w p A ws) :
    Calls Try.prog 22 #[.agg #[.int .i64 p, .slice A ws.length c], .int .i64 a, .int .i64 b] w fun e w' => e = .returned (.tuple #[.bool (befB p ws a b), .int .i64 (askErr p ws [a, b])]) ∧ Below w.heap.size w w' := by
  have hb2 : Below w.heap.size w ((w.alloc (.cells #[.int .i64 p, .slice A ws.length c] 24)).alloc (.cells #[.int .i64 a, .int .i64 b] 3)) := ((Below.refl _ _).alloc (Nat.le_refl _) _).alloc (by simp) _
  have hl2 : RdI ((w.alloc (.cells #[.int .i64 p, .slice A ws.length c] 24)).alloc (.cells #[.int .i64 a, .int .i64 b] 3)) (some ⟨w.heap.size + 1, 0, none⟩) [a, b] := by
    refine ⟨by simp, fun _ => ⟨w.heap.size + 1, 0, rfl, by simp, fun j hj => ?_⟩⟩
    have hj2 : j < 2 := by simpa using hj
    match j, hj2 with
    | 0, _ => rw [cell_of_row _ _ _ _ _ _ (heap_alloc2_new _ _ _)]; rfl
    | 1, _ => rw [cell_of_row _ _ _ _ _ _ (heap_alloc2_new _ _ _)]; rfl
  have HSH := Lib.hid hsh; have HB2 := Lib.hid hb2; have HL2 := Lib.hid hl2; clear hsh hb2 hl2
  go_enter Try.func22, Try.ntmps22
  go_wp2_with fail
  refine (sAsked_ p A (some ⟨w.heap.size + 1, 0, none⟩) c 2 ws [a, b] _ (HSH.out.later HB2.out (Nat.le_refl _)) HL2.out).mono ?_
  rintro e w1 ⟨rfl, hb1⟩
  have a0 : w1.cell? ⟨w.heap.size, 0, none⟩ = some (.int .i64 p) := below_at hb1 (Nat.le_refl _) (by go_simp)
  have a1 : w1.cell? ⟨w.heap.size, 1, none⟩ = some (.slice A ws.length c) := below_at hb1 (Nat.le_refl _) (by go_simp)
  have hs0 : w.heap.size < w1.heap.size := by have := hb1.size; simp at this; omega
  have Y1 := Lib.hid (HB2.out.trans (hb1.mono (by simp; omega))); clear hb1
  by_cases he : askErr p ws [a, b] = 0
  rotate_left
  · have hr : befB p ws a b = false := by unfold befB; simp [he]
    generalize hge : askErr p ws [a, b] = E at *
    have HR := Lib.hid hr; have HGE := Lib.hid hge; clear hr hge
    go_wp2
    go_ret2
    refine ⟨?_, Y1.out⟩
    rw [HR.out]
    try rw [HGE.out]
    rfl
  have hok : errSheet p ws = 0 := by
    unfold askErr at he
    split at he
    · assumption
    · exact he
  have hin : [a, b].any (badI ws.length) = false := by
    unfold askErr at he
    rw [if_pos hok] at he
    split at he
    · cases he
    · rename_i h; simpa using h
  obtain ⟨hp3, hp24, hn, hall⟩ := okAll hok
  obtain ⟨P, rfl⟩ := Int.eq_ofNat_of_zero_le (show 0 ≤ p by omega)
  have hin2 : (0 ≤ a ∧ a < ws.length) ∧ 0 ≤ b ∧ b < ws.length := by
    simp [badI] at hin
    omega
  obtain ⟨⟨z1, z2⟩, z3, z4⟩ := hin2
  have hr : befB P ws a b = (setsOf P ws b.toNat).testBit a.toNat := by unfold befB; rw [he]; rfl
  obtain ⟨i, rfl⟩ := Int.eq_ofNat_of_zero_le z1
  obtain ⟨k, rfl⟩ := Int.eq_ofNat_of_zero_le z3
  have hil : i < ws.length := by omega
  have hkl : k < ws.length := by omega
  have hi4 : i < 448 := by omega
  have hr2 : befB P ws i k = (setsOf P ws k).testBit i := hr
  rw [he]
  have hce := he
  clear he hr
  have HR2 := Lib.hid hr2; have HCE := Lib.hid hce; have HOK := Lib.hid hok; have HIN := Lib.hid hin; have HALL := Lib.hid hall; clear hr2 hce hok hin hall
  go_wp2_with fail
  refine (earlier_ P A c ws _ HOK.out (HSH.out.rd.later Y1.out (Nat.le_refl _))).mono ?_
  rintro e w2 ⟨R, rfl, hE, hR1, hb1⟩
  rw [show eaF (eAll P (plsOf ws) ws.length) = setsOf P ws from rfl] at hE
  have Y2 := Lib.hid (Y1.out.trans (hb1.mono Y1.out.size)); clear hb1
  have hR2 := lt_of_block hE
  have HE := Lib.hid hE; clear hE
  go_wp2_with fail
  refine (setHas_ R (k * 7) (setsOf P ws k) i _ hi4 (SB.at_ HE.out hkl)).mono ?_
  rintro e w4 ⟨rfl, rfl⟩
  generalize hq : (setsOf P ws k).testBit i = q at *
  have HQ := Lib.hid hq; clear hq
  go_wp2
  go_ret2
  refine ⟨?_, Y2.out⟩
  rw [HR2.out, HCE.out]
  rfl
end Go.Proofs.Ytepdgffccfcfpaa
