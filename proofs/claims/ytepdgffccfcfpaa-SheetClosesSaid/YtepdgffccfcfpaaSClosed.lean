/- The program's closed sets, and touch. -/
import Derived.Test.YtepdgffccfcfpaaSReorder
namespace Go.Proofs.Ytepdgffccfcfpaa
open Go.RowKit

set_option maxHeartbeats 400000 in
theorem sTouch_ (k1 a1 k2 a2 : Int) (s1 s2 : ByteArray) (w : World) (h1 : -1000 ≤ a1) (h1' : a1 ≤ 1000) (h2 : -1000 ≤ a2) (h2' : a2 ≤ 1000) :
    Calls Try.prog 47 #[.agg #[.int .i64 k1, .int .i64 a1, .string s1], .agg #[.int .i64 k2, .int .i64 a2, .string s2]] w fun e w' => e = .returned (.bool (touchB a1 a2)) ∧ Below w.heap.size w w' := by
  by_cases hc : a1 - a2 ≤ 1
  · go_enter Try.func47, Try.ntmps47
    go_wp2
    go_ret
    exact ⟨ret_bool (by unfold touchB; by_cases h : a2 - a1 ≤ 1 <;> simp [h] <;> omega), ((Below.refl _ _).alloc (Nat.le_refl _) _).alloc (by simp) _⟩
  · go_enter Try.func47, Try.ntmps47
    go_wp2
    go_ret
    exact ⟨ret_bool (by unfold touchB; simp; omega), ((Below.refl _ _).alloc (Nat.le_refl _) _).alloc (by simp) _⟩

/-- The set of a list. -/
def bitsL (l : List Int) : Nat := l.foldl (fun S x => S ||| 2 ^ x.toNat) 0
theorem bitsL_snoc (l : List Int) (x : Int) : bitsL (l ++ [x]) = bitsL l ||| 2 ^ x.toNat := by unfold bitsL; simp
def AscAt (n : Nat) (l : List Int) (i : Nat) : Prop := 0 ≤ l.getD i 0 ∧ l.getD i 0 < n ∧ (i = 0 ∨ l.getD (i - 1) 0 < l.getD i 0)
instance (n : Nat) (l : List Int) (i : Nat) : Decidable (AscAt n l i) := by unfold AscAt; infer_instance
/-- A list of works, each once and in order. -/
def Asc (n : Nat) (l : List Int) : Prop := ∀ i, i < l.length → AscAt n l i
instance (n : Nat) (l : List Int) : Decidable (Asc n l) := by unfold Asc; infer_instance
def Clo (E : Nat → Nat) (l : List Int) : Prop := ∀ i, i < l.length → winN (E (l.getD i 0).toNat) (bitsL l) 7 = true
instance (E : Nat → Nat) (l : List Int) : Decidable (Clo E l) := by unfold Clo; infer_instance
/-- What a function is given: a sheet of any number of pairs. -/
structure ShIn (w : World) (p : Int) (A : Option Addr) (ws : List GW) : Prop where
  lo : -9223372036854775808 ≤ p
  hi : p ≤ 9223372036854775807
  rd : RdW w A ws
theorem ShIn.later {w w' : World} {B : Nat} {p : Int} {A : Option Addr} {ws : List GW} (h : ShIn w p A ws) (hb : Below B w w') (hB : w.heap.size ≤ B) : ShIn w' p A ws := ⟨h.lo, h.hi, h.rd.later hb hB⟩
/-- The error of a list as a closed set. -/
def clErr (P : Int) (ws : List GW) (l : List Int) : Int := if errSheet P ws = 0 then (if Asc ws.length l then (if Clo (setsOf P.toNat ws) l then 0 else 4) else 2) else errSheet P ws
def wordsV (S : Nat) : Value := .agg #[.int .u64 (wd S 0 : Nat), .int .u64 (wd S 1 : Nat), .int .u64 (wd S 2 : Nat), .int .u64 (wd S 3 : Nat), .int .u64 (wd S 4 : Nat), .int .u64 (wd S 5 : Nat), .int .u64 (wd S 6 : Nat)]
def ClPost (P : Int) (ws : List GW) (l : List Int) (w : World) (e : Ending) (w' : World) : Prop :=
  Below w.heap.size w w' ∧ (clErr P ws l ≠ 0 → e = .returned (.tuple #[wordsV 0, .slice none 0 0, .int .i64 (clErr P ws l)])) ∧
  (clErr P ws l = 0 → ∃ R, e = .returned (.tuple #[wordsV (bitsL l), .slice (some ⟨R, 0, none⟩) ws.length ws.length, .int .i64 0]) ∧ SB w' R ws.length (setsOf P.toNat ws))
theorem wordsV_zero : wordsV 0 = .agg #[.int .u64 0, .int .u64 0, .int .u64 0, .int .u64 0, .int .u64 0, .int .u64 0, .int .u64 0] := by
  unfold wordsV
  simp [wd_zero]

set_option maxRecDepth 100000 in
set_option maxHeartbeats 4000000 in
theorem sClosed_ (p : Int) (A L : Option Addr) (c lc : Nat) (ws : List GW) (l : List Int) (w : World) (hsh : ShIn w p A ws) (hl : RdI w L l) :
    Calls Try.prog 40 #[.agg #[.int .i64 p, .slice A ws.length c], .slice L l.length lc] w (ClPost p ws l w) := by
  have hln := hl.1
  obtain ⟨hp1, hp2, ha⟩ := hsh
  have hb2 : Below w.heap.size w ((w.alloc (.cells #[.int .i64 p, .slice A ws.length c] 24)).alloc (.cells #[.int .u64 0, .int .u64 0, .int .u64 0, .int .u64 0, .int .u64 0, .int .u64 0, .int .u64 0] 67)) := ((Below.refl _ _).alloc (Nat.le_refl _) _).alloc (by simp) _
  have HA := Lib.hid ha; have HL := Lib.hid hl; have HB2 := Lib.hid hb2; clear ha hl hb2
  go_enter Try.func40, Try.ntmps40
  go_wp2_with fail
  refine (sCheck_ _ _ _ _ _ hp1 hp2 (HA.out.later HB2.out (Nat.le_refl _))).mono ?_
  rintro e w1 ⟨rfl, hb1⟩
  have a0 : w1.cell? ⟨w.heap.size, 0, none⟩ = some (.int .i64 p) := below_at hb1 (Nat.le_refl _) (by go_simp)
  have a1 : w1.cell? ⟨w.heap.size, 1, none⟩ = some (.slice A ws.length c) := below_at hb1 (Nat.le_refl _) (by go_simp)
  have hZ1 : SB w1 (w.heap.size + 1) 1 (fun _ => 0) := by
    refine (hb1.block _ (by simp)).trans ?_
    rw [heap_alloc2_new, z7_one]
  have hs1 : w.heap.size + 1 < w1.heap.size := by have := hb1.size; simp at this; omega
  have hs0 : w.heap.size < w1.heap.size := by omega
  have Y1 := Lib.hid (HB2.out.trans (hb1.mono (by simp; omega))); clear hb1
  by_cases he : errSheet p ws = 0
  rotate_left
  · have hcl : clErr p ws l = errSheet p ws := by unfold clErr; rw [if_neg he]
    have z0 : w1.cell? ⟨w.heap.size + 1, 0, none⟩ = some (.int .u64 0) := by have := (SB.at_ hZ1 (b := 0) (by omega) 0 (by omega)).1; simpa [wd_zero] using this
    have z1 : w1.cell? ⟨w.heap.size + 1, 1, none⟩ = some (.int .u64 0) := by have := (SB.at_ hZ1 (b := 0) (by omega) 1 (by omega)).1; simpa [wd_zero] using this
    have z2 : w1.cell? ⟨w.heap.size + 1, 2, none⟩ = some (.int .u64 0) := by have := (SB.at_ hZ1 (b := 0) (by omega) 2 (by omega)).1; simpa [wd_zero] using this
    have z3 : w1.cell? ⟨w.heap.size + 1, 3, none⟩ = some (.int .u64 0) := by have := (SB.at_ hZ1 (b := 0) (by omega) 3 (by omega)).1; simpa [wd_zero] using this
    have z4 : w1.cell? ⟨w.heap.size + 1, 4, none⟩ = some (.int .u64 0) := by have := (SB.at_ hZ1 (b := 0) (by omega) 4 (by omega)).1; simpa [wd_zero] using this
    have z5 : w1.cell? ⟨w.heap.size + 1, 5, none⟩ = some (.int .u64 0) := by have := (SB.at_ hZ1 (b := 0) (by omega) 5 (by omega)).1; simpa [wd_zero] using this
    have z6 : w1.cell? ⟨w.heap.size + 1, 6, none⟩ = some (.int .u64 0) := by have := (SB.at_ hZ1 (b := 0) (by omega) 6 (by omega)).1; simpa [wd_zero] using this
    have f0 : w1.frozen? ⟨w.heap.size + 1, 0, none⟩ = false := WB.free hZ1 0
    have f1 : w1.frozen? ⟨w.heap.size + 1, 1, none⟩ = false := WB.free hZ1 1
    have f2 : w1.frozen? ⟨w.heap.size + 1, 2, none⟩ = false := WB.free hZ1 2
    have f3 : w1.frozen? ⟨w.heap.size + 1, 3, none⟩ = false := WB.free hZ1 3
    have f4 : w1.frozen? ⟨w.heap.size + 1, 4, none⟩ = false := WB.free hZ1 4
    have f5 : w1.frozen? ⟨w.heap.size + 1, 5, none⟩ = false := WB.free hZ1 5
    have f6 : w1.frozen? ⟨w.heap.size + 1, 6, none⟩ = false := WB.free hZ1 6
    generalize hE : errSheet p ws = E at *
    have HZ1 := Lib.hid hZ1; have HCL := Lib.hid hcl; have HE := Lib.hid hE; clear hZ1 hcl hE
    go_wp2
    refine bodyPost_ret (v := .tuple #[wordsV 0, .slice none 0 0, .int .i64 E]) (by rw [wordsV_zero]; simp [results, Try.results40, go_sem, z0, z1, z2, z3, z4, z5, z6]) rfl ⟨?_, fun _ => by rw [HCL.out], fun h => absurd h (by rw [HCL.out]; exact he)⟩
    exact (((((((Y1.out.setCell (by show w.heap.size ≤ w.heap.size + 1; omega) _).setCell (by show w.heap.size ≤ w.heap.size + 1; omega) _).setCell (by show w.heap.size ≤ w.heap.size + 1; omega) _).setCell (by show w.heap.size ≤ w.heap.size + 1; omega) _).setCell (by show w.heap.size ≤ w.heap.size + 1; omega) _).setCell (by show w.heap.size ≤ w.heap.size + 1; omega) _).setCell (by show w.heap.size ≤ w.heap.size + 1; omega) _)
  obtain ⟨hp3, hp24, hn, hall⟩ := okAll he
  obtain ⟨P, rfl⟩ := Int.eq_ofNat_of_zero_le (show 0 ≤ p by omega)
  have hok := he
  have hZ2 := hZ1
  have HALL := Lib.hid hall; have HOK := Lib.hid hok; have HZ2 := Lib.hid hZ2; clear hall hok hZ2
  rw [he]
  clear he
  have hm1 : SB (w1.alloc (.cells #[.int .u64 0, .int .u64 0, .int .u64 0, .int .u64 0, .int .u64 0, .int .u64 0, .int .u64 0] 67)) w1.heap.size 1 (fun _ => 0) := by
    show (w1.alloc (.cells #[.int .u64 0, .int .u64 0, .int .u64 0, .int .u64 0, .int .u64 0, .int .u64 0, .int .u64 0] 67)).heap[w1.heap.size]? = _
    rw [heap_alloc_new, z7_one]
  have hm2 : Below w1.heap.size w1 (w1.alloc (.cells #[.int .u64 0, .int .u64 0, .int .u64 0, .int .u64 0, .int .u64 0, .int .u64 0, .int .u64 0] 67)) := (Below.refl _ _).alloc (Nat.le_refl _) _
  have HM1 := Lib.hid hm1; have HM2 := Lib.hid hm2; have HZ1 := Lib.hid hZ1; clear hm1 hm2 hZ1
  go_wp2
  go_loopw [22] (fun iv wr => ∃ j : Nat, iv = .int .i64 j ∧ j ≤ l.length ∧ (∀ i, i < j → AscAt ws.length l i) ∧ SB wr w1.heap.size 1 (fun _ => bitsL (l.take j)) ∧ Below w1.heap.size w1 wr) (fun iv _ => l.length - (intOf iv).toNat)
  case atStart => exact ⟨0, rfl, Nat.zero_le _, (fun i h => absurd h (by omega)), HM1.out, HM2.out⟩
  case round =>
    obtain ⟨j, rfl, hj, hasc, hS, hbw⟩ := hrel
    have hZ : SB wr (w.heap.size + 1) 1 (fun _ => 0) := (hbw.block _ hs1).trans HZ2.out
    have z0 : wr.cell? ⟨w.heap.size + 1, 0, none⟩ = some (.int .u64 0) := by have := (SB.at_ hZ (b := 0) (by omega) 0 (by omega)).1; simpa [wd_zero] using this
    have z1 : wr.cell? ⟨w.heap.size + 1, 1, none⟩ = some (.int .u64 0) := by have := (SB.at_ hZ (b := 0) (by omega) 1 (by omega)).1; simpa [wd_zero] using this
    have z2 : wr.cell? ⟨w.heap.size + 1, 2, none⟩ = some (.int .u64 0) := by have := (SB.at_ hZ (b := 0) (by omega) 2 (by omega)).1; simpa [wd_zero] using this
    have z3 : wr.cell? ⟨w.heap.size + 1, 3, none⟩ = some (.int .u64 0) := by have := (SB.at_ hZ (b := 0) (by omega) 3 (by omega)).1; simpa [wd_zero] using this
    have z4 : wr.cell? ⟨w.heap.size + 1, 4, none⟩ = some (.int .u64 0) := by have := (SB.at_ hZ (b := 0) (by omega) 4 (by omega)).1; simpa [wd_zero] using this
    have z5 : wr.cell? ⟨w.heap.size + 1, 5, none⟩ = some (.int .u64 0) := by have := (SB.at_ hZ (b := 0) (by omega) 5 (by omega)).1; simpa [wd_zero] using this
    have z6 : wr.cell? ⟨w.heap.size + 1, 6, none⟩ = some (.int .u64 0) := by have := (SB.at_ hZ (b := 0) (by omega) 6 (by omega)).1; simpa [wd_zero] using this
    have f0 : wr.frozen? ⟨w.heap.size + 1, 0, none⟩ = false := WB.free hZ 0
    have f1 : wr.frozen? ⟨w.heap.size + 1, 1, none⟩ = false := WB.free hZ 1
    have f2 : wr.frozen? ⟨w.heap.size + 1, 2, none⟩ = false := WB.free hZ 2
    have f3 : wr.frozen? ⟨w.heap.size + 1, 3, none⟩ = false := WB.free hZ 3
    have f4 : wr.frozen? ⟨w.heap.size + 1, 4, none⟩ = false := WB.free hZ 4
    have f5 : wr.frozen? ⟨w.heap.size + 1, 5, none⟩ = false := WB.free hZ 5
    have f6 : wr.frozen? ⟨w.heap.size + 1, 6, none⟩ = false := WB.free hZ 6
    have e1 := below_at hbw (Nat.le_refl _) a1
    have e0 := below_at hbw (Nat.le_refl _) a0
    have hz3 : w.heap.size < wr.heap.size := by have := hbw.size; omega
    have hz2 : w.heap.size + 1 < wr.heap.size := by have := hbw.size; omega
    have hXW := Y1.out.trans (hbw.mono Y1.out.size)
    have hSl := lt_of_block hS
    by_cases hlt : j < l.length
    · obtain ⟨bl, ol, rfl, hbl, l1⟩ := (HL.out.later hXW (Nat.le_refl _)).at_ hlt
      have x1 : (0 : Int) ≤ (j : Int) := by omega
      have x2 : (j : Int) < (l.length : Int) := by omega
      have hg : l.getD j 0 = l[j] := by simp [List.getD_eq_getElem?_getD, hlt]
      have hlx : l.take (j + 1) = l.take j ++ [l[j]] := List.take_succ_eq_append_getElem hlt
      have hno : ¬ AscAt ws.length l j → clErr P ws l = 2 := fun h => by
        unfold clErr
        rw [if_pos HOK.out, if_neg (fun h2 => h (h2 j hlt))]
      obtain ⟨m, hm⟩ : ∃ m, m = j - 1 := ⟨_, rfl⟩
      have hml : m < l.length := by omega
      obtain ⟨bl', ol', hq, _, l2⟩ := (HL.out.later hXW (Nat.le_refl _)).at_ hml
      cases hq
      have hg2 : l.getD (j - 1) 0 = l[m] := by subst hm; simp [List.getD_eq_getElem?_getD, hml]
      unfold AscAt at hno
      rw [hg, hg2] at hno
      have hyes : (0 ≤ l[j] ∧ l[j] < ws.length ∧ (j = 0 ∨ l[m] < l[j])) → ∀ i, i < j + 1 → AscAt ws.length l i := fun h i hi => by
        by_cases hij : i = j
        · subst hij
          unfold AscAt
          rw [hg, hg2]
          exact h
        · exact hasc i (by omega)
      have HNO := Lib.hid hno; have HYES := Lib.hid hyes; have HXW := Lib.hid hXW; have HASC := Lib.hid hasc; have HLX := Lib.hid hlx; have HBW := Lib.hid hbw; have HS := Lib.hid hS; have HZ := Lib.hid hZ; clear hno hyes hXW hasc hlx hbw hS hZ
      clear hg hg2
      generalize l[j] = x at *
      generalize l[m] = y at *
      have hjw : 0 < j → IntKind.i64.wrap ((j : Int) - 1) = (m : Int) := fun h => by
        rw [show (j : Int) - 1 = (m : Int) by omega]
        exact IntWalk.i64_in _ (by omega)
      have x3 : (0 : Int) ≤ (m : Int) := by omega
      have x4 : (m : Int) < (l.length : Int) := by omega
      by_cases r1 : x < 0
      · have hcl := HNO.out (by omega)
        have HCL := Lib.hid hcl; clear hcl
        go_wp2
        refine bodyPost_ret (v := .tuple #[wordsV 0, .slice none 0 0, .int .i64 2]) (by rw [wordsV_zero]; simp [results, Try.results40, go_sem, z0, z1, z2, z3, z4, z5, z6]) rfl ⟨?_, fun _ => by rw [HCL.out], fun h => absurd h (by rw [HCL.out]; decide)⟩
        exact (((((((HXW.out.setCell (by show w.heap.size ≤ w.heap.size + 1; omega) _).setCell (by show w.heap.size ≤ w.heap.size + 1; omega) _).setCell (by show w.heap.size ≤ w.heap.size + 1; omega) _).setCell (by show w.heap.size ≤ w.heap.size + 1; omega) _).setCell (by show w.heap.size ≤ w.heap.size + 1; omega) _).setCell (by show w.heap.size ≤ w.heap.size + 1; omega) _).setCell (by show w.heap.size ≤ w.heap.size + 1; omega) _)
      · by_cases r2 : (ws.length : Int) ≤ x
        · have hcl := HNO.out (by omega)
          have HCL := Lib.hid hcl; clear hcl
          go_wp2
          refine bodyPost_ret (v := .tuple #[wordsV 0, .slice none 0 0, .int .i64 2]) (by rw [wordsV_zero]; simp [results, Try.results40, go_sem, z0, z1, z2, z3, z4, z5, z6]) rfl ⟨?_, fun _ => by rw [HCL.out], fun h => absurd h (by rw [HCL.out]; decide)⟩
          exact (((((((HXW.out.setCell (by show w.heap.size ≤ w.heap.size + 1; omega) _).setCell (by show w.heap.size ≤ w.heap.size + 1; omega) _).setCell (by show w.heap.size ≤ w.heap.size + 1; omega) _).setCell (by show w.heap.size ≤ w.heap.size + 1; omega) _).setCell (by show w.heap.size ≤ w.heap.size + 1; omega) _).setCell (by show w.heap.size ≤ w.heap.size + 1; omega) _).setCell (by show w.heap.size ≤ w.heap.size + 1; omega) _)
        · obtain ⟨i, rfl⟩ := Int.eq_ofNat_of_zero_le (show 0 ≤ x by omega)
          have hi4 : i < 448 := by omega
          have y1 : (0 : Int) ≤ (i : Int) := by omega
          have y2 : (i : Int) < (ws.length : Int) := by omega
          by_cases r3 : 0 < j
          · have r3' : (0 : Int) < (j : Int) := by omega
            have hjw' := hjw r3
            rw [hm] at l2 hjw' x3 x4
            clear hm hjw
            by_cases r4 : (i : Int) ≤ y
            · have hcl := HNO.out (by omega)
              have HCL := Lib.hid hcl; clear hcl
              go_wp2
              refine bodyPost_ret (v := .tuple #[wordsV 0, .slice none 0 0, .int .i64 2]) (by rw [wordsV_zero]; simp [results, Try.results40, go_sem, z0, z1, z2, z3, z4, z5, z6]) rfl ⟨?_, fun _ => by rw [HCL.out], fun h => absurd h (by rw [HCL.out]; decide)⟩
              exact (((((((HXW.out.setCell (by show w.heap.size ≤ w.heap.size + 1; omega) _).setCell (by show w.heap.size ≤ w.heap.size + 1; omega) _).setCell (by show w.heap.size ≤ w.heap.size + 1; omega) _).setCell (by show w.heap.size ≤ w.heap.size + 1; omega) _).setCell (by show w.heap.size ≤ w.heap.size + 1; omega) _).setCell (by show w.heap.size ≤ w.heap.size + 1; omega) _).setCell (by show w.heap.size ≤ w.heap.size + 1; omega) _)
            · have hasc2 := HYES.out ⟨by omega, by omega, .inr (by omega)⟩
              have HASC2 := Lib.hid hasc2; clear hasc2
              go_wp2_with fail
              refine (setPut_ _ 0 (bitsL (l.take j)) i _ hi4 (SB.at_ HS.out (b := 0) (by omega))).mono ?_
              rintro e w6 ⟨⟨v6, rfl⟩, hw6⟩
              have hS6 : SB w6 w1.heap.size 1 (fun _ => bitsL (l.take j) ||| 2 ^ i) := by
                have h1 := SB.put (b := 0) HS.out hi4
                rw [hw6]
                refine WB.congr h1 fun x y hx _ => ?_
                unfold updS
                rw [if_pos (by omega)]
              have hbw6 : Below w1.heap.size w1 w6 := by
                rw [hw6]
                exact (HBW.out.setCell (Nat.le_refl _) _).drew
              clear hw6
              have HS6 := Lib.hid hS6; have HBW6 := Lib.hid hbw6; clear hS6 hbw6
              go_wp2
              go_roundw
              case rel =>
                refine ⟨j + 1, by go_num, by omega, HASC2.out, ?_, HBW6.out⟩
                have := HS6.out
                rw [HLX.out, bitsL_snoc]
                exact this
              case measure => simp [intOf]; omega
          · obtain rfl : j = 0 := by omega
            rw [Nat.add_zero] at l1
            clear hjw l2 hm
            have hasc2 := HYES.out ⟨by omega, by omega, .inl rfl⟩
            have HASC2 := Lib.hid hasc2; clear hasc2
            go_wp2_with fail
            refine (setPut_ _ 0 (bitsL (l.take 0)) i _ hi4 (SB.at_ HS.out (b := 0) (by omega))).mono ?_
            rintro e w6 ⟨⟨v6, rfl⟩, hw6⟩
            have hS6 : SB w6 w1.heap.size 1 (fun _ => bitsL (l.take 0) ||| 2 ^ i) := by
              have h1 := SB.put (b := 0) HS.out hi4
              rw [hw6]
              refine WB.congr h1 fun x y hx _ => ?_
              unfold updS
              rw [if_pos (by omega)]
            have hbw6 : Below w1.heap.size w1 w6 := by
              rw [hw6]
              exact (HBW.out.setCell (Nat.le_refl _) _).drew
            clear hw6
            have HS6 := Lib.hid hS6; have HBW6 := Lib.hid hbw6; clear hS6 hbw6
            go_wp2
            go_roundw
            case rel =>
              refine ⟨0 + 1, by go_num, by omega, HASC2.out, ?_, HBW6.out⟩
              have := HS6.out
              rw [HLX.out, bitsL_snoc]
              exact this
            case measure => simp [intOf]; omega
    · obtain rfl : j = l.length := by omega
      rw [List.take_of_length_le (Nat.le_refl _)] at hS
      have hAsc : Asc ws.length l := hasc
      have hwl : w1.heap.size < wr.heap.size := hSl
      have HZ := Lib.hid hZ; have HS := Lib.hid hS; have HXW := Lib.hid hXW; have HASC := Lib.hid hasc; have HBW := Lib.hid hbw; have HASC := Lib.hid hAsc; clear hZ hS hXW hasc hbw hAsc
      go_wp2_with fail
      refine (earlier_ P A c ws _ HOK.out (HA.out.later HXW.out (Nat.le_refl _))).mono ?_
      rintro e w2 ⟨R, rfl, hE, hR1, hb1⟩
      rw [show eaF (eAll P (plsOf ws) ws.length) = setsOf P ws from rfl] at hE
      have hZ3 : SB w2 (w.heap.size + 1) 1 (fun _ => 0) := (hb1.block _ hz2).trans HZ.out
      have hS3 : SB w2 w1.heap.size 1 (fun _ => bitsL l) := (hb1.block _ hwl).trans HS.out
      have hX2 := HXW.out.trans (hb1.mono HXW.out.size)
      have hR3 : w.heap.size + 1 < R := by omega
      have hs2 : w.heap.size + 1 < w2.heap.size := Nat.lt_of_lt_of_le hz2 hb1.size
      have hwl2 : w1.heap.size < w2.heap.size := Nat.lt_of_lt_of_le hwl hb1.size
      have hR2 := lt_of_block hE
      clear hb1 z0 z1 z2 z3 z4 z5 z6 f0 f1 f2 f3 f4 f5 f6 e0 e1 hz3 hz2 hSl hwl hR1 a0 a1 hs1 hs0
      have HZ3 := Lib.hid hZ3; have HS3 := Lib.hid hS3; have HE := Lib.hid hE; have HX2 := Lib.hid hX2; clear hZ3 hS3 hE hX2
      go_wp2
      go_loopw [57] (fun iv wr => ∃ j : Nat, iv = .int .i64 j ∧ j ≤ l.length ∧ (∀ i, i < j → winN (setsOf P ws (l.getD i 0).toNat) (bitsL l) 7 = true) ∧ Below w2.heap.size w2 wr) (fun iv _ => l.length - (intOf iv).toNat)
      case atStart => exact ⟨0, rfl, Nat.zero_le _, (fun i h => absurd h (by omega)), Below.refl _ _⟩
      case round =>
        obtain ⟨j, rfl, hj, hclo, hbw⟩ := hrel
        have hX := HX2.out.trans (hbw.mono HX2.out.size)
        have hS4 : SB wr w1.heap.size 1 (fun _ => bitsL l) := (hbw.block _ hwl2).trans HS3.out
        have hE4 : SB wr R ws.length (setsOf P ws) := (hbw.block _ hR2).trans HE.out
        have hsz := hbw.size
        by_cases hlt : j < l.length
        · obtain ⟨bl, ol, rfl, hbl, l1⟩ := (HL.out.later hX (Nat.le_refl _)).at_ hlt
          have x1 : (0 : Int) ≤ (j : Int) := by omega
          have x2 : (j : Int) < (l.length : Int) := by omega
          have hg : l.getD j 0 = l[j] := by simp [List.getD_eq_getElem?_getD, hlt]
          obtain ⟨y1, y2, _⟩ := HASC.out j hlt
          have hno : winN (setsOf P ws (l.getD j 0).toNat) (bitsL l) 7 = false → clErr P ws l = 4 := fun h => by
            unfold clErr
            rw [if_pos HOK.out, if_pos HASC.out, if_neg (fun h2 => by have := h2 j hlt; rw [show ((P : Int)).toNat = P from rfl, h] at this; cases this)]
          have hyes : winN (setsOf P ws (l.getD j 0).toNat) (bitsL l) 7 = true → ∀ i, i < j + 1 → winN (setsOf P ws (l.getD i 0).toNat) (bitsL l) 7 = true := fun h i hi => by
            by_cases hij : i = j
            · rw [hij]; exact h
            · exact hclo i (by omega)
          rw [hg] at y1 y2 hno hyes
          have HNO := Lib.hid hno; have HYES := Lib.hid hyes; have HCLO := Lib.hid hclo; clear hno hyes hclo
          clear hg
          generalize l[j] = x at *
          obtain ⟨i, rfl⟩ := Int.eq_ofNat_of_zero_le y1
          have hil : i < ws.length := by omega
          have HS4 := Lib.hid hS4; have HE4 := Lib.hid hE4; have HX := Lib.hid hX; clear hS4 hE4 hX
          go_wp2_with fail
          refine (setWithin_ R (i * 7) w1.heap.size 0 (setsOf P ws i) (bitsL l) _ (SB.at_ HE4.out hil) (SB.at_ HS4.out (b := 0) (by omega))).mono ?_
          rintro e w5 ⟨rfl, hb5⟩
          by_cases r4 : winN (setsOf P ws i) (bitsL l) 7 = true
          · have hst := HYES.out r4
            have hbw5 := hbw.trans (hb5.mono hbw.size)
            rw [r4]
            have HST := Lib.hid hst; have HBW5 := Lib.hid hbw5; have HB5 := Lib.hid hb5; clear hst hbw5 hb5
            go_wp2
            go_roundw
            case rel => exact ⟨j + 1, by go_num, by omega, HST.out, HBW5.out⟩
            case measure => simp [intOf]; omega
          · have r4' : winN (setsOf P ws i) (bitsL l) 7 = false := by simpa using r4
            have hcl := HNO.out r4'
            have hX5 := HX.out.trans (hb5.mono HX.out.size)
            have hZ5 : SB w5 (w.heap.size + 1) 1 (fun _ => 0) := (hb5.block _ (by omega)).trans ((hbw.block _ hs2).trans HZ3.out)
            have hz3 : w.heap.size + 1 < w5.heap.size := by have := hb5.size; omega
            rw [r4']
            have z0 : w5.cell? ⟨w.heap.size + 1, 0, none⟩ = some (.int .u64 0) := by have := (SB.at_ hZ5 (b := 0) (by omega) 0 (by omega)).1; simpa [wd_zero] using this
            have z1 : w5.cell? ⟨w.heap.size + 1, 1, none⟩ = some (.int .u64 0) := by have := (SB.at_ hZ5 (b := 0) (by omega) 1 (by omega)).1; simpa [wd_zero] using this
            have z2 : w5.cell? ⟨w.heap.size + 1, 2, none⟩ = some (.int .u64 0) := by have := (SB.at_ hZ5 (b := 0) (by omega) 2 (by omega)).1; simpa [wd_zero] using this
            have z3 : w5.cell? ⟨w.heap.size + 1, 3, none⟩ = some (.int .u64 0) := by have := (SB.at_ hZ5 (b := 0) (by omega) 3 (by omega)).1; simpa [wd_zero] using this
            have z4 : w5.cell? ⟨w.heap.size + 1, 4, none⟩ = some (.int .u64 0) := by have := (SB.at_ hZ5 (b := 0) (by omega) 4 (by omega)).1; simpa [wd_zero] using this
            have z5 : w5.cell? ⟨w.heap.size + 1, 5, none⟩ = some (.int .u64 0) := by have := (SB.at_ hZ5 (b := 0) (by omega) 5 (by omega)).1; simpa [wd_zero] using this
            have z6 : w5.cell? ⟨w.heap.size + 1, 6, none⟩ = some (.int .u64 0) := by have := (SB.at_ hZ5 (b := 0) (by omega) 6 (by omega)).1; simpa [wd_zero] using this
            have f0 : w5.frozen? ⟨w.heap.size + 1, 0, none⟩ = false := WB.free hZ5 0
            have f1 : w5.frozen? ⟨w.heap.size + 1, 1, none⟩ = false := WB.free hZ5 1
            have f2 : w5.frozen? ⟨w.heap.size + 1, 2, none⟩ = false := WB.free hZ5 2
            have f3 : w5.frozen? ⟨w.heap.size + 1, 3, none⟩ = false := WB.free hZ5 3
            have f4 : w5.frozen? ⟨w.heap.size + 1, 4, none⟩ = false := WB.free hZ5 4
            have f5 : w5.frozen? ⟨w.heap.size + 1, 5, none⟩ = false := WB.free hZ5 5
            have f6 : w5.frozen? ⟨w.heap.size + 1, 6, none⟩ = false := WB.free hZ5 6
            have HCL := Lib.hid hcl; have HX5 := Lib.hid hX5; have HZ5 := Lib.hid hZ5; have HB5 := Lib.hid hb5; clear hcl hX5 hZ5 hb5
            go_wp2
            refine bodyPost_ret (v := .tuple #[wordsV 0, .slice none 0 0, .int .i64 4]) (by rw [wordsV_zero]; simp [results, Try.results40, go_sem, z0, z1, z2, z3, z4, z5, z6]) rfl ⟨?_, fun _ => by rw [HCL.out], fun h => absurd h (by rw [HCL.out]; decide)⟩
            exact (((((((HX5.out.setCell (by show w.heap.size ≤ w.heap.size + 1; omega) _).setCell (by show w.heap.size ≤ w.heap.size + 1; omega) _).setCell (by show w.heap.size ≤ w.heap.size + 1; omega) _).setCell (by show w.heap.size ≤ w.heap.size + 1; omega) _).setCell (by show w.heap.size ≤ w.heap.size + 1; omega) _).setCell (by show w.heap.size ≤ w.heap.size + 1; omega) _).setCell (by show w.heap.size ≤ w.heap.size + 1; omega) _)
        · obtain rfl : j = l.length := by omega
          have hcl : clErr P ws l = 0 := by
            unfold clErr
            rw [if_pos HOK.out, if_pos HASC.out]
            exact if_pos hclo
          have hZ5 : SB wr (w.heap.size + 1) 1 (fun _ => 0) := (hbw.block _ hs2).trans HZ3.out
          have hz3 : w.heap.size + 1 < wr.heap.size := by omega
          have hz4 : w1.heap.size < wr.heap.size := by omega
          have z0 : wr.cell? ⟨w.heap.size + 1, 0, none⟩ = some (.int .u64 0) := by have := (SB.at_ hZ5 (b := 0) (by omega) 0 (by omega)).1; simpa [wd_zero] using this
          have z1 : wr.cell? ⟨w.heap.size + 1, 1, none⟩ = some (.int .u64 0) := by have := (SB.at_ hZ5 (b := 0) (by omega) 1 (by omega)).1; simpa [wd_zero] using this
          have z2 : wr.cell? ⟨w.heap.size + 1, 2, none⟩ = some (.int .u64 0) := by have := (SB.at_ hZ5 (b := 0) (by omega) 2 (by omega)).1; simpa [wd_zero] using this
          have z3 : wr.cell? ⟨w.heap.size + 1, 3, none⟩ = some (.int .u64 0) := by have := (SB.at_ hZ5 (b := 0) (by omega) 3 (by omega)).1; simpa [wd_zero] using this
          have z4 : wr.cell? ⟨w.heap.size + 1, 4, none⟩ = some (.int .u64 0) := by have := (SB.at_ hZ5 (b := 0) (by omega) 4 (by omega)).1; simpa [wd_zero] using this
          have z5 : wr.cell? ⟨w.heap.size + 1, 5, none⟩ = some (.int .u64 0) := by have := (SB.at_ hZ5 (b := 0) (by omega) 5 (by omega)).1; simpa [wd_zero] using this
          have z6 : wr.cell? ⟨w.heap.size + 1, 6, none⟩ = some (.int .u64 0) := by have := (SB.at_ hZ5 (b := 0) (by omega) 6 (by omega)).1; simpa [wd_zero] using this
          have f0 : wr.frozen? ⟨w.heap.size + 1, 0, none⟩ = false := WB.free hZ5 0
          have f1 : wr.frozen? ⟨w.heap.size + 1, 1, none⟩ = false := WB.free hZ5 1
          have f2 : wr.frozen? ⟨w.heap.size + 1, 2, none⟩ = false := WB.free hZ5 2
          have f3 : wr.frozen? ⟨w.heap.size + 1, 3, none⟩ = false := WB.free hZ5 3
          have f4 : wr.frozen? ⟨w.heap.size + 1, 4, none⟩ = false := WB.free hZ5 4
          have f5 : wr.frozen? ⟨w.heap.size + 1, 5, none⟩ = false := WB.free hZ5 5
          have f6 : wr.frozen? ⟨w.heap.size + 1, 6, none⟩ = false := WB.free hZ5 6
          have s0 : wr.cell? ⟨w1.heap.size, 0, none⟩ = some (.int .u64 (wd (bitsL l) 0 : Nat)) := by have := (SB.at_ hS4 (b := 0) (by omega) 0 (by omega)).1; simpa [wd_zero] using this
          have s1 : wr.cell? ⟨w1.heap.size, 1, none⟩ = some (.int .u64 (wd (bitsL l) 1 : Nat)) := by have := (SB.at_ hS4 (b := 0) (by omega) 1 (by omega)).1; simpa [wd_zero] using this
          have s2 : wr.cell? ⟨w1.heap.size, 2, none⟩ = some (.int .u64 (wd (bitsL l) 2 : Nat)) := by have := (SB.at_ hS4 (b := 0) (by omega) 2 (by omega)).1; simpa [wd_zero] using this
          have s3 : wr.cell? ⟨w1.heap.size, 3, none⟩ = some (.int .u64 (wd (bitsL l) 3 : Nat)) := by have := (SB.at_ hS4 (b := 0) (by omega) 3 (by omega)).1; simpa [wd_zero] using this
          have s4 : wr.cell? ⟨w1.heap.size, 4, none⟩ = some (.int .u64 (wd (bitsL l) 4 : Nat)) := by have := (SB.at_ hS4 (b := 0) (by omega) 4 (by omega)).1; simpa [wd_zero] using this
          have s5 : wr.cell? ⟨w1.heap.size, 5, none⟩ = some (.int .u64 (wd (bitsL l) 5 : Nat)) := by have := (SB.at_ hS4 (b := 0) (by omega) 5 (by omega)).1; simpa [wd_zero] using this
          have s6 : wr.cell? ⟨w1.heap.size, 6, none⟩ = some (.int .u64 (wd (bitsL l) 6 : Nat)) := by have := (SB.at_ hS4 (b := 0) (by omega) 6 (by omega)).1; simpa [wd_zero] using this
          have HCL := Lib.hid hcl; have HX := Lib.hid hX; have HZ5 := Lib.hid hZ5; have HS4 := Lib.hid hS4; have HE4 := Lib.hid hE4; have HCLO := Lib.hid hclo; clear hcl hX hZ5 hS4 hE4 hclo
          go_wp2
          refine bodyPost_ret (v := .tuple #[wordsV (bitsL l), .slice (some ⟨R, 0, none⟩) ws.length ws.length, .int .i64 0]) (by simp [results, Try.results40, go_sem, wordsV, z0, z1, z2, z3, z4, z5, z6]) rfl ⟨?_, fun h => absurd HCL.out h, fun _ => ⟨R, rfl, ?_⟩⟩
          · exact (((((((HX.out.setCell (by show w.heap.size ≤ w.heap.size + 1; omega) _).setCell (by show w.heap.size ≤ w.heap.size + 1; omega) _).setCell (by show w.heap.size ≤ w.heap.size + 1; omega) _).setCell (by show w.heap.size ≤ w.heap.size + 1; omega) _).setCell (by show w.heap.size ≤ w.heap.size + 1; omega) _).setCell (by show w.heap.size ≤ w.heap.size + 1; omega) _).setCell (by show w.heap.size ≤ w.heap.size + 1; omega) _)
          · have hf : ∀ (v : World) (o : Nat) (u : Value), (v.setCell ⟨w.heap.size + 1, o, none⟩ u).heap[R]? = v.heap[R]? := fun v o u => Below.heap_setCell v _ u R (by show R ≠ w.heap.size + 1; omega)
            exact ((hf _ _ _).trans ((hf _ _ _).trans ((hf _ _ _).trans ((hf _ _ _).trans ((hf _ _ _).trans ((hf _ _ _).trans (hf _ _ _))))))).trans HE4.out
end Go.Proofs.Ytepdgffccfcfpaa
