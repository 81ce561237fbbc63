/- Texts of this claim, laid together: PrPlan. -/
import Derived.Test.YtnplcephmidjbaaDoorMaA
import Derived.Test.YtnplcephmidjbaaDoorMaE
import Derived.Test.YtnplcephmidjbaaDoorMaF
import Derived.Deep.MidRow
/- Package pairs: the plan in memory; hanging. -/
namespace Go.Proofs.YtnplcephmidjbaaDoor
open Go.RowKit

/-- The places' takes as cells; a plan's cells. -/
def tkCells (T : Nat → Nat) : List Value := (List.range 24).map fun p => .int .u64 (T p : Int)
def plCell (v : Value) (T : Nat → Nat) (mb : Nat) (j : Nat) : Value := if j = 0 then v else if j = 25 then .map (some mb) else .int .u64 (T (j - 1) : Int)
def plCells (v : Value) (T : Nat → Nat) (mb : Nat) : Array Value := ((List.range 26).map (plCell v T mb)).toArray
/-- Block R is a plan. -/
def PlB (w : World) (R : Nat) (v : Value) (T : Nat → Nat) (mb : Nat) : Prop := w.heap[R]? = some (.cells (plCells v T mb) 66 (0, 0))
section
variable {w w' : World} {R : Nat} {v : Value} {T : Nat → Nat} {mb : Nat}
theorem PlB.lt (h : PlB w R v T mb) : R < w.heap.size := lt_of_block h
theorem PlB.free (h : PlB w R v T mb) (j : Nat) : w.frozen? ⟨R, j, none⟩ = false := frozen_of_row _ _ j _ _ h
theorem PlB.cell (h : PlB w R v T mb) {j : Nat} (hj : j < 26) : w.cell? ⟨R, j, none⟩ = some (plCell v T mb j) := by
  rw [cell_of_row w R j _ _ _ h]; simp [plCells, hj]
theorem PlB.at0 (h : PlB w R v T mb) : w.cell? ⟨R, 0, none⟩ = some v := h.cell (by omega)
theorem PlB.at_ (h : PlB w R v T mb) {p : Nat} (hp : p < 24) : w.cell? ⟨R, 1 + p, none⟩ = some (.int .u64 (T p : Int)) := by
  rw [h.cell (by omega)]; unfold plCell; rw [if_neg (by omega), if_neg (by omega), show 1 + p - 1 = p by omega]
theorem PlB.at25 (h : PlB w R v T mb) : w.cell? ⟨R, 25, none⟩ = some (.map (some mb)) := by
  rw [h.cell (by omega)]; rfl
theorem PlB.range (h : PlB w R v T mb) : w.rangeAt R 1 (tkCells T) := fun j u hj => by
  unfold tkCells at hj
  rw [List.getElem?_map] at hj
  obtain ⟨x, hx, rfl⟩ := Option.map_eq_some_iff.1 hj
  obtain ⟨hlt, hxe⟩ := List.getElem?_eq_some_iff.1 hx
  have hj24 : j < 24 := by simpa using hlt
  have : x = j := by rw [← hxe]; simp
  subst this
  exact h.at_ hj24
theorem PlB.later (h : PlB w R v T mb) (hb : Below w.heap.size w w') : PlB w' R v T mb := (hb.block R h.lt).trans h
theorem PlB.kept (h : PlB w R v T mb) {row : Option Nat} (hg : w.grownBy w' row) (hne : some R ≠ row) : PlB w' R v T mb := (hg.block R h.lt hne).trans h
theorem PlB.alloc (h : PlB w R v T mb) (o : Obj) : PlB (w.alloc o) R v T mb := (heap_alloc_old w o h.lt).trans h
theorem PlB.put (h : PlB w R v T mb) {p : Nat} (hp : p < 24) (x : Nat) : PlB (w.setCell ⟨R, 1 + p, none⟩ (.int .u64 (x : Int))) R v (updF T p x) mb := by
  refine Eq.trans (heap_setCell_same w R (1 + p) _ _ (.int .u64 (x : Int)) h) ?_
  congr 2
  apply Array.ext'
  simp only [plCells, Array.toList_setIfInBounds]
  apply List.ext_getElem
  · simp
  · intro j h1 h2
    rw [List.getElem_set]
    simp only [List.getElem_map, List.getElem_range]
    unfold plCell updF
    by_cases c0 : 1 + p = j
    · subst c0; rw [if_pos rfl, if_neg (by omega), if_neg (by omega), if_pos (by omega)]
    · rw [if_neg c0]
      by_cases c1 : j = 0
      · rw [if_pos c1, if_pos c1]
      · rw [if_neg c1, if_neg c1]
        by_cases c2 : j = 25
        · rw [if_pos c2, if_pos c2]
        · rw [if_neg c2, if_neg c2, if_neg (by omega)]
theorem PlB.put0 (h : PlB w R v T mb) (u : Value) : PlB (w.setCell ⟨R, 0, none⟩ u) R u T mb := by
  refine Eq.trans (heap_setCell_same w R 0 _ _ u h) ?_
  congr 2
theorem PlB.congr {T' : Nat → Nat} (h : PlB w R v T mb) (he : ∀ p, p < 24 → T p = T' p) : PlB w R v T' mb := by
  refine Eq.trans h ?_
  congr 2
  unfold plCells
  refine congrArg List.toArray (List.map_congr_left fun j hj => ?_)
  have := List.mem_range.1 hj
  unfold plCell
  by_cases c1 : j = 0
  · rw [if_pos c1, if_pos c1]
  · rw [if_neg c1, if_neg c1]
    by_cases c2 : j = 25
    · rw [if_pos c2, if_pos c2]
    · rw [if_neg c2, if_neg c2, he _ (by omega)]
end
theorem tkCells_length (T : Nat → Nat) : (tkCells T).length = 24 := by unfold tkCells; simp
theorem info_tk_Tryd : (Tryd.prog.info? 63).map (·.size) = some 24 := by kernel_rfl
theorem info_tk (T : Nat → Nat) : (Tryd.prog.info? 63).map (·.size) = some (tkCells T).length := by rw [tkCells_length]; exact info_tk_Tryd
theorem run_indexTk (T : Nat → Nat) (j : Nat) (hj : j < 24) (W : World) : (Instr.index 63 (.agg (tkCells T).toArray) (.int .i64 (j : Int))).run Tryd.prog W = .ok (.int .u64 (T j : Int)) W := by
  have hsz : (sizeOf 46).run Tryd.prog W = .ok 1 W := by kernel_rfl
  have hg : (tkCells T)[j]? = some (.int .u64 (T j : Int)) := by unfold tkCells; simp [hj]
  simp [Instr.index, asIntOf, run_underlying Tryd.underlying63, hsz, hj, part, hg]
theorem and_ne (a b : Nat) (ha : a < 2 ^ 64) (hb : b < 2 ^ 64) : (bits .and .u64 (a : Int) (b : Int) != 0) = !decide (a &&& b = 0) := by
  rw [(bits_nat .u64 64 (by decide) wraps64 a b ha hb).1]
  by_cases h : a &&& b = 0
  · rw [h]; rfl
  · have h2 : ((a &&& b : Nat) : Int) ≠ 0 := by omega
    rw [decide_eq_false h]
    simpa using h2

set_option maxRecDepth 100000 in
set_option maxHeartbeats 2000000 in
theorem hanging_ (R mb S k n : Nat) (q : Nat → Nat) (v : Value) (w : World) (hn : n ≤ 60) (hS : S < 2 ^ n) (hk : k < n) (h : PlB w R v (tkS q n) mb) :
    Calls Tryd.prog 34 #[.pointer (some ⟨R, 0, none⟩), .int .u64 (S : Int), .int .i64 (k : Int)] w fun e w' => e = .returned (.int .i64 (hngS q n S k : Int)) ∧ w = w' := by
  have h2n : 2 ^ n ≤ 2 ^ 64 := Nat.pow_le_pow_right (by decide) (by omega)
  have hS64 : S < 2 ^ 64 := by omega
  have hlt := h.lt
  have hor : S ||| 2 ^ k < 2 ^ 64 := Nat.or_lt_two_pow hS64 (Nat.pow_lt_pow_right (by decide) (by omega))
  have e1 := pow_wrap k (by omega)
  have e2 := bit_set .u64 64 (by decide) wraps64 S k hS64 (by omega)
  have hT : ∀ p, tkS q n p < 2 ^ 64 := fun p => Nat.lt_of_lt_of_le (tkS_lt q p n) h2n
  have e3 := fun p => and_ne (tkS q n p) (S ||| 2 ^ k) (hT p) hor
  have e4 := fun p => andnot_ne (tkS q n p) S (hT p) hS64
  have hx := fun j hj W => run_indexTk (tkS q n) j hj W
  have hb : ∀ p, hgS q n S k p = (!decide (tkS q n p &&& (S ||| 2 ^ k) = 0) && !decide (tkS q n p &&& S = tkS q n p)) := fun p => rfl
  have z1 : (0 : Int) ≤ (k : Int) := by omega
  have z2 : (k : Int) < 64 := by omega
  have hfin : hngS q n S k = cntP (hgS q n S k) 24 := rfl
  have H := Lib.hid h; have HS64 := Lib.hid hS64; have HOR := Lib.hid hor; have HT := Lib.hid hT; have E3 := Lib.hid e3; have E4 := Lib.hid e4; have HX := Lib.hid hx; have HB := Lib.hid hb; have HFIN := Lib.hid hfin; have H2N := Lib.hid h2n; have HS := Lib.hid hS; clear h hS64 hor hT e3 e4 hx hb hfin h2n hS
  generalize S ||| 2 ^ k = S2 at *
  generalize tkS q n = T at *
  go_enter Tryd.func34, Tryd.ntmps34
  go_wp2_with (first | (refine wpList_load_mid rfl 63 _ rfl R 1 rfl (tkCells T) _ H.out.range Tryd.underlying63 rfl (info_tk _) ?_))
  go_loopw [7, 14] (fun nv jv wr => ∃ j : Nat, jv = .int .i64 j ∧ j ≤ 24 ∧ nv = .int .i64 (cntP (hgS q n S k) j : Int) ∧ w = wr) (fun _ jv _ => 24 - (intOf jv).toNat)
  case atStart => exact ⟨0, rfl, by omega, rfl, rfl⟩
  case round =>
    obtain ⟨j, rfl, hj, rfl, rfl⟩ := hrel
    have hcl := cntP_le (hgS q n S k) j
    have hcs : cntP (hgS q n S k) (j + 1) = cntP (hgS q n S k) j + if hgS q n S k j = true then 1 else 0 := rfl
    by_cases hj2 : j < 24
    · have hix := HX.out j hj2
      have g3 := E3.out j
      have g4 := E4.out j
      rw [HB.out j] at hcs
      generalize cntP (hgS q n S k) j = cj at *
      generalize T j = tj at *
      cases d1 : decide (tj &&& S2 = 0) with
      | true =>
        rw [d1] at g3 hcs
        simp only [Bool.not_true, Bool.false_and] at g3 hcs
        rw [if_neg (by decide)] at hcs
        clear d1 g4
        have HCS := Lib.hid hcs; clear hcs
        go_wp2
        go_roundw
        case rel => exact ⟨j + 1, by go_num, by omega, by rw [HCS.out]; simp, trivial⟩
        case measure => simp [intOf]; omega
      | false =>
        cases d2 : decide (tj &&& S = tj) with
        | true =>
          rw [d1] at g3 hcs
          rw [d2] at g4 hcs
          simp only [Bool.not_true, Bool.not_false, Bool.and_false] at g3 g4 hcs
          rw [if_neg (by decide)] at hcs
          clear d1 d2
          have HCS := Lib.hid hcs; clear hcs
          go_wp2
          go_roundw
          case rel => exact ⟨j + 1, by go_num, by omega, by rw [HCS.out]; simp, trivial⟩
          case measure => simp [intOf]; omega
        | false =>
          rw [d1] at g3 hcs
          rw [d2] at g4 hcs
          simp only [Bool.not_false, Bool.and_true] at g3 g4 hcs
          rw [if_pos trivial] at hcs
          clear d1 d2
          have HCS := Lib.hid hcs; clear hcs
          go_wp2
          go_roundw
          case rel => exact ⟨j + 1, by go_num, by omega, by rw [HCS.out]; simp, trivial⟩
          case measure => simp [intOf]; omega
    · obtain rfl : j = 24 := by omega
      go_wp2
      go_ret
      exact ⟨ret_int (by rw [HFIN.out]), rfl⟩
end Go.Proofs.YtnplcephmidjbaaDoor
