/- Texts of this claim, laid together: SetF, OrF. -/
import Derived.Test.YtlpfecjkkgccgaaDoorMaA
import Derived.BigRegion
import Derived.Test.YtlpfecjkkgccgaaDoorRows
/- Package sheet: put, has, within, all. -/
namespace Go.Proofs.YtlpfecjkkgccgaaDoor
open Go.RowKit

theorem bit_one (v j : Nat) (hv : v < 2 ^ 64) : (bits .and .u64 ((v : Int) / 2 ^ j) 1 == 1) = v.testBit j := by
  have e : ((v : Int) / 2 ^ j) = ((v / 2 ^ j : Nat) : Int) := by simp
  have hd : v / 2 ^ j < 2 ^ 64 := Nat.lt_of_le_of_lt (Nat.div_le_self _ _) hv
  rw [e, show (1 : Int) = ((1 : Nat) : Int) from rfl, (bits_nat .u64 64 (by decide) wraps64 _ 1 hd (by decide)).1, Nat.testBit, Nat.shiftRight_eq_div_pow, Nat.and_comm, Bool.eq_iff_iff]
  simp only [beq_iff_eq, bne_iff_ne, ne_eq]
  have := Nat.and_lt_two_pow (n := 1) 1 (show v / 2 ^ j % 2 < 2 ^ 1 by omega)
  rw [Nat.one_and_eq_mod_two]
  omega
theorem pow_wrap (j : Nat) (hj : j < 64) : IntKind.u64.wrap (2 ^ j) = 2 ^ j := by
  have e : (2 : Int) ^ j = ((2 ^ j : Nat) : Int) := by simp
  have h : 2 ^ j < 2 ^ 64 := Nat.pow_lt_pow_right (by decide) hj
  rw [e]
  exact wraps64 _ (Int.natCast_nonneg _) (by exact_mod_cast h)
theorem SetAt.ext {w w' : World} {R off S : Nat} (h : SetAt w R off S) (hw : ∀ a, w'.cell? a = w.cell? a) (hf : ∀ a, w'.frozen? a = w.frozen? a) : SetAt w' R off S := fun k hk => by
  rw [hw, hf]; exact h k hk
set_option maxRecDepth 100000 in
set_option maxHeartbeats 2000000 in
theorem setHas_ (R off S i : Nat) (w : World) (hi : i < 448) (h : SetAt w R off S) :
    Calls Tryd.prog 59 #[.pointer (some ⟨R, off, none⟩), .int .i64 (i : Int)] w fun e w' => e = .returned (.bool (S.testBit i)) ∧ w = w' := by
  obtain ⟨k, hk⟩ : ∃ k, k = i / 64 := ⟨_, rfl⟩
  obtain ⟨j, hj⟩ : ∃ j, j = i % 64 := ⟨_, rfl⟩
  have hk7 : k < 7 := by omega
  have hj64 : j < 64 := by omega
  have c0 := (h k hk7).1
  have q1 : (i : Int) / 64 = (k : Int) := by omega
  have q2 : (i : Int) % 64 = (j : Int) := by omega
  have x0 : (0 : Int) ≤ (i : Int) := by omega
  have x1 : (0 : Int) ≤ (k : Int) := by omega
  have x2 : (k : Int) < 7 := by omega
  have x3 : (0 : Int) ≤ (j : Int) := by omega
  have x4 : (j : Int) < 64 := by omega
  have hw := wd_lt S k
  have hb : (wd S k).testBit j = S.testBit i := by rw [wd_bit, decide_eq_true hj64, Bool.true_and, show 64 * k + j = i by omega]
  have he := bit_one (wd S k) j hw
  rw [hb] at he
  generalize wd S k = v at *
  have H := Lib.hid h; have HK := Lib.hid hk; have HJ := Lib.hid hj; have HW := Lib.hid hw; have HB := Lib.hid hb; clear h hk hj hw hb
  go_enter Tryd.func59, Tryd.ntmps59
  go_wp2
  go_ret
  exact ⟨rfl, rfl⟩
set_option maxRecDepth 100000 in
set_option maxHeartbeats 2000000 in
theorem setPut_ (R off S i : Nat) (w : World) (hi : i < 448) (h : SetAt w R off S) :
    Calls Tryd.prog 61 #[.pointer (some ⟨R, off, none⟩), .int .i64 (i : Int)] w fun e w' => (∃ v, e = .returned v) ∧ w' = (w.setCell ⟨R, off + i / 64, none⟩ (.int .u64 (wd (S ||| 2 ^ i) (i / 64) : Nat))).drew := by
  obtain ⟨k, hk⟩ : ∃ k, k = i / 64 := ⟨_, rfl⟩
  obtain ⟨j, hj⟩ : ∃ j, j = i % 64 := ⟨_, rfl⟩
  have hk7 : k < 7 := by omega
  have hj64 : j < 64 := by omega
  obtain ⟨c0, f0⟩ := h k hk7
  have q1 : (i : Int) / 64 = (k : Int) := by omega
  have q2 : (i : Int) % 64 = (j : Int) := by omega
  have x0 : (0 : Int) ≤ (i : Int) := by omega
  have x1 : (0 : Int) ≤ (k : Int) := by omega
  have x2 : (k : Int) < 7 := by omega
  have x3 : (0 : Int) ≤ (j : Int) := by omega
  have x4 : (j : Int) < 64 := by omega
  have hw := wd_lt S k
  have hwd := wd_put S i
  rw [← hk, ← hj] at hwd
  rw [← hk, hwd]
  have e1 := pow_wrap j hj64
  have e2 := bit_set .u64 64 (by decide) wraps64 (wd S k) j hw hj64
  generalize wd S k = v at *
  have H := Lib.hid h; have HK := Lib.hid hk; have HJ := Lib.hid hj; have HW := Lib.hid hw; have HWD := Lib.hid hwd; clear h hk hj hw hwd
  go_enter Tryd.func61, Tryd.ntmps61
  go_wp2
  go_region
  go_end0
  exact ⟨⟨_, rfl⟩, rfl⟩

theorem andnot_ne (a b : Nat) (ha : a < 2 ^ 64) (hb : b < 2 ^ 64) : (bits .andNot .u64 (a : Int) (b : Int) != 0) = !decide (a &&& b = a) := by
  rw [bne, bits_andnot .u64 64 (by decide) wraps64 a b ha hb]
set_option maxRecDepth 100000 in
set_option maxHeartbeats 2000000 in
theorem setWithin_ (R1 o1 R2 o2 S T : Nat) (w : World) (h1 : SetAt w R1 o1 S) (h2 : SetAt w R2 o2 T) :
    Calls Tryd.prog 60 #[.pointer (some ⟨R1, o1, none⟩), .pointer (some ⟨R2, o2, none⟩)] w fun e w' => e = .returned (.bool (winN S T 7)) ∧ Below w.heap.size w w' := by
  have hl1 := World.block_lt_of_cell? w _ (h1 0 (by omega)).1
  have hl2 := World.block_lt_of_cell? w _ (h2 0 (by omega)).1
  have H1 := Lib.hid h1; have H2 := Lib.hid h2; clear h1 h2
  go_enter Tryd.func60, Tryd.ntmps60
  go_wp2
  go_loopw [6] (fun v wr => ∃ k : Nat, v = .int .i64 k ∧ k ≤ 7 ∧ winN S T k = true ∧ Below w.heap.size w wr) (fun v _ => 7 - (intOf v).toNat)
  case atStart => exact ⟨0, rfl, by omega, rfl, Below.refl _ _⟩
  case round =>
    obtain ⟨k, rfl, hk, hw, hb⟩ := hrel
    by_cases hlt : k < 7
    · have x1 : (0 : Int) ≤ (k : Int) := by omega
      have x2 : (k : Int) < 7 := by omega
      have c1 := (hb.cell (p := ⟨R1, o1 + k, none⟩) hl1).trans (H1.out k hlt).1
      have c2 := (hb.cell (p := ⟨R2, o2 + k, none⟩) hl2).trans (H2.out k hlt).1
      have hne := andnot_ne (wd S k) (wd T k) (wd_lt _ _) (wd_lt _ _)
      have hsu : winN S T (k + 1) = winW S T k := by rw [winN, hw, Bool.true_and]
      rw [show decide (wd S k &&& wd T k = wd S k) = winW S T k from rfl] at hne
      cases hc : winW S T k with
      | true =>
        rw [hc] at hne hsu
        generalize wd S k = a at *
        generalize wd T k = b at *
        simp only [Bool.not_true] at hne
        have HW := Lib.hid hw; have HB := Lib.hid hb; have HSU := Lib.hid hsu; have HC := Lib.hid hc; clear hw hb hsu hc
        go_wp2
        go_quiet (fail)
        go_wp2
        go_roundw
        case rel => exact ⟨k + 1, by go_num, by omega, HSU.out, below_drewN HB.out _⟩
        case measure => simp [intOf]; omega
      | false =>
        rw [hc] at hne hsu
        have hfin := winN_mono S T 7 (k + 1) (by omega) hsu
        generalize wd S k = a at *
        generalize wd T k = b at *
        simp only [Bool.not_false] at hne
        have HW := Lib.hid hw; have HB := Lib.hid hb; have HSU := Lib.hid hsu; have HC := Lib.hid hc; have HFIN := Lib.hid hfin; clear hw hb hsu hc hfin
        go_wp2
        go_quiet (fail)
        go_wp2
        go_ret
        exact ⟨ret_bool HFIN.out.symm, below_drewN HB.out _⟩
    · obtain rfl : k = 7 := by omega
      have HW := Lib.hid hw; have HB := Lib.hid hb; clear hw hb
      go_wp2
      go_ret
      exact ⟨ret_bool HW.out.symm, HB.out⟩

/-- The words of many sets. -/
def wCells (m : Nat) (G : Nat → Nat → Nat) : Array Value := ((List.range (m * 7)).map fun j => Value.int .u64 (G (j / 7) (j % 7) : Nat)).toArray
def WB (w : World) (R m : Nat) (G : Nat → Nat → Nat) : Prop := w.heap[R]? = some (.cells (wCells m G) 105 (0, 0))
/-- Block R holds m sets. -/
def SB (w : World) (R m : Nat) (F : Nat → Nat) : Prop := WB w R m fun b k => wd (F b) k
section
variable {w w' : World} {R m : Nat} {G : Nat → Nat → Nat} {F : Nat → Nat}
theorem WB.free (h : WB w R m G) (j : Nat) : w.frozen? ⟨R, j, none⟩ = false := frozen_of_row _ _ j _ _ h
theorem WB.lt (h : WB w R m G) : R < w.heap.size := lt_of_block h
theorem WB.at_ (h : WB w R m G) {b k : Nat} (hb : b < m) (hk : k < 7) : w.cell? ⟨R, b * 7 + k, none⟩ = some (.int .u64 (G b k : Nat)) := by
  rw [cell_of_row w R (b * 7 + k) _ _ _ h]
  unfold wCells
  simp only [List.getElem?_toArray, List.getElem?_map]
  rw [List.getElem?_range (by omega)]
  simp only [Option.map_some]
  rw [show (b * 7 + k) / 7 = b by omega, show (b * 7 + k) % 7 = k by omega]
theorem WB.congr {G' : Nat → Nat → Nat} (h : WB w R m G) (he : ∀ b k, b < m → k < 7 → G b k = G' b k) : WB w R m G' := by
  have e : wCells m G = wCells m G' := by
    unfold wCells
    refine congrArg List.toArray (List.map_congr_left fun j hj => ?_)
    have := List.mem_range.1 hj
    rw [he _ _ (by omega) (by omega)]
  unfold WB at h ⊢
  rw [h, e]
theorem WB.put (h : WB w R m G) {b k : Nat} (hk : k < 7) (v : Nat) : WB (w.setCell ⟨R, b * 7 + k, none⟩ (.int .u64 (v : Nat))) R m (fun x y => if x = b ∧ y = k then v else G x y) := by
  have h1 := heap_setCell_same w R (b * 7 + k) _ _ (.int .u64 (v : Nat)) h
  refine Eq.trans h1 ?_
  congr 2
  apply Array.ext'
  simp only [wCells, Array.toList_setIfInBounds]
  apply List.ext_getElem
  · simp
  · intro j h2 h3
    rw [List.getElem_set]
    simp only [List.getElem_map, List.getElem_range]
    by_cases c : b * 7 + k = j
    · subst c; rw [if_pos rfl, if_pos ⟨by omega, by omega⟩]
    · rw [if_neg c, if_neg (fun e => c (by omega))]
theorem SB.at_ (h : SB w R m F) {b : Nat} (hb : b < m) : SetAt w R (b * 7) (F b) := fun _ hk => ⟨WB.at_ h hb hk, WB.free h _⟩
end
def updS (F : Nat → Nat) (i v : Nat) : Nat → Nat := fun q => if q = i then v else F q
theorem SB.put {w : World} {R m b i : Nat} {F : Nat → Nat} (h : SB w R m F) (hi : i < 448) : SB (w.setCell ⟨R, b * 7 + i / 64, none⟩ (.int .u64 (wd (F b ||| 2 ^ i) (i / 64) : Nat))).drew R m (updS F b (F b ||| 2 ^ i)) := by
  have h1 : WB (w.setCell ⟨R, b * 7 + i / 64, none⟩ (.int .u64 (wd (F b ||| 2 ^ i) (i / 64) : Nat))).drew R m _ := WB.put h (b := b) (k := i / 64) (by omega) (wd (F b ||| 2 ^ i) (i / 64))
  refine WB.congr h1 fun x y _ _ => ?_
  unfold updS
  by_cases hx : x = b
  · subst hx
    rw [if_pos rfl]
    by_cases hy : y = i / 64
    · subst hy; simp
    · rw [if_neg (fun e => hy e.2), wd_put_ne _ _ _ hy]
  · rw [if_neg hx, if_neg (fun e => hx e.1)]
/-- While the words of a are put into those of b. -/
def allG (F : Nat → Nat) (a b n : Nat) : Nat → Nat → Nat := fun x y => if x = b ∧ y < n then wd (F b ||| F a) y else wd (F x) y
set_option maxRecDepth 100000 in
set_option maxHeartbeats 2000000 in
theorem setAll_ (R m a b : Nat) (F : Nat → Nat) (w : World) (ha : a < m) (hb : b < m) (hab : a ≠ b) (h : SB w R m F) :
    Calls Tryd.prog 69 #[.pointer (some ⟨R, b * 7, none⟩), .pointer (some ⟨R, a * 7, none⟩)] w fun e w' => (∃ v, e = .returned v) ∧ SB w' R m (updS F b (F b ||| F a)) ∧ (w.heap.size ≤ w'.heap.size ∧ w'.os = w.os ∧ w'.tape = w.tape ∧ w'.output = w.output ∧ ∀ i, i ≠ R → w'.heap[i]? = w.heap[i]?) := by
  have h0 : WB w R m (allG F a b 0) := WB.congr h fun x y _ _ => by unfold allG; rw [if_neg (by omega)]
  have H := Lib.hid h; have H0 := Lib.hid h0; clear h h0
  go_enter Tryd.func69, Tryd.ntmps69
  go_wp2
  go_loopw [5] (fun v wr => ∃ k : Nat, v = .int .i64 k ∧ k ≤ 7 ∧ WB wr R m (allG F a b k) ∧ (w.heap.size ≤ wr.heap.size ∧ wr.os = w.os ∧ wr.tape = w.tape ∧ wr.output = w.output ∧ ∀ i, i ≠ R → wr.heap[i]? = w.heap[i]?)) (fun v _ => 7 - (intOf v).toNat)
  case atStart => exact ⟨0, rfl, by omega, H0.out, Nat.le_refl _, rfl, rfl, rfl, fun _ _ => rfl⟩
  case round =>
    obtain ⟨k, rfl, hk, hW, hsame⟩ := hrel
    by_cases hlt : k < 7
    · have x1 : (0 : Int) ≤ (k : Int) := by omega
      have x2 : (k : Int) < 7 := by omega
      have c1 := hW.at_ hb hlt
      have c2 := hW.at_ ha hlt
      have f1 := hW.free (b * 7 + k)
      have e1 : allG F a b k b k = wd (F b) k := by unfold allG; rw [if_neg (by omega)]
      have e2 : allG F a b k a k = wd (F a) k := by unfold allG; rw [if_neg (by omega)]
      rw [e1] at c1
      rw [e2] at c2
      have hor : bits .or .u64 (wd (F b) k : Nat) (wd (F a) k : Nat) = ((wd (F b ||| F a) k : Nat) : Int) := by
        rw [wd_or]
        exact (bits_nat .u64 64 (by decide) wraps64 _ _ (wd_lt _ _) (wd_lt _ _)).2
      have hn : WB (wr.setCell ⟨R, b * 7 + k, none⟩ (.int .u64 (wd (F b ||| F a) k : Nat))).drew R m (allG F a b (k + 1)) := by
        have h1 : WB (wr.setCell ⟨R, b * 7 + k, none⟩ (.int .u64 (wd (F b ||| F a) k : Nat))).drew R m _ := hW.put hlt (wd (F b ||| F a) k)
        refine h1.congr fun x y _ _ => ?_
        unfold allG
        by_cases hx : x = b ∧ y = k
        · obtain ⟨rfl, rfl⟩ := hx; rw [if_pos ⟨rfl, rfl⟩, if_pos ⟨rfl, by omega⟩]
        · rw [if_neg hx]
          by_cases hy : x = b ∧ y < k
          · rw [if_pos hy, if_pos ⟨hy.1, by omega⟩]
          · rw [if_neg hy, if_neg (fun e => hx ⟨e.1, by have := fun h => hy ⟨e.1, h⟩; omega⟩)]
      generalize wd (F b ||| F a) k = z at *
      generalize wd (F b) k = z1 at *
      generalize wd (F a) k = z2 at *
      have hR := hW.lt
      have hs2 : w.heap.size ≤ (wr.setCell ⟨R, b * 7 + k, none⟩ (.int .u64 (z : Nat))).drew.heap.size ∧ (wr.setCell ⟨R, b * 7 + k, none⟩ (.int .u64 (z : Nat))).drew.os = w.os ∧ (wr.setCell ⟨R, b * 7 + k, none⟩ (.int .u64 (z : Nat))).drew.tape = w.tape ∧ (wr.setCell ⟨R, b * 7 + k, none⟩ (.int .u64 (z : Nat))).drew.output = w.output ∧ ∀ i, i ≠ R → (wr.setCell ⟨R, b * 7 + k, none⟩ (.int .u64 (z : Nat))).drew.heap[i]? = w.heap[i]? :=
        ⟨by simpa using hsame.1, hsame.2.1, hsame.2.2.1, hsame.2.2.2.1, fun i hi => (heap_setCell_other wr ⟨R, b * 7 + k, none⟩ i _ hi).trans (hsame.2.2.2.2 i hi)⟩
      have HW := Lib.hid hW; have HSAME := Lib.hid hsame; have HN := Lib.hid hn; have E1 := Lib.hid e1; have E2 := Lib.hid e2; have HS2 := Lib.hid hs2; clear hW hsame hn e1 e2 hs2
      go_wp2
      go_region
      go_wp2
      go_roundw
      case rel => exact ⟨k + 1, by go_num, by omega, HN.out, HS2.out⟩
      case measure => simp [intOf]; omega
    · obtain rfl : k = 7 := by omega
      have hfin : SB wr R m (updS F b (F b ||| F a)) := hW.congr fun x y _ hy => by
        unfold allG updS
        by_cases hx : x = b
        · subst hx; rw [if_pos ⟨rfl, hy⟩, if_pos rfl]
        · rw [if_neg (fun e => hx e.1), if_neg hx]
      have HW := Lib.hid hW; have HSAME := Lib.hid hsame; have HFIN := Lib.hid hfin; clear hW hsame hfin
      go_wp2
      go_end0
      exact ⟨⟨_, rfl⟩, HFIN.out, HSAME.out⟩
end Go.Proofs.YtlpfecjkkgccgaaDoor
/- Package order: rows of works: put, has, within. -/
namespace Go.Proofs.YtlpfecjkkgccgaaDoor
open Go.RowKit

set_option maxRecDepth 100000 in
set_option maxHeartbeats 2000000 in
theorem owHas_ (R off S i : Nat) (w : World) (hi : i < 448) (h : SetAt w R off S) :
    Calls Tryd.prog 40 #[.pointer (some ⟨R, off, none⟩), .int .i64 (i : Int)] w fun e w' => e = .returned (.bool (S.testBit i)) ∧ w = w' := by
  obtain ⟨k, hk⟩ : ∃ k, k = i / 64 := ⟨_, rfl⟩
  obtain ⟨j, hj⟩ : ∃ j, j = i % 64 := ⟨_, rfl⟩
  have hk7 : k < 7 := by omega
  have hj64 : j < 64 := by omega
  have c0 := (h k hk7).1
  have q1 : (i : Int) / 64 = (k : Int) := by omega
  have q2 : (i : Int) % 64 = (j : Int) := by omega
  have x0 : (0 : Int) ≤ (i : Int) := by omega
  have x1 : (0 : Int) ≤ (k : Int) := by omega
  have x2 : (k : Int) < 7 := by omega
  have x3 : (0 : Int) ≤ (j : Int) := by omega
  have x4 : (j : Int) < 64 := by omega
  have hw := wd_lt S k
  have hb : (wd S k).testBit j = S.testBit i := by rw [wd_bit, decide_eq_true hj64, Bool.true_and, show 64 * k + j = i by omega]
  have he := bit_one (wd S k) j hw
  rw [hb] at he
  generalize wd S k = v at *
  have H := Lib.hid h; have HK := Lib.hid hk; have HJ := Lib.hid hj; have HW := Lib.hid hw; have HB := Lib.hid hb; clear h hk hj hw hb
  go_enter Tryd.func40, Tryd.ntmps40
  go_wp2
  go_ret
  exact ⟨rfl, rfl⟩
set_option maxRecDepth 100000 in
set_option maxHeartbeats 2000000 in
theorem owPut_ (R off S i : Nat) (w : World) (hi : i < 448) (h : SetAt w R off S) :
    Calls Tryd.prog 42 #[.pointer (some ⟨R, off, none⟩), .int .i64 (i : Int)] w fun e w' => (∃ v, e = .returned v) ∧ w' = (w.setCell ⟨R, off + i / 64, none⟩ (.int .u64 (wd (S ||| 2 ^ i) (i / 64) : Nat))).drew := by
  obtain ⟨k, hk⟩ : ∃ k, k = i / 64 := ⟨_, rfl⟩
  obtain ⟨j, hj⟩ : ∃ j, j = i % 64 := ⟨_, rfl⟩
  have hk7 : k < 7 := by omega
  have hj64 : j < 64 := by omega
  obtain ⟨c0, f0⟩ := h k hk7
  have q1 : (i : Int) / 64 = (k : Int) := by omega
  have q2 : (i : Int) % 64 = (j : Int) := by omega
  have x0 : (0 : Int) ≤ (i : Int) := by omega
  have x1 : (0 : Int) ≤ (k : Int) := by omega
  have x2 : (k : Int) < 7 := by omega
  have x3 : (0 : Int) ≤ (j : Int) := by omega
  have x4 : (j : Int) < 64 := by omega
  have hw := wd_lt S k
  have hwd := wd_put S i
  rw [← hk, ← hj] at hwd
  rw [← hk, hwd]
  have e1 := pow_wrap j hj64
  have e2 := bit_set .u64 64 (by decide) wraps64 (wd S k) j hw hj64
  generalize wd S k = v at *
  have H := Lib.hid h; have HK := Lib.hid hk; have HJ := Lib.hid hj; have HW := Lib.hid hw; have HWD := Lib.hid hwd; clear h hk hj hw hwd
  go_enter Tryd.func42, Tryd.ntmps42
  go_wp2
  go_region
  go_end0
  exact ⟨⟨_, rfl⟩, rfl⟩

set_option maxRecDepth 100000 in
set_option maxHeartbeats 2000000 in
theorem owWithin_ (R1 o1 R2 o2 S T : Nat) (w : World) (h1 : SetAt w R1 o1 S) (h2 : SetAt w R2 o2 T) :
    Calls Tryd.prog 41 #[.pointer (some ⟨R1, o1, none⟩), .pointer (some ⟨R2, o2, none⟩)] w fun e w' => e = .returned (.bool (winN S T 7)) ∧ Below w.heap.size w w' := by
  have hl1 := World.block_lt_of_cell? w _ (h1 0 (by omega)).1
  have hl2 := World.block_lt_of_cell? w _ (h2 0 (by omega)).1
  have H1 := Lib.hid h1; have H2 := Lib.hid h2; clear h1 h2
  go_enter Tryd.func41, Tryd.ntmps41
  go_wp2
  go_loopw [6] (fun v wr => ∃ k : Nat, v = .int .i64 k ∧ k ≤ 7 ∧ winN S T k = true ∧ Below w.heap.size w wr) (fun v _ => 7 - (intOf v).toNat)
  case atStart => exact ⟨0, rfl, by omega, rfl, Below.refl _ _⟩
  case round =>
    obtain ⟨k, rfl, hk, hw, hb⟩ := hrel
    by_cases hlt : k < 7
    · have x1 : (0 : Int) ≤ (k : Int) := by omega
      have x2 : (k : Int) < 7 := by omega
      have c1 := (hb.cell (p := ⟨R1, o1 + k, none⟩) hl1).trans (H1.out k hlt).1
      have c2 := (hb.cell (p := ⟨R2, o2 + k, none⟩) hl2).trans (H2.out k hlt).1
      have hne := andnot_ne (wd S k) (wd T k) (wd_lt _ _) (wd_lt _ _)
      have hsu : winN S T (k + 1) = winW S T k := by rw [winN, hw, Bool.true_and]
      rw [show decide (wd S k &&& wd T k = wd S k) = winW S T k from rfl] at hne
      cases hc : winW S T k with
      | true =>
        rw [hc] at hne hsu
        generalize wd S k = a at *
        generalize wd T k = b at *
        simp only [Bool.not_true] at hne
        have HW := Lib.hid hw; have HB := Lib.hid hb; have HSU := Lib.hid hsu; have HC := Lib.hid hc; clear hw hb hsu hc
        go_wp2
        go_quiet (fail)
        go_wp2
        go_roundw
        case rel => exact ⟨k + 1, by go_num, by omega, HSU.out, below_drewN HB.out _⟩
        case measure => simp [intOf]; omega
      | false =>
        rw [hc] at hne hsu
        have hfin := winN_mono S T 7 (k + 1) (by omega) hsu
        generalize wd S k = a at *
        generalize wd T k = b at *
        simp only [Bool.not_false] at hne
        have HW := Lib.hid hw; have HB := Lib.hid hb; have HSU := Lib.hid hsu; have HC := Lib.hid hc; have HFIN := Lib.hid hfin; clear hw hb hsu hc hfin
        go_wp2
        go_quiet (fail)
        go_wp2
        go_ret
        exact ⟨ret_bool HFIN.out.symm, below_drewN HB.out _⟩
    · obtain rfl : k = 7 := by omega
      have HW := Lib.hid hw; have HB := Lib.hid hb; clear hw hb
      go_wp2
      go_ret
      exact ⟨ret_bool HW.out.symm, HB.out⟩

/-- Block R holds m sets, by their words. -/
def WBo (w : World) (R m : Nat) (G : Nat → Nat → Nat) : Prop := w.heap[R]? = some (.cells (wCells m G) 68 (0, 0))
/-- Block R holds m sets. -/
def SBo (w : World) (R m : Nat) (F : Nat → Nat) : Prop := WBo w R m fun b k => wd (F b) k
section
variable {w w' : World} {R m : Nat} {G : Nat → Nat → Nat} {F : Nat → Nat}
theorem WBo.free (h : WBo w R m G) (j : Nat) : w.frozen? ⟨R, j, none⟩ = false := frozen_of_row _ _ j _ _ h
theorem WBo.lt (h : WBo w R m G) : R < w.heap.size := lt_of_block h
theorem WBo.at_ (h : WBo w R m G) {b k : Nat} (hb : b < m) (hk : k < 7) : w.cell? ⟨R, b * 7 + k, none⟩ = some (.int .u64 (G b k : Nat)) := by
  rw [cell_of_row w R (b * 7 + k) _ _ _ h]
  unfold wCells
  simp only [List.getElem?_toArray, List.getElem?_map]
  rw [List.getElem?_range (by omega)]
  simp only [Option.map_some]
  rw [show (b * 7 + k) / 7 = b by omega, show (b * 7 + k) % 7 = k by omega]
theorem WBo.congr {G' : Nat → Nat → Nat} (h : WBo w R m G) (he : ∀ b k, b < m → k < 7 → G b k = G' b k) : WBo w R m G' := by
  have e : wCells m G = wCells m G' := by
    unfold wCells
    refine congrArg List.toArray (List.map_congr_left fun j hj => ?_)
    have := List.mem_range.1 hj
    rw [he _ _ (by omega) (by omega)]
  unfold WBo at h ⊢
  rw [h, e]
theorem WBo.put (h : WBo w R m G) {b k : Nat} (hk : k < 7) (v : Nat) : WBo (w.setCell ⟨R, b * 7 + k, none⟩ (.int .u64 (v : Nat))) R m (fun x y => if x = b ∧ y = k then v else G x y) := by
  have h1 := heap_setCell_same w R (b * 7 + k) _ _ (.int .u64 (v : Nat)) h
  refine Eq.trans h1 ?_
  congr 2
  apply Array.ext'
  simp only [wCells, Array.toList_setIfInBounds]
  apply List.ext_getElem
  · simp
  · intro j h2 h3
    rw [List.getElem_set]
    simp only [List.getElem_map, List.getElem_range]
    by_cases c : b * 7 + k = j
    · subst c; rw [if_pos rfl, if_pos ⟨by omega, by omega⟩]
    · rw [if_neg c, if_neg (fun e => c (by omega))]
theorem SBo.at_ (h : SBo w R m F) {b : Nat} (hb : b < m) : SetAt w R (b * 7) (F b) := fun _ hk => ⟨WBo.at_ h hb hk, WBo.free h _⟩
end
theorem SBo.put {w : World} {R m b i : Nat} {F : Nat → Nat} (h : SBo w R m F) (hi : i < 448) : SBo (w.setCell ⟨R, b * 7 + i / 64, none⟩ (.int .u64 (wd (F b ||| 2 ^ i) (i / 64) : Nat))).drew R m (updS F b (F b ||| 2 ^ i)) := by
  have h1 : WBo (w.setCell ⟨R, b * 7 + i / 64, none⟩ (.int .u64 (wd (F b ||| 2 ^ i) (i / 64) : Nat))).drew R m _ := WBo.put h (b := b) (k := i / 64) (by omega) (wd (F b ||| 2 ^ i) (i / 64))
  refine WBo.congr h1 fun x y _ _ => ?_
  unfold updS
  by_cases hx : x = b
  · subst hx
    rw [if_pos rfl]
    by_cases hy : y = i / 64
    · subst hy; simp
    · rw [if_neg (fun e => hy e.2), wd_put_ne _ _ _ hy]
  · rw [if_neg hx, if_neg (fun e => hx e.1)]
end Go.Proofs.YtlpfecjkkgccgaaDoor
