/- Package traces: the closure of Nth. -/
import Derived.Test.YtifpkdajfdlgeaaTrNth2
import Derived.Test.YtifpkdajfdlgeaaTrLevT
import Derived.StillTailTactics
namespace Go.Proofs.Ytifpkdajfdlgeaa
open Go.RowKit

/-- Of what was there, blocks a and b alone may have changed. -/
structure Gr2 (w w' : World) (a b : Nat) : Prop where
  os : w'.os = w.os
  tape : w'.tape = w.tape
  output : w'.output = w.output
  size : w.heap.size ≤ w'.heap.size
  block : ∀ i, i < w.heap.size → i ≠ a → i ≠ b → w'.heap[i]? = w.heap[i]?
section
variable {w w1 w2 : World} {a b : Nat}
theorem Gr2.refl (w : World) (a b : Nat) : Gr2 w w a b := ⟨rfl, rfl, rfl, Nat.le_refl _, fun _ _ _ _ => rfl⟩
theorem Gr2.grown (h : Gr2 w w1 a b) (hg : w1.grownBy w2 (some a)) : Gr2 w w2 a b :=
  ⟨hg.os.trans h.os, hg.tape.trans h.tape, hg.output.trans h.output, Nat.le_trans h.size hg.size, fun i hi h1 h2 => (hg.block i (Nat.lt_of_lt_of_le hi h.size) (by simpa using h1)).trans (h.block i hi h1 h2)⟩
theorem Gr2.drewN (h : Gr2 w w1 a b) (n : Nat) : Gr2 w (w1.drewN n) a b := ⟨h.os, h.tape, h.output, h.size, h.block⟩
theorem Gr2.drew (h : Gr2 w w1 a b) : Gr2 w w1.drew a b := ⟨h.os, h.tape, h.output, h.size, h.block⟩
theorem Gr2.set (h : Gr2 w w1 a b) (j : Nat) (u : Value) : Gr2 w (w1.setCell ⟨b, j, none⟩ u) a b :=
  ⟨h.os, h.tape, h.output, by simpa [World.setCell] using h.size, fun i hi h1 h2 => (Below.heap_setCell w1 ⟨b, j, none⟩ u i h2).trans (h.block i hi h1 h2)⟩
theorem Gr2.trans (h : Gr2 w w1 a b) (hg : Gr2 w1 w2 a b) : Gr2 w w2 a b :=
  ⟨hg.os.trans h.os, hg.tape.trans h.tape, hg.output.trans h.output, Nat.le_trans h.size hg.size, fun i hi h1 h2 => (hg.block i (Nat.lt_of_lt_of_le hi h.size) h1 h2).trans (h.block i hi h1 h2)⟩
theorem Gr2.below {B : Nat} (h : Gr2 w w1 a b) (ha : B ≤ a) (hb : B ≤ b) (hs : B ≤ w.heap.size) : Below B w w1 := ⟨h.os, h.tape, h.output, h.size, fun i hi => h.block i (by omega) (by omega) (by omega)⟩
end
/-- The counter stays when another block is written. -/
theorem CtrAt.store {w : World} {cb b mb n q : Nat} {bef : Nat → Nat} {T : TypeId} {cs : Array Value} (h : CtrAt w cb b mb n bef) (hq : w.heap[q]? = some (.cells cs T (0, 0))) (hT : T ≠ 85) (hU : n = 0 ∨ b ≠ q) (u : Value) : CtrAt (w.setCell ⟨q, 0, none⟩ u) cb b mb n bef := by
  obtain ⟨⟨A, cap, h1, hA⟩, h2, h3, h4⟩ := h
  have hm : q ≠ mb := by
    rintro rfl
    obtain ⟨es, clock, h5, _⟩ := h3
    rw [hq] at h5; cases h5
  have hc : q ≠ cb := by
    rintro rfl
    rw [hq] at h1
    injection h1 with h1
    injection h1 with _ h1
    exact hT h1
  refine ⟨⟨A, cap, by rw [Below.heap_setCell w ⟨q, 0, none⟩ u cb (Ne.symm hc)]; exact h1, hA⟩, fun i hi => ⟨(h2 i hi).1, ?_⟩, h3.at_ (Below.heap_setCell w ⟨q, 0, none⟩ u mb (Ne.symm hm)), h4⟩
  rw [World.cell?_setCell_other _ _ _ _ (fun e => by
    rcases hU with h | h
    · omega
    · exact h (by injection e with e; exact e.symm))]
  exact (h2 i hi).2

/-- What the closure leaves: the work that comes next and the number that is left in its box, or that there is none. -/
def NextPost (g : Nat → Int) (bef : Nat → Nat) (n s : Nat) (k : Int) (kb cb b mb : Nat) (w : World) (e : Ending) (w' : World) : Prop :=
  ((∃ i, (pkTo g bef s k n).1 = some i ∧ e = .returned (.tuple #[.int .i64 (i : Int), .bool true])) ∨ ((pkTo g bef s k n).1 = none ∧ e = .returned (.tuple #[.int .i64 0, .bool false]))) ∧
  w'.heap[kb]? = some (.cells #[.int .i64 (pkTo g bef s k n).2] 2 (0, 0)) ∧ CtrAt w' cb b mb n bef ∧ Gr2 w w' mb kb

/-- The same, in one line: the work (or 0) and whether there is one. -/
theorem NextPost.one {g : Nat → Int} {bef : Nat → Nat} {n s : Nat} {k : Int} {kb cb b mb : Nat} {w : World} {e : Ending} {w' : World} (h : NextPost g bef n s k kb cb b mb w e w') :
    e = .returned (.tuple #[.int .i64 (((pkTo g bef s k n).1.getD 0 : Nat) : Int), .bool (pkTo g bef s k n).1.isSome]) ∧
    w'.heap[kb]? = some (.cells #[.int .i64 (pkTo g bef s k n).2] 2 (0, 0)) ∧ CtrAt w' cb b mb n bef ∧ Gr2 w w' mb kb := by
  obtain ⟨h1, h2⟩ := h
  refine ⟨?_, h2⟩
  rcases h1 with ⟨i, hi, rfl⟩ | ⟨hi, rfl⟩
  · rw [hi]; rfl
  · rw [hi]; rfl
theorem CtrAt.beyond {w w' : World} {cb b mb n base : Nat} {bef : Nat → Nat} {row : Option Nat} (h : CtrAt w cb b mb n bef) (hg : w.grownBy w' row) (hr : ∀ k, row = some k → base ≤ k) (hcb : cb < base) (hmb : mb < base) (hb : n = 0 ∨ b < base) : CtrAt w' cb b mb n bef := by
  have far : ∀ k, k < base → some k ≠ row := fun k hk e => by have := hr k e.symm; omega
  obtain ⟨⟨A, cap, h1, hA⟩, h2, h3, h4⟩ := h
  exact ⟨⟨A, cap, (hg.block cb (lt_of_block h1) (far cb hcb)).trans h1, hA⟩, fun i hi => ⟨(h2 i hi).1, hg.cell (h2 i hi).2 (far b (by omega))⟩, h3.kept hg (far mb hmb), h4⟩
theorem own_gr2 {w w' : World} {base e n a b : Nat} {v : Value} {xs : List Value} (h : w.ownsRow base e 1 v n xs) (hg : Gr2 w w' a b) (ha : a < base) (hb : b < base) : w'.ownsRow base e 1 v n xs := by
  obtain ⟨h1, h2⟩ := h
  refine ⟨h1, ?_⟩
  rcases h2 with h2 | ⟨g, cap, cur, h3, h4, h5, h6⟩
  · exact .inl h2
  · exact .inr ⟨g, cap, cur, h3, h4, (hg.block g (lt_of_block h5) (by omega) (by omega)).trans h5, h6⟩
theorem one_set {w : World} {q : Nat} {v u : Value} {T : TypeId} (h : w.heap[q]? = some (.cells #[v] T (0, 0))) : (w.setCell ⟨q, 0, none⟩ u).heap[q]? = some (.cells #[u] T (0, 0)) := by
  rw [heap_setCell_same w q 0 _ _ _ h]; rfl

set_option maxRecDepth 100000 in
set_option maxHeartbeats 2000000 in
theorem tNth1_ (B6 B10 kb cb b mb n s : Nat) (bef : Nat → Nat) (k : Int) (w : World) (hn : n ≤ 16) (hs : s < 2 ^ n) (hk0 : 0 ≤ k) (hk1 : k ≤ 1000000001)
    (h6 : w.heap[B6]? = some (.cells #[.pointer (some ⟨cb, 0, none⟩)] 70 (0, 0))) (h10 : w.heap[B10]? = some (.cells #[.int .u32 (s : Int)] 55 (0, 0)))
    (hkb : w.heap[kb]? = some (.cells #[.int .i64 k] 2 (0, 0))) (hC : CtrAt w cb b mb n bef) (hbk : n = 0 ∨ b ≠ kb) :
    Calls Try.prog 54 #[.pointer (some ⟨B6, 0, none⟩), .pointer (some ⟨B10, 0, none⟩), .pointer (some ⟨kb, 0, none⟩)] w (NextPost (cntN n bef) bef n s k kb cb b mb w) := by
  have n6 : B6 ≠ kb := by
    rintro rfl
    rw [h6] at hkb; injection hkb with h; injection h with _ h; exact absurd h (by decide)
  have n10 : B10 ≠ kb := by
    rintro rfl
    rw [h10] at hkb; injection hkb with h; injection h with _ h; exact absurd h (by decide)
  have m6 : B6 ≠ mb := by
    rintro rfl
    obtain ⟨es, clock, h5, _⟩ := hC.good
    rw [h6] at h5; cases h5
  have m10 : B10 ≠ mb := by
    rintro rfl
    obtain ⟨es, clock, h5, _⟩ := hC.good
    rw [h10] at h5; cases h5
  have l6 := lt_of_block h6
  have l10 := lt_of_block h10
  have c6 : w.cell? ⟨B6, 0, none⟩ = some (.pointer (some ⟨cb, 0, none⟩)) := cell_of_row w B6 0 _ _ _ h6
  obtain ⟨A0, cap0, hcb0, hA0⟩ := hC.cells
  have c0 : w.cell? ⟨cb, 0, none⟩ = some (.slice A0 n cap0) := cell_of_row w cb 0 _ _ _ hcb0
  have HS := Lib.hid hs; have H6 := Lib.hid h6; have H10 := Lib.hid h10; have HKB := Lib.hid hkb; have HC := Lib.hid hC; have HCB0 := Lib.hid hcb0; have HA0 := Lib.hid hA0; clear hs h6 h10 hkb hC hcb0 hA0
  go_enter Try.func54, Try.ntmps54
  go_wp2
  clear c6 c0
  go_loopw [12] (fun iv wr => ∃ (j : Nat) (q : Int), iv = .int .i64 j ∧ j ≤ n ∧ pkTo (cntN n bef) bef s k j = (none, q) ∧ q ≤ k ∧ 0 ≤ q ∧ wr.heap[kb]? = some (.cells #[.int .i64 q] 2 (0, 0)) ∧ CtrAt wr cb b mb n bef ∧ Gr2 w wr mb kb) (fun iv _ => n - (intOf iv).toNat)
  case atStart => exact ⟨0, k, rfl, Nat.zero_le _, rfl, Int.le_refl _, hk0, HKB.out, HC.out, Gr2.refl _ _ _⟩
  case round =>
    obtain ⟨j, q, rfl, hj, hpj, hq1, hq2, hkq, hCr, hgr⟩ := hrel
    obtain ⟨A, cap, hcb, hA⟩ := hCr.cells
    have r6 : wr.heap[B6]? = some (.cells #[.pointer (some ⟨cb, 0, none⟩)] 70 (0, 0)) := (hgr.block _ l6 m6 n6).trans H6.out
    have r10 : wr.heap[B10]? = some (.cells #[.int .u32 (s : Int)] 55 (0, 0)) := (hgr.block _ l10 m10 n10).trans H10.out
    have c6 : wr.cell? ⟨B6, 0, none⟩ = some (.pointer (some ⟨cb, 0, none⟩)) := cell_of_row wr B6 0 _ _ _ r6
    have c10 : wr.cell? ⟨B10, 0, none⟩ = some (.int .u32 (s : Int)) := cell_of_row wr B10 0 _ _ _ r10
    have ck : wr.cell? ⟨kb, 0, none⟩ = some (.int .i64 q) := cell_of_row wr kb 0 _ _ _ hkq
    have fk : wr.frozen? ⟨kb, 0, none⟩ = false := frozen_of_row _ _ 0 _ _ hkq
    have z6 := lt_of_block r6
    have z10 := lt_of_block r10
    have zk := lt_of_block hkq
    have hs16 : s < 65536 := Nat.lt_of_lt_of_le HS.out (Nat.pow_le_pow_right (by decide) hn)
    by_cases hlt : j < n
    · have hA' := hA (by omega)
      subst hA'
      have c0 : wr.cell? ⟨cb, 0, none⟩ = some (.slice (some ⟨b, 0, none⟩) n cap) := cell_of_row wr cb 0 _ _ _ hcb
      obtain ⟨hbf, hbc⟩ := hCr.befs j hlt
      have hstep : pkTo (cntN n bef) bef s k (j + 1) = if freeB bef s j = true then (if q < cntN n bef (s ||| 2 ^ j) then (some j, q) else (none, q - cntN n bef (s ||| 2 ^ j))) else (none, q) := by rw [pkTo, hpj]
      by_cases hf : freeB bef s j = true
      · have hf' : freeOf (bef j) s j = true := hf
        have hcb2 := cntN_bounds n bef (s ||| 2 ^ j)
        have hor := bit_set .u32 16 (by decide) (fun n h h' => wraps_u32 n h (by omega)) s j hs16 (by omega)
        have hk16 : (2 : Int) ^ j % 4294967296 = 2 ^ j := by
          have h1 : 2 ^ j < 2 ^ 16 := Nat.pow_lt_pow_right (by decide) (by omega)
          have h2 : (2 : Int) ^ j = ((2 ^ j : Nat) : Int) := by simp
          rw [h2]; exact Int.emod_eq_of_lt (Int.natCast_nonneg _) (by omega)
        rw [← hk16] at hor
        clear hk16
        have hs2 : s ||| 2 ^ j < 2 ^ n := Nat.or_lt_two_pow HS.out (Nat.pow_lt_pow_right (by decide) hlt)
        have hml := miss_le n (s ||| 2 ^ j)
        rw [if_pos hf] at hstep
        obtain ⟨hcb3, hcb4⟩ := hcb2
        have hj32 : (j : Int) < 32 := by omega
        have hj0 : (0 : Int) ≤ (j : Int) := by omega
        by_cases hqc : q < cntN n bef (s ||| 2 ^ j)
        · rw [if_pos hqc] at hstep
          have hend : pkTo (cntN n bef) bef s k n = (some j, q) := (pkTo_found hstep).2.2.2.2 n (by omega)
          generalize hg : s ||| 2 ^ j = s2 at *
          generalize hcn : cntN n bef s2 = cn at *
          have HKQ := Lib.hid hkq; have HGR := Lib.hid hgr; have HCB := Lib.hid hcb; have HA := Lib.hid hA; have R6 := Lib.hid r6; have R10 := Lib.hid r10; have HSTEP := Lib.hid hstep; have HPJ := Lib.hid hpj; have HF := Lib.hid hf; have HS2 := Lib.hid hs2; have HG := Lib.hid hg; have HCN := Lib.hid hcn; have HEND := Lib.hid hend; have HS16 := Lib.hid hs16; clear hkq hgr hcb hA r6 r10 hstep hpj hf hs2 hg hcn hend hs16
          go_wp2_with fail
          refine (tfree_ cb b 0 cap n s j (bef j) _ hlt hn HS16.out hbf c0 (by simpa using hbc)).mono ?_
          rw [hf']
          rintro e w1 ⟨rfl, rfl⟩
          have HCR := Lib.hid hCr; clear hCr hbf hbc hf'
          go_wp2
          go_still_tail 5, (by kernel_rfl)
          go_wp2_with fail
          rw [hor]
          refine (tcount_ cb b mb n bef hn n s2 wr.drew hml HS2.out ⟨HCR.out.cells, HCR.out.befs, HCR.out.good, HCR.out.ne⟩).mono ?_
          rw [HCN.out]
          rintro e w2 ⟨rfl, hC2, hg2⟩
          have hm2 : kb ≠ mb := by
            rintro rfl
            obtain ⟨es, clock, h5, _⟩ := HCR.out.good
            rw [HKQ.out] at h5; cases h5
          have hkq2 : w2.heap[kb]? = some (.cells #[.int .i64 q] 2 (0, 0)) := (hg2.block kb zk (by simpa using hm2)).trans HKQ.out
          have ck2 : w2.cell? ⟨kb, 0, none⟩ = some (.int .i64 q) := cell_of_row w2 kb 0 _ _ _ hkq2
          have zk2 := lt_of_block hkq2
          have HC2 := Lib.hid hC2; have HG2 := Lib.hid hg2; have HKQ2 := Lib.hid hkq2; have HM2 := Lib.hid hm2; clear hC2 hg2 hkq2 hm2
          go_wp2
          go_ret2
          exact ⟨.inl ⟨j, by rw [HEND.out], rfl⟩, by rw [HEND.out]; exact HKQ2.out, HC2.out, HGR.out.drew.grown HG2.out⟩
        · rw [if_neg hqc] at hstep
          have hqn : decide (q < cntN n bef (s ||| 2 ^ j)) = false := by simpa using hqc
          have hq3 : 0 ≤ q - cntN n bef (s ||| 2 ^ j) := by omega
          have hq4 : q - cntN n bef (s ||| 2 ^ j) ≤ k := by omega
          generalize hg : s ||| 2 ^ j = s2 at *
          generalize hcn : cntN n bef s2 = cn at *
          clear hqc
          have HKQ := Lib.hid hkq; have HGR := Lib.hid hgr; have HCB := Lib.hid hcb; have HA := Lib.hid hA; have R6 := Lib.hid r6; have R10 := Lib.hid r10; have HSTEP := Lib.hid hstep; have HPJ := Lib.hid hpj; have HF := Lib.hid hf; have HS2 := Lib.hid hs2; have HG := Lib.hid hg; have HCN := Lib.hid hcn; have HS16 := Lib.hid hs16; clear hkq hgr hcb hA r6 r10 hstep hpj hf hs2 hg hcn hs16
          go_wp2_with fail
          refine (tfree_ cb b 0 cap n s j (bef j) _ hlt hn HS16.out hbf c0 (by simpa using hbc)).mono ?_
          rw [hf']
          rintro e w1 ⟨rfl, rfl⟩
          have HCR := Lib.hid hCr; clear hCr hbf hbc hf'
          go_wp2
          go_still_tail 5, (by kernel_rfl)
          go_wp2_with fail
          rw [hor]
          refine (tcount_ cb b mb n bef hn n s2 wr.drew hml HS2.out ⟨HCR.out.cells, HCR.out.befs, HCR.out.good, HCR.out.ne⟩).mono ?_
          rw [HCN.out]
          rintro e w2 ⟨rfl, hC2, hg2⟩
          have hm2 : kb ≠ mb := by
            rintro rfl
            obtain ⟨es, clock, h5, _⟩ := HCR.out.good
            rw [HKQ.out] at h5; cases h5
          have hkq2 : w2.heap[kb]? = some (.cells #[.int .i64 q] 2 (0, 0)) := (hg2.block kb zk (by simpa using hm2)).trans HKQ.out
          have ck2 : w2.cell? ⟨kb, 0, none⟩ = some (.int .i64 q) := cell_of_row w2 kb 0 _ _ _ hkq2
          have fk2 : w2.frozen? ⟨kb, 0, none⟩ = false := frozen_of_row _ _ 0 _ _ hkq2
          have zk2 := lt_of_block hkq2
          have HC2 := Lib.hid hC2; have HG2 := Lib.hid hg2; have HKQ2 := Lib.hid hkq2; have HM2 := Lib.hid hm2; clear hC2 hg2 hkq2 hm2
          go_wp2
          go_roundw
          case rel => exact ⟨j + 1, q - cn, by go_num, by omega, HSTEP.out, hq4, hq3, one_set HKQ2.out, HC2.out.store HKQ2.out (by decide) hbk _, (HGR.out.drew.grown HG2.out).set 0 _⟩
          case measure => simp [intOf]; omega
      · have hf' : freeOf (bef j) s j = false := by have : ¬ freeOf (bef j) s j = true := hf; simpa using this
        rw [if_neg hf] at hstep
        have HKQ := Lib.hid hkq; have HGR := Lib.hid hgr; have HCB := Lib.hid hcb; have HA := Lib.hid hA; have R6 := Lib.hid r6; have R10 := Lib.hid r10; have HSTEP := Lib.hid hstep; have HPJ := Lib.hid hpj; have HF := Lib.hid hf; have HS16 := Lib.hid hs16; clear hkq hgr hcb hA r6 r10 hstep hpj hf hs16
        go_wp2_with fail
        refine (tfree_ cb b 0 cap n s j (bef j) _ hlt hn HS16.out hbf c0 (by simpa using hbc)).mono ?_
        rw [hf']
        rintro e w1 ⟨rfl, rfl⟩
        have HCR := Lib.hid hCr; clear hCr hbf hbc hf'
        go_wp2
        go_roundw
        case rel => exact ⟨j + 1, q, by go_num, by omega, HSTEP.out, hq1, hq2, HKQ.out, HCR.out, HGR.out⟩
        case measure => simp [intOf]; omega
    · obtain rfl : j = n := by omega
      have HKQ := Lib.hid hkq; have HGR := Lib.hid hgr; have HCB := Lib.hid hcb; have HA := Lib.hid hA; have R6 := Lib.hid r6; have R10 := Lib.hid r10; have HPJ := Lib.hid hpj; have HS16 := Lib.hid hs16; have HCR := Lib.hid hCr; clear hkq hgr hcb hA r6 r10 hpj hs16 hCr
      go_wp2
      go_ret2
      exact ⟨.inr ⟨by rw [HPJ.out], rfl⟩, by rw [HPJ.out]; exact HKQ.out, HCR.out, HGR.out⟩
end Go.Proofs.Ytifpkdajfdlgeaa
