/- The reference's counted and Orders. -/
import Derived.Test.YtifpkdajfdlgeaaTrCtrO
namespace Go.Proofs.Ytifpkdajfdlgeaa
open Go.RowKit

theorem info_i64_Try : (Try.prog.info? 2).map (fun i => (i.zero, i.size, i.bytes)) = some (some (.int .i64 0), 1, 8) := by kernel_rfl
def RcPost (p : Int) (A : Option Addr) (c : Nat) (ws : List GW) (w : World) (e : Ending) (w' : World) : Prop :=
  ∃ v, e = .returned (.tuple #[v, .int .i64 (cntdNum p ws), .int .i64 (cntdErr p ws)]) ∧ Below w.heap.size w w' ∧
    (cntdErr p ws = 0 → ∃ cb D, v = .pointer (some ⟨cb, 0, none⟩) ∧ RC w' cb D p A c ws ∧ w.heap.size ≤ D)
theorem IntsAt.made (w : World) (n T : Nat) : IntsAt (w.alloc (.cells (madeCells #[.int .i64 0] n) T)) w.heap.size T (List.replicate n 0) := by
  unfold IntsAt
  rw [heap_alloc_new, show madeCells #[Value.int .i64 0] n = Array.replicate n (.int .i64 0) by apply Array.ext'; rw [toList_madeCells_one]; simp]
  simp [ints]
theorem rdW_ne {w : World} {A : Option Addr} {ws : List GW} (h : RdW w A ws) (hn : 0 < ws.length) (b off : Nat) (hA : A = some ⟨b, off, none⟩) : b < w.heap.size := by
  obtain ⟨b', off', hA', hb, _⟩ := h.2.2 (by omega)
  rw [hA'] at hA
  injection hA with hA
  injection hA with hA
  omega

set_option maxRecDepth 100000 in
set_option maxHeartbeats 4000000 in
theorem rcounted_ (p : Int) (A : Option Addr) (c : Nat) (ws : List GW) (w : World) (ha : ShIn w p A ws) (hne : 0 < ws.length → ∀ b off, A = some ⟨b, off, none⟩ → b < w.heap.size) :
    Calls Try.prog 53 #[.agg #[.int .i64 p, .slice A ws.length c]] w (RcPost p A c ws w) := by
  have hb2 : Below w.heap.size w (w.alloc (.cells #[.int .i64 p, .slice A ws.length c] 24)) := (Below.refl _ _).alloc (Nat.le_refl _) _
  by_cases he : errSheet p ws = 0
  rotate_left
  · have heb : (errSheet p ws != 0) = true := by simpa using he
    have h3 : cntdErr p ws = errSheet p ws := by unfold cntdErr; rw [if_pos he]
    have hnum : cntdNum p ws = 0 := by unfold cntdNum; rw [h3, if_neg he]
    have hfin : cntdErr p ws ≠ 0 := by rw [h3]; exact he
    have HA := Lib.hid ha; have HB2 := Lib.hid hb2; have HE := Lib.hid he; have H3 := Lib.hid h3; have HNUM := Lib.hid hnum; have HFIN := Lib.hid hfin; have HNE := Lib.hid hne; clear ha hb2 he h3 hnum hfin hne
    go_enter Try.func53, Try.ntmps53
    go_wp2_with fail
    refine (rCheck_ _ _ _ _ _ HA.out.lo HA.out.hi (HA.out.rd.later HB2.out (Nat.le_refl _))).mono ?_; rintro e w1 ⟨rfl, hb1⟩
    go_wp2
    go_ret3
    exact ⟨.pointer none, by rw [H3.out, HNUM.out]; rfl, HB2.out.trans (hb1.mono (by simp)), fun h => absurd h HFIN.out⟩
  · have hok : OkS p ws := he
    obtain ⟨_, hp24, hlen, hall⟩ := hok.all
    have hwsd : ∀ x ∈ ws, 0 ≤ x.pl ∧ x.pl ≤ 22 := fun x hx => by
      obtain ⟨_, h1, h2, _⟩ := hall x hx
      exact ⟨h1, by omega⟩
    have hec := he
    by_cases hl : 16 < ws.length
    · have h3 : cntdErr p ws = 3 := by unfold cntdErr; rw [if_neg (by rw [he]; simp), if_pos hl]
      have hnum : cntdNum p ws = 0 := by unfold cntdNum; rw [h3]; rfl
      have HA := Lib.hid ha; have HB2 := Lib.hid hb2; have HE := Lib.hid he; have HOK := Lib.hid hok; have HALL := Lib.hid hall; have HWSD := Lib.hid hwsd; have H3 := Lib.hid h3; have HNUM := Lib.hid hnum; have HNE := Lib.hid hne; clear ha hb2 he hok hall hwsd h3 hnum hne
      go_enter Try.func53, Try.ntmps53
      go_wp2_with fail
      refine (rCheck_ _ _ _ _ _ HA.out.lo HA.out.hi (HA.out.rd.later HB2.out (Nat.le_refl _))).mono ?_
      rw [hec]
      clear hec
      rintro e w1 ⟨rfl, hb1⟩
      have a1 : w1.cell? ⟨w.heap.size, 1, none⟩ = some (.slice A ws.length c) := below_at hb1 (Nat.le_refl _) (by go_simp)
      have hs1 : w.heap.size < w1.heap.size := by have := hb1.size; simp at this; omega
      go_wp2
      go_ret3
      exact ⟨.pointer none, by rw [H3.out, HNUM.out]; rfl, HB2.out.trans (hb1.mono (by simp)), fun h => by rw [H3.out] at h; omega⟩
    · have hn16 : ws.length ≤ 16 := by omega
      obtain ⟨N, hN⟩ : ∃ N, N = 2 ^ ws.length := ⟨_, rfl⟩
      have hN16 : N ≤ 65536 := by rw [hN]; exact Nat.pow_le_pow_right (by decide) hn16
      have hN1 : 1 ≤ N := by rw [hN]; exact Nat.two_pow_pos _
      have hpw : (2 : Int) ^ ws.length = (N : Int) := by rw [hN]; exact pw_cast _
      have hNi : (N : Int) ≤ 65536 := by omega
      have hNj : (1 : Int) ≤ (N : Int) := by omega
      have hl64 : (ws.length : Int) < 64 := by omega
      have t1 : decide ((16 : Int) < (ws.length : Int)) = false := by simp; omega
      have hmk := run_make_row' (P := Try.prog) 103 2 (.int .i64 0) 8 Try.underlying103 info_i64_Try rfl .i64 .i64 N (by omega) (by omega)
      have HA := Lib.hid ha; have HB2 := Lib.hid hb2; have HE := Lib.hid he; have HOK := Lib.hid hok; have HALL := Lib.hid hall; have HWSD := Lib.hid hwsd; have HN := Lib.hid hN; have HNE := Lib.hid hne; clear ha hb2 he hok hall hwsd hN hne
      go_enter Try.func53, Try.ntmps53
      go_wp2_with fail
      refine (rCheck_ _ _ _ _ _ HA.out.lo HA.out.hi (HA.out.rd.later HB2.out (Nat.le_refl _))).mono ?_
      rw [hec]
      clear hec
      rintro e w1 ⟨rfl, hb1⟩
      have a0 : w1.cell? ⟨w.heap.size, 0, none⟩ = some (.int .i64 p) := below_at hb1 (Nat.le_refl _) (by go_simp)
      have a1 : w1.cell? ⟨w.heap.size, 1, none⟩ = some (.slice A ws.length c) := below_at hb1 (Nat.le_refl _) (by go_simp)
      have hs1 : w.heap.size < w1.heap.size := by have := hb1.size; simp at this; omega
      have Y1 := Lib.hid (HB2.out.trans (hb1.mono (by simp))); clear hb1
      go_wp2
      go_region
      go_wp2
      have hI0 : IntsAt (w1.alloc (.cells (madeCells #[.int .i64 0] N) 2)) w1.heap.size 2 (List.replicate N 0) := IntsAt.made _ _ _
      have hI1 := (hI0.alloc (.cells #[.int .i64 p, .slice A ws.length c, .slice (some ⟨w1.heap.size, 0, none⟩) N N] 105)).drew
      have hC1 : (((w1.alloc (.cells (madeCells #[.int .i64 0] N) 2)).alloc (.cells #[.int .i64 p, .slice A ws.length c, .slice (some ⟨w1.heap.size, 0, none⟩) N N] 105)).drew).heap[w1.heap.size + 1]? = some (.cells #[.int .i64 p, .slice A ws.length c, .slice (some ⟨w1.heap.size, 0, none⟩) N N] 105 (0, 0)) := heap_alloc2_new _ _ _
      have hB1 : Below w1.heap.size w1 (((w1.alloc (.cells (madeCells #[.int .i64 0] N) 2)).alloc (.cells #[.int .i64 p, .slice A ws.length c, .slice (some ⟨w1.heap.size, 0, none⟩) N N] 105)).drew) := (((Below.refl _ _).alloc (Nat.le_refl _) _).alloc (by simp) _).drew
      clear hI0 hmk
      have HI1 := Lib.hid hI1; have HC1 := Lib.hid hC1; have HB1 := Lib.hid hB1; clear hI1 hC1 hB1
      go_loopw [7] (fun iv wr => ∃ (j : Nat) (xs : List Int), iv = .int .i64 j ∧ j ≤ N ∧ xs.length = N ∧ IntsAt wr w1.heap.size 2 xs ∧ (∀ t, t < j → xs.getD t 0 = -1) ∧
        wr.heap[w1.heap.size + 1]? = some (.cells #[.int .i64 p, .slice A ws.length c, .slice (some ⟨w1.heap.size, 0, none⟩) N N] 105 (0, 0)) ∧ Below w1.heap.size w1 wr) (fun iv _ => N - (intOf iv).toNat)
      case atStart => exact ⟨0, List.replicate N 0, rfl, Nat.zero_le _, by simp, HI1.out, fun t ht => absurd ht (by omega), HC1.out, HB1.out⟩
      case round =>
        obtain ⟨j, xs, rfl, hj, hxl, hI, hfill, hC, hbw⟩ := hrel
        have e2 : wr.cell? ⟨w1.heap.size + 1, 2, none⟩ = some (.slice (some ⟨w1.heap.size, 0, none⟩) N N) := cell_of_row wr _ 2 _ _ _ hC
        have hCl := lt_of_block hC
        have hIl := hI.lt
        by_cases hlt : j < N
        · have d1 := hI.cell (j := j) (by omega)
          have d2 := hI.free j
          have x1 : (0 : Int) ≤ (j : Int) := by omega
          have x2 : (j : Int) < (N : Int) := by omega
          generalize xs.getD j 0 = old at *
          have HXL := Lib.hid hxl; have HI := Lib.hid hI; have HFILL := Lib.hid hfill; have HC := Lib.hid hC; have HBW := Lib.hid hbw; clear hxl hI hfill hC hbw
          go_wp2
          go_roundw
          case rel =>
            refine ⟨j + 1, xs.set j (-1), by go_num, by omega, by rw [List.length_set]; exact HXL.out, HI.out.set j (-1), fun t ht => ?_, ?_, HBW.out.setCell (Nat.le_refl _) _⟩
            · rw [List.getD_eq_getElem?_getD, List.getElem?_set]
              by_cases hjt : j = t
              · rw [if_pos hjt, if_pos (by rw [HXL.out]; omega)]; rfl
              · rw [if_neg hjt, ← List.getD_eq_getElem?_getD]
                exact HFILL.out t (by omega)
            · rw [heap_setCell_other _ _ _ _ (by simp)]; exact HC.out
          case measure => simp [intOf]; omega
        · obtain rfl : j = N := by omega
          have hRC : RC wr (w1.heap.size + 1) w1.heap.size p A c ws := by
            refine ⟨by rw [← HN.out]; exact hC, HA.out.rd.later (Y1.out.trans (hbw.mono Y1.out.size)) (Nat.le_refl _), ⟨xs, by rw [hxl, HN.out], hI, fun t ht => .inl (hfill t (by rw [HN.out]; exact ht))⟩, fun h0 b off hA => ?_⟩
            have := HNE.out h0 b off hA
            have := Y1.out.size
            omega
          have hpw0 : 0 < 2 ^ ws.length := Nat.two_pow_pos _
          have hml := miss_le ws.length 0
          obtain ⟨hcb1, hcb2⟩ := cntN_bounds ws.length (befW ws) 0
          have HRC := Lib.hid hRC; have HPW0 := Lib.hid hpw0; have HML := Lib.hid hml; have HXL := Lib.hid hxl; have HI := Lib.hid hI; have HFILL := Lib.hid hfill; have HC := Lib.hid hC; have HBW := Lib.hid hbw; clear hRC hpw0 hml hxl hI hfill hC hbw
          by_cases hbig : 1000000000 < cntN ws.length (befW ws) 0
          · have h5 : cntdErr p ws = 5 := by unfold cntdErr; rw [if_neg (by rw [HE.out]; simp), if_neg hl, if_pos hbig]
            have hnum : cntdNum p ws = 0 := by unfold cntdNum; rw [h5]; rfl
            have H5 := Lib.hid h5; have HNUM := Lib.hid hnum; clear h5 hnum
            go_wp2_with fail
            refine (rorders_ (w1.heap.size + 1) w1.heap.size p A c ws hn16 HWSD.out ws.length 0 _ HML.out HPW0.out HRC.out).mono ?_
            rintro e w2 ⟨rfl, hC2, hg2⟩
            go_wp2
            go_ret3
            refine ⟨.pointer none, by rw [H5.out, HNUM.out]; rfl, ?_, fun h => by rw [H5.out] at h; omega⟩
            exact Y1.out.trans ((HBW.out.trans (GB.below hg2 (Nat.le_refl _) HBW.out.size)).mono Y1.out.size)
          · have h5 : cntdErr p ws = 0 := by unfold cntdErr; rw [if_neg (by rw [HE.out]; simp), if_neg hl, if_neg (by omega)]
            have hnum : cntdNum p ws = cntN ws.length (befW ws) 0 := by unfold cntdNum; rw [if_pos h5]
            have H5 := Lib.hid h5; have HNUM := Lib.hid hnum; clear h5 hnum
            go_wp2_with fail
            refine (rorders_ (w1.heap.size + 1) w1.heap.size p A c ws hn16 HWSD.out ws.length 0 _ HML.out HPW0.out HRC.out).mono ?_
            rintro e w2 ⟨rfl, hC2, hg2⟩
            go_wp2
            go_ret3
            refine ⟨.pointer (some ⟨w1.heap.size + 1, 0, none⟩), by rw [H5.out, HNUM.out]; rfl, ?_, fun _ => ⟨_, _, rfl, hC2, Y1.out.size⟩⟩
            exact Y1.out.trans ((HBW.out.trans (GB.below hg2 (Nat.le_refl _) HBW.out.size)).mono Y1.out.size)

set_option maxHeartbeats 1000000 in
theorem rOrders5_ (p : Int) (A : Option Addr) (c : Nat) (ws : List GW) (w : World) (ha : ShIn w p A ws) (hne : 0 < ws.length → ∀ b off, A = some ⟨b, off, none⟩ → b < w.heap.size) :
    Calls Try.prog 34 #[.agg #[.int .i64 p, .slice A ws.length c]] w fun e w' => e = .returned (.tuple #[.int .i64 (cntdNum p ws), .int .i64 (cntdErr p ws)]) ∧ Below w.heap.size w w' := by
  have hb2 : Below w.heap.size w (w.alloc (.cells #[.int .i64 p, .slice A ws.length c] 24)) := (Below.refl _ _).alloc (Nat.le_refl _) _
  have HA := Lib.hid ha; have HB2 := Lib.hid hb2; have HNE := Lib.hid hne; clear ha hb2 hne
  go_enter Try.func34, Try.ntmps34
  go_wp2_with fail
  refine (rcounted_ p A c ws _ (HA.out.later HB2.out (Nat.le_refl _)) (fun h0 b off hA => Nat.lt_of_lt_of_le (HNE.out h0 b off hA) HB2.out.size)).mono ?_
  rintro e w1 ⟨v, rfl, hb1, _⟩
  go_wp2
  go_ret2
  exact ⟨rfl, HB2.out.trans (hb1.mono (by simp))⟩
end Go.Proofs.Ytifpkdajfdlgeaa
