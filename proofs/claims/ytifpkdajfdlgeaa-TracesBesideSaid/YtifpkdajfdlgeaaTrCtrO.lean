/- The reference's counter: orders, by what is known. -/
import Derived.Test.YtifpkdajfdlgeaaTrCtrR
namespace Go.Proofs.Ytifpkdajfdlgeaa
open Go.RowKit

theorem gb_trans {w a b : World} {row : Option Nat} (h1 : w.grownBy a row) (h2 : a.grownBy b row) : w.grownBy b row :=
  ⟨h2.os.trans h1.os, h2.tape.trans h1.tape, h2.output.trans h1.output, Nat.le_trans h1.size h2.size, fun i hi hne => (h2.block i (Nat.lt_of_lt_of_le hi h1.size) hne).trans (h1.block i hi hne)⟩
theorem pw_cast (n : Nat) : (2 : Int) ^ n = ((2 ^ n : Nat) : Int) := by simp

set_option maxRecDepth 100000 in
set_option maxHeartbeats 4000000 in
theorem rorders_ (cb D : Nat) (p : Int) (A : Option Addr) (c : Nat) (ws : List GW) (hn : ws.length ≤ 16) (hat : ∀ x ∈ ws, 0 ≤ x.pl ∧ x.pl ≤ 22) : ∀ (m s : Nat) (w : World), miss ws.length s ≤ m → s < 2 ^ ws.length → RC w cb D p A c ws →
    Calls Try.prog 58 #[.pointer (some ⟨cb, 0, none⟩), .int .i64 (s : Int)] w fun e w' => e = .returned (.int .i64 (cntN ws.length (befW ws) s)) ∧ RC w' cb D p A c ws ∧ w.grownBy w' (some D) := by
  intro m
  induction m using Nat.strongRecOn with
  | _ m ih =>
    intro s w hms hs hC
    obtain ⟨N, hN⟩ : ∃ N, N = 2 ^ ws.length := ⟨_, rfl⟩
    have hN16 : N ≤ 65536 := by rw [hN]; exact Nat.pow_le_pow_right (by decide) hn
    have hN1 : 1 ≤ N := by rw [hN]; exact Nat.two_pow_pos _
    have hpw : (2 : Int) ^ ws.length = (N : Int) := by rw [hN]; exact pw_cast _
    have hsN : (s : Int) < (N : Int) := by rw [hN]; omega
    have hs0 : (0 : Int) ≤ (s : Int) := by omega
    have hNi : (N : Int) ≤ 65536 := by omega
    have hNj : (1 : Int) ≤ (N : Int) := by omega
    have hl64 : (ws.length : Int) < 64 := by omega
    have c1 : w.cell? ⟨cb, 1, none⟩ = some (.slice A ws.length c) := cell_of_row w cb 1 _ _ _ hC.blk
    have c2 : w.cell? ⟨cb, 2, none⟩ = some (.slice (some ⟨D, 0, none⟩) N N) := by rw [hN]; exact cell_of_row w cb 2 _ _ _ hC.blk
    have hcb := lt_of_block hC.blk
    obtain ⟨xs, hx1, hx2, hx3⟩ := hC.known
    have hDlt := hx2.lt
    have d1 := hx2.cell (j := s) (by rw [hx1]; exact hs)
    have hxs := hx3 s hs
    by_cases hfull : s = 2 ^ ws.length - 1
    · have hb : ((s : Int) == (N : Int) - 1) = true := by simp; omega
      have hr : cntN ws.length (befW ws) s = 1 := by rw [hfull]; exact cntN_full _ _
      rw [hr]
      have IH := Lib.hid ih; have HMS := Lib.hid hms; have HS := Lib.hid hs; have HC := Lib.hid hC; have HN := Lib.hid hN; have HX1 := Lib.hid hx1; have HX2 := Lib.hid hx2; have HX3 := Lib.hid hx3; have HXS := Lib.hid hxs; have HFULL := Lib.hid hfull; have HR := Lib.hid hr; clear ih hms hs hC hN hx1 hx2 hx3 hxs hfull hr
      clear d1 hN16 hN1
      go_enter Try.func58, Try.ntmps58
      go_wp2
      go_ret
      exact ⟨rfl, HC.out, World.grownBy.refl _ _⟩
    · have hb : ((s : Int) == (N : Int) - 1) = false := by simp; omega
      have hstep := cntN_step ws.length (befW ws) s hfull
      have hcb1 := cntN_bounds ws.length (befW ws) s
      by_cases hk : 0 ≤ xs.getD s 0
      · have hr : xs.getD s 0 = cntN ws.length (befW ws) s := by
          rcases hxs with h | h
          · omega
          · exact h
        rw [← hr]
        generalize xs.getD s 0 = kn at *
        have IH := Lib.hid ih; have HMS := Lib.hid hms; have HS := Lib.hid hs; have HC := Lib.hid hC; have HN := Lib.hid hN; have HX1 := Lib.hid hx1; have HX2 := Lib.hid hx2; have HX3 := Lib.hid hx3; have HXS := Lib.hid hxs; have HFULL := Lib.hid hfull; have HR := Lib.hid hr; have HSTEP := Lib.hid hstep; have HCB1 := Lib.hid hcb1; clear ih hms hs hC hN hx1 hx2 hx3 hxs hfull hr hstep hcb1
        clear hN16 hN1
        go_enter Try.func58, Try.ntmps58
        go_wp2
        go_ret
        exact ⟨rfl, HC.out, World.grownBy.refl _ _⟩
      · generalize xs.getD s 0 = kn at *
        have IH := Lib.hid ih; have HMS := Lib.hid hms; have HS := Lib.hid hs; have HC := Lib.hid hC; have HN := Lib.hid hN; have HX1 := Lib.hid hx1; have HX2 := Lib.hid hx2; have HX3 := Lib.hid hx3; have HXS := Lib.hid hxs; have HFULL := Lib.hid hfull; have HSTEP := Lib.hid hstep; have HCB1 := Lib.hid hcb1; clear ih hms hs hC hN hx1 hx2 hx3 hxs hfull hstep hcb1
        clear hN16 hN1
        go_enter Try.func58, Try.ntmps58
        go_wp2
        clear d1 hb
        go_loopw [5, 6] (fun v i wr => ∃ k : Nat, i = .int .i64 k ∧ k ≤ ws.length ∧ v = .int .i64 (accF (cntN ws.length (befW ws)) (befW ws) s k) ∧ RC wr cb D p A c ws ∧ w.grownBy wr (some D)) (fun _ i _ => ws.length - (intOf i).toNat)
        case atStart => exact ⟨0, rfl, Nat.zero_le _, rfl, HC.out, World.grownBy.refl _ _⟩
        case round =>
          obtain ⟨k, rfl, hk2, rfl, hCr, hgr⟩ := hrel
          have e1 : wr.cell? ⟨cb, 1, none⟩ = some (.slice A ws.length c) := cell_of_row wr cb 1 _ _ _ hCr.blk
          have e2 : wr.cell? ⟨cb, 2, none⟩ = some (.slice (some ⟨D, 0, none⟩) N N) := by rw [HN.out]; exact cell_of_row wr cb 2 _ _ _ hCr.blk
          have hcbr := lt_of_block hCr.blk
          have hab := accF_bounds (g := cntN ws.length (befW ws)) (bef := befW ws) (s := s) (fun t => (cntN_bounds ws.length (befW ws) t).1) k
          have hac : accF (cntN ws.length (befW ws)) (befW ws) s (k + 1) = if freeB (befW ws) s k = true then min (accF (cntN ws.length (befW ws)) (befW ws) s k + cntN ws.length (befW ws) (s ||| 2 ^ k)) 1000000001 else accF (cntN ws.length (befW ws)) (befW ws) s k := rfl
          have HAC := Lib.hid hac; clear hac
          generalize hacc : accF (cntN ws.length (befW ws)) (befW ws) s k = acc at *
          obtain ⟨hab1, hab2⟩ := hab
          have hs16 : s < 65536 := by omega
          have HCR := Lib.hid hCr; have HGR := Lib.hid hgr; have HACC := Lib.hid hacc; clear hCr hgr hacc
          by_cases hlt : k < ws.length
          · by_cases hf : freeB (befW ws) s k = true
            · have hmlt := miss_set hlt (freeB_bit hf)
              have hcb2 := cntN_bounds ws.length (befW ws) (s ||| 2 ^ k)
              have hor : (s : Int) + 2 ^ k = ((s ||| 2 ^ k : Nat) : Int) := by rw [pw_cast, ← add_set (freeB_bit hf)]; simp
              have hs2 : s ||| 2 ^ k < 2 ^ ws.length := Nat.or_lt_two_pow HS.out (Nat.pow_lt_pow_right (by decide) hlt)
              have hp1 : (0 : Int) ≤ 2 ^ k := by rw [pw_cast]; exact Int.natCast_nonneg _
              have hp2 : (2 : Int) ^ k ≤ 65536 := by
                have h1 : 2 ^ k ≤ 2 ^ 16 := Nat.pow_le_pow_right (by decide) (by omega)
                rw [pw_cast]; omega
              have hk64 : (k : Int) < 64 := by omega
              generalize hg : s ||| 2 ^ k = s2 at *
              have HS2 := Lib.hid hs2; have HF := Lib.hid hf; have HG := Lib.hid hg; have HS16 := Lib.hid hs16; clear hs2 hf hg hs16
              obtain ⟨hcb3, hcb4⟩ := hcb2
              go_wp2_with fail
              refine (rfree_ cb D p A c s k ws _ HCR.out hn HS16.out hlt hat).mono ?_
              rw [HF.out]
              rintro e w1 ⟨rfl, hb1⟩
              have hC1 := HCR.out.later hb1
              have HC1 := Lib.hid hC1; have HB1 := Lib.hid hb1; clear hC1 hb1
              go_wp2_with fail
              refine (IH.out (miss ws.length s2) (by have := HMS.out; omega) s2 _ (Nat.le_refl _) HS2.out HC1.out).mono ?_
              rintro e w2 ⟨rfl, hC2, hg2⟩
              go_wp2
              go_roundw
              case rel =>
                refine ⟨k + 1, by go_num, by omega, ?_, hC2, gb_trans (gb_trans HGR.out (gb_none HB1.out _)) hg2⟩
                · rw [HAC.out, if_pos HF.out]
                  congr 1
                  split <;> omega
              case measure => simp [intOf]; omega
            · have hf' : freeB (befW ws) s k = false := by simpa using hf
              clear hf
              have HFp := Lib.hid hf'; have HS16 := Lib.hid hs16; clear hf' hs16
              go_wp2_with fail
              refine (rfree_ cb D p A c s k ws _ HCR.out hn HS16.out hlt hat).mono ?_
              rw [HFp.out]
              rintro e w1 ⟨rfl, hb1⟩
              have hC1 := HCR.out.later hb1
              have HC1 := Lib.hid hC1; have HB1 := Lib.hid hb1; clear hC1 hb1
              go_wp2
              go_roundw
              case rel => exact ⟨k + 1, by go_num, by omega, by rw [HAC.out, if_neg (by rw [HFp.out]; simp)], HC1.out, gb_trans HGR.out (gb_none HB1.out _)⟩
              case measure => simp [intOf]; omega
          · obtain rfl : k = ws.length := by omega
            obtain ⟨ys, y1, y2, y3⟩ := HCR.out.known
            have f1 := y2.cell (j := s) (by rw [y1]; exact HS.out)
            have f2 := y2.free s
            have hDr := y2.lt
            generalize ys.getD s 0 = old at *
            have Y1 := Lib.hid y1; have Y2 := Lib.hid y2; have Y3 := Lib.hid y3; have HS16 := Lib.hid hs16; clear y1 y2 y3 hs16
            go_wp2
            go_ret
            refine ⟨ret_int (by rw [HSTEP.out, HACC.out]), ⟨?_, ?_, ⟨ys.set s acc, by rw [List.length_set]; exact Y1.out, Y2.out.set s acc, fun t ht => ?_⟩, HCR.out.ne⟩, ?_⟩
            · rw [heap_setCell_other _ _ _ _ HCR.out.neD]; exact HCR.out.blk
            · refine ⟨HCR.out.rd.1, HCR.out.rd.2.1, fun h0 => ?_⟩
              obtain ⟨b, off, hA, hbl, hcl⟩ := HCR.out.rd.2.2 h0
              refine ⟨b, off, hA, by simpa using hbl, fun j hj => ?_⟩
              rw [World.cell?_setCell_other _ _ _ _ (by simp; intro h; exact absurd h.symm (HCR.out.ne (by omega) b off hA))]
              exact hcl j hj
            · rw [List.getD_eq_getElem?_getD, List.getElem?_set]
              by_cases hst : s = t
              · subst hst
                rw [if_pos rfl, if_pos (by rw [Y1.out]; exact HS.out)]
                right
                rw [HSTEP.out, HACC.out]; rfl
              · rw [if_neg hst, ← List.getD_eq_getElem?_getD]
                exact Y3.out t ht
            · exact GB.setCell HGR.out (.inl rfl) _
end Go.Proofs.Ytifpkdajfdlgeaa
