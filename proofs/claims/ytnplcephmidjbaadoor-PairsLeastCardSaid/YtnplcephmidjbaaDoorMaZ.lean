/- Texts of this claim, laid together: PrLLeast. -/
import Derived.Test.YtnplcephmidjbaaDoorMaT
import Derived.Test.YtnplcephmidjbaaDoorMaY
/- The law PairsLeast returns true. -/
namespace Go.Proofs.YtnplcephmidjbaaDoor
open Go.RowKit

theorem few_hang {p : Int} {ws : List GW} (he : errSheet p ws = 0) (hx : fewX p ws = 0) : reoX p ws (fewL p ws) = 0 ∧ hangN p ws (fewL p ws) = fewN p ws := by
  obtain ⟨h1, _, h3⟩ := few_ord hx
  have hr : reoX p ws (fewL p ws) = 0 := by unfold reoX; rw [if_pos he, if_pos h1]
  refine ⟨hr, ?_⟩
  unfold hangN
  rw [if_pos hr, h3]

set_option maxRecDepth 100000 in
set_option maxHeartbeats 8000000 in
theorem lawLeast_ (p : Int) (A L : Option Addr) (c lc : Nat) (ws : List GW) (l : List Int) (w : World) (ha : ShIn w p A ws) (hl : RdI w L l) (hT : Tz w) :
    Calls Tryd.prog 6 #[.agg #[.int .i64 p, .slice A ws.length c], .slice L l.length lc] w fun e w' => e = .returned (.bool true) ∧ Below w.heap.size w w' := by
  have hb2 : Below w.heap.size w (w.alloc (.cells #[.int .i64 p, .slice A ws.length c] 24)) := (Below.refl _ _).alloc (Nat.le_refl _) _
  have Y0 := Lib.hid hb2; clear hb2
  have X0 := Lib.hid (Box1.made w p A c ws.length 24)
  have HA := Lib.hid ha; have HL := Lib.hid hl; have HT := Lib.hid hT; clear ha hl hT
  by_cases h2 : 2000 < (l.length : Int)
  · go_enter Tryd.func6, Tryd.ntmps6
    go_wp2_with fail
    refine (far12_ p A c ws _ (HA.out.rd.later Y0.out (Nat.le_refl _))).mono ?_; rintro e w1 ⟨z, rfl, _, hb1⟩
    cases z
    all_goals
      have X1 := Lib.hid (X0.out.later hb1); have Y1 := Lib.hid (Y0.out.trans (hb1.mono Y0.out.size)); clear hb1; obtain ⟨c1, c2, s1⟩ := X1.out
      go_wp2_with fail
      clear c1 c2 s1
      refine (shown_ _ (HT.out.later Y1.out (Nat.le_refl _))).mono ?_; rintro e w8 ⟨rfl, hb1⟩
      go_wp2
      go_ret
      exact ⟨rfl, Y1.out.trans (hb1.mono Y1.out.size)⟩
  go_enter Tryd.func6, Tryd.ntmps6
  go_wp2_with fail
  refine (far12_ p A c ws _ (HA.out.rd.later Y0.out (Nat.le_refl _))).mono ?_; rintro e w1 ⟨z, rfl, _, hb1⟩
  cases z
  rotate_left
  · have X1 := Lib.hid (X0.out.later hb1); have Y1 := Lib.hid (Y0.out.trans (hb1.mono Y0.out.size)); clear hb1; obtain ⟨c1, c2, s1⟩ := X1.out
    go_wp2_with fail
    clear c1 c2 s1
    refine (shown_ _ (HT.out.later Y1.out (Nat.le_refl _))).mono ?_; rintro e w8 ⟨rfl, hb1⟩
    go_wp2
    go_ret
    exact ⟨rfl, Y1.out.trans (hb1.mono Y1.out.size)⟩
  have X1 := Lib.hid (X0.out.later hb1); have Y1 := Lib.hid (Y0.out.trans (hb1.mono Y0.out.size)); clear hb1; obtain ⟨c1, c2, s1⟩ := X1.out
  go_wp2_with fail
  clear c1 c2 s1
  refine (rCheck_ p A c ws _ HA.out.lo HA.out.hi (HA.out.rd.later Y1.out (Nat.le_refl _))).mono ?_; rintro e w2 ⟨rfl, hb1⟩
  by_cases he : errSheet p ws = 0
  rotate_left
  · have heb : (errSheet p ws != 0) = true := by simpa using he
    generalize errSheet p ws = E at *
    clear he
    have X2 := Lib.hid (X1.out.later hb1); have Y2 := Lib.hid (Y1.out.trans (hb1.mono Y1.out.size)); clear hb1; obtain ⟨c1, c2, s1⟩ := X2.out
    go_wp2_with fail
    clear c1 c2 s1
    refine (shown_ _ (HT.out.later Y2.out (Nat.le_refl _))).mono ?_; rintro e w8 ⟨rfl, hb1⟩
    go_wp2
    go_ret
    exact ⟨rfl, Y2.out.trans (hb1.mono Y2.out.size)⟩
  have hE := Lib.hid he
  rw [he]
  clear he
  have X2 := Lib.hid (X1.out.later hb1); have Y2 := Lib.hid (Y1.out.trans (hb1.mono Y1.out.size)); clear hb1; obtain ⟨c1, c2, s1⟩ := X2.out
  go_wp2_with fail
  clear c1 c2 s1
  refine (rOrder_ p A L c lc ws l _ hE.out (HA.out.rd.later Y2.out (Nat.le_refl _)) (HL.out.later Y2.out (Nat.le_refl _))).mono ?_; rintro e w3 ⟨rfl, hb1⟩
  by_cases ho : ordQ ws l = true
  rotate_left
  · rw [show ordQ ws l = false by simpa using ho]
    clear ho
    have X3 := Lib.hid (X2.out.later hb1); have Y3 := Lib.hid (Y2.out.trans (hb1.mono Y2.out.size)); clear hb1; obtain ⟨c1, c2, s1⟩ := X3.out
    go_wp2_with fail
    clear c1 c2 s1
    refine (shown_ _ (HT.out.later Y3.out (Nat.le_refl _))).mono ?_; rintro e w8 ⟨rfl, hb1⟩
    go_wp2
    go_ret
    exact ⟨rfl, Y3.out.trans (hb1.mono Y3.out.size)⟩
  have hO := Lib.hid ho
  rw [ho]
  clear ho
  have hr0 : reoX p ws l = 0 := by unfold reoX; rw [if_pos hE.out, if_pos hO.out]
  have hhN : hangN p ws l = needQ (plsOf (reoG ws l)) l.length l.length := by unfold hangN; rw [if_pos hr0]
  have hhL : (hangL p ws l).length = l.length := by unfold hangL; rw [if_pos hr0]; exact hangsL_length _ _ _
  have hln := (ord_val hO.out).1
  have hp2 := (okAll hE.out).1
  obtain ⟨P, rfl⟩ := Int.eq_ofNat_of_zero_le (show 0 ≤ p by omega)
  have HR0 := Lib.hid hr0; have HHN := Lib.hid hhN; have HHL := Lib.hid hhL; have HLN := Lib.hid hln; clear hr0 hhN hhL hln
  have X3 := Lib.hid (X2.out.later hb1); have Y3 := Lib.hid (Y2.out.trans (hb1.mono Y2.out.size)); clear hb1; obtain ⟨c1, c2, s1⟩ := X3.out
  go_wp2_with fail
  clear c1 c2 s1
  refine (pHanging_ (P : Int) A L c lc ws l _ (HA.out.later Y3.out (Nat.le_refl _)) (HL.out.later Y3.out (Nat.le_refl _))).mono ?_
  rw [HR0.out]
  rintro e w4 ⟨v1, rfl, hv1, hb1⟩
  obtain ⟨B1, d1, rfl, _⟩ := hv1
  rw [HHL.out]
  generalize hN : hangN (P : Int) ws l = N at *
  have HN := Lib.hid hN; clear hN
  have X4 := Lib.hid (X3.out.later hb1); have Y4 := Lib.hid (Y3.out.trans (hb1.mono Y3.out.size)); clear hb1; obtain ⟨c1, c2, s1⟩ := X4.out
  go_wp2_with fail
  clear c1 c2 s1
  refine (pBound_ (P : Int) A c ws _ (HA.out.later Y4.out (Nat.le_refl _)) (HT.out.later Y4.out (Nat.le_refl _))).mono ?_
  rintro e w5 ⟨v2, rfl, hv2, hb1⟩
  have Y5 := Lib.hid (Y4.out.trans (hb1.mono Y4.out.size))
  have X5 := Lib.hid (X4.out.later hb1)
  clear hb1
  obtain ⟨B2, d2, rfl, hv2⟩ := hv2
  rcases Nat.eq_zero_or_pos l.length with hl0 | hl0
  · have hx : bndX (P : Int) ws = 4 := by unfold bndX; rw [if_pos hE.out, if_pos (by rw [← HLN.out]; exact hl0)]
    have hn0 : N = 0 := by rw [HHN.out, hl0]; rfl
    subst hn0
    rw [hx]
    have hl0b : ((l.length : Int) == 0) = true := by simp [hl0]
    obtain ⟨c1, c2, s1⟩ := X5.out
    generalize bndW (P : Int) ws = K at *
    generalize bndL (P : Int) ws = ML at *
    clear hl0 hx
    go_wp2_with fail
    have b0 := (Below.refl w5.heap.size w5).alloc (Nat.le_refl _) (.cells #[.int .i64 (K : Int), .slice B2 ML.length d2] 37)
    have Y6 := Lib.hid (Y5.out.trans (b0.mono Y5.out.size))
    refine (shown_ _ (HT.out.later Y6.out (Nat.le_refl _))).mono ?_; rintro e w8 ⟨rfl, hb1⟩
    go_wp2
    go_ret
    exact ⟨rfl, Y6.out.trans (hb1.mono Y6.out.size)⟩
  have hwl : 0 < ws.length := by rw [← HLN.out]; exact hl0
  have hx : bndX (P : Int) ws = 0 := by unfold bndX; rw [if_pos hE.out, if_neg (by omega)]
  rw [hx]
  have hl0b : ((l.length : Int) == 0) = false := by rw [beq_eq_false_iff_ne]; omega
  have hK : bndW (P : Int) ws = bstW (mrkC (plsOf ws) ws.length) ws.length := by unfold bndW; rw [if_pos hx]
  have hML : bndL (P : Int) ws = plL (fun p => (bothN (plsOf ws) ws.length (bndW (P : Int) ws)).testBit p) 24 := by unfold bndL; rw [if_pos hx, hK]
  have hKn : bndW (P : Int) ws < ws.length := by
    rw [hK]
    obtain ⟨m, hm⟩ : ∃ m, ws.length = m + 1 := ⟨ws.length - 1, by omega⟩
    have := (bstW_is (mrkC (plsOf ws) ws.length) m).lt
    rw [← hm] at this
    exact this
  have hMl : (bndL (P : Int) ws).length = mrkC (plsOf ws) ws.length (bndW (P : Int) ws) := by rw [hML, plL_len]; rfl
  have hMN : (bndL (P : Int) ws).length ≤ N := by rw [hMl, HHN.out]; exact mark_need hO.out hKn
  have hMm : ∀ x ∈ bndL (P : Int) ws, ∃ p : Nat, x = (p : Int) ∧ MarkP (plsOf ws) ws.length (bndW (P : Int) ws) p := fun x hx => by
    rw [hML] at hx
    unfold plL at hx
    obtain ⟨b, hb, rfl⟩ := List.mem_map.1 hx
    rw [List.mem_filter] at hb
    exact ⟨b, rfl, (bothN_bit hKn).1 hb.2⟩
  have hMF : fewX (P : Int) ws = 0 → (bndL (P : Int) ws).length ≤ fewN (P : Int) ws := fun hfx => by
    obtain ⟨f1, f2, f3⟩ := few_ord hfx
    rw [hMl, ← f3]; exact mark_need f1 hKn
  have hKl : (bndW (P : Int) ws : Int) < (l.length : Int) := by have := HLN.out; omega
  have hhg := fun W h1 h2 h3 => hangs12_ P (bndW (P : Int) ws) A L B2 c lc d2 ws l (bndL (P : Int) ws) W hE.out hO.out hKn hMm h1 h2 h3
  generalize bndW (P : Int) ws = K at *
  generalize bndL (P : Int) ws = ML at *
  obtain ⟨c1, c2, s1⟩ := X5.out
  clear hx hK hML hMl hMm
  have HV2 := Lib.hid hv2
  clear hv2
  have HMF := Lib.hid hMF; have HKN := Lib.hid hKn; have HHG := Lib.hid hhg; have HWL := Lib.hid hwl; clear hMF hKn hhg hwl
  go_wp2_with fail
  have b0 := (Below.refl w5.heap.size w5).alloc (Nat.le_refl _) (.cells #[.int .i64 (K : Int), .slice B2 ML.length d2] 37)
  refine (HHG.out _ (HA.out.rd.later (Y5.out.trans (b0.mono Y5.out.size)) (Nat.le_refl _)) (HL.out.later (Y5.out.trans (b0.mono Y5.out.size)) (Nat.le_refl _)) (HV2.out.later b0 (Nat.le_refl _))).mono ?_
  rintro e w6 ⟨rfl, hb1⟩
  have hb3 := b0.trans (hb1.mono (by simp))
  have Y6 := Lib.hid (Y5.out.trans (hb3.mono Y5.out.size))
  have X6 := Lib.hid (X5.out.later hb3)
  have M0 : Hid (w6.cell? ⟨w5.heap.size, 0, none⟩ = some (.int .i64 (K : Int))) := below_at hb1 (Nat.le_refl _) (by go_simp)
  have M1 : Hid (w6.cell? ⟨w5.heap.size, 1, none⟩ = some (.slice B2 ML.length d2)) := below_at hb1 (Nat.le_refl _) (by go_simp)
  clear b0 hb1 hb3 c1 c2 s1 HHG
  obtain ⟨c1, c2, s1⟩ := X6.out
  go_wp2_with fail
  clear c1 c2 s1
  refine (pFewest_ (P : Int) A c ws _ (HA.out.later Y6.out (Nat.le_refl _)) (HT.out.later Y6.out (Nat.le_refl _))).mono ?_
  rintro e w7 ⟨v3, rfl, hv3, hb1⟩
  have Y7 := Lib.hid (Y6.out.trans (hb1.mono Y6.out.size))
  have X7 := Lib.hid (X6.out.later hb1)
  have m0 := below_at hb1 (Nat.le_refl _) M0.out
  have m1 := below_at hb1 (Nat.le_refl _) M1.out
  have ms := World.block_lt_of_cell? _ _ m0
  clear hb1 M0 M1
  obtain ⟨B3, d3, rfl, hv3⟩ := hv3
  obtain ⟨c1, c2, s1⟩ := X7.out
  by_cases h14 : 14 < (l.length : Int)
  · have hx3 : fewX (P : Int) ws = 3 := by unfold fewX; rw [if_pos hE.out, if_pos (by have := HLN.out; omega)]
    rw [hx3]
    clear hx3
    generalize fewL (P : Int) ws = FL at *
    generalize fewN (P : Int) ws = FN at *
    clear hv3
    go_wp2_with fail
    refine (shown_ _ (HT.out.later Y7.out (Nat.le_refl _))).mono ?_; rintro e w8 ⟨rfl, hb1⟩
    go_wp2
    go_ret
    exact ⟨rfl, Y7.out.trans (hb1.mono Y7.out.size)⟩
  have hx0 : fewX (P : Int) ws = 0 := by unfold fewX; rw [if_pos hE.out, if_neg (by have := HLN.out; omega)]
  obtain ⟨f1, f2, _⟩ := few_ord hx0
  obtain ⟨f4, f5⟩ := few_hang hE.out hx0
  have f6 := few_le hx0 hO.out
  have f7 := few_lex hx0 hO.out
  have f8 := HMF.out hx0
  rw [← HHN.out] at f6 f7
  rw [hx0]
  have hFl : (fewL (P : Int) ws).length = l.length := by rw [f2, HLN.out]
  have hhF : (hangL (P : Int) ws (fewL (P : Int) ws)).length = l.length := by unfold hangL; rw [if_pos f4, hangsL_length]; exact hFl
  generalize hFL : fewL (P : Int) ws = FL at *
  generalize hFN : fewN (P : Int) ws = FN at *
  have HV3 := Lib.hid hv3
  clear hv3 hx0
  have HFL2 := Lib.hid hFl
  clear hFl
  have F1 := Lib.hid f1; have F2 := Lib.hid f2; have F4 := Lib.hid f4; have F5 := Lib.hid f5; have F7 := Lib.hid f7; have HFL := Lib.hid hFL; have HFN := Lib.hid hFN; have HHF := Lib.hid hhF; clear f1 f2 f4 f5 f7 hFL hFN hhF
  go_wp2_with fail
  clear c1 c2 s1
  refine (rOrder_ (P : Int) A B3 c d3 ws FL _ hE.out (HA.out.rd.later Y7.out (Nat.le_refl _)) HV3.out).mono ?_
  rw [F1.out]
  rintro e w8 ⟨rfl, hb1⟩
  have Y8 := Lib.hid (Y7.out.trans (hb1.mono Y7.out.size))
  have X8 := Lib.hid (X7.out.later hb1)
  have n0 := below_at hb1 (Nat.le_refl _) m0
  have n1 := below_at hb1 (Nat.le_refl _) m1
  have ns := World.block_lt_of_cell? _ _ n0
  have V8 := Lib.hid (HV3.out.later hb1 (Nat.le_refl _))
  clear hb1 m0 m1 ms HV3
  obtain ⟨c1, c2, s1⟩ := X8.out
  go_wp2_with fail
  clear c1 c2 s1 n0 n1 ns
  refine (pHanging_ (P : Int) A B3 c d3 ws FL _ (HA.out.later Y8.out (Nat.le_refl _)) V8.out).mono ?_
  rw [F4.out, F5.out]
  rintro e w9 ⟨v4, rfl, hv4, hb1⟩
  have Y9 := Lib.hid (Y8.out.trans (hb1.mono Y8.out.size))
  have V9 := Lib.hid (V8.out.later hb1 (Nat.le_refl _))
  obtain ⟨B4, d4, rfl, _⟩ := hv4
  generalize hangL (P : Int) ws FL = HL4 at *
  clear hb1 V8
  have hL9 := HL.out.later Y9.out (Nat.le_refl _)
  have HL9 := Lib.hid hL9; clear hL9
  go_wp2
  go_loopw [13] (fun iv wr => ∃ i : Nat, iv = .int .i64 i ∧ i ≤ l.length ∧ (∀ j, j < i → FL.getD j 0 = l.getD j 0) ∧ Below w9.heap.size w9 wr) (fun iv _ => l.length - (intOf iv).toNat)
  case atStart => exact ⟨0, rfl, Nat.zero_le _, fun j h => absurd h (by omega), Below.refl _ _⟩
  case round =>
    obtain ⟨i, rfl, hi, hpre, hbr⟩ := hrel
    have hTr := HT.out.later (Y9.out.trans (hbr.mono Y9.out.size)) (Nat.le_refl _)
    by_cases hil : i < l.length
    · by_cases hNF : N = FN
      · have hnb : ((N : Int) == (FN : Int)) = true := by simp [hNF]
        have hle := F7.out hNF i hil hpre
        have hiF : i < FL.length := by rw [HFL2.out]; exact hil
        obtain ⟨bl, ol, hLe, hbl, l1⟩ := (HL9.out.later hbr (Nat.le_refl _)).at_ hil
        obtain ⟨bf, of, hFe, hbf, q1⟩ := (V9.out.later hbr (Nat.le_refl _)).at_ hiF
        have e1 : FL.getD i 0 = FL[i] := by simp [List.getD_eq_getElem?_getD, hiF]
        have e2 : l.getD i 0 = l[i] := by simp [List.getD_eq_getElem?_getD, hil]
        have x1 : (0 : Int) ≤ (i : Int) := by omega
        have x2 : (i : Int) < (l.length : Int) := by omega
        have x3 : (i : Int) < (FL.length : Int) := by omega
        have hpre2 : FL.getD i 0 = l.getD i 0 → ∀ j, j < i + 1 → FL.getD j 0 = l.getD j 0 := fun h j hj => by
          rcases Nat.lt_succ_iff_lt_or_eq.1 hj with hj | rfl
          · exact hpre j hj
          · exact h
        rw [e1, e2] at hle hpre2
        generalize FL[i] = fi at *
        generalize l[i] = li at *
        clear hNF e1 e2
        subst hLe
        subst hFe
        by_cases hq : fi = li
        · have hqb : (fi != li) = false := by simp [hq]
          have hpre3 := hpre2 hq
          clear hq hle hpre2
          have HPRE := Lib.hid hpre; have HBR := Lib.hid hbr; have HTR := Lib.hid hTr; have HPRE3 := Lib.hid hpre3; clear hpre hbr hTr hpre3
          go_wp2
          go_quiet (fail)
          go_wp2
          go_roundw
          case rel => exact ⟨i + 1, by go_num, by omega, HPRE3.out, below_drewN HBR.out _⟩
          case measure => simp [intOf]; omega
        · have hqb : (fi != li) = true := by simpa using hq
          have hlt : fi < li := by omega
          clear hq hle hpre2
          have HPRE := Lib.hid hpre; have HBR := Lib.hid hbr; have HTR := Lib.hid hTr; clear hpre hbr hTr
          go_wp2
          go_quiet (fail)
          have hbq := below_drewN HBR.out nq
          have hTq : Tz (wr.drewN nq) := HTR.out
          have l2 : (wr.drewN nq).cell? ⟨bl, ol + i, none⟩ = some (.int .i64 li) := l1
          have q2 : (wr.drewN nq).cell? ⟨bf, of + i, none⟩ = some (.int .i64 fi) := q1
          have hbl2 : bl < (wr.drewN nq).heap.size := hbl
          have hbf2 : bf < (wr.drewN nq).heap.size := hbf
          clear l1 q1 hbl hbf
          generalize wr.drewN nq = wq at *
          have hshn : ∀ u : Bel wq.heap.size wq, Calls Tryd.prog 10 #[] u.wd fun e w'' => e = .returned (.bool true) ∧ ∃ u' : Bel wq.heap.size wq, w'' = u'.wd := fun u => quiet_bel (Nat.le_refl _) (shown_ _ (hTq.later u.h (Nat.le_refl _)))
          have HBQ := Lib.hid hbq; have HTQ := Lib.hid hTq; have HSHN := Lib.hid hshn; clear hbq hTq hshn
          go_wp2
          have hbelc : ∀ (u : Bel wq.heap.size wq) b o, b < wq.heap.size → u.wd.cell? ⟨b, o, none⟩ = wq.cell? ⟨b, o, none⟩ := fun u b o h => u.h.cell (p := ⟨b, o, none⟩) h
          have hbeln : Nonempty (Bel wq.heap.size wq) := ⟨⟨wq, Below.refl _ _⟩⟩
          refine wp_region_bel wq.heap.size (by kernel_rfl) (by kernel_rfl) ?_
          repeat (go_big_quiet_step ((go_at_call 10; exact HSHN.out _)))
          refine wpQuiet_nil ?_
          intro wB hB0; obtain ⟨uB, hu⟩ := hB0; have hbB0 := uB.h; rw [← hu] at hbB0; clear hu uB hbelc hbeln
          obtain ⟨hbB, hcB, hsB⟩ := bcell2 hbB0; clear hbB0
          have HBB := Lib.hid hbB; clear hbB
          go_wp2
          go_ret
          exact ⟨rfl, Y9.out.trans ((HBQ.out.trans (HBB.out.mono HBQ.out.size)).mono Y9.out.size)⟩
      · have hnb : ((N : Int) == (FN : Int)) = false := by rw [beq_eq_false_iff_ne]; omega
        have x2 : (i : Int) < (l.length : Int) := by omega
        clear hNF
        have HPRE := Lib.hid hpre; have HBR := Lib.hid hbr; have HTR := Lib.hid hTr; clear hpre hbr hTr
        go_wp2_with (go_at_call 10; refine (shown_ _ HTR.out).mono ?_; rintro e wz ⟨rfl, hbz⟩)
        go_ret
        exact ⟨rfl, Y9.out.trans ((HBR.out.trans (hbz.mono HBR.out.size)).mono Y9.out.size)⟩
    · obtain rfl : i = l.length := by omega
      have HPRE := Lib.hid hpre; have HBR := Lib.hid hbr; have HTR := Lib.hid hTr; clear hpre hbr hTr
      clear hil hi
      go_wp2_with (go_at_call 10; refine (shown_ _ HTR.out).mono ?_; rintro e wz ⟨rfl, hbz⟩)
      go_ret
      exact ⟨rfl, Y9.out.trans ((HBR.out.trans (hbz.mono HBR.out.size)).mono Y9.out.size)⟩
end Go.Proofs.YtnplcephmidjbaaDoor
