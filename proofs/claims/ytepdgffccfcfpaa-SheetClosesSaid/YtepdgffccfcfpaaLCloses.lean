/- The law SheetCloses returns true. -/
import Derived.Test.YtepdgffccfcfpaaEx4
import Derived.Test.YtepdgffccfcfpaaClsP
import Derived.Test.YtepdgffccfcfpaaLFar4
namespace Go.Proofs.Ytepdgffccfcfpaa
open Go.RowKit

theorem ask_ok {P : Nat} {ws : List GW} {a b : Nat} (hok : errSheet P ws = 0) (ha : a < ws.length) (hb : b < ws.length) : askErr P ws [(a : Int), b] = 0 := by
  unfold askErr
  rw [if_pos hok, if_neg]
  simp [badI]
  omega
def Ar3 (w w1 : World) (x y z : Int) : Prop := w1.cell? ⟨w.heap.size + 1, 0, none⟩ = some (.int .u16 x) ∧ w1.cell? ⟨w.heap.size + 1, 1, none⟩ = some (.int .u16 y) ∧ w1.cell? ⟨w.heap.size + 1, 2, none⟩ = some (.int .u16 z) ∧ w.heap.size + 1 < w1.heap.size
theorem Ar3.later {w w1 w2 : World} {x y z : Int} (h : Ar3 w w1 x y z) (hb : Below w1.heap.size w1 w2) : Ar3 w w2 x y z :=
  ⟨below_at hb (Nat.le_refl _) h.1, below_at hb (Nat.le_refl _) h.2.1, below_at hb (Nat.le_refl _) h.2.2.1, Nat.lt_of_lt_of_le h.2.2.2 hb.size⟩
theorem mod_nat {x : Int} {n : Nat} (hx : 0 ≤ x) (hn : 0 < n) : ∃ a : Nat, x.tmod (n : Int) = a ∧ x % (n : Int) = a ∧ a < n := by
  have h1 := Int.emod_nonneg x (show (n : Int) ≠ 0 by omega)
  have h2 := Int.emod_lt_of_pos x (show (0 : Int) < n by omega)
  exact ⟨(x % (n : Int)).toNat, by rw [Int.tmod_eq_emod_of_nonneg hx]; omega, by omega, by omega⟩

set_option maxRecDepth 100000 in
set_option maxHeartbeats 16000000 in
theorem lawClosesY_ (p xa xb xc : Int) (A L : Option Addr) (c lc : Nat) (ws : List GW) (l : List Int) (w : World) (ha : ShIn w p A ws) (hl : RdI w L l) (ka : 0 ≤ xa ∧ xa ≤ 65535) (kb : 0 ≤ xb ∧ xb ≤ 65535) (kc : 0 ≤ xc ∧ xc ≤ 65535) (hyn : ∀ a b : Nat, xa % (ws.length : Int) = a → xb % (ws.length : Int) = b → befB p.toNat ws a b = true) :
    Calls Try.prog 8 #[.agg #[.int .i64 p, .slice A ws.length c], .agg #[.int .u16 xa, .int .u16 xb, .int .u16 xc], .slice L l.length lc] w fun e w' => e = .returned (.bool true) ∧ Below w.heap.size w w' := by
  have hln := hl.1
  obtain ⟨ka1, ka2⟩ := ka
  obtain ⟨kb1, kb2⟩ := kb
  obtain ⟨kc1, kc2⟩ := kc
  have hb2 : Below w.heap.size w ((w.alloc (.cells #[.int .i64 p, .slice A ws.length c] 24)).alloc (.cells #[.int .u16 xa, .int .u16 xb, .int .u16 xc] 50)) := ((Below.refl _ _).alloc (Nat.le_refl _) _).alloc (by simp) _
  have Y0 := Lib.hid hb2; clear hb2
  have X0 : Hid (Box1 w ((w.alloc (.cells #[.int .i64 p, .slice A ws.length c] 24)).alloc (.cells #[.int .u16 xa, .int .u16 xb, .int .u16 xc] 50)) p A c ws.length) := (Box1.made w p A c ws.length 24).later ((Below.refl _ _).alloc (Nat.le_refl _) _)
  have Z0 : Hid (Ar3 w ((w.alloc (.cells #[.int .i64 p, .slice A ws.length c] 24)).alloc (.cells #[.int .u16 xa, .int .u16 xb, .int .u16 xc] 50)) xa xb xc) := ⟨by go_simp, by go_simp, by go_simp, by simp⟩
  have HA := Lib.hid ha; have HL := Lib.hid hl; have HYN := Lib.hid hyn; clear ha hl hyn
  go_enter Try.func8, Try.ntmps8
  go_wp2_with fail
  refine (far4_ p A c ws _ (HA.out.rd.later Y0.out (Nat.le_refl _))).mono ?_; rintro e w1 ⟨z, rfl, _, hb1⟩
  have Z1 := Lib.hid (Z0.out.later hb1)
  cases z
  rotate_left
  · have X1 := Lib.hid (X0.out.later hb1); have Y1 := Lib.hid (Y0.out.trans (hb1.mono Y0.out.size)); clear hb1; obtain ⟨c1, c2, s1⟩ := X1.out
    go_wp2_with fail
    clear c1 c2 s1
    refine (shown_ _).mono ?_; rintro e w8 ⟨rfl, hb1⟩
    go_wp2
    go_ret
    exact ⟨rfl, Y1.out.trans (hb1.mono Y1.out.size)⟩
  by_cases hbig : (1000 : Int) < (l.length : Int)
  · have X1 := Lib.hid (X0.out.later hb1); have Y1 := Lib.hid (Y0.out.trans (hb1.mono Y0.out.size)); clear hb1; obtain ⟨c1, c2, s1⟩ := X1.out
    go_wp2_with fail
    clear c1 c2 s1
    refine (shown_ _).mono ?_; rintro e w8 ⟨rfl, hb1⟩
    go_wp2
    go_ret
    exact ⟨rfl, Y1.out.trans (hb1.mono Y1.out.size)⟩
  have X1 := Lib.hid (X0.out.later hb1); have Y1 := Lib.hid (Y0.out.trans (hb1.mono Y0.out.size)); clear hb1; obtain ⟨c1, c2, s1⟩ := X1.out
  go_wp2_with fail
  clear c1 c2 s1
  refine (rCheck_ _ _ _ _ _ HA.out.lo HA.out.hi (HA.out.rd.later Y1.out (Nat.le_refl _))).mono ?_; rintro e w2 ⟨rfl, hb1⟩
  have Z2 := Lib.hid (Z1.out.later hb1)
  by_cases he : errSheet p ws = 0
  rotate_left
  · have heb : (errSheet p ws != 0) = true := by simpa using he
    generalize errSheet p ws = E at *
    have X2 := Lib.hid (X1.out.later hb1); have Y2 := Lib.hid (Y1.out.trans (hb1.mono Y1.out.size)); clear hb1; obtain ⟨c1, c2, s1⟩ := X2.out
    go_wp2_with fail
    clear c1 c2 s1
    refine (shown_ _).mono ?_; rintro e w8 ⟨rfl, hb1⟩
    go_wp2
    go_ret
    exact ⟨rfl, Y2.out.trans (hb1.mono Y2.out.size)⟩
  rw [he]
  obtain ⟨hp2, hp24, hn, hall⟩ := okAll he
  obtain ⟨P, rfl⟩ := Int.eq_ofNat_of_zero_le (show 0 ≤ p by omega)
  have hok := he
  clear he
  have HOK := Lib.hid hok; have HALL := Lib.hid hall; clear hok hall
  by_cases hn0 : ws.length = 0
  · have b0 : ((ws.length : Int) == 0) = true := by rw [hn0]; rfl
    have X2 := Lib.hid (X1.out.later hb1); have Y2 := Lib.hid (Y1.out.trans (hb1.mono Y1.out.size)); clear hb1; obtain ⟨c1, c2, s1⟩ := X2.out
    go_wp2_with fail
    clear c1 c2 s1
    refine (shown_ _).mono ?_; rintro e w8 ⟨rfl, hb1⟩
    go_wp2
    go_ret
    exact ⟨rfl, Y2.out.trans (hb1.mono Y2.out.size)⟩
  have b0 : ((ws.length : Int) == 0) = false := beq_eq_false_iff_ne.2 (by omega)
  have hnz : ¬ (ws.length : Int) = 0 := by omega
  obtain ⟨a, ma, na, la⟩ := mod_nat (n := ws.length) ka1 (by omega)
  obtain ⟨b, mb, nb, lb⟩ := mod_nat (n := ws.length) kb1 (by omega)
  obtain ⟨d, md, nd, ld⟩ := mod_nat (n := ws.length) kc1 (by omega)
  have wa : IntKind.i64.wrap xa = xa := IntWalk.i64_in _ (by omega)
  have wb : IntKind.i64.wrap xb = xb := IntWalk.i64_in _ (by omega)
  have wc : IntKind.i64.wrap xc = xc := IntWalk.i64_in _ (by omega)
  have va : IntKind.i64.wrap (a : Int) = (a : Int) := IntWalk.i64_in _ (by omega)
  have vb : IntKind.i64.wrap (b : Int) = (b : Int) := IntWalk.i64_in _ (by omega)
  have vd : IntKind.i64.wrap (d : Int) = (d : Int) := IntWalk.i64_in _ (by omega)
  have X2 := Lib.hid (X1.out.later hb1); have Y2 := Lib.hid (Y1.out.trans (hb1.mono Y1.out.size)); clear hb1; obtain ⟨c1, c2, s1⟩ := X2.out
  obtain ⟨r0, r1, r2, r3⟩ := Z2.out
  have hab0 := ask_ok HOK.out la lb
  have hbd0 := ask_ok HOK.out lb ld
  have had0 := ask_ok HOK.out la ld
  have hA1 := befB_iff hab0
  have hA2 := befB_iff hbd0
  have hA3 := befB_iff had0
  simp only [Int.toNat_natCast] at hA1 hA2 hA3
  have htr : befB P ws a b = true → befB P ws b d = true → befB P ws a d = true := fun h1 h2 => hA3.2 ((hA1.1 h1).trans (hA2.1 h2))
  have hlt : befB P ws a b = true → a < b := fun h => (hA1.1 h).lt
  have hchk := fun x l' (h : ChnIs P ws a b x l') => chn_ok hn lb hab0 h
  clear hA1 hA2 hA3
  have HTR := Lib.hid htr; have HLT := Lib.hid hlt; have HCHK := Lib.hid hchk; have HAB0 := Lib.hid hab0; have HBD0 := Lib.hid hbd0; have HAD0 := Lib.hid had0; clear htr hlt hchk hab0 hbd0 had0
  go_wp2
  go_quiet (fail)
  have c1' : (w2.drewN nq).cell? ⟨w.heap.size, 0, none⟩ = some (.int .i64 (P : Int)) := c1
  have c2' : (w2.drewN nq).cell? ⟨w.heap.size, 1, none⟩ = some (.slice A ws.length c) := c2
  have Y3 := Lib.hid (below_drewN Y2.out nq)
  have X3 : Hid (Box1 w (w2.drewN nq) P A c ws.length) := ⟨c1, c2, s1⟩
  have s1' : w.heap.size < (w2.drewN nq).heap.size := s1
  clear c1 c2 s1 r0 r1 r2 r3
  generalize w2.drewN nq = w3 at *
  go_wp2_with fail
  refine (sBefore_ P a b A c ws _ (HA.out.later Y3.out (Nat.le_refl _))).mono ?_; rintro e w4 ⟨rfl, hb1⟩
  rw [HAB0.out]
  clear c1' c2' s1'
  have X4 := Lib.hid (X3.out.later hb1); have Y4 := Lib.hid (Y3.out.trans (hb1.mono Y3.out.size)); clear hb1; obtain ⟨c1, c2, s1⟩ := X4.out
  go_wp2_with fail
  clear c1 c2 s1
  refine (sBefore_ P b d A c ws _ (HA.out.later Y4.out (Nat.le_refl _))).mono ?_; rintro e w5 ⟨rfl, hb1⟩
  rw [HBD0.out]
  have X5 := Lib.hid (X4.out.later hb1); have Y5 := Lib.hid (Y4.out.trans (hb1.mono Y4.out.size)); clear hb1; obtain ⟨c1, c2, s1⟩ := X5.out
  go_wp2_with fail
  clear c1 c2 s1
  refine (sBefore_ P a d A c ws _ (HA.out.later Y5.out (Nat.le_refl _))).mono ?_; rintro e w6 ⟨rfl, hb1⟩
  rw [HAD0.out]
  have X6 := Lib.hid (X5.out.later hb1); have Y6 := Lib.hid (Y5.out.trans (hb1.mono Y5.out.size)); clear hb1; obtain ⟨c1, c2, s1⟩ := X6.out
  generalize hab : befB P ws a b = ab at *
  generalize befB P ws b d = bd at *
  generalize befB P ws a d = ad at *
  have HAB := Lib.hid hab; clear hab
  go_upto_region 8 with fail
  go_cut [109] (fun v wx => v = .bool false ∧ w6 = wx)
  case first =>
    cases ab with
    | false =>
      go_wp2_with fail
      go_meet
      exact ⟨rfl, rfl⟩
    | true =>
      have hlt' := HLT.out rfl
      have g1 : decide (b ≤ a) = false := by simp; omega
      cases bd with
      | false =>
        go_wp2_with fail
        go_meet
        exact ⟨rfl, rfl⟩
      | true =>
        have htr' := HTR.out rfl rfl
        subst htr'
        go_wp2_with fail
        go_meet
        exact ⟨rfl, rfl⟩
  case rest =>
    obtain ⟨rfl, rfl⟩ := hcut
    have c1' := c1
    have c2' := c2
    have s1' := s1
    go_wp2_with fail
    refine (sChain_ P a b A c ws _ (HA.out.later Y6.out (Nat.le_refl _))).mono ?_; rintro e w7 ⟨_, x, cl, rfl, ⟨L7, k7, rfl, hL7⟩, hb1, hch⟩
    obtain ⟨hce, hcn, hcs, hcd, hcl⟩ := HCHK.out x cl hch
    have X7 := Lib.hid (X6.out.later hb1); have Y7 := Lib.hid (Y6.out.trans (hb1.mono Y6.out.size)); clear hb1 hch c1 c2 s1 c1' c2' s1'
    obtain ⟨c1, c2, s1⟩ := X7.out
    have habv : ab = true := HAB.out.symm.trans (HYN.out a b na nb)
    clear HYN
    by_cases hx : x = 0
    · subst hx
      have hab1 : ab = true := by rw [← hce]; rfl
      subst hab1
      obtain ⟨hc2, hcf, hce2⟩ := hcd rfl
      have hclp : 0 < cl.length := by omega
      have hf0 := hcf hclp
      have hfl := hce2 hclp
      clear hcn hcd hce hcf hce2
      have HCS := Lib.hid hcs; have HL7 := Lib.hid hL7; have HF0 := Lib.hid hf0; have HFL := Lib.hid hfl; clear hcs hL7 hf0 hfl
      go_wp2
      clear c1 c2 s1
      go_loopw [18] (fun iv wr => ∃ i : Nat, iv = .int .i64 i ∧ i ≤ cl.length ∧ Below w7.heap.size w7 wr) (fun iv _ => cl.length - (intOf iv).toNat)
      case atStart => exact ⟨0, rfl, Nat.zero_le _, Below.refl _ _⟩
      case round => as_aux_lemma =>
        obtain ⟨i, rfl, hi, hbr⟩ := hrel
        obtain ⟨c1, c2, s1⟩ := X7.out.later hbr
        have X8 : Hid (Box1 w wr P A c ws.length) := ⟨c1, c2, s1⟩
        have hbw := Y7.out.trans (hbr.mono Y7.out.size)
        by_cases hil : i < cl.length
        · obtain ⟨bl, ol, rfl, hbl, m1⟩ := (HL7.out.later hbr (Nat.le_refl _)).at_ hil
          obtain ⟨y, hy, hyn, hyp⟩ := HCS.out i hil
          rw [hy] at m1
          have b1n : decide ((y : Int) < 0) = false := by simp
          have b2n : decide (ws.length ≤ y) = false := by simp; omega
          have z1 : (0 : Int) ≤ (i : Int) := by omega
          have z2 : (i : Int) < (cl.length : Int) := by omega
          rcases Nat.eq_zero_or_pos i with hi0 | hi0
          · subst hi0
            rw [Nat.add_zero] at m1
            clear hyp
            have HBR := Lib.hid hbr; have HBW := Lib.hid hbw; have HY := Lib.hid hy; clear hbr hbw hy
            go_wp2
            go_quiet (fail)
            go_wp2
            go_roundw
            case rel => exact ⟨0 + 1, by go_num, by omega, below_drewN HBR.out _⟩
            case measure => simp [intOf]; omega
          · obtain ⟨q, hq, hqy, hqn, hqt⟩ := hyp hi0
            obtain ⟨bl', ol', hA', _, m2⟩ := (HL7.out.later hbr (Nat.le_refl _)).at_ (show i - 1 < cl.length by omega)
            injection hA' with hA'; injection hA' with hA1 hA2; subst hA1; subst hA2
            rw [hq] at m2
            have hjw : IntKind.i64.wrap ((i : Int) - 1) = ((i - 1 : Nat) : Int) := by
              rw [show (i : Int) - 1 = ((i - 1 : Nat) : Int) by omega]
              exact IntWalk.i64_in _ (by omega)
            obtain ⟨bw, off, rfl, hbL, t1, t2, t3⟩ := (HA.out.rd.later hbw (Nat.le_refl _)).at_ hqn
            obtain ⟨bw', off', hA', _, u1, u2, u3⟩ := (HA.out.rd.later hbw (Nat.le_refl _)).at_ hyn
            injection hA' with hA'; injection hA' with hA1 hA2; subst hA1; subst hA2
            obtain ⟨_, p1, p2, _⟩ := HALL.out ws[q] (List.getElem_mem hqn)
            obtain ⟨_, p3, p4, _⟩ := HALL.out ws[y] (List.getElem_mem hyn)
            have ht : touchB ws[q].pl ws[y].pl = true := by
              rw [← hqt]
              unfold tch
              simp [List.getD_eq_getElem?_getD, hqn, hyn]
            have b3n : decide (0 < i) = true := by simp; omega
            have b4n : decide (y ≤ q) = false := by simp; omega
            have z3 : (0 : Int) ≤ ((i - 1 : Nat) : Int) := by omega
            have z4 : ((i - 1 : Nat) : Int) < (cl.length : Int) := by omega
            have z5 : (0 : Int) ≤ (q : Int) := by omega
            have z6 : (q : Int) < (ws.length : Int) := by omega
            have z7 : (0 : Int) ≤ (y : Int) := by omega
            have z8 : (y : Int) < (ws.length : Int) := by omega
            generalize ws[q].pl = pa at *
            generalize ws[y].pl = pb at *
            clear hyp hqy hqt hq
            generalize i - 1 = i1 at *
            have HBR := Lib.hid hbr; have HBW := Lib.hid hbw; have HY := Lib.hid hy; clear hbr hbw hy
            go_wp2
            have hbelc : ∀ (u : Bel wr.heap.size wr) b o, b < wr.heap.size → u.wd.cell? ⟨b, o, none⟩ = wr.cell? ⟨b, o, none⟩ := fun u b o h => u.h.cell (p := ⟨b, o, none⟩) h
            have hbeln : Nonempty (Bel wr.heap.size wr) := ⟨⟨wr, Below.refl _ _⟩⟩
            refine wp_region_bel wr.heap.size (by kernel_rfl) (by kernel_rfl) ?_
            repeat (go_big_quiet_step ((go_at_call 30; exact quiet_bel (Nat.le_refl _) (touch_isO _ _ _ _ _ _ _ (by omega) (by omega) (by omega) (by omega) ht))))
            refine wpQuiet_nil ?_
            intro wB hB0; obtain ⟨uB, hu⟩ := hB0; have hbB0 := uB.h; rw [← hu] at hbB0; clear hu uB hbelc hbeln
            obtain ⟨hbB, hcB, hsB⟩ := bcell2 hbB0; clear hbB0
            clear hcB
            have HBB := Lib.hid hbB; clear hbB
            go_wp2
            go_roundw
            case rel => exact ⟨i + 1, by go_num, by omega, HBR.out.trans (HBB.out.mono HBR.out.size)⟩
            case measure => simp [intOf]; omega
        · obtain rfl : i = cl.length := by omega
          obtain ⟨bl, ol, rfl, hbl, m1⟩ := (HL7.out.later hbr (Nat.le_refl _)).at_ hclp
          rw [HF0.out, Nat.add_zero] at m1
          obtain ⟨bl', ol', hA', _, m2⟩ := (HL7.out.later hbr (Nat.le_refl _)).at_ (show cl.length - 1 < cl.length by omega)
          injection hA' with hA'; injection hA' with hA1 hA2; subst hA1; subst hA2
          rw [HFL.out] at m2
          have hjw : IntKind.i64.wrap ((cl.length : Int) - 1) = ((cl.length - 1 : Nat) : Int) := by
            rw [show (cl.length : Int) - 1 = ((cl.length - 1 : Nat) : Int) by omega]
            exact IntWalk.i64_in _ (by omega)
          have b3n : decide (cl.length < 2) = false := by simp; omega
          have z1 : (0 : Int) < (cl.length : Int) := by omega
          have z3 : (0 : Int) ≤ ((cl.length - 1 : Nat) : Int) := by omega
          have z4 : ((cl.length - 1 : Nat) : Int) < (cl.length : Int) := by omega
          have Y8 := Lib.hid hbw
          clear HFL HF0 HCS
          generalize hcl1 : cl.length - 1 = cl1 at *
          have HBR := Lib.hid hbr; have HBW := Lib.hid hbw; clear hbr hbw
          go_wp2_with fail
          refine (sReady_ P A L c lc ws l _ (HA.out.later Y8.out (Nat.le_refl _)) (HL.out.later Y8.out (Nat.le_refl _))).mono ?_; rintro e w9 ⟨_, rfl, ⟨L1, k1, rfl, hL1⟩, hb1⟩
          have X9 := Lib.hid (X8.out.later hb1); have Y9 := Lib.hid (Y8.out.trans (hb1.mono Y8.out.size)); clear hb1 c1 c2 s1
          by_cases hcl9 : clErr P ws l = 0
          rotate_left
          · have hre : readyL P ws l = [] := by unfold readyL; rw [if_neg hcl9]
            rw [hre] at hL1 ⊢
            have h0 : (([] : List Int)).length = 0 := rfl
            rw [h0]
            generalize clErr P ws l = E9 at *
            have HL1 := Lib.hid hL1; have HCL9 := Lib.hid hcl9; have HRE := Lib.hid hre; clear hL1 hcl9 hre
            go_wp2
            go_loopw [20] (fun iv wx => iv = .int .i64 0 ∧ w9 = wx) (fun iv _ => 0)
            case atStart => exact ⟨rfl, rfl⟩
            case round => as_aux_lemma =>
              obtain ⟨rfl, rfl⟩ := hrel
              go_wp2_with fail
              refine (shown_ _).mono ?_; rintro e wz ⟨rfl, hb1⟩
              go_wp2
              go_ret
              exact ⟨rfl, Y9.out.trans (hb1.mono Y9.out.size)⟩
          have hre : readyL P ws l = rdyTo P ws l ws.length := by unfold readyL; rw [if_pos hcl9]; rfl
          obtain ⟨_, hAsc, _⟩ := clErr_zero hcl9
          have hcl90 := hcl9
          rw [hcl9, hre]
          rw [hre] at hL1
          have hmem := fun x => mem_rdy (P := P) (k := ws.length) (ws := ws) (l := l) (x := x)
          have hrl4 := rdyTo_le P ws l ws.length
          generalize rdyTo P ws l ws.length = rl at *
          clear hcl9 hre
          have HL1 := Lib.hid hL1; have HCL90 := Lib.hid hcl90; have HASC := Lib.hid hAsc; have HMEM := Lib.hid hmem; clear hL1 hcl90 hAsc hmem
          go_wp2
          go_loopw [20] (fun iv wx => ∃ i : Nat, iv = .int .i64 i ∧ i ≤ rl.length ∧ Below w9.heap.size w9 wx) (fun iv _ => rl.length - (intOf iv).toNat)
          case atStart => exact ⟨0, rfl, Nat.zero_le _, Below.refl _ _⟩
          case round => as_aux_lemma =>
            obtain ⟨i, rfl, hi, hbr⟩ := hrel
            obtain ⟨wv, rfl⟩ : ∃ wv : World, wv = wr := ⟨_, rfl⟩
            obtain ⟨c1, c2, s1⟩ := X9.out.later hbr
            have hx0 : Hid (Box1 w wv P A c ws.length) := ⟨c1, c2, s1⟩
            have hbw := Y9.out.trans (hbr.mono Y9.out.size)
            by_cases hil : i < rl.length ∧ i < 5
            rotate_left
            · by_cases h1 : i < rl.length
              · have h5 : ¬ i < 5 := fun h => hil ⟨h1, h⟩
                have g1 : decide (i < rl.length) = true := by simp; omega
                have g2 : decide ((i : Int) < 5) = false := by simp; omega
                clear hil
                have HBR := Lib.hid hbr; have HBW := Lib.hid hbw; clear hbr hbw
                go_wp2_with fail
                refine (shown_ _).mono ?_; rintro e wz ⟨rfl, hb1⟩
                go_wp2
                go_ret
                exact ⟨rfl, HBW.out.trans (hb1.mono HBW.out.size)⟩
              · have g1 : decide (i < rl.length) = false := by simp; omega
                clear hil
                have HBR := Lib.hid hbr; have HBW := Lib.hid hbw; clear hbr hbw
                go_wp2_with fail
                refine (shown_ _).mono ?_; rintro e wz ⟨rfl, hb1⟩
                go_wp2
                go_ret
                exact ⟨rfl, HBW.out.trans (hb1.mono HBW.out.size)⟩
            · obtain ⟨hil, hi5⟩ := hil
              obtain ⟨bq, oq, rfl, hbq, m1⟩ := (HL1.out.later hbr (Nat.le_refl _)).at_ hil
              obtain ⟨q, hqn, hqr, hqe⟩ := (HMEM.out _).1 (List.getElem_mem hil)
              rw [hqe] at m1
              have z1 : (0 : Int) ≤ (i : Int) := by omega
              have z2 : (i : Int) < (rl.length : Int) := by omega
              have hnq : ∀ j, (h : j < l.length) → l[j] ≠ (q : Int) := fun j h e => by
                have h1 := ((rdyB_iff hn hqn).1 hqr).1
                have h2 : (bitsL l).testBit q = true := (bitsL_bit l q).2 ⟨_, List.getElem_mem h, by rw [e]; simp⟩
                rw [h2] at h1; cases h1
              have g1 : decide (i < rl.length) = true := by simp; omega
              have g2 : decide ((i : Int) < 5) = true := by simp; omega
              have hin : ∀ m, InsAt l q m → clErr P ws m = 0 := fun m h => (ins_more HCL90.out hqn hqr h).cl
              have HBR := Lib.hid hbr; have HBW := Lib.hid hbw; have HQR := Lib.hid hqr; have HQE := Lib.hid hqe; have HNQ := Lib.hid hnq; have HIN := Lib.hid hin; clear hbr hbw hqr hqe hnq hin
              go_wp2
              go_loopw [21, 22, 23] (fun v zv kv wr => ∃ (k : Nat) (m : List Int) (z : Bool), kv = .int .i64 k ∧ zv = .bool z ∧ k ≤ l.length ∧ InsT l q k m z ∧ wr.ownsRow wv.heap.size 3 1 v m.length (ints m) ∧ Below wv.heap.size wv wr) (fun _ _ kv _ => l.length - (intOf kv).toNat)
              case atStart => exact ⟨0, [], false, rfl, rfl, Nat.zero_le _, ⟨rfl, fun x h => by simp at h⟩, World.ownsRow_nil _ _ _ _, Below.refl _ _⟩
              case round => as_aux_lemma =>
                obtain ⟨k, m, z, rfl, rfl, hk, hins, hown, hbs⟩ := hrel
                obtain ⟨OA, oc, rfl⟩ := own_slice1 hown
                have hml := insT_len hins
                have hlo := hown.lt
                have hsr := hbs.size
                by_cases hkl : k < l.length
                · obtain ⟨ll, lo, rfl, hll, n0⟩ := (HL.out.later HBW.out (Nat.le_refl _)).at_ hkl
                  have n1 := below_at hbs (Nat.le_refl _) n0
                  have n2 := below_at hbs (Nat.le_refl _) m1
                  have hll2 := Nat.lt_of_lt_of_le hll hbs.size
                  have hbq2 := Nat.lt_of_lt_of_le hbq hbs.size
                  have y1 : (0 : Int) ≤ (k : Int) := by omega
                  have y2 : (k : Int) < (l.length : Int) := by omega
                  cases z with
                  | true =>
                    have hin2 := insT_past hkl hins
                    generalize l[k] = x at *
                    have HINS := Lib.hid hins; have HOWN := Lib.hid hown; have HBS := Lib.hid hbs; have HLO := Lib.hid hlo; have HIN2 := Lib.hid hin2; clear hins hown hbs hlo hin2
                    go_wp2
                    go_quiet (fail)
                    go_wp2_with (at_builtin; go_must (refine wpList_app1_Try rfl _ _ rfl wv.heap.size (.slice OA m.length oc) m rfl (by repeat (first | exact HOWN.out | refine World.ownsRow.alloc ?_ _ | refine own_drewN ?_ _)) _ x rfl (heap_alloc_new _ _) (by omega) (by simp; omega) ?_); intro g cap w6 hown6 hgrow hat6 hlt6)
                    have r2 : Below wv.heap.size wv w6 := ((below_drewN HBS.out _).alloc HBS.out.size _).grown hgrow (by simp; omega) (fun j hj => (HLO.out j hj).1)
                    have R2 := Lib.hid r2; have HOWN6 := Lib.hid hown6; have HGROW := Lib.hid hgrow; clear r2 hown6 hgrow
                    go_wp2
                    go_roundw
                    case rel => exact ⟨k + 1, _, true, by go_num, rfl, by omega, HIN2.out, HOWN6.out, R2.out⟩
                    case measure => simp [intOf]; omega
                  | false =>
                    have hne := HNQ.out k hkl
                    by_cases hgt : (q : Int) < l[k]
                    · have hin2 := insT_here HASC.out hkl hins hgt
                      generalize l[k] = x at *
                      have g1 : decide ((q : Int) < x) = true := by simp; omega
                      have hneL : Hid (some ll ≠ (Value.slice OA m.length oc).ownBlock) := fun h => by have := (hlo _ h.symm).1; omega
                      have hneQ : Hid (some bq ≠ (Value.slice OA m.length oc).ownBlock) := fun h => by have := (hlo _ h.symm).1; omega
                      have HINS := Lib.hid hins; have HOWN := Lib.hid hown; have HBS := Lib.hid hbs; have HLO := Lib.hid hlo; have HIN2 := Lib.hid hin2; clear hins hown hbs hlo hin2
                      clear hgt hne
                      go_wp2
                      go_quiet (fail)
                      go_upto_region 32 with (at_builtin; refine wpList_app1_Try rfl _ _ rfl wv.heap.size (.slice OA m.length oc) m rfl (by repeat (first | exact HOWN.out | refine World.ownsRow.alloc ?_ _ | refine own_drewN ?_ _)) _ (q : Int) rfl (heap_alloc_new _ _) (by omega) (by simp; omega) ?_; intro g cap w6 hown6 hgrow hat6 hlt6; have n6 : w6.cell? ⟨ll, lo + k, none⟩ = some (.int .i64 x) := (hgrow.cell_far ⟨ll, lo + k, none⟩ (by simp; omega) hneL.out).trans (below_at ((below_drewN (Below.refl _ _) _).alloc (Nat.le_refl _) _) (Nat.le_refl _) n1); have n7 : ll < w6.heap.size := (by have := hgrow.size; simp at this; omega); have HLO6 := Lib.hid hown6.lt; have HOWN6 := Lib.hid hown6; have R6 := Lib.hid (((below_drewN HBS.out _).alloc HBS.out.size _).grown hgrow (by simp; omega) (fun j hj => (HLO.out j hj).1)); clear hown6 hgrow hat6)
                      go_wp2_with (at_builtin; go_must (refine wpList_app1_Try rfl _ _ rfl wv.heap.size (.slice (some ⟨g, 0, none⟩) (m.length + 1) cap) (m ++ [(q : Int)]) rfl (by repeat (first | exact HOWN6.out | refine World.ownsRow.alloc ?_ _ | refine own_drewN ?_ _)) _ x rfl (heap_alloc_new _ _) (by simp; omega) (by have := R6.out.size; simp; omega) ?_); intro g2 cap2 w7b hown7 hgrow7 hat7 hlt7)
                      have r7 : Below wv.heap.size wv w7b := (R6.out.alloc R6.out.size _).grown hgrow7 (by have := R6.out.size; simp; omega) (fun j hj => (HLO6.out j hj).1)
                      have R7 := Lib.hid r7; have HOWN7 := Lib.hid hown7; have HGROW7 := Lib.hid hgrow7; clear r7 hown7 hgrow7
                      go_wp2
                      go_roundw
                      case rel => exact ⟨k + 1, _, true, by go_num, rfl, by omega, HIN2.out, by have h := HOWN7.out; rw [show (m ++ [(q : Int)]).length = m.length + 1 by simp] at h; exact h, R7.out⟩
                      case measure => simp [intOf]; omega
                    · have hlt2 : l[k] < (q : Int) := by omega
                      have hin2 := insT_low hkl hins hlt2
                      generalize l[k] = x at *
                      have g1 : decide ((q : Int) < x) = false := by simp; omega
                      have HINS := Lib.hid hins; have HOWN := Lib.hid hown; have HBS := Lib.hid hbs; have HLO := Lib.hid hlo; have HIN2 := Lib.hid hin2; clear hins hown hbs hlo hin2
                      clear hgt hne hlt2
                      go_wp2
                      go_quiet (fail)
                      go_wp2_with (at_builtin; go_must (refine wpList_app1_Try rfl _ _ rfl wv.heap.size (.slice OA m.length oc) m rfl (by repeat (first | exact HOWN.out | refine World.ownsRow.alloc ?_ _ | refine own_drewN ?_ _)) _ x rfl (heap_alloc_new _ _) (by omega) (by simp; omega) ?_); intro g cap w6 hown6 hgrow hat6 hlt6)
                      have r2 : Below wv.heap.size wv w6 := ((below_drewN HBS.out _).alloc HBS.out.size _).grown hgrow (by simp; omega) (fun j hj => (HLO.out j hj).1)
                      have R2 := Lib.hid r2; have HOWN6 := Lib.hid hown6; have HGROW := Lib.hid hgrow; clear r2 hown6 hgrow
                      go_wp2
                      go_roundw
                      case rel => exact ⟨k + 1, _, false, by go_num, rfl, by omega, HIN2.out, HOWN6.out, R2.out⟩
                      case measure => simp [intOf]; omega
                · obtain rfl : k = l.length := by omega
                  have g1 : decide (l.length < l.length) = false := by simp
                  cases z with
                  | true =>
                    have hcm := HIN.out m (insT_end.1 hins)
                    obtain ⟨OA2, oc2, he2, hmI⟩ := RdV.of_own hown (by omega)
                    injection he2 with hA1 hA2 hA3
                    subst hA1; subst hA3
                    have hbz := HBW.out.trans (hbs.mono HBW.out.size)
                    obtain ⟨c1, c2, s1⟩ := hx0.out.later hbs
                    have HOWN := Lib.hid hown; have HBZ := Lib.hid hbz; have HMI := Lib.hid hmI; have HCM := Lib.hid hcm; have HINS := Lib.hid hins; have HLO := Lib.hid hlo; have HBS := Lib.hid hbs; clear hown hbz hmI hcm hins hlo hbs
                    go_wp2_with fail
                    refine (sLine_ P A OA c oc ws m _ (HA.out.later HBZ.out (Nat.le_refl _)) HMI.out).mono ?_; rintro e w7 ⟨_, rfl, ⟨Lb, kb, rfl, hLb⟩, hb1⟩
                    rw [HCM.out]
                    have r7 := HBS.out.trans (hb1.mono HBS.out.size)
                    have R7 := Lib.hid r7; clear r7
                    clear hb1 hLb c1 c2 s1
                    go_wp2
                    go_roundw
                    case rel => exact ⟨i + 1, by go_num, by omega, HBR.out.trans (R7.out.mono HBR.out.size)⟩
                    case measure => simp [intOf]; omega
                  | false =>
                    have hcm := HIN.out _ (insT_end.2 hins)
                    have n2 := below_at hbs (Nat.le_refl _) m1
                    have hbq2 := Nat.lt_of_lt_of_le hbq hbs.size
                    have HINS := Lib.hid hins; have HOWN := Lib.hid hown; have HBS := Lib.hid hbs; have HLO := Lib.hid hlo; have HCM := Lib.hid hcm; clear hins hown hbs hlo hcm
                    go_wp2_with (first | (at_builtin; go_must (refine wpList_app1_Try rfl _ _ rfl wv.heap.size (.slice OA m.length oc) m rfl (by repeat (first | exact HOWN.out | refine World.ownsRow.alloc ?_ _ | refine own_drewN ?_ _)) _ (q : Int) rfl (heap_alloc_new _ _) (by omega) (by simp; omega) ?_); intro g cap w6 hown6 hgrow hat6 hlt6; have R2 := Lib.hid (show Below wv.heap.size wv w6 from (HBS.out.alloc HBS.out.size _).grown hgrow (by simp; omega) (fun j hj => (HLO.out j hj).1)); obtain ⟨OA2, oc2, he2, hmI⟩ := RdV.of_own hown6 (by simp; omega); injection he2 with hA1 hA2 hA3; subst hA1; subst hA3; have hbz := HBW.out.trans (R2.out.mono HBW.out.size); obtain ⟨c1, c2, s1⟩ := hx0.out.later R2.out; have hsl := sLine_ P A (some ⟨g, 0, none⟩) c cap ws (m ++ [(q : Int)]) w6 (HA.out.later hbz (Nat.le_refl _)) hmI; simp only [List.length_append, List.length_singleton] at hsl; rw [HCM.out] at hsl; have HSL := Lib.hid hsl; clear hsl hmI hA2 hown6 hgrow hat6 hlt6 hbz) | (go_at_call 17; refine HSL.out.mono ?_; rintro e w7 ⟨_, rfl, ⟨Lb, kb, rfl, hLb⟩, hb1⟩))
                    have r7 := R2.out.trans (hb1.mono R2.out.size)
                    have R7 := Lib.hid r7; clear r7
                    clear hb1 hLb c1 c2 s1
                    go_wp2
                    go_roundw
                    case rel => exact ⟨i + 1, by go_num, by omega, HBR.out.trans (R7.out.mono HBR.out.size)⟩
                    case measure => simp [intOf]; omega
    · exact absurd (by simpa using hce.trans habv) hx

set_option maxRecDepth 100000 in
set_option maxHeartbeats 16000000 in
theorem lawClosesN_ (p xa xb xc : Int) (A L : Option Addr) (c lc : Nat) (ws : List GW) (l : List Int) (w : World) (ha : ShIn w p A ws) (hl : RdI w L l) (ka : 0 ≤ xa ∧ xa ≤ 65535) (kb : 0 ≤ xb ∧ xb ≤ 65535) (kc : 0 ≤ xc ∧ xc ≤ 65535) (hyn : ∀ a b : Nat, xa % (ws.length : Int) = a → xb % (ws.length : Int) = b → befB p.toNat ws a b = false) :
    Calls Try.prog 8 #[.agg #[.int .i64 p, .slice A ws.length c], .agg #[.int .u16 xa, .int .u16 xb, .int .u16 xc], .slice L l.length lc] w fun e w' => e = .returned (.bool true) ∧ Below w.heap.size w w' := by
  have hln := hl.1
  obtain ⟨ka1, ka2⟩ := ka
  obtain ⟨kb1, kb2⟩ := kb
  obtain ⟨kc1, kc2⟩ := kc
  have hb2 : Below w.heap.size w ((w.alloc (.cells #[.int .i64 p, .slice A ws.length c] 24)).alloc (.cells #[.int .u16 xa, .int .u16 xb, .int .u16 xc] 50)) := ((Below.refl _ _).alloc (Nat.le_refl _) _).alloc (by simp) _
  have Y0 := Lib.hid hb2; clear hb2
  have X0 : Hid (Box1 w ((w.alloc (.cells #[.int .i64 p, .slice A ws.length c] 24)).alloc (.cells #[.int .u16 xa, .int .u16 xb, .int .u16 xc] 50)) p A c ws.length) := (Box1.made w p A c ws.length 24).later ((Below.refl _ _).alloc (Nat.le_refl _) _)
  have Z0 : Hid (Ar3 w ((w.alloc (.cells #[.int .i64 p, .slice A ws.length c] 24)).alloc (.cells #[.int .u16 xa, .int .u16 xb, .int .u16 xc] 50)) xa xb xc) := ⟨by go_simp, by go_simp, by go_simp, by simp⟩
  have HA := Lib.hid ha; have HL := Lib.hid hl; have HYN := Lib.hid hyn; clear ha hl hyn
  go_enter Try.func8, Try.ntmps8
  go_wp2_with fail
  refine (far4_ p A c ws _ (HA.out.rd.later Y0.out (Nat.le_refl _))).mono ?_; rintro e w1 ⟨z, rfl, _, hb1⟩
  have Z1 := Lib.hid (Z0.out.later hb1)
  cases z
  rotate_left
  · have X1 := Lib.hid (X0.out.later hb1); have Y1 := Lib.hid (Y0.out.trans (hb1.mono Y0.out.size)); clear hb1; obtain ⟨c1, c2, s1⟩ := X1.out
    go_wp2_with fail
    clear c1 c2 s1
    refine (shown_ _).mono ?_; rintro e w8 ⟨rfl, hb1⟩
    go_wp2
    go_ret
    exact ⟨rfl, Y1.out.trans (hb1.mono Y1.out.size)⟩
  by_cases hbig : (1000 : Int) < (l.length : Int)
  · have X1 := Lib.hid (X0.out.later hb1); have Y1 := Lib.hid (Y0.out.trans (hb1.mono Y0.out.size)); clear hb1; obtain ⟨c1, c2, s1⟩ := X1.out
    go_wp2_with fail
    clear c1 c2 s1
    refine (shown_ _).mono ?_; rintro e w8 ⟨rfl, hb1⟩
    go_wp2
    go_ret
    exact ⟨rfl, Y1.out.trans (hb1.mono Y1.out.size)⟩
  have X1 := Lib.hid (X0.out.later hb1); have Y1 := Lib.hid (Y0.out.trans (hb1.mono Y0.out.size)); clear hb1; obtain ⟨c1, c2, s1⟩ := X1.out
  go_wp2_with fail
  clear c1 c2 s1
  refine (rCheck_ _ _ _ _ _ HA.out.lo HA.out.hi (HA.out.rd.later Y1.out (Nat.le_refl _))).mono ?_; rintro e w2 ⟨rfl, hb1⟩
  have Z2 := Lib.hid (Z1.out.later hb1)
  by_cases he : errSheet p ws = 0
  rotate_left
  · have heb : (errSheet p ws != 0) = true := by simpa using he
    generalize errSheet p ws = E at *
    have X2 := Lib.hid (X1.out.later hb1); have Y2 := Lib.hid (Y1.out.trans (hb1.mono Y1.out.size)); clear hb1; obtain ⟨c1, c2, s1⟩ := X2.out
    go_wp2_with fail
    clear c1 c2 s1
    refine (shown_ _).mono ?_; rintro e w8 ⟨rfl, hb1⟩
    go_wp2
    go_ret
    exact ⟨rfl, Y2.out.trans (hb1.mono Y2.out.size)⟩
  rw [he]
  obtain ⟨hp2, hp24, hn, hall⟩ := okAll he
  obtain ⟨P, rfl⟩ := Int.eq_ofNat_of_zero_le (show 0 ≤ p by omega)
  have hok := he
  clear he
  have HOK := Lib.hid hok; have HALL := Lib.hid hall; clear hok hall
  by_cases hn0 : ws.length = 0
  · have b0 : ((ws.length : Int) == 0) = true := by rw [hn0]; rfl
    have X2 := Lib.hid (X1.out.later hb1); have Y2 := Lib.hid (Y1.out.trans (hb1.mono Y1.out.size)); clear hb1; obtain ⟨c1, c2, s1⟩ := X2.out
    go_wp2_with fail
    clear c1 c2 s1
    refine (shown_ _).mono ?_; rintro e w8 ⟨rfl, hb1⟩
    go_wp2
    go_ret
    exact ⟨rfl, Y2.out.trans (hb1.mono Y2.out.size)⟩
  have b0 : ((ws.length : Int) == 0) = false := beq_eq_false_iff_ne.2 (by omega)
  have hnz : ¬ (ws.length : Int) = 0 := by omega
  obtain ⟨a, ma, na, la⟩ := mod_nat (n := ws.length) ka1 (by omega)
  obtain ⟨b, mb, nb, lb⟩ := mod_nat (n := ws.length) kb1 (by omega)
  obtain ⟨d, md, nd, ld⟩ := mod_nat (n := ws.length) kc1 (by omega)
  have wa : IntKind.i64.wrap xa = xa := IntWalk.i64_in _ (by omega)
  have wb : IntKind.i64.wrap xb = xb := IntWalk.i64_in _ (by omega)
  have wc : IntKind.i64.wrap xc = xc := IntWalk.i64_in _ (by omega)
  have va : IntKind.i64.wrap (a : Int) = (a : Int) := IntWalk.i64_in _ (by omega)
  have vb : IntKind.i64.wrap (b : Int) = (b : Int) := IntWalk.i64_in _ (by omega)
  have vd : IntKind.i64.wrap (d : Int) = (d : Int) := IntWalk.i64_in _ (by omega)
  have X2 := Lib.hid (X1.out.later hb1); have Y2 := Lib.hid (Y1.out.trans (hb1.mono Y1.out.size)); clear hb1; obtain ⟨c1, c2, s1⟩ := X2.out
  obtain ⟨r0, r1, r2, r3⟩ := Z2.out
  have hab0 := ask_ok HOK.out la lb
  have hbd0 := ask_ok HOK.out lb ld
  have had0 := ask_ok HOK.out la ld
  have hA1 := befB_iff hab0
  have hA2 := befB_iff hbd0
  have hA3 := befB_iff had0
  simp only [Int.toNat_natCast] at hA1 hA2 hA3
  have htr : befB P ws a b = true → befB P ws b d = true → befB P ws a d = true := fun h1 h2 => hA3.2 ((hA1.1 h1).trans (hA2.1 h2))
  have hlt : befB P ws a b = true → a < b := fun h => (hA1.1 h).lt
  have hchk := fun x l' (h : ChnIs P ws a b x l') => chn_ok hn lb hab0 h
  clear hA1 hA2 hA3
  have HTR := Lib.hid htr; have HLT := Lib.hid hlt; have HCHK := Lib.hid hchk; have HAB0 := Lib.hid hab0; have HBD0 := Lib.hid hbd0; have HAD0 := Lib.hid had0; clear htr hlt hchk hab0 hbd0 had0
  go_wp2
  go_quiet (fail)
  have c1' : (w2.drewN nq).cell? ⟨w.heap.size, 0, none⟩ = some (.int .i64 (P : Int)) := c1
  have c2' : (w2.drewN nq).cell? ⟨w.heap.size, 1, none⟩ = some (.slice A ws.length c) := c2
  have Y3 := Lib.hid (below_drewN Y2.out nq)
  have X3 : Hid (Box1 w (w2.drewN nq) P A c ws.length) := ⟨c1, c2, s1⟩
  have s1' : w.heap.size < (w2.drewN nq).heap.size := s1
  clear c1 c2 s1 r0 r1 r2 r3
  generalize w2.drewN nq = w3 at *
  go_wp2_with fail
  refine (sBefore_ P a b A c ws _ (HA.out.later Y3.out (Nat.le_refl _))).mono ?_; rintro e w4 ⟨rfl, hb1⟩
  rw [HAB0.out]
  clear c1' c2' s1'
  have X4 := Lib.hid (X3.out.later hb1); have Y4 := Lib.hid (Y3.out.trans (hb1.mono Y3.out.size)); clear hb1; obtain ⟨c1, c2, s1⟩ := X4.out
  go_wp2_with fail
  clear c1 c2 s1
  refine (sBefore_ P b d A c ws _ (HA.out.later Y4.out (Nat.le_refl _))).mono ?_; rintro e w5 ⟨rfl, hb1⟩
  rw [HBD0.out]
  have X5 := Lib.hid (X4.out.later hb1); have Y5 := Lib.hid (Y4.out.trans (hb1.mono Y4.out.size)); clear hb1; obtain ⟨c1, c2, s1⟩ := X5.out
  go_wp2_with fail
  clear c1 c2 s1
  refine (sBefore_ P a d A c ws _ (HA.out.later Y5.out (Nat.le_refl _))).mono ?_; rintro e w6 ⟨rfl, hb1⟩
  rw [HAD0.out]
  have X6 := Lib.hid (X5.out.later hb1); have Y6 := Lib.hid (Y5.out.trans (hb1.mono Y5.out.size)); clear hb1; obtain ⟨c1, c2, s1⟩ := X6.out
  generalize hab : befB P ws a b = ab at *
  generalize befB P ws b d = bd at *
  generalize befB P ws a d = ad at *
  have HAB := Lib.hid hab; clear hab
  go_upto_region 8 with fail
  go_cut [109] (fun v wx => v = .bool false ∧ w6 = wx)
  case first =>
    cases ab with
    | false =>
      go_wp2_with fail
      go_meet
      exact ⟨rfl, rfl⟩
    | true =>
      have hlt' := HLT.out rfl
      have g1 : decide (b ≤ a) = false := by simp; omega
      cases bd with
      | false =>
        go_wp2_with fail
        go_meet
        exact ⟨rfl, rfl⟩
      | true =>
        have htr' := HTR.out rfl rfl
        subst htr'
        go_wp2_with fail
        go_meet
        exact ⟨rfl, rfl⟩
  case rest =>
    obtain ⟨rfl, rfl⟩ := hcut
    have c1' := c1
    have c2' := c2
    have s1' := s1
    go_wp2_with fail
    refine (sChain_ P a b A c ws _ (HA.out.later Y6.out (Nat.le_refl _))).mono ?_; rintro e w7 ⟨_, x, cl, rfl, ⟨L7, k7, rfl, hL7⟩, hb1, hch⟩
    obtain ⟨hce, hcn, hcs, hcd, hcl⟩ := HCHK.out x cl hch
    have X7 := Lib.hid (X6.out.later hb1); have Y7 := Lib.hid (Y6.out.trans (hb1.mono Y6.out.size)); clear hb1 hch c1 c2 s1 c1' c2' s1'
    obtain ⟨c1, c2, s1⟩ := X7.out
    have habv : ab = false := HAB.out.symm.trans (HYN.out a b na nb)
    clear HYN
    by_cases hx : x = 0
    · rw [hx, habv] at hce; cases hce
    · have hcl0 := hcn hx
      subst hcl0
      have hab0' : ab = false := by
        cases ab with
        | false => rfl
        | true => exact absurd (by simpa using hce) hx
      subst hab0'
      have bx : (x == 0) = false := hce
      have bx2 : (x != 0) = true := by simp; exact hx
      have h0 : (([] : List Int)).length = 0 := rfl
      rw [h0]
      clear hcs hcd hcl hce hcn hx
      have HL7 := Lib.hid hL7; clear hL7
      go_wp2
      clear c1 c2 s1
      go_loopw [18] (fun iv wr => iv = .int .i64 0 ∧ w7 = wr) (fun iv _ => 0)
      case atStart => exact ⟨rfl, rfl⟩
      case round => as_aux_lemma =>
        obtain ⟨rfl, rfl⟩ := hrel
        obtain ⟨c1, c2, s1⟩ := X7.out
        have X8 := X7
        have Y8 := Y7
        obtain ⟨wr, rfl⟩ : ∃ wr : World, wr = w7 := ⟨_, rfl⟩
        go_wp2_with fail
        refine (sReady_ P A L c lc ws l _ (HA.out.later Y8.out (Nat.le_refl _)) (HL.out.later Y8.out (Nat.le_refl _))).mono ?_; rintro e w9 ⟨_, rfl, ⟨L1, k1, rfl, hL1⟩, hb1⟩
        have X9 := Lib.hid (X8.out.later hb1); have Y9 := Lib.hid (Y8.out.trans (hb1.mono Y8.out.size)); clear hb1 c1 c2 s1
        by_cases hcl9 : clErr P ws l = 0
        rotate_left
        · have hre : readyL P ws l = [] := by unfold readyL; rw [if_neg hcl9]
          rw [hre] at hL1 ⊢
          have h0 : (([] : List Int)).length = 0 := rfl
          rw [h0]
          generalize clErr P ws l = E9 at *
          have HL1 := Lib.hid hL1; have HCL9 := Lib.hid hcl9; have HRE := Lib.hid hre; clear hL1 hcl9 hre
          go_wp2
          go_loopw [20] (fun iv wx => iv = .int .i64 0 ∧ w9 = wx) (fun iv _ => 0)
          case atStart => exact ⟨rfl, rfl⟩
          case round => as_aux_lemma =>
            obtain ⟨rfl, rfl⟩ := hrel
            go_wp2_with fail
            refine (shown_ _).mono ?_; rintro e wz ⟨rfl, hb1⟩
            go_wp2
            go_ret
            exact ⟨rfl, Y9.out.trans (hb1.mono Y9.out.size)⟩
        have hre : readyL P ws l = rdyTo P ws l ws.length := by unfold readyL; rw [if_pos hcl9]; rfl
        obtain ⟨_, hAsc, _⟩ := clErr_zero hcl9
        have hcl90 := hcl9
        rw [hcl9, hre]
        rw [hre] at hL1
        have hmem := fun x => mem_rdy (P := P) (k := ws.length) (ws := ws) (l := l) (x := x)
        have hrl4 := rdyTo_le P ws l ws.length
        generalize rdyTo P ws l ws.length = rl at *
        clear hcl9 hre
        have HL1 := Lib.hid hL1; have HCL90 := Lib.hid hcl90; have HASC := Lib.hid hAsc; have HMEM := Lib.hid hmem; clear hL1 hcl90 hAsc hmem
        go_wp2
        go_loopw [20] (fun iv wx => ∃ i : Nat, iv = .int .i64 i ∧ i ≤ rl.length ∧ Below w9.heap.size w9 wx) (fun iv _ => rl.length - (intOf iv).toNat)
        case atStart => exact ⟨0, rfl, Nat.zero_le _, Below.refl _ _⟩
        case round => as_aux_lemma =>
          obtain ⟨i, rfl, hi, hbr⟩ := hrel
          obtain ⟨wv, rfl⟩ : ∃ wv : World, wv = wr := ⟨_, rfl⟩
          obtain ⟨c1, c2, s1⟩ := X9.out.later hbr
          have hx0 : Hid (Box1 w wv P A c ws.length) := ⟨c1, c2, s1⟩
          have hbw := Y9.out.trans (hbr.mono Y9.out.size)
          by_cases hil : i < rl.length ∧ i < 5
          rotate_left
          · by_cases h1 : i < rl.length
            · have h5 : ¬ i < 5 := fun h => hil ⟨h1, h⟩
              have g1 : decide (i < rl.length) = true := by simp; omega
              have g2 : decide ((i : Int) < 5) = false := by simp; omega
              clear hil
              have HBR := Lib.hid hbr; have HBW := Lib.hid hbw; clear hbr hbw
              go_wp2_with fail
              refine (shown_ _).mono ?_; rintro e wz ⟨rfl, hb1⟩
              go_wp2
              go_ret
              exact ⟨rfl, HBW.out.trans (hb1.mono HBW.out.size)⟩
            · have g1 : decide (i < rl.length) = false := by simp; omega
              clear hil
              have HBR := Lib.hid hbr; have HBW := Lib.hid hbw; clear hbr hbw
              go_wp2_with fail
              refine (shown_ _).mono ?_; rintro e wz ⟨rfl, hb1⟩
              go_wp2
              go_ret
              exact ⟨rfl, HBW.out.trans (hb1.mono HBW.out.size)⟩
          · obtain ⟨hil, hi5⟩ := hil
            obtain ⟨bq, oq, rfl, hbq, m1⟩ := (HL1.out.later hbr (Nat.le_refl _)).at_ hil
            obtain ⟨q, hqn, hqr, hqe⟩ := (HMEM.out _).1 (List.getElem_mem hil)
            rw [hqe] at m1
            have z1 : (0 : Int) ≤ (i : Int) := by omega
            have z2 : (i : Int) < (rl.length : Int) := by omega
            have hnq : ∀ j, (h : j < l.length) → l[j] ≠ (q : Int) := fun j h e => by
              have h1 := ((rdyB_iff hn hqn).1 hqr).1
              have h2 : (bitsL l).testBit q = true := (bitsL_bit l q).2 ⟨_, List.getElem_mem h, by rw [e]; simp⟩
              rw [h2] at h1; cases h1
            have g1 : decide (i < rl.length) = true := by simp; omega
            have g2 : decide ((i : Int) < 5) = true := by simp; omega
            have hin : ∀ m, InsAt l q m → clErr P ws m = 0 := fun m h => (ins_more HCL90.out hqn hqr h).cl
            have HBR := Lib.hid hbr; have HBW := Lib.hid hbw; have HQR := Lib.hid hqr; have HQE := Lib.hid hqe; have HNQ := Lib.hid hnq; have HIN := Lib.hid hin; clear hbr hbw hqr hqe hnq hin
            go_wp2
            go_loopw [21, 22, 23] (fun v zv kv wr => ∃ (k : Nat) (m : List Int) (z : Bool), kv = .int .i64 k ∧ zv = .bool z ∧ k ≤ l.length ∧ InsT l q k m z ∧ wr.ownsRow wv.heap.size 3 1 v m.length (ints m) ∧ Below wv.heap.size wv wr) (fun _ _ kv _ => l.length - (intOf kv).toNat)
            case atStart => exact ⟨0, [], false, rfl, rfl, Nat.zero_le _, ⟨rfl, fun x h => by simp at h⟩, World.ownsRow_nil _ _ _ _, Below.refl _ _⟩
            case round => as_aux_lemma =>
              obtain ⟨k, m, z, rfl, rfl, hk, hins, hown, hbs⟩ := hrel
              obtain ⟨OA, oc, rfl⟩ := own_slice1 hown
              have hml := insT_len hins
              have hlo := hown.lt
              have hsr := hbs.size
              by_cases hkl : k < l.length
              · obtain ⟨ll, lo, rfl, hll, n0⟩ := (HL.out.later HBW.out (Nat.le_refl _)).at_ hkl
                have n1 := below_at hbs (Nat.le_refl _) n0
                have n2 := below_at hbs (Nat.le_refl _) m1
                have hll2 := Nat.lt_of_lt_of_le hll hbs.size
                have hbq2 := Nat.lt_of_lt_of_le hbq hbs.size
                have y1 : (0 : Int) ≤ (k : Int) := by omega
                have y2 : (k : Int) < (l.length : Int) := by omega
                cases z with
                | true =>
                  have hin2 := insT_past hkl hins
                  generalize l[k] = x at *
                  have HINS := Lib.hid hins; have HOWN := Lib.hid hown; have HBS := Lib.hid hbs; have HLO := Lib.hid hlo; have HIN2 := Lib.hid hin2; clear hins hown hbs hlo hin2
                  go_wp2
                  go_quiet (fail)
                  go_wp2_with (at_builtin; go_must (refine wpList_app1_Try rfl _ _ rfl wv.heap.size (.slice OA m.length oc) m rfl (by repeat (first | exact HOWN.out | refine World.ownsRow.alloc ?_ _ | refine own_drewN ?_ _)) _ x rfl (heap_alloc_new _ _) (by omega) (by simp; omega) ?_); intro g cap w6 hown6 hgrow hat6 hlt6)
                  have r2 : Below wv.heap.size wv w6 := ((below_drewN HBS.out _).alloc HBS.out.size _).grown hgrow (by simp; omega) (fun j hj => (HLO.out j hj).1)
                  have R2 := Lib.hid r2; have HOWN6 := Lib.hid hown6; have HGROW := Lib.hid hgrow; clear r2 hown6 hgrow
                  go_wp2
                  go_roundw
                  case rel => exact ⟨k + 1, _, true, by go_num, rfl, by omega, HIN2.out, HOWN6.out, R2.out⟩
                  case measure => simp [intOf]; omega
                | false =>
                  have hne := HNQ.out k hkl
                  by_cases hgt : (q : Int) < l[k]
                  · have hin2 := insT_here HASC.out hkl hins hgt
                    generalize l[k] = x at *
                    have g1 : decide ((q : Int) < x) = true := by simp; omega
                    have hneL : Hid (some ll ≠ (Value.slice OA m.length oc).ownBlock) := fun h => by have := (hlo _ h.symm).1; omega
                    have hneQ : Hid (some bq ≠ (Value.slice OA m.length oc).ownBlock) := fun h => by have := (hlo _ h.symm).1; omega
                    have HINS := Lib.hid hins; have HOWN := Lib.hid hown; have HBS := Lib.hid hbs; have HLO := Lib.hid hlo; have HIN2 := Lib.hid hin2; clear hins hown hbs hlo hin2
                    clear hgt hne
                    go_wp2
                    go_quiet (fail)
                    go_upto_region 32 with (at_builtin; refine wpList_app1_Try rfl _ _ rfl wv.heap.size (.slice OA m.length oc) m rfl (by repeat (first | exact HOWN.out | refine World.ownsRow.alloc ?_ _ | refine own_drewN ?_ _)) _ (q : Int) rfl (heap_alloc_new _ _) (by omega) (by simp; omega) ?_; intro g cap w6 hown6 hgrow hat6 hlt6; have n6 : w6.cell? ⟨ll, lo + k, none⟩ = some (.int .i64 x) := (hgrow.cell_far ⟨ll, lo + k, none⟩ (by simp; omega) hneL.out).trans (below_at ((below_drewN (Below.refl _ _) _).alloc (Nat.le_refl _) _) (Nat.le_refl _) n1); have n7 : ll < w6.heap.size := (by have := hgrow.size; simp at this; omega); have HLO6 := Lib.hid hown6.lt; have HOWN6 := Lib.hid hown6; have R6 := Lib.hid (((below_drewN HBS.out _).alloc HBS.out.size _).grown hgrow (by simp; omega) (fun j hj => (HLO.out j hj).1)); clear hown6 hgrow hat6)
                    go_wp2_with (at_builtin; go_must (refine wpList_app1_Try rfl _ _ rfl wv.heap.size (.slice (some ⟨g, 0, none⟩) (m.length + 1) cap) (m ++ [(q : Int)]) rfl (by repeat (first | exact HOWN6.out | refine World.ownsRow.alloc ?_ _ | refine own_drewN ?_ _)) _ x rfl (heap_alloc_new _ _) (by simp; omega) (by have := R6.out.size; simp; omega) ?_); intro g2 cap2 w7b hown7 hgrow7 hat7 hlt7)
                    have r7 : Below wv.heap.size wv w7b := (R6.out.alloc R6.out.size _).grown hgrow7 (by have := R6.out.size; simp; omega) (fun j hj => (HLO6.out j hj).1)
                    have R7 := Lib.hid r7; have HOWN7 := Lib.hid hown7; have HGROW7 := Lib.hid hgrow7; clear r7 hown7 hgrow7
                    go_wp2
                    go_roundw
                    case rel => exact ⟨k + 1, _, true, by go_num, rfl, by omega, HIN2.out, by have h := HOWN7.out; rw [show (m ++ [(q : Int)]).length = m.length + 1 by simp] at h; exact h, R7.out⟩
                    case measure => simp [intOf]; omega
                  · have hlt2 : l[k] < (q : Int) := by omega
                    have hin2 := insT_low hkl hins hlt2
                    generalize l[k] = x at *
                    have g1 : decide ((q : Int) < x) = false := by simp; omega
                    have HINS := Lib.hid hins; have HOWN := Lib.hid hown; have HBS := Lib.hid hbs; have HLO := Lib.hid hlo; have HIN2 := Lib.hid hin2; clear hins hown hbs hlo hin2
                    clear hgt hne hlt2
                    go_wp2
                    go_quiet (fail)
                    go_wp2_with (at_builtin; go_must (refine wpList_app1_Try rfl _ _ rfl wv.heap.size (.slice OA m.length oc) m rfl (by repeat (first | exact HOWN.out | refine World.ownsRow.alloc ?_ _ | refine own_drewN ?_ _)) _ x rfl (heap_alloc_new _ _) (by omega) (by simp; omega) ?_); intro g cap w6 hown6 hgrow hat6 hlt6)
                    have r2 : Below wv.heap.size wv w6 := ((below_drewN HBS.out _).alloc HBS.out.size _).grown hgrow (by simp; omega) (fun j hj => (HLO.out j hj).1)
                    have R2 := Lib.hid r2; have HOWN6 := Lib.hid hown6; have HGROW := Lib.hid hgrow; clear r2 hown6 hgrow
                    go_wp2
                    go_roundw
                    case rel => exact ⟨k + 1, _, false, by go_num, rfl, by omega, HIN2.out, HOWN6.out, R2.out⟩
                    case measure => simp [intOf]; omega
              · obtain rfl : k = l.length := by omega
                have g1 : decide (l.length < l.length) = false := by simp
                cases z with
                | true =>
                  have hcm := HIN.out m (insT_end.1 hins)
                  obtain ⟨OA2, oc2, he2, hmI⟩ := RdV.of_own hown (by omega)
                  injection he2 with hA1 hA2 hA3
                  subst hA1; subst hA3
                  have hbz := HBW.out.trans (hbs.mono HBW.out.size)
                  obtain ⟨c1, c2, s1⟩ := hx0.out.later hbs
                  have HOWN := Lib.hid hown; have HBZ := Lib.hid hbz; have HMI := Lib.hid hmI; have HCM := Lib.hid hcm; have HINS := Lib.hid hins; have HLO := Lib.hid hlo; have HBS := Lib.hid hbs; clear hown hbz hmI hcm hins hlo hbs
                  go_wp2_with fail
                  refine (sLine_ P A OA c oc ws m _ (HA.out.later HBZ.out (Nat.le_refl _)) HMI.out).mono ?_; rintro e w7 ⟨_, rfl, ⟨Lb, kb, rfl, hLb⟩, hb1⟩
                  rw [HCM.out]
                  have r7 := HBS.out.trans (hb1.mono HBS.out.size)
                  have R7 := Lib.hid r7; clear r7
                  clear hb1 hLb c1 c2 s1
                  go_wp2
                  go_roundw
                  case rel => exact ⟨i + 1, by go_num, by omega, HBR.out.trans (R7.out.mono HBR.out.size)⟩
                  case measure => simp [intOf]; omega
                | false =>
                  have hcm := HIN.out _ (insT_end.2 hins)
                  have n2 := below_at hbs (Nat.le_refl _) m1
                  have hbq2 := Nat.lt_of_lt_of_le hbq hbs.size
                  have HINS := Lib.hid hins; have HOWN := Lib.hid hown; have HBS := Lib.hid hbs; have HLO := Lib.hid hlo; have HCM := Lib.hid hcm; clear hins hown hbs hlo hcm
                  go_wp2_with (first | (at_builtin; go_must (refine wpList_app1_Try rfl _ _ rfl wv.heap.size (.slice OA m.length oc) m rfl (by repeat (first | exact HOWN.out | refine World.ownsRow.alloc ?_ _ | refine own_drewN ?_ _)) _ (q : Int) rfl (heap_alloc_new _ _) (by omega) (by simp; omega) ?_); intro g cap w6 hown6 hgrow hat6 hlt6; have R2 := Lib.hid (show Below wv.heap.size wv w6 from (HBS.out.alloc HBS.out.size _).grown hgrow (by simp; omega) (fun j hj => (HLO.out j hj).1)); obtain ⟨OA2, oc2, he2, hmI⟩ := RdV.of_own hown6 (by simp; omega); injection he2 with hA1 hA2 hA3; subst hA1; subst hA3; have hbz := HBW.out.trans (R2.out.mono HBW.out.size); obtain ⟨c1, c2, s1⟩ := hx0.out.later R2.out; have hsl := sLine_ P A (some ⟨g, 0, none⟩) c cap ws (m ++ [(q : Int)]) w6 (HA.out.later hbz (Nat.le_refl _)) hmI; simp only [List.length_append, List.length_singleton] at hsl; rw [HCM.out] at hsl; have HSL := Lib.hid hsl; clear hsl hmI hA2 hown6 hgrow hat6 hlt6 hbz) | (go_at_call 17; refine HSL.out.mono ?_; rintro e w7 ⟨_, rfl, ⟨Lb, kb, rfl, hLb⟩, hb1⟩))
                  have r7 := R2.out.trans (hb1.mono R2.out.size)
                  have R7 := Lib.hid r7; clear r7
                  clear hb1 hLb c1 c2 s1
                  go_wp2
                  go_roundw
                  case rel => exact ⟨i + 1, by go_num, by omega, HBR.out.trans (R7.out.mono HBR.out.size)⟩
                  case measure => simp [intOf]; omega
theorem lawCloses_ (p xa xb xc : Int) (A L : Option Addr) (c lc : Nat) (ws : List GW) (l : List Int) (w : World) (ha : ShIn w p A ws) (hl : RdI w L l) (ka : 0 ≤ xa ∧ xa ≤ 65535) (kb : 0 ≤ xb ∧ xb ≤ 65535) (kc : 0 ≤ xc ∧ xc ≤ 65535) :
    Calls Try.prog 8 #[.agg #[.int .i64 p, .slice A ws.length c], .agg #[.int .u16 xa, .int .u16 xb, .int .u16 xc], .slice L l.length lc] w fun e w' => e = .returned (.bool true) ∧ Below w.heap.size w w' := by
  cases h : befB p.toNat ws (xa % (ws.length : Int)).toNat (xb % (ws.length : Int)).toNat with
  | true => exact lawClosesY_ p xa xb xc A L c lc ws l w ha hl ka kb kc fun a b h1 h2 => by rw [h1, h2] at h; simpa using h
  | false => exact lawClosesN_ p xa xb xc A L c lc ws l w ha hl ka kb kc fun a b h1 h2 => by rw [h1, h2] at h; simpa using h
end Go.Proofs.Ytepdgffccfcfpaa
