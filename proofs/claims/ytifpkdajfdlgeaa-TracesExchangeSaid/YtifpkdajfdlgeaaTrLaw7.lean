/- The law TracesExchange: its walk. -/
import Derived.Test.YtifpkdajfdlgeaaTrExch
import Derived.Test.YtifpkdajfdlgeaaTrExcW
import Derived.Test.YtifpkdajfdlgeaaTrSame4
namespace Go.Proofs.Ytifpkdajfdlgeaa
open Go.RowKit

theorem Box2.made (w : World) (p : Int) (A : Option Addr) (c n : Nat) : Box2 w (w.alloc (.cells #[.int .i64 p, .slice A n c] 24)) p A c n :=
  ⟨by go_simp, by go_simp, by simp⟩

set_option maxRecDepth 100000 in
set_option maxHeartbeats 8000000 in
theorem lawExchange_ (p : Int) (A L : Option Addr) (c lc : Nat) (ws : List GW) (at' : List Int) (which : Int) (w : World) (ha : ShIn w p A ws) (hl : RdU w L at') (hw0 : 0 ≤ which) (hw1 : which ≤ 255) :
    Calls Try.prog 9 #[.agg #[.int .i64 p, .slice A ws.length c], .slice L at'.length lc, .int .u8 which] w fun e w' => e = .returned (.bool true) ∧ Below w.heap.size w w' := by
  have hla := ha.rd.1
  have hll := hl.1
  have hb2 : Below w.heap.size w (w.alloc (.cells #[.int .i64 p, .slice A ws.length c] 24)) := (Below.refl _ _).alloc (Nat.le_refl _) _
  have Y0 := Lib.hid hb2; clear hb2
  have X0 := Lib.hid (Box2.made w p A c ws.length)
  by_cases he : errSheet p ws = 0
  rotate_left
  · have heb : (errSheet p ws != 0) = true := by simpa using he
    have HA := Lib.hid ha; have HL := Lib.hid hl; have HE := Lib.hid he; clear ha hl he
    go_enter Try.func9, Try.ntmps9
    go_wp2_with fail
    refine (rCheck_ _ _ _ _ _ HA.out.lo HA.out.hi (HA.out.rd.later Y0.out (Nat.le_refl _))).mono ?_; rintro e w1 ⟨rfl, hb1⟩
    have X1 := Lib.hid (X0.out.later hb1); have Y1 := Lib.hid (Y0.out.trans (hb1.mono Y0.out.size)); clear hb1; obtain ⟨c1, c2, s1⟩ := X1.out
    go_wp2_with fail
    clear c1 c2 s1
    refine (awake_ _).mono ?_; rintro e w8 ⟨rfl, hb1⟩
    go_wp2
    go_ret
    exact ⟨rfl, Y1.out.trans (hb1.mono Y1.out.size)⟩
  have hec := he
  by_cases h80 : 80 < ws.length
  · have t1 : (80 : Int) < (ws.length : Int) := by omega
    have HA := Lib.hid ha; have HL := Lib.hid hl; have HE := Lib.hid he; clear ha hl he
    go_enter Try.func9, Try.ntmps9
    go_wp2_with fail
    refine (rCheck_ _ _ _ _ _ HA.out.lo HA.out.hi (HA.out.rd.later Y0.out (Nat.le_refl _))).mono ?_
    rw [hec]
    clear hec
    rintro e w1 ⟨rfl, hb1⟩
    have X1 := Lib.hid (X0.out.later hb1); have Y1 := Lib.hid (Y0.out.trans (hb1.mono Y0.out.size)); clear hb1; obtain ⟨c1, c2, s1⟩ := X1.out
    go_wp2_with fail
    clear c1 c2 s1
    refine (awake_ _).mono ?_; rintro e w8 ⟨rfl, hb1⟩
    go_wp2
    go_ret
    exact ⟨rfl, Y1.out.trans (hb1.mono Y1.out.size)⟩
  have t1 : decide ((80 : Int) < (ws.length : Int)) = false := by simp; omega
  by_cases h1000 : 1000 < at'.length
  · have t2 : (1000 : Int) < (at'.length : Int) := by omega
    have HA := Lib.hid ha; have HL := Lib.hid hl; have HE := Lib.hid he; clear ha hl he
    clear h80
    go_enter Try.func9, Try.ntmps9
    go_wp2_with fail
    refine (rCheck_ _ _ _ _ _ HA.out.lo HA.out.hi (HA.out.rd.later Y0.out (Nat.le_refl _))).mono ?_
    rw [hec]
    clear hec
    rintro e w1 ⟨rfl, hb1⟩
    have X1 := Lib.hid (X0.out.later hb1); have Y1 := Lib.hid (Y0.out.trans (hb1.mono Y0.out.size)); clear hb1; obtain ⟨c1, c2, s1⟩ := X1.out
    go_wp2_with fail
    clear c1 c2 s1
    refine (awake_ _).mono ?_; rintro e w8 ⟨rfl, hb1⟩
    go_wp2
    go_ret
    exact ⟨rfl, Y1.out.trans (hb1.mono Y1.out.size)⟩
  have t2 : decide ((1000 : Int) < (at'.length : Int)) = false := by simp; omega
  obtain ⟨hp2, hp24, hlen, hall⟩ := OkS.all (show OkS p ws from he)
  have hpl : ∀ x ∈ ws, 0 ≤ x.pl ∧ x.pl ≤ 22 := fun x hx => by
    obtain ⟨_, h1, h2, _⟩ := hall x hx
    exact ⟨h1, by omega⟩
  obtain ⟨l, la, lb, V, hex⟩ := exF at' he
  have hvf : ∀ x ∈ exW ws at', x.fits := fun x hx => ha.rd.2.1 x (mem_exW _ hx)
  obtain ⟨vs, hvs⟩ : ∃ vs, exW ws at' = vs := ⟨_, rfl⟩
  rw [hvs] at hex hvf
  have hvl := hex.vl
  have hlv := hex.ll
  have hll2 : l.length ≤ 80 := by omega
  have hvl2 : vs.length ≤ 80 := by omega
  have hws2 : ws.length ≤ 80 := by omega
  have HPR := Lib.hid (show -9223372036854775808 ≤ p ∧ p ≤ 9223372036854775807 by omega)
  have HA := Lib.hid ha; have HL := Lib.hid hl; have HE := Lib.hid he; have HALL := Lib.hid hall; have HPL := Lib.hid hpl; have HEX := Lib.hid hex; have HVF := Lib.hid hvf; have HVS := Lib.hid hvs; have HVL := Lib.hid hvl; have HLV := Lib.hid hlv; clear ha hl he hall hpl hex hvf hvs hvl hlv
  clear h80 h1000
  go_enter Try.func9, Try.ntmps9
  go_wp2_with fail
  refine (rCheck_ _ _ _ _ _ HA.out.lo HA.out.hi (HA.out.rd.later Y0.out (Nat.le_refl _))).mono ?_
  rw [hec]
  clear hec
  rintro e w1 ⟨rfl, hb1⟩
  have X1 := Lib.hid (X0.out.later hb1); have Y1 := Lib.hid (Y0.out.trans (hb1.mono Y0.out.size)); clear hb1; obtain ⟨c1, c2, s1⟩ := X1.out
  go_wp2_with fail
  clear c1 c2 s1
  refine (exchanged_ p A L c lc ws at' _ hlen HPL.out (HA.out.rd.later Y1.out (Nat.le_refl _)) (HL.out.later Y1.out (Nat.le_refl _))).mono ?_
  rw [HVS.out]
  rintro e w2 ⟨B, d, rfl, hownb, hb1, hdc⟩
  have GB := Lib.hid (fun (g : Nat) (h : (Value.slice B vs.length d).ownBlock = some g) => (hownb.lt g h).2)
  have hw01 : w.heap.size < w1.heap.size := by have h1 := Y1.out.size; have h2 := X1.out.2.2; omega
  have HOWNB := Lib.hid hownb; clear hownb
  have X2 := Lib.hid (X1.out.later hb1); have Y2 := Lib.hid (Y1.out.trans (hb1.mono Y1.out.size)); clear hb1; obtain ⟨c1, c2, s1⟩ := X2.out
  go_wp2_with fail
  clear c1 c2 s1
  have hbx : Below w2.heap.size w2 (w2.alloc (.cells #[.int .i64 p, .slice B vs.length d] 24)) := (Below.refl _ _).alloc (Nat.le_refl _) _
  have X3 := Lib.hid (X2.out.later hbx)
  have Y3 := Lib.hid (Y2.out.trans (hbx.mono Y2.out.size))
  have Z3 := Lib.hid (Box2.made w2 p B d vs.length)
  have OB3 := Lib.hid (own_below3 HOWNB.out hbx)
  clear hbx
  obtain ⟨w3, hw3⟩ : ∃ w3, w3 = w2.alloc (.cells #[.int .i64 p, .slice B vs.length d] 24) := ⟨_, rfl⟩
  rw [← hw3] at X3 Y3 Z3 OB3 ⊢
  clear hw3 X1 X2 Y1 Y2 HOWNB
  have RB3 := Lib.hid (RdW.of_own OB3.out (by omega) HVF.out)
  refine (tSame_ p p A B c d ws vs _ (HA.out.later Y3.out (Nat.le_refl _)) ⟨by omega, by omega, RB3.out⟩).mono ?_
  rw [HEX.out.se, HEX.out.be]
  rintro e w4 ⟨rfl, hb1⟩
  have X4 := Lib.hid (X3.out.later hb1); have Z4 := Lib.hid (Z3.out.later hb1); have Y4 := Lib.hid (Y3.out.trans (hb1.mono Y3.out.size)); have OB4 := Lib.hid (own_below3 OB3.out hb1); have RB4 := Lib.hid (RB3.out.later hb1 (Nat.le_refl _)); clear hb1 X3 Z3 Y3 OB3 RB3
  obtain ⟨c1, c2, s1⟩ := X4.out
  obtain ⟨d1, d2, s2⟩ := Z4.out
  go_wp2_with fail
  clear c1 c2 s1 d1 d2 s2
  refine (tMatch_ p p A B c d ws vs _ (HA.out.later Y4.out (Nat.le_refl _)) ⟨by omega, by omega, RB4.out⟩).mono ?_
  rw [HEX.out.ml, HEX.out.me]
  rintro e w5 ⟨_, rfl, ⟨L1, k1, rfl, hL1⟩, hb1⟩
  have Q5 := Lib.hid hL1; clear hL1
  have X5 := Lib.hid (X4.out.later hb1); have Z5 := Lib.hid (Z4.out.later hb1); have Y5 := Lib.hid (Y4.out.trans (hb1.mono Y4.out.size)); have OB5 := Lib.hid (own_below3 OB4.out hb1); have RB5 := Lib.hid (RB4.out.later hb1 (Nat.le_refl _)); clear hb1 X4 Z4 Y4 OB4 RB4
  obtain ⟨c1, c2, s1⟩ := X5.out
  obtain ⟨d1, d2, s2⟩ := Z5.out
  go_wp2_with fail
  clear c1 c2 s1 d1 d2 s2
  refine (rReorder_ p A L1 c k1 ws l _ (HA.out.later Y5.out (Nat.le_refl _)) Q5.out).mono ?_
  rw [HEX.out.r1, HEX.out.r2, HEX.out.r3]
  rintro e w6 ⟨B3, d3, rfl, hB3, hb1, hd3⟩
  have RX6 := Lib.hid hB3; clear hB3
  have X6 := Lib.hid (X5.out.later hb1); have Z6 := Lib.hid (Z5.out.later hb1); have Y6 := Lib.hid (Y5.out.trans (hb1.mono Y5.out.size)); have OB6 := Lib.hid (own_below3 OB5.out hb1); have RB6 := Lib.hid (RB5.out.later hb1 (Nat.le_refl _)); have Q6 := Lib.hid (Q5.out.later hb1 (Nat.le_refl _)); clear hb1 X5 Z5 Y5 OB5 RB5 Q5
  obtain ⟨c1, c2, s1⟩ := X6.out
  obtain ⟨d1, d2, s2⟩ := Z6.out
  go_wp2_with fail
  clear c1 c2 s1 d1 d2 s2
  have hbx : Below w6.heap.size w6 (w6.alloc (.cells #[.int .i64 p, .slice B3 vs.length d3] 24)) := (Below.refl _ _).alloc (Nat.le_refl _) _
  have W7 : Hid ((w6.alloc (.cells #[.int .i64 p, .slice B3 vs.length d3] 24)).heap[w6.heap.size]? = some (.cells #[.int .i64 p, .slice B3 vs.length d3] 24 (0, 0))) := Lib.hid (heap_alloc_new _ _)
  have P7 := Lib.hid hbx; clear hbx
  obtain ⟨w7, hw7⟩ : ∃ w7, w7 = w6.alloc (.cells #[.int .i64 p, .slice B3 vs.length d3] 24) := ⟨_, rfl⟩
  rw [← hw7] at W7 P7 ⊢
  clear hw7
  refine (rSame4_ p B3 B d3 d vs _ (RX6.out.later P7.out (Nat.le_refl _)) (RB6.out.later P7.out (Nat.le_refl _))).mono ?_
  rintro e w8 ⟨rfl, hb1⟩
  have P8 := Lib.hid (P7.out.trans (hb1.mono P7.out.size)); have W8 := Lib.hid ((hb1.block _ (lt_of_block W7.out)).trans W7.out); clear hb1 P7 W7
  obtain ⟨c1, c2, s1⟩ := X6.out.later P8.out
  obtain ⟨d1, d2, s2⟩ := Z6.out.later P8.out
  go_wp2_with fail
  clear d1 d2 s2
  refine (tLeast_ p A c ws _ (HA.out.later (Y6.out.trans (P8.out.mono Y6.out.size)) (Nat.le_refl _))).mono ?_
  rw [HEX.out.la_, HE.out]
  rintro e w9 ⟨_, rfl, ⟨L2, k2, rfl, hL2⟩, hb1⟩
  have U9 := Lib.hid hL2; clear hL2
  have P9 := Lib.hid (P8.out.trans (hb1.mono P8.out.size)); have W9 := Lib.hid ((hb1.block _ (lt_of_block W8.out)).trans W8.out); clear hb1 P8 W8
  clear c1 c2 s1
  obtain ⟨d1, d2, s2⟩ := Z6.out.later P9.out
  go_wp2_with fail
  clear d1 d2 s2
  refine (tLeast_ p B d vs _ ⟨by omega, by omega, RB6.out.later P9.out (Nat.le_refl _)⟩).mono ?_
  rw [HEX.out.lb_, HEX.out.ev]
  rintro e w10 ⟨_, rfl, ⟨L3, k3, rfl, hL3⟩, hb1⟩
  have V10 := Lib.hid hL3; clear hL3
  have P10 := Lib.hid (P9.out.trans (hb1.mono P9.out.size)); have W10 := Lib.hid ((hb1.block _ (lt_of_block W9.out)).trans W9.out); have U10 := Lib.hid (U9.out.later hb1 (Nat.le_refl _)); clear hb1 P9 W9 U9
  obtain ⟨c1, c2, s1⟩ := X6.out.later P10.out
  go_wp2_with fail
  clear c1 c2 s1
  refine (rReorder_ p A L2 c k2 ws la _ (HA.out.later (Y6.out.trans (P10.out.mono Y6.out.size)) (Nat.le_refl _)) U10.out).mono ?_
  rw [HEX.out.a1, HEX.out.a2, HEX.out.a3]
  rintro e w11 ⟨B4, d4, rfl, hB4, hb1, hd4⟩
  have RX11 := Lib.hid hB4; clear hB4
  have P11 := Lib.hid (P10.out.trans (hb1.mono P10.out.size)); have W11 := Lib.hid ((hb1.block _ (lt_of_block W10.out)).trans W10.out); have V11 := Lib.hid (V10.out.later hb1 (Nat.le_refl _)); clear hb1 P10 W10 V10
  clear U10
  have hZ11 := Z6.out.later P11.out
  have d1 := hZ11.1
  have d2 := hZ11.2.1
  have n1 : ¬ w6.heap.size = w2.heap.size := by have := Z6.out.2.2; omega
  have n2 : ¬ w2.heap.size = w6.heap.size := by have := Z6.out.2.2; omega
  have s2 : w2.heap.size < w11.heap.size := hZ11.2.2
  have o0 : w11.cell? ⟨w6.heap.size, 0, none⟩ = some (.int .i64 p) := cell_of_row w11 _ 0 _ _ _ W11.out
  have o1 : w11.cell? ⟨w6.heap.size, 1, none⟩ = some (.slice B3 vs.length d3) := cell_of_row w11 _ 1 _ _ _ W11.out
  have f0 := frozen_of_row w11 _ 0 _ _ W11.out
  have f1 := frozen_of_row w11 _ 1 _ _ W11.out
  have s3 := lt_of_block W11.out
  clear hZ11
  go_wp2_with fail
  clear d1 d2 s2 o0 o1 f0 f1
  have gB : ∀ b o, B4 = some ⟨b, o, none⟩ → 0 < V.length → w6.heap.size ≠ b := works_off W11.out RX11.out
  have gL : ∀ b o, L3 = some ⟨b, o, none⟩ → 0 < lb.length → w6.heap.size ≠ b := ints_off W11.out V11.out HEX.out.lbb
  have RX12 := Lib.hid ((RX11.out.put gB 0 (.int .i64 p)).put gB 1 (.slice B4 V.length d4))
  have V12 := Lib.hid ((V11.out.put gL 0 (.int .i64 p)).put gL 1 (.slice B4 V.length d4))
  have W12 := Lib.hid (two_set (a := .int .i64 p) (b := .slice B4 V.length d4) W11.out)
  have P12 : Hid (Below w6.heap.size w6 ((w11.setCell ⟨w6.heap.size, 0, none⟩ (.int .i64 p)).setCell ⟨w6.heap.size, 1, none⟩ (.slice B4 V.length d4))) := Lib.hid ((P11.out.setCell (Nat.le_refl _) _).setCell (Nat.le_refl _) _)
  obtain ⟨w12, hw12⟩ : ∃ w12, w12 = (w11.setCell ⟨w6.heap.size, 0, none⟩ (.int .i64 p)).setCell ⟨w6.heap.size, 1, none⟩ (.slice B4 V.length d4) := ⟨_, rfl⟩
  rw [← hw12] at RX12 V12 W12 P12 ⊢
  clear hw12 gB gL RX11 V11 W11 P11 s3
  refine (rReorder_ p B L3 d k3 vs lb _ ⟨by omega, by omega, RB6.out.later P12.out (Nat.le_refl _)⟩ V12.out).mono ?_
  rw [HEX.out.b1, HEX.out.b2, HEX.out.b3]
  rintro e w13 ⟨B5, d5, rfl, hB5, hb1, hd5⟩
  have RY13 := Lib.hid hB5; clear hB5
  have P13 := Lib.hid (P12.out.trans (hb1.mono P12.out.size)); have W13 := Lib.hid ((hb1.block _ (lt_of_block W12.out)).trans W12.out); have RX13 := Lib.hid (RX12.out.later hb1 (Nat.le_refl _)); clear hb1 P12 W12 RX12
  clear V12
  have o0 : w13.cell? ⟨w6.heap.size, 0, none⟩ = some (.int .i64 p) := cell_of_row w13 _ 0 _ _ _ W13.out
  have o1 : w13.cell? ⟨w6.heap.size, 1, none⟩ = some (.slice B4 V.length d4) := cell_of_row w13 _ 1 _ _ _ W13.out
  have s3 := lt_of_block W13.out
  go_wp2_with fail
  clear o0 o1 s3
  have hbx : Below w13.heap.size w13 (w13.alloc (.cells #[.int .i64 p, .slice B5 V.length d5] 24)) := (Below.refl _ _).alloc (Nat.le_refl _) _
  have RX14 := Lib.hid (RX13.out.later hbx (Nat.le_refl _))
  have RY14 := Lib.hid (RY13.out.later hbx (Nat.le_refl _))
  have P14 := Lib.hid (P13.out.trans (hbx.mono P13.out.size))
  obtain ⟨w14, hw14⟩ : ∃ w14, w14 = w13.alloc (.cells #[.int .i64 p, .slice B5 V.length d5] 24) := ⟨_, rfl⟩
  rw [← hw14] at RX14 RY14 P14 ⊢
  clear hw14 hbx RX13 RY13 P13 W13
  refine (rSame4_ p B4 B5 d4 d5 V _ RX14.out RY14.out).mono ?_
  rintro e w15 ⟨rfl, hb1⟩
  have P15 := Lib.hid (P14.out.trans (hb1.mono P14.out.size)); clear hb1 P14
  clear RX14 RY14
  obtain ⟨c1, c2, s1⟩ := X6.out.later P15.out
  go_wp2_with fail
  clear c1 c2 s1
  refine (tLevels_ p A c ws _ (HA.out.later (Y6.out.trans (P15.out.mono Y6.out.size)) (Nat.le_refl _))).mono ?_
  rw [HEX.out.c1, HE.out]
  rintro e w16 ⟨_, rfl, ⟨LC, kc, rfl, hLC⟩, hb1⟩
  rw [levL_length]
  have C16 := Lib.hid hLC; clear hLC
  have P16 := Lib.hid (P15.out.trans (hb1.mono P15.out.size)); clear hb1 P15
  obtain ⟨d1, d2, s2⟩ := Z6.out.later P16.out
  go_wp2_with fail
  clear d1 d2 s2
  refine (tLevels_ p B d vs _ ⟨by omega, by omega, RB6.out.later P16.out (Nat.le_refl _)⟩).mono ?_
  rw [HEX.out.c2, HEX.out.ev]
  rintro e w17 ⟨_, rfl, ⟨LD, kd, rfl, hLD⟩, hb1⟩
  rw [levL_length]
  have D17 := Lib.hid hLD; clear hLD
  have P17 := Lib.hid (P16.out.trans (hb1.mono P16.out.size)); have C17 := Lib.hid (C16.out.later hb1 (Nat.le_refl _)); clear hb1 P16 C16
  have t3 : ((ws.length : Int) != (l.length : Int)) = false := by simp [HLV.out]
  have t4 : ((vs.length : Int) != (l.length : Int)) = false := by simp [HLV.out, HVL.out]
  have Q17 := Lib.hid (Q6.out.later P17.out (Nat.le_refl _))
  go_wp2
  clear t3 t4
  go_loopw [20] (fun kv wr => ∃ k : Nat, kv = .int .i64 k ∧ k ≤ l.length ∧ Below w17.heap.size w17 wr) (fun kv _ => l.length - (intOf kv).toNat)
  case atStart => exact ⟨0, rfl, Nat.zero_le _, Below.refl _ _⟩
  case round =>
    obtain ⟨k, rfl, hk, hbw⟩ := hrel
    by_cases hlt : k < l.length
    · obtain ⟨i, g1, g2, g3⟩ := HEX.out.lev k hlt
      have hkv : k < (levL vs vs.length).length := by rw [levL_length, HVL.out, ← HLV.out]; exact hlt
      have hki : i < (levL ws ws.length).length := by rw [levL_length]; exact g2
      obtain ⟨bM, oM, hL1e, _, m1⟩ := (Q17.out.later hbw (Nat.le_refl _)).at_ hlt
      obtain ⟨bD, oD, hDe, _, m2⟩ := (D17.out.later hbw (Nat.le_refl _)).at_ hkv
      obtain ⟨bC, oC, hCe, _, m3⟩ := (C17.out.later hbw (Nat.le_refl _)).at_ hki
      have e1 : l[k] = (i : Int) := by rw [List.getD_eq_getElem?_getD, List.getElem?_eq_getElem hlt] at g1; exact g1
      have e2 : (levL vs vs.length)[k] = (levL ws ws.length)[i] := by
        rw [List.getD_eq_getElem?_getD, List.getD_eq_getElem?_getD, List.getElem?_eq_getElem hkv, List.getElem?_eq_getElem hki] at g3; exact g3
      rw [e1] at m1
      rw [e2] at m2
      subst hL1e; subst hDe; subst hCe
      rw [levL_length] at hkv
      have x1 : (0 : Int) ≤ (k : Int) := by omega
      have x2 : (k : Int) < (l.length : Int) := by omega
      have x3 : (k : Int) < (vs.length : Int) := by omega
      have x4 : (0 : Int) ≤ (i : Int) := by omega
      have x5 : (i : Int) < (ws.length : Int) := by omega
      clear e1 e2 g1 g3
      generalize (levL ws ws.length)[i] = z at *
      clear hki hkv
      have x6 : (z != z) = false := by simp
      have HBW := Lib.hid hbw; clear hbw
      go_wp2
      go_quiet (fail)
      go_wp2
      go_roundw
      case rel => exact ⟨k + 1, by go_num, by omega, below_drewN HBW.out _⟩
      case measure => simp [intOf]; omega
    · have PZ := Lib.hid (P17.out.trans (hbw.mono P17.out.size))
      clear hbw
      obtain ⟨wz, hwz⟩ : ∃ wz : World, wz = wr := ⟨_, rfl⟩
      rw [← hwz] at PZ ⊢
      clear hwz
      obtain ⟨d1, d2, s2⟩ := Z6.out.later PZ.out
      by_cases hn : vs.length = 0
      · have t5 : ((vs.length : Int) == 0) = true := by simp [hn]
        have HN := Lib.hid hn; clear hn
        go_wp2_with fail
        refine (awake_ _).mono ?_; rintro e w18 ⟨rfl, hb1⟩
        go_wp2
        go_ret
        exact ⟨rfl, Y6.out.trans ((PZ.out.trans (hb1.mono PZ.out.size)).mono Y6.out.size)⟩
      have t5 : ((vs.length : Int) == 0) = false := by simpa using hn
      have hownZ := own_below3 OB6.out PZ.out
      obtain ⟨g, rfl, hg1, hg2⟩ := own_someW hownZ (by omega)
      obtain ⟨K, hK, hKn⟩ : ∃ K : Nat, which.tmod (vs.length : Int) = K ∧ K < vs.length := by
        refine ⟨(which % (vs.length : Int)).toNat, ?_, ?_⟩
        · rw [Int.tmod_eq_emod_of_nonneg hw0]
          have := Int.emod_nonneg which (show (vs.length : Int) ≠ 0 by omega)
          omega
        · have h1 := Int.emod_nonneg which (show (vs.length : Int) ≠ 0 by omega)
          have h2 := Int.emod_lt_of_pos which (show (0 : Int) < vs.length by omega)
          omega
      have hK2 : which % (vs.length : Int) = K := by rw [← Int.tmod_eq_emod_of_nonneg hw0]; exact hK
      obtain ⟨q1, q2, q3, f1, f2, f3⟩ := own_workW hownZ (i := K) hKn
      obtain ⟨hch1, hch2, hch3⟩ := HEX.out.chg K hKn
      obtain ⟨z, hz⟩ : ∃ z, vs.getD K nw = z := ⟨_, rfl⟩
      rw [hz] at q1 q2 q3 hch1 hch2 hch3
      have x1 : (0 : Int) ≤ (K : Int) := by omega
      have x2 : (K : Int) < (vs.length : Int) := by omega
      have hg3 : g < w2.heap.size := GB.out g rfl
      have n3 : ¬ w2.heap.size = g := by omega
      have n4 : ¬ g = w2.heap.size := fun e => n3 e.symm
      obtain ⟨c1, c2, s1⟩ := X6.out.later PZ.out
      have n5 : ¬ w.heap.size = g := by omega
      have n6 : ¬ g = w.heap.size := by omega
      by_cases hkd : z.kind = 2
      · have t6 : (z.kind == 2) = true := by simp [hkd]
        have hy : newW z = ⟨1, z.pl, ⟨#[67]⟩⟩ := by unfold newW; rw [if_pos hkd]
        rw [hy] at hch1 hch2 hch3
        have own2 := Lib.hid (own_putW hownZ K ⟨1, z.pl, ⟨#[67]⟩⟩).drew
        have PY := Lib.hid (below_three (Y6.out.trans (PZ.out.mono Y6.out.size)) (show w.heap.size ≤ g by omega) (K * 3) (K * 3 + 1) (K * 3 + 2) (.int .i64 1) (.int .i64 z.pl) (.string ⟨#[67]⟩)).drew
        have e1 := Lib.hid (cell_three (w := wz) n5 (K * 3) (K * 3 + 1) (K * 3 + 2) 0 (.int .i64 1) (.int .i64 z.pl) (.string ⟨#[67]⟩))
        have e2 := Lib.hid (cell_three (w := wz) n5 (K * 3) (K * 3 + 1) (K * 3 + 2) 1 (.int .i64 1) (.int .i64 z.pl) (.string ⟨#[67]⟩))
        have e3 := Lib.hid (cell_three (w := wz) n3 (K * 3) (K * 3 + 1) (K * 3 + 2) 0 (.int .i64 1) (.int .i64 z.pl) (.string ⟨#[67]⟩))
        have e4 := Lib.hid (cell_three (w := wz) n3 (K * 3) (K * 3 + 1) (K * 3 + 2) 1 (.int .i64 1) (.int .i64 z.pl) (.string ⟨#[67]⟩))
        have e5 := Lib.hid (show (((wz.setCell ⟨g, K * 3, none⟩ (.int .i64 1)).setCell ⟨g, K * 3 + 1, none⟩ (.int .i64 z.pl)).setCell ⟨g, K * 3 + 2, none⟩ (.string ⟨#[67]⟩)).drew.heap.size = wz.heap.size by simp)
        have hfi : ∀ x ∈ vs.set K ⟨1, z.pl, ⟨#[67]⟩⟩, x.fits := fun x hx => by
          rcases List.mem_or_eq_of_mem_set hx with h | h
          · exact HVF.out x h
          · rw [h]; exact hch3
        have HKD := Lib.hid hkd; have HOWNZ := Lib.hid hownZ; have HCH1 := Lib.hid hch1; have HCH2 := Lib.hid hch2; have HCH3 := Lib.hid hch3; have HZ := Lib.hid hz; have HY := Lib.hid hy; have HFI := Lib.hid hfi; clear hkd hownZ hch1 hch2 hch3 hz hy hfi
        go_wp2
        go_region
        obtain ⟨wy, hwy⟩ : ∃ wy, wy = (((wz.setCell ⟨g, K * 3, none⟩ (.int .i64 1)).setCell ⟨g, K * 3 + 1, none⟩ (.int .i64 z.pl)).setCell ⟨g, K * 3 + 2, none⟩ (.string ⟨#[67]⟩)).drew := ⟨_, rfl⟩
        have OY : Hid (wy.ownsRow w1.heap.size 40 3 (.slice (some ⟨g, 0, none⟩) vs.length d) vs.length (worksC (vs.set K ⟨1, z.pl, ⟨#[67]⟩⟩))) := Lib.hid (by rw [hwy]; exact own2.out)
        rw [← hwy] at PY e1 e2 e3 e4 e5 ⊢
        have k1 := e1.out.trans c1
        have k2 := e2.out.trans c2
        have k3 := e3.out.trans d1
        have k4 : wy.cell? ⟨w2.heap.size, 1, none⟩ = some (.slice (some ⟨g, 0, none⟩) vs.length d) := by exact e4.out.trans d2
        have k5 : w.heap.size < wy.heap.size := by rw [e5.out]; exact s1
        have k6 : w2.heap.size < wy.heap.size := by rw [e5.out]; exact s2
        clear hwy e1 e2 e3 e4 e5 own2 c1 c2 s1 d1 d2 s2 q1 q2 q3 f1 f2 f3
        have RY : Hid (RdW wy (some ⟨g, 0, none⟩) (vs.set K ⟨1, z.pl, ⟨#[67]⟩⟩)) := Lib.hid (by
          have h := OY.out
          rw [← show (vs.set K ⟨1, z.pl, ⟨#[67]⟩⟩).length = vs.length from List.length_set] at h
          exact RdW.of_own h (by rw [List.length_set]; omega) HFI.out)
        go_wp2_with fail
        have z3 := tSame_ p p A (some ⟨g, 0, none⟩) c d ws (vs.set K ⟨1, z.pl, ⟨#[67]⟩⟩) wy (HA.out.later PY.out (Nat.le_refl _)) ⟨HPR.out.1, HPR.out.2, RY.out⟩
        rw [HCH1.out, HCH2.out] at z3
        unfold shV at z3
        rw [List.length_set] at z3
        refine z3.mono ?_
        clear z3
        rintro e w18 ⟨rfl, hb1⟩
        have PF := Lib.hid (PY.out.trans (hb1.mono PY.out.size))
        clear hb1 k1 k2 k3 k4 k5 k6
        go_wp2_with fail
        refine (awake_ _).mono ?_; rintro e w19 ⟨rfl, hb1⟩
        go_wp2
        go_ret
        exact ⟨rfl, PF.out.trans (hb1.mono PF.out.size)⟩
      · have t6 : (z.kind == 2) = false := by simpa using hkd
        have hy : newW z = ⟨2, z.pl, ⟨#[]⟩⟩ := by unfold newW; rw [if_neg hkd]; rfl
        rw [hy] at hch1 hch2 hch3
        have own2 := Lib.hid (own_putW hownZ K ⟨2, z.pl, ⟨#[]⟩⟩).drew
        have PY := Lib.hid (below_three (Y6.out.trans (PZ.out.mono Y6.out.size)) (show w.heap.size ≤ g by omega) (K * 3) (K * 3 + 1) (K * 3 + 2) (.int .i64 2) (.int .i64 z.pl) (.string ⟨#[]⟩)).drew
        have e1 := Lib.hid (cell_three (w := wz) n5 (K * 3) (K * 3 + 1) (K * 3 + 2) 0 (.int .i64 2) (.int .i64 z.pl) (.string ⟨#[]⟩))
        have e2 := Lib.hid (cell_three (w := wz) n5 (K * 3) (K * 3 + 1) (K * 3 + 2) 1 (.int .i64 2) (.int .i64 z.pl) (.string ⟨#[]⟩))
        have e3 := Lib.hid (cell_three (w := wz) n3 (K * 3) (K * 3 + 1) (K * 3 + 2) 0 (.int .i64 2) (.int .i64 z.pl) (.string ⟨#[]⟩))
        have e4 := Lib.hid (cell_three (w := wz) n3 (K * 3) (K * 3 + 1) (K * 3 + 2) 1 (.int .i64 2) (.int .i64 z.pl) (.string ⟨#[]⟩))
        have e5 := Lib.hid (show (((wz.setCell ⟨g, K * 3, none⟩ (.int .i64 2)).setCell ⟨g, K * 3 + 1, none⟩ (.int .i64 z.pl)).setCell ⟨g, K * 3 + 2, none⟩ (.string ⟨#[]⟩)).drew.heap.size = wz.heap.size by simp)
        have hfi : ∀ x ∈ vs.set K ⟨2, z.pl, ⟨#[]⟩⟩, x.fits := fun x hx => by
          rcases List.mem_or_eq_of_mem_set hx with h | h
          · exact HVF.out x h
          · rw [h]; exact hch3
        have HKD := Lib.hid hkd; have HOWNZ := Lib.hid hownZ; have HCH1 := Lib.hid hch1; have HCH2 := Lib.hid hch2; have HCH3 := Lib.hid hch3; have HZ := Lib.hid hz; have HY := Lib.hid hy; have HFI := Lib.hid hfi; clear hkd hownZ hch1 hch2 hch3 hz hy hfi
        go_wp2
        go_region
        obtain ⟨wy, hwy⟩ : ∃ wy, wy = (((wz.setCell ⟨g, K * 3, none⟩ (.int .i64 2)).setCell ⟨g, K * 3 + 1, none⟩ (.int .i64 z.pl)).setCell ⟨g, K * 3 + 2, none⟩ (.string ⟨#[]⟩)).drew := ⟨_, rfl⟩
        have OY : Hid (wy.ownsRow w1.heap.size 40 3 (.slice (some ⟨g, 0, none⟩) vs.length d) vs.length (worksC (vs.set K ⟨2, z.pl, ⟨#[]⟩⟩))) := Lib.hid (by rw [hwy]; exact own2.out)
        rw [← hwy] at PY e1 e2 e3 e4 e5 ⊢
        have k1 := e1.out.trans c1
        have k2 := e2.out.trans c2
        have k3 := e3.out.trans d1
        have k4 : wy.cell? ⟨w2.heap.size, 1, none⟩ = some (.slice (some ⟨g, 0, none⟩) vs.length d) := by exact e4.out.trans d2
        have k5 : w.heap.size < wy.heap.size := by rw [e5.out]; exact s1
        have k6 : w2.heap.size < wy.heap.size := by rw [e5.out]; exact s2
        clear hwy e1 e2 e3 e4 e5 own2 c1 c2 s1 d1 d2 s2 q1 q2 q3 f1 f2 f3
        have RY : Hid (RdW wy (some ⟨g, 0, none⟩) (vs.set K ⟨2, z.pl, ⟨#[]⟩⟩)) := Lib.hid (by
          have h := OY.out
          rw [← show (vs.set K ⟨2, z.pl, ⟨#[]⟩⟩).length = vs.length from List.length_set] at h
          exact RdW.of_own h (by rw [List.length_set]; omega) HFI.out)
        go_wp2_with fail
        have z3 := tSame_ p p A (some ⟨g, 0, none⟩) c d ws (vs.set K ⟨2, z.pl, ⟨#[]⟩⟩) wy (HA.out.later PY.out (Nat.le_refl _)) ⟨HPR.out.1, HPR.out.2, RY.out⟩
        rw [HCH1.out, HCH2.out] at z3
        unfold shV at z3
        rw [List.length_set] at z3
        refine z3.mono ?_
        clear z3
        rintro e w18 ⟨rfl, hb1⟩
        have PF := Lib.hid (PY.out.trans (hb1.mono PY.out.size))
        clear hb1 k1 k2 k3 k4 k5 k6
        go_wp2_with fail
        refine (awake_ _).mono ?_; rintro e w19 ⟨rfl, hb1⟩
        go_wp2
        go_ret
        exact ⟨rfl, PF.out.trans (hb1.mono PF.out.size)⟩
end Go.Proofs.Ytifpkdajfdlgeaa
