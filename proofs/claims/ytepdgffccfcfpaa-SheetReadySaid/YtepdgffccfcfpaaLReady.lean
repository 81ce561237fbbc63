/- The law SheetReady returns true. -/
import Derived.Test.YtepdgffccfcfpaaEx4
import Derived.Test.YtepdgffccfcfpaaRdyP
import Derived.Test.YtepdgffccfcfpaaLFar4
namespace Go.Proofs.Ytepdgffccfcfpaa
open Go.RowKit

theorem touch_sym (a b : Int) : touchB a b = touchB b a := by unfold touchB; rw [decide_eq_decide]; omega
theorem any_beq {l : List Int} {x : Int} : l.any (fun z => z == x) = true ↔ x ∈ l := by
  rw [List.any_eq_true]
  exact ⟨fun ⟨z, h1, h2⟩ => by rw [beq_iff_eq] at h2; subst h2; exact h1, fun h => ⟨x, h, by simp⟩⟩
theorem in_bits {n : Nat} {l : List Int} (ha : Asc n l) (k i : Nat) : (((i : Int) == (k : Int)) || l.any (fun z => z == (i : Int))) = (bitsL l ||| 2 ^ k).testBit i := by
  have h : (((i : Int) == (k : Int)) || l.any (fun z => z == (i : Int))) = true ↔ (bitsL l ||| 2 ^ k).testBit i = true := by
    rw [Bool.or_eq_true, any_beq, Nat.testBit_or, Nat.testBit_two_pow, Bool.or_eq_true, decide_eq_true_eq, bitsL_bit, beq_iff_eq]
    constructor
    · rintro (h | h)
      · exact .inr (by omega)
      · exact .inl ⟨_, h, by simp⟩
    · rintro (⟨x, hx, he⟩ | h)
      · obtain ⟨j, hj, rfl⟩ := List.mem_iff_getElem.1 hx
        have := (asc_rng ha hj).1
        refine .inr ?_
        rw [show (i : Int) = l[j] by omega]
        exact hx
      · exact .inl (by omega)
  cases h1 : (((i : Int) == (k : Int)) || l.any (fun z => z == (i : Int))) <;> cases h2 : (bitsL l ||| 2 ^ k).testBit i <;> simp only [h1, h2] at h ⊢ <;> simp at h
theorem any_step {l : List Int} {x : Int} {j : Nat} (h : j < l.length) : (l.take (j + 1)).any (fun z => z == x) = ((l.take j).any (fun z => z == x) || (l[j] == x)) := any_take_succ l _ j h
theorem rdyTo_len {P : Nat} {ws : List GW} {l : List Int} : (rdyTo P ws l ws.length).length ≤ ws.length := rdyTo_le P ws l ws.length

set_option maxRecDepth 100000 in
set_option maxHeartbeats 8000000 in
theorem lawReady_ (p which : Int) (A L : Option Addr) (c lc : Nat) (ws : List GW) (l : List Int) (w : World) (ha : ShIn w p A ws) (hl : RdI w L l) (hw0 : 0 ≤ which) (hw1 : which ≤ 255) :
    Calls Try.prog 9 #[.agg #[.int .i64 p, .slice A ws.length c], .slice L l.length lc, .int .u8 which] w fun e w' => e = .returned (.bool true) ∧ Below w.heap.size w w' := by
  have hln := hl.1
  have hb2 : Below w.heap.size w (w.alloc (.cells #[.int .i64 p, .slice A ws.length c] 24)) := (Below.refl _ _).alloc (Nat.le_refl _) _
  have Y0 := Lib.hid hb2; clear hb2
  have X0 := Lib.hid (Box1.made w p A c ws.length 24)
  have HA := Lib.hid ha; have HL := Lib.hid hl; clear ha hl
  go_enter Try.func9, Try.ntmps9
  go_wp2_with fail
  refine (far4_ p A c ws _ (HA.out.rd.later Y0.out (Nat.le_refl _))).mono ?_; rintro e w1 ⟨z, rfl, _, hb1⟩
  cases z
  rotate_left
  · have X1 := Lib.hid (X0.out.later hb1); have Y1 := Lib.hid (Y0.out.trans (hb1.mono Y0.out.size)); clear hb1; obtain ⟨c1, c2, s1⟩ := X1.out
    go_wp2_with fail
    clear c1 c2 s1
    refine (shown_ _).mono ?_; rintro e w8 ⟨rfl, hb1⟩
    go_wp2
    go_ret
    exact ⟨rfl, Y1.out.trans (hb1.mono Y1.out.size)⟩
  by_cases hbig : (1000 : Int) < (l.length : Int)
  · have X1 := Lib.hid (X0.out.later hb1); have Y1 := Lib.hid (Y0.out.trans (hb1.mono Y0.out.size)); clear hb1; obtain ⟨c1, c2, s1⟩ := X1.out
    go_wp2_with fail
    clear c1 c2 s1
    refine (shown_ _).mono ?_; rintro e w8 ⟨rfl, hb1⟩
    go_wp2
    go_ret
    exact ⟨rfl, Y1.out.trans (hb1.mono Y1.out.size)⟩
  have X1 := Lib.hid (X0.out.later hb1); have Y1 := Lib.hid (Y0.out.trans (hb1.mono Y0.out.size)); clear hb1; obtain ⟨c1, c2, s1⟩ := X1.out
  go_wp2_with fail
  clear c1 c2 s1
  refine (rClosed_ p A L c lc ws l _ (HA.out.later Y1.out (Nat.le_refl _)) (HL.out.later Y1.out (Nat.le_refl _))).mono ?_; rintro e w2 ⟨rfl, hb1⟩
  by_cases he : clErr p ws l = 0
  rotate_left
  · have heb : (clErr p ws l != 0) = true := by simpa using he
    generalize clErr p ws l = E at *
    have X2 := Lib.hid (X1.out.later hb1); have Y2 := Lib.hid (Y1.out.trans (hb1.mono Y1.out.size)); clear hb1; obtain ⟨c1, c2, s1⟩ := X2.out
    go_wp2_with fail
    clear c1 c2 s1
    refine (shown_ _).mono ?_; rintro e w8 ⟨rfl, hb1⟩
    go_wp2
    go_ret
    exact ⟨rfl, Y2.out.trans (hb1.mono Y2.out.size)⟩
  rw [he]
  obtain ⟨hok, hAsc, _⟩ := clErr_zero he
  obtain ⟨hp2, hp24, hn, hall⟩ := okAll hok
  obtain ⟨P, rfl⟩ := Int.eq_ofNat_of_zero_le (show 0 ≤ p by omega)
  have hcl := he
  have hre : readyL P ws l = rdyTo P ws l ws.length := by unfold readyL; rw [if_pos he]; rfl
  have hli : lineL P ws l = (List.range P).map (lineG P ws l) := by unfold lineL; rw [if_pos he]; rfl
  have hnil := rdy_nil he
  have hrlen := rdyTo_len (P := P) (ws := ws) (l := l)
  clear he
  have HOK := Lib.hid hok; have HALL := Lib.hid hall; have HASC := Lib.hid hAsc; have HCL := Lib.hid hcl; have HRE := Lib.hid hre; have HLI := Lib.hid hli; have HNIL := Lib.hid hnil; clear hok hall hAsc hcl hre hli hnil
  have X2 := Lib.hid (X1.out.later hb1); have Y2 := Lib.hid (Y1.out.trans (hb1.mono Y1.out.size)); clear hb1; obtain ⟨c1, c2, s1⟩ := X2.out
  go_wp2_with fail
  clear c1 c2 s1
  refine (sReady_ P A L c lc ws l _ (HA.out.later Y2.out (Nat.le_refl _)) (HL.out.later Y2.out (Nat.le_refl _))).mono ?_; rintro e w3 ⟨_, rfl, ⟨L1, k1, rfl, hL1⟩, hb1⟩
  rw [HCL.out]
  rw [HRE.out] at hL1 ⊢
  have X3 := Lib.hid (X2.out.later hb1); have Y3 := Lib.hid (Y2.out.trans (hb1.mono Y2.out.size)); clear hb1; obtain ⟨c1, c2, s1⟩ := X3.out
  have hmono := fun a b ha hb h => rdy_mono (P := P) (k := ws.length) (ws := ws) (l := l) (a := a) (b := b) ha hb h
  have hmem := fun x => mem_rdy (P := P) (k := ws.length) (ws := ws) (l := l) (x := x)
  have hn2 : (rdyTo P ws l ws.length).length = 0 ↔ l.length = ws.length := by rw [← HNIL.out]; exact List.length_eq_zero_iff
  have hstl := fun k m (hm : More P ws l k m) x hx hne => more_still HCL.out hm (x := x) hx hne
  generalize hRL : rdyTo P ws l ws.length = rl at *
  have hRLl := hL1.1
  by_cases hz : rl.length = 0
  · have e1 : ((rl.length : Int) == 0) = true := by rw [hz]; rfl
    have e2 : ((l.length : Int) == (ws.length : Int)) = true := by rw [hn2.1 hz]; simp
    rw [hz] at e1 ⊢
    clear hz
    have HL1 := Lib.hid hL1; have HMONO := Lib.hid hmono; have HMEM := Lib.hid hmem; have HN2 := Lib.hid hn2; have HSTL := Lib.hid hstl; have HRL := Lib.hid hRL; clear hL1 hmono hmem hn2 hstl hRL
    go_wp2
    go_loopw [9] (fun iv wr => iv = .int .i64 0 ∧ w3 = wr) (fun iv _ => 0)
    case atStart => exact ⟨rfl, rfl⟩
    case round =>
      obtain ⟨rfl, rfl⟩ := hrel
      go_wp2_with fail
      refine (shown_ _).mono ?_; rintro e w8 ⟨rfl, hb1⟩
      go_wp2
      go_ret
      exact ⟨rfl, Y3.out.trans (hb1.mono Y3.out.size)⟩
  have e1 : ((rl.length : Int) == 0) = false := beq_eq_false_iff_ne.2 (by omega)
  have e2 : ((l.length : Int) == (ws.length : Int)) = false := beq_eq_false_iff_ne.2 (fun h => hz (hn2.2 (by omega)))
  have HL1 := Lib.hid hL1; have HMONO := Lib.hid hmono; have HMEM := Lib.hid hmem; have HN2 := Lib.hid hn2; have HSTL := Lib.hid hstl; have HRL := Lib.hid hRL; have HZ := Lib.hid hz; clear hL1 hmono hmem hn2 hstl hRL hz
  go_wp2
  clear c1 c2 s1
  go_loopw [9] (fun iv wr => ∃ i : Nat, iv = .int .i64 i ∧ i ≤ rl.length ∧ Below w3.heap.size w3 wr) (fun iv _ => rl.length - (intOf iv).toNat)
  case atStart => exact ⟨0, rfl, Nat.zero_le _, Below.refl _ _⟩
  case round =>
    obtain ⟨i, rfl, hi, hbr⟩ := hrel
    have hbw := Y3.out.trans (hbr.mono Y3.out.size)
    obtain ⟨c0, c1, s1⟩ := X3.out.later hbr
    have hx0 : Hid (Box1 w wr P A c ws.length) := ⟨c0, c1, s1⟩
    by_cases hlt : i < rl.length
    · obtain ⟨bl, ol, rfl, hbl, l1⟩ := (HL1.out.later hbr (Nat.le_refl _)).at_ hlt
      obtain ⟨x, hx, hrx, hxe⟩ := (HMEM.out _).1 (List.getElem_mem hlt)
      rw [hxe] at l1
      have y1 : (0 : Int) ≤ (i : Int) := by omega
      have y2 : (i : Int) < (rl.length : Int) := by omega
      have b1n : decide ((x : Int) < 0) = false := by simp
      have b2n : decide (ws.length ≤ x) = false := by simp; omega
      obtain ⟨wq, rfl⟩ : ∃ wq : World, wq = wr := ⟨_, rfl⟩
      have HBR := Lib.hid hbr; have HBW := Lib.hid hbw; have HRX := Lib.hid hrx; have HXE := Lib.hid hxe; clear hbr hbw hrx hxe
      go_wp2
      go_quiet (fail)
      go_wp2
      go_loopw [10] (fun iv wr => ∃ j : Nat, iv = .int .i64 j ∧ j ≤ i ∧ Below wq.heap.size wq wr) (fun iv _ => i - (intOf iv).toNat)
      case atStart => exact ⟨0, rfl, Nat.zero_le _, below_drewN (Below.refl _ _) _⟩
      case round =>
        obtain ⟨j, rfl, hj, hbs⟩ := hrel
        have hb9 := HBR.out.trans (hbs.mono HBR.out.size)
        have hbz := HBW.out.trans (hbs.mono HBW.out.size)
        obtain ⟨d0, d1, ds1⟩ := hx0.out.later hbs
        by_cases hji : j < i
        · have hjl : j < rl.length := by omega
          obtain ⟨bl', ol', hA', hbl2, m1⟩ := (HL1.out.later hb9 (Nat.le_refl _)).at_ hjl
          injection hA' with hA'; injection hA' with hA1 hA2; subst hA1; subst hA2
          obtain ⟨y, hy, hry, hye⟩ := (HMEM.out _).1 (List.getElem_mem hjl)
          have m0 := below_at hbs (Nat.le_refl _) l1
          have hyx : y < x := by
            have := HMONO.out j i hjl hlt hji
            rw [hye, HXE.out] at this
            omega
          rw [hye] at m1
          obtain ⟨b, off, rfl, hbL, t1, t2, t3⟩ := (HA.out.rd.later hbz (Nat.le_refl _)).at_ hx
          obtain ⟨b', off', hA', _, u1, u2, u3⟩ := (HA.out.rd.later hbz (Nat.le_refl _)).at_ hy
          injection hA' with hA'; injection hA' with hA1 hA2; subst hA1; subst hA2
          obtain ⟨_, p1, p2, _⟩ := HALL.out ws[x] (List.getElem_mem hx)
          obtain ⟨_, p3, p4, _⟩ := HALL.out ws[y] (List.getElem_mem hy)
          have ht : touchB ws[x].pl ws[y].pl = false := by
            rw [touch_sym, tP_touchO hy hx p3 p1]
            exact rdy_apart HCL.out hx HRX.out hry hyx
          have z1 : (0 : Int) ≤ (j : Int) := by omega
          have z2 : (j : Int) < (rl.length : Int) := by omega
          have z3 : (0 : Int) ≤ (x : Int) := by omega
          have z4 : (x : Int) < (ws.length : Int) := by omega
          have z5 : (0 : Int) ≤ (y : Int) := by omega
          have z6 : (y : Int) < (ws.length : Int) := by omega
          generalize ws[x].pl = pa at *
          generalize ws[y].pl = pb at *
          have HBS := Lib.hid hbs; have HB9 := Lib.hid hb9; have HBZ := Lib.hid hbz; have HRY := Lib.hid hry; have HYE := Lib.hid hye; have HYX := Lib.hid hyx; clear hbs hb9 hbz hry hye hyx
          go_wp2
          have hbelc : ∀ (u : Bel wr.heap.size wr) b o, b < wr.heap.size → u.wd.cell? ⟨b, o, none⟩ = wr.cell? ⟨b, o, none⟩ := fun u b o h => u.h.cell (p := ⟨b, o, none⟩) h
          have hbeln : Nonempty (Bel wr.heap.size wr) := ⟨⟨wr, Below.refl _ _⟩⟩
          refine wp_region_bel wr.heap.size (by kernel_rfl) (by kernel_rfl) ?_
          repeat (go_big_quiet_step ((go_at_call 30; exact quiet_bel (Nat.le_refl _) (touch_isO _ _ _ _ _ _ _ (by omega) (by omega) (by omega) (by omega) ht))))
          refine wpQuiet_nil ?_
          intro wB hB0; obtain ⟨uB, hu⟩ := hB0; have hbB0 := uB.h; rw [← hu] at hbB0; clear hu uB hbelc hbeln
          obtain ⟨hbB, hcB, hsB⟩ := bcell2 hbB0; clear hbB0
          clear hcB
          have HBB := Lib.hid hbB; clear hbB
          go_wp2
          go_roundw
          case rel => exact ⟨j + 1, by go_num, by omega, HBS.out.trans (HBB.out.mono HBS.out.size)⟩
          case measure => simp [intOf]; omega
        · obtain rfl : j = i := by omega
          have HBS := Lib.hid hbs; have HB9 := Lib.hid hb9; have HBZ := Lib.hid hbz; clear hbs hb9 hbz
          go_wp2
          go_roundw
          case rel => exact ⟨j + 1, by go_num, by omega, HB9.out⟩
          case measure => simp [intOf]; omega
    · obtain rfl : i = rl.length := by omega
      have hz' := HZ.out
      obtain ⟨K, hK, hKn⟩ : ∃ K : Nat, which.tmod (rl.length : Int) = K ∧ K < rl.length := by
        refine ⟨(which % (rl.length : Int)).toNat, ?_, ?_⟩
        · rw [Int.tmod_eq_emod_of_nonneg hw0]
          have := Int.emod_nonneg which (show (rl.length : Int) ≠ 0 by omega)
          omega
        · have h1 := Int.emod_nonneg which (show (rl.length : Int) ≠ 0 by omega)
          have h2 := Int.emod_lt_of_pos which (show (0 : Int) < rl.length by omega)
          omega
      have hK2 : which % (rl.length : Int) = K := by rw [← Int.tmod_eq_emod_of_nonneg hw0]; exact hK
      have hKw : IntKind.i64.wrap which = which := IntWalk.i64_in _ (by omega)
      have hKc : IntKind.i64.wrap (K : Int) = (K : Int) := IntWalk.i64_in _ (by omega)
      obtain ⟨bl, ol, rfl, hbl, l1⟩ := (HL1.out.later hbr (Nat.le_refl _)).at_ hKn
      obtain ⟨k, hkn, hrk, hke⟩ := (HMEM.out _).1 (List.getElem_mem hKn)
      rw [hke] at l1
      have y1 : (0 : Int) ≤ (K : Int) := by omega
      have y2 : (K : Int) < (rl.length : Int) := by omega
      have hmo := more_of HCL.out hkn hrk
      have hrlne : ¬ (rl.length : Int) = 0 := by omega
      clear hz'
      obtain ⟨wq, rfl⟩ : ∃ wq : World, wq = wr := ⟨_, rfl⟩
      have HBR := Lib.hid hbr; have HBW := Lib.hid hbw; have HRK := Lib.hid hrk; have HKE := Lib.hid hke; have HMO := Lib.hid hmo; clear hbr hbw hrk hke hmo
      go_wp2
      go_loopw [12, 13] (fun v iv wr => ∃ i : Nat, iv = .int .i64 i ∧ i ≤ ws.length ∧ wr.ownsRow wq.heap.size 3 1 v (lstTo (bitsL l ||| 2 ^ k) i).length (ints (lstTo (bitsL l ||| 2 ^ k) i)) ∧ Below wq.heap.size wq wr) (fun _ iv _ => ws.length - (intOf iv).toNat)
      case atStart => exact ⟨0, rfl, Nat.zero_le _, World.ownsRow_nil _ _ _ _, Below.refl _ _⟩
      case round =>
        obtain ⟨i, rfl, hi, hown, hbs⟩ := hrel
        obtain ⟨OA, oc, rfl⟩ := own_slice1 hown
        have hlle := lstTo_le (bitsL l ||| 2 ^ k) i
        have hbz := HBW.out.trans (hbs.mono HBW.out.size)
        obtain ⟨c0, c1, s1⟩ := hx0.out.later hbs
        have hx2 : Hid (Box1 w wr P A c ws.length) := ⟨c0, c1, s1⟩
        by_cases hin : i < ws.length
        · have hz0 : (((i : Int) == (k : Int)) || (l.take 0).any (fun z => z == (i : Int))) = ((i : Int) == (k : Int)) := by simp
          have hib := in_bits HASC.out k i
          have hil : (((i : Int) == (k : Int)) || (l.take l.length).any (fun z => z == (i : Int))) = (bitsL l ||| 2 ^ k).testBit i := by rw [List.take_of_length_le (Nat.le_refl _)]; exact hib
          generalize hik : ((i : Int) == (k : Int)) = ik at *
          have HOWN := Lib.hid hown; have HBS := Lib.hid hbs; have HBZ := Lib.hid hbz; have HZ0 := Lib.hid hz0; have HIB := Lib.hid hib; have HIL := Lib.hid hil; clear hown hbs hbz hz0 hib hil
          go_wp2
          go_loopw [14, 15] (fun zv jv wx => ∃ j : Nat, jv = .int .i64 j ∧ zv = .bool (ik || (l.take j).any (fun z => z == (i : Int))) ∧ j ≤ l.length ∧ wr = wx) (fun _ jv _ => l.length - (intOf jv).toNat)
          case atStart => exact ⟨0, rfl, by rw [HZ0.out], Nat.zero_le _, rfl⟩
          case round =>
            obtain ⟨j, rfl, rfl, hj, rfl⟩ := hrel
            by_cases hjl : j < l.length
            · obtain ⟨ll, lo, rfl, hll, m1⟩ := (HL.out.later HBZ.out (Nat.le_refl _)).at_ hjl
              have hst : (ik || (l.take (j + 1)).any (fun z => z == (i : Int))) = ((ik || (l.take j).any (fun z => z == (i : Int))) || (l[j] == (i : Int))) := by rw [any_step hjl, Bool.or_assoc]
              have z1 : (0 : Int) ≤ (j : Int) := by omega
              have z2 : (j : Int) < (l.length : Int) := by omega
              generalize l[j] = x at *
              generalize (ik || (l.take j).any (fun z => z == (i : Int))) = zb at *
              generalize hxb : (x == (i : Int)) = xb at *
              have HST := Lib.hid hst; clear hst
              cases zb with
              | true =>
                go_wp2
                go_roundw
                case rel => exact ⟨j + 1, by go_num, by rw [HST.out]; rfl, by omega, trivial⟩
                case measure => simp [intOf]; omega
              | false =>
                go_wp2
                go_roundw
                case rel => exact ⟨j + 1, by go_num, by rw [HST.out]; rfl, by omega, trivial⟩
                case measure => simp [intOf]; omega
            · obtain rfl : j = l.length := by omega
              rw [HIL.out]
              cases hb : (bitsL l ||| 2 ^ k).testBit i with
              | true =>
                have hsu := lstTo_yes hb
                have hlo := HOWN.out.lt
                generalize hLL : lstTo (bitsL l ||| 2 ^ k) i = LL at *
                have hsr := HBS.out.size
                have HLO := Lib.hid hlo; have HSU := Lib.hid hsu; have HB := Lib.hid hb; have HLL := Lib.hid hLL; clear hlo hsu hb hLL
                go_wp2_with (at_builtin; go_must (refine wpList_app1_Try rfl _ _ rfl wq.heap.size (.slice OA LL.length oc) LL rfl (by repeat (first | exact HOWN.out | refine World.ownsRow.alloc ?_ _ | refine own_drewN ?_ _)) wr.heap.size i rfl (heap_alloc_new _ _) (by omega) (by simp; omega) ?_); intro g cap w6 hown6 hgrow hat6 hlt6)
                have r2 : Below wq.heap.size wq w6 := (HBS.out.alloc HBS.out.size _).grown hgrow (by simp; omega) (fun j hj => by have := (HLO.out j hj).1; omega)
                have R2 := Lib.hid r2; have HOWN6 := Lib.hid hown6; have HGROW := Lib.hid hgrow; clear r2 hown6 hgrow
                go_wp2
                go_roundw
                case rel => exact ⟨i + 1, by go_num, by omega, by rw [HSU.out]; exact HOWN6.out, R2.out⟩
                case measure => simp [intOf]; omega
              | false =>
                have hsu := lstTo_no hb
                have HSU := Lib.hid hsu; have HB := Lib.hid hb; clear hsu hb
                go_wp2
                go_roundw
                case rel => exact ⟨i + 1, by go_num, by omega, by rw [HSU.out]; exact HOWN.out, HBS.out⟩
                case measure => simp [intOf]; omega
        · obtain rfl : i = ws.length := by omega
          have hm2 : RdV wr (.slice OA (lstTo (bitsL l ||| 2 ^ k) ws.length).length oc) (lstTo (bitsL l ||| 2 ^ k) ws.length) := RdV.of_own hown (by omega)
          obtain ⟨OA2, oc2, he2, hmI⟩ := hm2
          injection he2 with hA1 hA2 hA3
          subst hA1; subst hA3
          have hmo2 := HMO.out
          have hmlen := lstTo_le (bitsL l ||| 2 ^ k) ws.length
          have hml := more_line (P := P) HCL.out hkn HRK.out hmo2
          have hst7 := HSTL.out k _ hmo2
          have hmcl := hmo2.cl
          generalize lstTo (bitsL l ||| 2 ^ k) ws.length = mo at *
          have hmre : readyL P ws mo = rdyTo P ws mo ws.length := by unfold readyL; rw [if_pos hmcl]; rfl
          have hmli : lineL P ws mo = (List.range P).map (lineG P ws mo) := by unfold lineL; rw [if_pos hmcl]; rfl
          have hlaL : (lineL P ws l).length = P := by rw [HLI.out]; simp
          have hlbL : (lineL P ws mo).length = P := by rw [hmli]; simp
          have hm2L : (rdyTo P ws mo ws.length).length ≤ 400 := Nat.le_trans (rdyTo_le P ws mo ws.length) hn
          have Y5 := Lib.hid hbz
          have X5 := hx2
          have R5 := Lib.hid (HL1.out.later (HBR.out.trans (hbs.mono HBR.out.size)) (Nat.le_refl _))
          have M5 := Lib.hid hmI
          have HOWN := Lib.hid hown; have HBS := Lib.hid hbs; have HBZ := Lib.hid hbz; have HMI := Lib.hid hmI; have HMO2 := Lib.hid hmo2; have HML := Lib.hid hml; have HST7 := Lib.hid hst7; have HMCL := Lib.hid hmcl; have HMRE := Lib.hid hmre; have HMLI := Lib.hid hmli; have HLAL := Lib.hid hlaL; have HLBL := Lib.hid hlbL; clear hown hbs hbz hmI hmo2 hml hst7 hmcl hmre hmli hlaL hlbL
          go_wp2_with fail
          refine (sLine_ P A L c lc ws l _ (HA.out.later Y5.out (Nat.le_refl _)) (HL.out.later Y5.out (Nat.le_refl _))).mono ?_
          rintro e w6 ⟨_, rfl, ⟨La, ka, rfl, hLa⟩, hb1⟩
          rw [HLAL.out, HCL.out]
          have R6 := Lib.hid (R5.out.later hb1 (Nat.le_refl _)); have M6 := Lib.hid (M5.out.later hb1 (Nat.le_refl _)); have A6 := Lib.hid hLa
          clear hLa R5 M5 c0 c1 s1
          have X6 := Lib.hid (X5.out.later hb1); have Y6 := Lib.hid (Y5.out.trans (hb1.mono Y5.out.size)); clear hb1; obtain ⟨c1, c2, s1⟩ := X6.out
          go_wp2_with fail
          clear c1 c2 s1
          refine (sLine_ P A OA c oc ws mo _ (HA.out.later Y6.out (Nat.le_refl _)) M6.out).mono ?_
          rintro e w7 ⟨_, rfl, ⟨Lb, kb, rfl, hLb⟩, hb1⟩
          rw [HLBL.out, HMCL.out]
          have R7 := Lib.hid (R6.out.later hb1 (Nat.le_refl _)); have M7 := Lib.hid (M6.out.later hb1 (Nat.le_refl _)); have A7 := Lib.hid (A6.out.later hb1 (Nat.le_refl _)); have B7 := Lib.hid hLb
          clear hLb R6 M6 A6
          have X7 := Lib.hid (X6.out.later hb1); have Y7 := Lib.hid (Y6.out.trans (hb1.mono Y6.out.size)); clear hb1; obtain ⟨c1, c2, s1⟩ := X7.out
          go_wp2_with fail
          clear c1 c2 s1
          refine (sReady_ P A OA c oc ws mo _ (HA.out.later Y7.out (Nat.le_refl _)) M7.out).mono ?_
          rintro e w8 ⟨_, rfl, ⟨Lm, km, rfl, hLm⟩, hb1⟩
          rw [HMCL.out]
          rw [HMRE.out] at hLm ⊢
          have R8 := Lib.hid (R7.out.later hb1 (Nat.le_refl _)); have A8 := Lib.hid (A7.out.later hb1 (Nat.le_refl _)); have B8 := Lib.hid (B7.out.later hb1 (Nat.le_refl _)); have M8 := Lib.hid hLm
          have X8 := Lib.hid (X7.out.later hb1); have Y8 := Lib.hid (Y7.out.trans (hb1.mono Y7.out.size)); clear hb1; obtain ⟨c1, c2, s1⟩ := X8.out
          clear hLm R7 M7 A7 B7
          generalize hrm : rdyTo P ws mo ws.length = rm at *
          have HRM := Lib.hid hrm; clear hrm
          go_wp2
          clear c1 c2 s1
          go_loopw [21] (fun iv wr => ∃ q : Nat, iv = .int .i64 q ∧ q ≤ P ∧ Below w8.heap.size w8 wr) (fun iv _ => P - (intOf iv).toNat)
          case atStart => exact ⟨0, rfl, Nat.zero_le _, Below.refl _ _⟩
          case round =>
            obtain ⟨q, rfl, hq, hbt⟩ := hrel
            obtain ⟨c0, c1, s1⟩ := X8.out.later hbt
            have hbu := Y8.out.trans (hbt.mono Y8.out.size)
            by_cases hqP : q < P
            · obtain ⟨b1, o1, rfl, hb1l, m1⟩ := (A8.out.later hbt (Nat.le_refl _)).at_ (show q < (lineL P ws l).length by rw [HLAL.out]; exact hqP)
              obtain ⟨b2, o2, rfl, hb2l, m2⟩ := (B8.out.later hbt (Nat.le_refl _)).at_ (show q < (lineL P ws mo).length by rw [HLBL.out]; exact hqP)
              have g1 : (lineL P ws l)[q]'(by rw [HLAL.out]; exact hqP) = lineG P ws l q := by simp only [HLI.out]; simp
              have g2 : (lineL P ws mo)[q]'(by rw [HLBL.out]; exact hqP) = lineG P ws mo q := by simp only [HMLI.out]; simp
              rw [g1] at m1
              rw [g2, HML.out q] at m2
              clear g1 g2
              obtain ⟨b, off, rfl, hbL, t1, t2, t3⟩ := (HA.out.rd.later hbu (Nat.le_refl _)).at_ hkn
              obtain ⟨_, p1, p2, _⟩ := HALL.out ws[k] (List.getElem_mem hkn)
              have hpw : ws[k].pl = (plsOf ws k : Int) := by unfold plsOf; simp [List.getD_eq_getElem?_getD, hkn]; omega
              rw [hpw] at t2 p1 p2
              generalize lineG P ws l q = va at *
              generalize ws[k].kind = zk at *
              generalize ws[k].word = zw at *
              generalize plsOf ws k = pl at *
              have z1 : (0 : Int) ≤ (q : Int) := by omega
              have z2 : (q : Int) < (P : Int) := by omega
              have z3 : (0 : Int) ≤ (k : Int) := by omega
              have z4 : (k : Int) < (ws.length : Int) := by omega
              have v1 : IntKind.i64.wrap (2 * (k : Int)) = 2 * (k : Int) := IntWalk.i64_in _ (by omega)
              have v2 : IntKind.i64.wrap ((P : Int) + 2 * (k : Int)) = (P : Int) + 2 * (k : Int) := IntWalk.i64_in _ (by omega)
              have v3 : IntKind.i64.wrap ((P : Int) + 2 * (k : Int) + (q : Int)) = (P : Int) + 2 * (k : Int) + (q : Int) := IntWalk.i64_in _ (by omega)
              have v4 : IntKind.i64.wrap ((P : Int) + 2 * (k : Int) + (q : Int) - (pl : Int)) = (P : Int) + 2 * (k : Int) + (q : Int) - (pl : Int) := IntWalk.i64_in _ (by omega)
              have HBT := Lib.hid hbt; have HBU := Lib.hid hbu; have HPW := Lib.hid hpw; clear hbt hbu hpw
              go_wp2_with fail
              refine (rTakes_ zk pl q zw _ (by omega) (by omega)).mono ?_
              rintro e wt ⟨rfl, hb1⟩
              have d0 := below_at hb1 (Nat.le_refl _) c0
              have d1 := below_at hb1 (Nat.le_refl _) c1
              have d2 := below_at hb1 (Nat.le_refl _) t2
              have d3 := below_at hb1 (Nat.le_refl _) m2
              have d4 : w.heap.size < wt.heap.size := Nat.lt_of_lt_of_le s1 hb1.size
              have d5 : b < wt.heap.size := Nat.lt_of_lt_of_le hbL hb1.size
              have d6 : b2 < wt.heap.size := Nat.lt_of_lt_of_le hb2l hb1.size
              have hbv := HBT.out.trans (hb1.mono HBT.out.size)
              clear c0 c1 s1 t1 t2 t3 m1 m2 hb1 hbL hb1l hb2l
              by_cases ht : takesB (pl : Int) q = true
              · rw [if_pos ht] at d3
                rw [ht]
                clear ht
                have HBV := Lib.hid hbv; clear hbv
                go_wp2
                go_quiet (fail)
                go_wp2
                go_roundw
                case rel => exact ⟨q + 1, by go_num, by omega, below_drewN HBV.out _⟩
                case measure => simp [intOf]; omega
              · rw [if_neg ht] at d3
                have ht' : takesB (pl : Int) q = false := by simpa using ht
                rw [ht']
                clear ht ht'
                have HBV := Lib.hid hbv; clear hbv
                go_wp2
                go_roundw
                case rel => exact ⟨q + 1, by go_num, by omega, HBV.out⟩
                case measure => simp [intOf]; omega
            · obtain rfl : q = P := by omega
              obtain ⟨wy, rfl⟩ : ∃ wy : World, wy = wr := ⟨_, rfl⟩
              have R9 := Lib.hid (R8.out.later hbt (Nat.le_refl _)); have M9 := Lib.hid (M8.out.later hbt (Nat.le_refl _))
              have hrm4 : rm.length ≤ 400 := hm2L
              have HBT := Lib.hid hbt; have HBU := Lib.hid hbu; clear hbt hbu
              go_wp2
              clear c0 c1 s1
              go_loopw [23] (fun iv wr => ∃ i : Nat, iv = .int .i64 i ∧ i ≤ rl.length ∧ Below wy.heap.size wy wr) (fun iv _ => rl.length - (intOf iv).toNat)
              case atStart => exact ⟨0, rfl, Nat.zero_le _, Below.refl _ _⟩
              case round =>
                obtain ⟨i, rfl, hi, hba⟩ := hrel
                by_cases hil : i < rl.length
                · obtain ⟨b1, o1, hA9, hb1l, m1⟩ := (R9.out.later hba (Nat.le_refl _)).at_ hil
                  injection hA9 with hA9; injection hA9 with hA1 hA2; subst hA1; subst hA2
                  have hx := List.getElem_mem hil
                  have hfin : ((rl[i] == (k : Int)) || rm.any (fun z => z == rl[i])) = true := by
                    by_cases e : rl[i] = (k : Int)
                    · rw [e]; simp
                    · rw [Bool.or_eq_true]; exact .inr (any_beq.2 (HST7.out _ hx e))
                  clear hx
                  generalize rl[i] = x at *
                  have hz0 : ((x == (k : Int)) || (rm.take 0).any (fun z => z == x)) = (x == (k : Int)) := by simp
                  have hfin2 : ((x == (k : Int)) || (rm.take rm.length).any (fun z => z == x)) = true := by rw [List.take_of_length_le (Nat.le_refl _)]; exact hfin
                  generalize hxk : (x == (k : Int)) = xk at *
                  have z1 : (0 : Int) ≤ (i : Int) := by omega
                  have z2 : (i : Int) < (rl.length : Int) := by omega
                  obtain ⟨wv, rfl⟩ : ∃ wv : World, wv = wr := ⟨_, rfl⟩
                  have HBA := Lib.hid hba; have HFIN := Lib.hid hfin; have HZ0 := Lib.hid hz0; have HFIN2 := Lib.hid hfin2; clear hba hfin hz0 hfin2
                  go_wp2
                  go_loopw [24, 25] (fun zv jv wr => ∃ j : Nat, jv = .int .i64 j ∧ zv = .bool (xk || (rm.take j).any (fun z => z == x)) ∧ j ≤ rm.length ∧ Below wv.heap.size wv wr) (fun _ jv _ => rm.length - (intOf jv).toNat)
                  case atStart => exact ⟨0, rfl, by rw [HZ0.out], Nat.zero_le _, Below.refl _ _⟩
                  case round =>
                    obtain ⟨j, rfl, rfl, hj, hbb⟩ := hrel
                    have hbc := HBA.out.trans (hbb.mono HBA.out.size)
                    by_cases hjl : j < rm.length
                    · obtain ⟨b2, o2, rfl, hb2l, m2⟩ := (M9.out.later hbc (Nat.le_refl _)).at_ hjl
                      have m3 := below_at hbb (Nat.le_refl _) m1
                      have hb1r := Nat.lt_of_lt_of_le hb1l hbb.size
                      have hst : (xk || (rm.take (j + 1)).any (fun z => z == x)) = ((xk || (rm.take j).any (fun z => z == x)) || (rm[j] == x)) := by rw [any_step hjl, Bool.or_assoc]
                      have z3 : (0 : Int) ≤ (j : Int) := by omega
                      have z4 : (j : Int) < (rm.length : Int) := by omega
                      generalize rm[j] = y at *
                      generalize (xk || (rm.take j).any (fun z => z == x)) = zb at *
                      generalize hxb : (y == x) = xb at *
                      have HST := Lib.hid hst; have HBB := Lib.hid hbb; have HBC := Lib.hid hbc; clear hst hbb hbc
                      cases zb with
                      | true =>
                        go_wp2
                        go_quiet (fail)
                        go_wp2
                        go_roundw
                        case rel => exact ⟨j + 1, by go_num, by rw [HST.out]; rfl, by omega, below_drewN HBB.out _⟩
                        case measure => simp [intOf]; omega
                      | false =>
                        go_wp2
                        go_quiet (fail)
                        go_wp2
                        go_roundw
                        case rel => exact ⟨j + 1, by go_num, by rw [HST.out]; rfl, by omega, below_drewN HBB.out _⟩
                        case measure => simp [intOf]; omega
                    · obtain rfl : j = rm.length := by omega
                      rw [HFIN2.out]
                      have HBB := Lib.hid hbb; have HBC := Lib.hid hbc; clear hbb hbc
                      go_wp2
                      go_roundw
                      case rel => exact ⟨i + 1, by go_num, by omega, HBC.out⟩
                      case measure => simp [intOf]; omega
                · obtain rfl : i = rl.length := by omega
                  have HBA := Lib.hid hba; clear hba
                  go_wp2_with fail
                  refine (shown_ _).mono ?_; rintro e wz ⟨rfl, hb1⟩
                  go_wp2
                  go_ret
                  exact ⟨rfl, (HBU.out.trans (HBA.out.mono HBU.out.size)).trans (hb1.mono (Nat.le_trans HBU.out.size HBA.out.size))⟩
end Go.Proofs.Ytepdgffccfcfpaa
