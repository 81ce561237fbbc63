/- Texts of this claim, laid together: PrFewest, PrEx, PrLHang, PrLShare, PrLBeside. -/
import Derived.Test.YtnplcephmidjbaaDoorMaA
import Derived.Test.YtnplcephmidjbaaDoorMaB
import Derived.Test.YtnplcephmidjbaaDoorMaC
import Derived.Test.YtnplcephmidjbaaDoorMaM
import Derived.Test.YtnplcephmidjbaaDoorMaQ
import Derived.Test.YtnplcephmidjbaaDoorMaR
import Derived.Test.YtnplcephmidjbaaDoorMaT
import Derived.BigRegion
import Derived.Laws.EntriesVeiled
/- Package pairs: Fewest. -/
namespace Go.Proofs.YtnplcephmidjbaaDoor
open Go.RowKit

set_option maxRecDepth 100000 in
set_option maxHeartbeats 1000000 in
theorem pFewest_bad (p : Int) (A : Option Addr) (c : Nat) (ws : List GW) (w : World) (hsh : ShIn w p A ws) (hx : fewX p ws ≠ 0) :
    Calls Tryd.prog 16 #[.agg #[.int .i64 p, .slice A ws.length c]] w (HangPost [] 0 (fewX p ws) w) := by
  have hb2 : Below w.heap.size w (w.alloc (.cells #[.int .i64 p, .slice A ws.length c] 24)) := (Below.refl _ _).alloc (Nat.le_refl _) _
  have X0 := Lib.hid (Box1.made w p A c ws.length 24)
  obtain ⟨hp1, hp2, ha⟩ := hsh
  by_cases he : errSheet p ws = 0
  · have hr : fewX p ws = 3 ∧ 14 < ws.length := by
      unfold fewX at hx ⊢
      rw [if_pos he] at hx ⊢
      by_cases h : 14 < ws.length
      · rw [if_pos h]; exact ⟨rfl, h⟩
      · rw [if_neg h] at hx; exact absurd rfl hx
    obtain ⟨hr, hl14⟩ := hr
    have HA := Lib.hid ha; have HB2 := Lib.hid hb2; have HE := Lib.hid he; have HR := Lib.hid hr; clear ha hb2 he hr
    clear hx
    go_enter Tryd.func16, Tryd.ntmps16
    go_wp2_with fail
    refine (sCheck_ _ _ _ _ _ hp1 hp2 (HA.out.later HB2.out (Nat.le_refl _))).mono ?_
    rw [HE.out]
    rintro e w1 ⟨rfl, hb1⟩
    have Y1 := Lib.hid (HB2.out.trans (hb1.mono (by simp)))
    have X1 := Lib.hid (X0.out.later hb1)
    obtain ⟨c1, c2, s1⟩ := X1.out
    clear hb1
    go_wp2
    go_ret3
    exact ⟨.slice none 0 0, by rw [HR.out]; rfl, RdV.nil _, Y1.out⟩
  · have hr : fewX p ws = errSheet p ws := by unfold fewX; rw [if_neg he]
    have HA := Lib.hid ha; have HB2 := Lib.hid hb2; have HR := Lib.hid hr; clear ha hb2 hr
    clear hx
    go_enter Tryd.func16, Tryd.ntmps16
    go_wp2_with fail
    refine (sCheck_ _ _ _ _ _ hp1 hp2 (HA.out.later HB2.out (Nat.le_refl _))).mono ?_
    rintro e w1 ⟨rfl, hb1⟩
    have Y1 := Lib.hid (HB2.out.trans (hb1.mono (by simp)))
    have X1 := Lib.hid (X0.out.later hb1)
    obtain ⟨c1, c2, s1⟩ := X1.out
    clear hb1
    generalize hge : errSheet p ws = E at *
    have HGE := Lib.hid hge; clear hge
    go_wp2
    go_ret3
    exact ⟨.slice none 0 0, by rw [HR.out]; rfl, RdV.nil _, Y1.out⟩

theorem PlanAt.low {w w' : World} {wa pa na R mb b cap n B : Nat} {A : Option Addr} {q : Nat → Nat} (h : PlanAt w wa pa na R mb b cap A q n) (hb : Below B w w') (hl : wa < B ∧ pa < B ∧ na < B ∧ R < B ∧ mb < B ∧ 1 < B) (hlb : 0 < n → b < B) : PlanAt w' wa pa na R mb b cap A q n := by
  obtain ⟨n1, n2, n3, n4, n5, n6⟩ := hl
  exact ⟨(hb.cell (p := ⟨wa, 0, none⟩) n1).trans h.all, (hb.cell (p := ⟨pa, 0, none⟩) n2).trans h.plan, (hb.cell (p := ⟨na, 0, none⟩) n3).trans h.self, (hb.block R n4).trans h.pl, h.at_,
    fun i hi => (hb.cell (p := ⟨b, i, none⟩) (hlb (by omega))).trans (h.bef i hi), h.good.at_ (hb.block mb n5), fun j hj => (hb.cell (p := ⟨1, j, none⟩) n6).trans (h.tz j hj), h.ne⟩
theorem bit0_is (S k : Nat) (hS : S < 2 ^ 64) : (bits .and .u64 ((S : Int) / 2 ^ k) 1 == 0) = !S.testBit k := by
  have hd : S / 2 ^ k < 2 ^ 64 := Nat.lt_of_le_of_lt (Nat.div_le_self _ _) hS
  have e : (S : Int) / 2 ^ k = ((S / 2 ^ k : Nat) : Int) := by simp
  have h1 := (bits_nat .u64 64 (by decide) wraps64 (S / 2 ^ k) 1 hd (by decide)).1
  rw [e, show (1 : Int) = ((1 : Nat) : Int) from rfl, h1, Nat.and_one_is_mod, Nat.testBit_eq_decide_div_mod_eq]
  by_cases h3 : S / 2 ^ k % 2 = 1
  · rw [h3]; simp
  · have : S / 2 ^ k % 2 = 0 := by omega
    rw [this]; simp
theorem bits_andnot0 (b S : Nat) (hb : b < 2 ^ 64) (hS : S < 2 ^ 64) : (bits .andNot .u64 (b : Int) (S : Int) == 0) = decide (b &&& S = b) := bits_andnot .u64 64 (by decide) wraps64 b S hb hS
/-- What is known within Fewest's search. -/
def FwC (wr : World) (wa pa na R mb b cap : Nat) (A : Option Addr) (q : Nat → Nat) (n : Nat) (x : World) : Prop := PlanAt x wa pa na R mb b cap A q n ∧ wr.grownBy x (some mb)

set_option maxRecDepth 100000 in
set_option maxHeartbeats 4000000 in
theorem pFewest_ok (P : Nat) (A : Option Addr) (c : Nat) (ws : List GW) (w : World) (hok : errSheet P ws = 0) (hn : ws.length ≤ 14) (ha : RdW w A ws) (hT : Tz w) :
    Calls Tryd.prog 16 #[.agg #[.int .i64 (P : Int), .slice A ws.length c]] w (HangPost (fewF (plsOf ws) ws.length (nedN (plsOf ws) ws.length 0) ws.length 0) (nedN (plsOf ws) ws.length 0) 0 w) := by
  have hb2 : Below w.heap.size w (w.alloc (.cells #[.int .i64 P, .slice A ws.length c] 24)) := (Below.refl _ _).alloc (Nat.le_refl _) _
  have X0 := Lib.hid (Box1.made w P A c ws.length 24)
  have hP24 : P ≤ 24 := by have := (okAll hok).2.1; omega
  have HA := Lib.hid ha; have HB2 := Lib.hid hb2; have HOK := Lib.hid hok; have HT := Lib.hid hT; clear ha hb2 hok hT
  go_enter Tryd.func16, Tryd.ntmps16
  go_wp2_with fail
  refine (sCheck_ _ _ _ _ _ (by omega) (by omega) (HA.out.later HB2.out (Nat.le_refl _))).mono ?_
  rw [HOK.out]
  rintro e w1 ⟨rfl, hb1⟩
  have Y1 := Lib.hid (HB2.out.trans (hb1.mono (by simp)))
  have X1 := Lib.hid (X0.out.later hb1)
  obtain ⟨c1, c2, s1⟩ := X1.out
  clear hb1
  go_wp2_with fail
  refine (prepared_ P A c ws _ hn HOK.out (HA.out.later Y1.out (Nat.le_refl _))).mono ?_
  rintro e w2 ⟨R, mb, b, A2, cap, rfl, hpl, hA2, hbf, hmm, hmb, hRs, hRm, hbm, hb1⟩
  have Y2 := Lib.hid (Y1.out.trans (hb1.mono Y1.out.size))
  have X2 := Lib.hid (X1.out.later hb1)
  have Z2 := Lib.hid (hb1.mono (show w.heap.size + 1 ≤ w1.heap.size by omega))
  obtain ⟨c3, c4, s2⟩ := X2.out
  have hs12 := hb1.size
  have C2 := Lib.hid c2
  clear hb1 c1 c2
  obtain ⟨pw, hpw⟩ : ∃ pw : Nat, pw = 2 ^ ws.length := ⟨_, rfl⟩
  obtain ⟨al, hal⟩ : ∃ al : Nat, al = 2 ^ ws.length - 1 := ⟨_, rfl⟩
  have e1 : IntKind.u64.wrap (2 ^ ws.length) = (pw : Int) := by rw [hpw]; exact pow_wrap ws.length (by omega)
  have z1 : (ws.length : Int) < 64 := by omega
  have hp2 := Nat.two_pow_pos ws.length
  have hp3 : 2 ^ ws.length ≤ 2 ^ 14 := Nat.pow_le_pow_right (by decide) hn
  have e2 : IntKind.u64.wrap ((pw : Int) - 1) = (al : Int) := by
    rw [show (pw : Int) - 1 = (al : Int) by omega]
    exact wraps64 _ (Int.natCast_nonneg _) (by omega)
  have HPL := Lib.hid hpl; have HA2 := Lib.hid hA2; have HBF := Lib.hid hbf; have HMM := Lib.hid hmm; have HP2 := Lib.hid hp2; have HP3 := Lib.hid hp3; have HPW := Lib.hid hpw; have HAL := Lib.hid hal; clear hpl hA2 hbf hmm hp2 hp3 hpw hal
  go_wp2_with fail
  obtain ⟨W3, hW3⟩ : ∃ W3, W3 = ((w2.alloc (.cells #[.pointer (some ⟨R, 0, none⟩)] 59)).alloc (.cells #[.int .u64 (al : Int)] 46)).alloc (.cells #[.func (.func 33) #[] #[.pointer (some ⟨w2.heap.size + 1, 0, none⟩), .pointer (some ⟨w2.heap.size, 0, none⟩), .pointer (some ⟨w2.heap.size + 1 + 1, 0, none⟩)]] 56) := ⟨_, rfl⟩
  rw [← hW3]
  have hB3 : Below w2.heap.size w2 W3 := by
    rw [hW3]; exact (((Below.refl _ _).alloc (Nat.le_refl _) _).alloc (by simp) _).alloc (by simp; omega) _
  have hs3 : W3.heap.size = w2.heap.size + 1 + 1 + 1 := by rw [hW3]; simp
  have k1 : W3.cell? ⟨w2.heap.size, 0, none⟩ = some (.pointer (some ⟨R, 0, none⟩)) := by rw [hW3]; go_simp
  have k2 : W3.cell? ⟨w2.heap.size + 1, 0, none⟩ = some (.int .u64 (al : Int)) := by rw [hW3]; go_simp
  have k3 : W3.cell? ⟨w2.heap.size + 1 + 1, 0, none⟩ = some (needV (w2.heap.size + 1) w2.heap.size (w2.heap.size + 1 + 1)) := by rw [hW3]; go_simp; rfl
  have hmbl := lt_of_block HMM.out
  have hRl := HPL.out.lt
  have h1l := World.block_lt_of_cell? _ _ (HT.out 0 (by omega))
  have hbl : 0 < ws.length → b < w2.heap.size := fun h => World.block_lt_of_cell? _ _ (HBF.out 0 h)
  have Y3 := Lib.hid (Y2.out.trans (hB3.mono Y2.out.size))
  have Z3 := Lib.hid (Z2.out.trans (hB3.mono (show w.heap.size + 1 ≤ w2.heap.size by omega)))
  have hmap3 : MapOk W3 mb .u64 .i64 (fun z => (nedN (plsOf ws) ws.length z.toNat : Int)) := ⟨#[], 0, (hB3.block _ hmbl).trans HMM.out, fun e he => absurd he (by simp)⟩
  obtain ⟨wa, hwa⟩ : ∃ wa, wa = w2.heap.size + 1 := ⟨_, rfl⟩
  obtain ⟨na, hna⟩ : ∃ na, na = w2.heap.size + 1 + 1 := ⟨_, rfl⟩
  obtain ⟨pa, hpa⟩ : ∃ pa, pa = w2.heap.size := ⟨_, rfl⟩
  rw [← hna] at k3
  rw [← hwa] at k2 k3
  rw [← hpa] at k1 k3
  have hC3 : PlanAt W3 wa pa na R mb b cap A2 (plsOf ws) ws.length :=
    ⟨by rw [k2, HAL.out], k1, k3, HPL.out.later hB3, HA2.out, fun i hi => below_at hB3 (Nat.le_refl _) (HBF.out i hi), hmap3, HT.out.later Y3.out (Nat.le_refl _), by omega⟩
  rw [← hna, ← hwa, ← hpa]
  have hneed0 := need_ wa pa na R mb b cap ws.length A2 (plsOf ws) hn _ 0 W3 (Nat.le_refl _) HP2.out hC3
  rw [show ((0 : Nat) : Int) = 0 from rfl] at hneed0
  have hbe := nedN_le24 (plsOf ws) ws.length _ 0 (Nat.le_refl _) HP2.out
  have hlow : wa < W3.heap.size ∧ pa < W3.heap.size ∧ na < W3.heap.size ∧ R < W3.heap.size ∧ mb < W3.heap.size ∧ 1 < W3.heap.size := by omega
  have hlowb : 0 < ws.length → b < W3.heap.size := fun h => by have := hbl h; omega
  have hmw : w.heap.size + 1 ≤ mb := by omega
  have HBO : w.heap.size + 1 ≤ W3.heap.size := by omega
  clear hwa hna hpa k1 k2 k3 hW3 hB3 hs3 hmbl hRl h1l hbl hmap3 hs12 c3 c4 s1 s2
  refine hneed0.mono ?_
  clear hneed0
  rintro e w4 ⟨rfl, hP4, hg4⟩
  have hs34 := hg4.size
  have Z4 := Lib.hid (Z3.out.trans (GB.below hg4 hmw HBO))
  have hlow4 : wa < w4.heap.size ∧ pa < w4.heap.size ∧ na < w4.heap.size ∧ R < w4.heap.size ∧ mb < w4.heap.size ∧ 1 < w4.heap.size := by omega
  have hlowb4 : 0 < ws.length → b < w4.heap.size := fun h => by have := hlowb h; omega
  have hB4 : w.heap.size + 1 ≤ w4.heap.size := by omega
  obtain ⟨BB, hBB⟩ : ∃ BB, BB = w4.heap.size := ⟨_, rfl⟩
  rw [← hBB] at hlow4 hlowb4 hB4
  have hm0 := miss_none ws.length
  obtain ⟨FL, hFL⟩ : ∃ FL, FL = fewF (plsOf ws) ws.length (nedN (plsOf ws) ws.length 0) ws.length 0 := ⟨_, rfl⟩
  have hFLl : [] ++ fewF (plsOf ws) ws.length (nedN (plsOf ws) ws.length 0) (miss ws.length 0) 0 = FL := by rw [hm0, hFL]; rfl
  have hb0 : nedN (plsOf ws) ws.length 0 ≤ nedN (plsOf ws) ws.length 0 := Nat.le_refl _
  clear hlow hlowb hg4 hs34 hbm hmb hRs hRm
  generalize hq : plsOf ws = q at *
  generalize hbt : nedN q ws.length 0 = best at *
  have HQ := Lib.hid hq; have HBT := Lib.hid hbt; have HP4 := Lib.hid hP4; have HBB := Lib.hid hBB; have HFLL := Lib.hid hFLl; have HB0 := Lib.hid hb0; have HFL := Lib.hid hFL; clear hq hbt hP4 hBB hFLl hb0 hFL
  clear HPL HBF HMM Z3 Z2 Y3 Y2 X2 HBO
  go_wp2
  go_loopw [10, 11] (fun ov dv wr => ∃ (vo : Value) (S : Nat) (l : List Int), vo = ov ∧ dv = .int .u64 S ∧ S < 2 ^ ws.length ∧ nedN q ws.length S ≤ best ∧ wr.ownsRow BB 3 1 vo l.length (ints l) ∧ l ++ fewF q ws.length best (miss ws.length S) S = FL ∧ l.length + miss ws.length S = ws.length ∧ PlanAt wr wa pa na R mb b cap A2 q ws.length ∧ Below (w.heap.size + 1) w1 wr ∧ BB ≤ wr.heap.size) (fun _ dv _ => miss ws.length (intOf dv).toNat)
  case atStart => exact ⟨_, 0, [], rfl, rfl, HP2.out, by rw [HBT.out]; exact Nat.le_refl _, World.ownsRow_nil _ _ _ _, HFLL.out, by simp [hm0], HP4.out, Z4.out, by rw [HBB.out]; omega⟩
  case round =>
    obtain ⟨vo, S, l, rfl, rfl, hS, hnS, hown, hfl, hll, hP, hbr, hsz⟩ := hrel
    obtain ⟨wy, rfl⟩ : ∃ wy : World, wy = wr := ⟨_, rfl⟩
    have d0 := hP.all
    have d1 : wy.cell? ⟨w.heap.size, 1, none⟩ = some (.slice A ws.length c) := (hbr.cell (p := ⟨w.heap.size, 1, none⟩) (by simp)).trans C2.out
    have hbl1 := World.block_lt_of_cell? wy _ d1
    rw [← HAL.out] at d0
    by_cases hfull : S = al
    · have hb1 : ((S : Int) != (al : Int)) = false := by simp [hfull]
      have hz : miss ws.length S = 0 := (miss_zero hS).2 (by rw [hfull, HAL.out])
      have hfl2 : l = FL := by rw [hz] at hfl; rw [← hfl]; show l = l ++ []; simp
      have hlen : l.length ≤ 281474976710656 := by omega
      obtain ⟨A3, c3, rfl⟩ := own_slice1 hown
      have HOWN := Lib.hid hown; have HFL2 := Lib.hid hfl2; have HP := Lib.hid hP; have HBR := Lib.hid hbr; clear hown hfl2 hP hbr
      clear hfl hnS hS hfull hz
      go_wp2
      go_ret3
      exact ⟨.slice A3 l.length c3, rfl, by rw [← HFL.out, ← HFL2.out]; exact RdV.of_own HOWN.out hlen, Y1.out.trans (HBR.out.mono (by omega))⟩
    · have hb1 : ((S : Int) != (al : Int)) = true := by simp; omega
      have hex := okW_some (q := q) (n := ws.length) (best := best) (S := S) hbe (by rw [← HAL.out]; exact hfull) hnS
      have hS64 : S < 2 ^ 64 := by have := HP3.out; omega
      have hbmb : 0 < ws.length → A2 = some ⟨b, 0, none⟩ := hP.at_
      have hne := hP.ne
      have hfl3 := hfl
      have HOWN := Lib.hid hown; have HFL3 := Lib.hid hfl3; have HP := Lib.hid hP; have HBR := Lib.hid hbr; have HNS := Lib.hid hnS; have HS := Lib.hid hS; have HEX := Lib.hid hex; have HS64 := Lib.hid hS64; have HFULL := Lib.hid hfull; have HLL := Lib.hid hll; have HBMB := Lib.hid hbmb; clear hown hfl3 hP hbr hnS hS hex hS64 hfull hll hbmb
      clear hfl
      go_wp2
      clear d0 d1 hbl1
      go_loopw [10, 11, 38] (fun ov2 dv2 iv wr => ∃ k : Nat, vo = ov2 ∧ dv2 = .int .u64 S ∧ iv = .int .i64 k ∧ k ≤ ws.length ∧ (∀ j, j < k → okW q ws.length best S j = false) ∧ PlanAt wr wa pa na R mb b cap A2 q ws.length ∧ wy.grownBy wr (some mb)) (fun _ _ iv _ => ws.length - (intOf iv).toNat)
      case atStart => exact ⟨0, rfl, rfl, rfl, Nat.zero_le _, fun j h => absurd h (by omega), HP.out, World.grownBy.refl _ _⟩
      case round =>
        obtain ⟨k, rfl, rfl, rfl, hk, hno, hPx, hgx⟩ := hrel
        obtain ⟨wx, rfl⟩ : ∃ wx : World, wx = wr := ⟨_, rfl⟩
        have hbx := HBR.out.trans (GB.below hgx (by omega) (by have := HBR.out.size; omega) : Below (w.heap.size + 1) wy wx)
        have d1 : wx.cell? ⟨w.heap.size, 1, none⟩ = some (.slice A ws.length c) := (hbx.cell (p := ⟨w.heap.size, 1, none⟩) (by simp)).trans C2.out
        have hbl1 := World.block_lt_of_cell? wx _ d1
        by_cases hkn : k < ws.length
        rotate_left
        · obtain ⟨j, hj1, hj2⟩ := HEX.out
          rw [hno j (by omega)] at hj2
          cases hj2
        · have hA2e := HBMB.out (by omega)
          obtain ⟨C, hC⟩ : ∃ C : World → Prop, C = FwC wx wa pa na R mb b cap A2 q ws.length := ⟨_, rfl⟩
          have hCx : C wx := by rw [hC]; exact ⟨hPx, World.grownBy.refl _ _⟩
          have hCd : C wx.drew := by rw [hC]; exact ⟨hPx.drew, GB.drew (World.grownBy.refl _ _)⟩
          have hCP : ∀ x, C x → PlanAt x wa pa na R mb b cap A2 q ws.length ∧ wx.grownBy x (some mb) := fun x h => by rw [hC] at h; exact h
          have hCm : ∀ x, PlanAt x wa pa na R mb b cap A2 q ws.length ∧ wx.grownBy x (some mb) → C x := fun x h => by rw [hC]; exact h
          have u1 : ∀ u : GrB C, u.wd.cell? ⟨pa, 0, none⟩ = some (.pointer (some ⟨R, 0, none⟩)) := fun u => (hCP _ u.h).1.plan
          have u2 : ∀ u : GrB C, u.wd.cell? ⟨na, 0, none⟩ = some (.func (.func 33) #[] #[.pointer (some ⟨wa, 0, none⟩), .pointer (some ⟨pa, 0, none⟩), .pointer (some ⟨na, 0, none⟩)]) := fun u => (hCP _ u.h).1.self
          have u3 : ∀ u : GrB C, u.wd.cell? ⟨R, 0, none⟩ = some (.slice (some ⟨b, 0, none⟩) ws.length cap) := fun u => by rw [← hA2e]; exact (hCP _ u.h).1.pl.at0
          have u4 : ∀ u : GrB C, u.wd.cell? ⟨b, k, none⟩ = some (.int .u64 (befT q k : Int)) := fun u => (hCP _ u.h).1.bef k hkn
          have hbn : Nonempty (GrB C) := ⟨⟨wx, hCx⟩⟩
          have hpw : 2 ^ ws.length ≤ 2 ^ 64 := by have := HP3.out; omega
          have e3 := bit0_is S k HS64.out
          have hbf64 : befT q k < 2 ^ 64 := Nat.lt_of_lt_of_le (befT_lt q k) (Nat.pow_le_pow_right (by decide) (by omega))
          have e4 := bits_andnot0 (befT q k) S hbf64 HS64.out
          have z2 : (0 : Int) ≤ (k : Int) := by omega
          have z3 : (k : Int) < 64 := by omega
          have z4 : (k : Int) < (ws.length : Int) := by omega
          have hok : okW q ws.length best S k = ((!S.testBit k && decide (befT q k &&& S = befT q k)) && (decide (hngS q ws.length S k ≤ best) && decide (nedN q ws.length (S ||| 2 ^ k) ≤ best))) := rfl
          have hno2 : okW q ws.length best S k = false → ∀ j, j < k + 1 → okW q ws.length best S j = false := fun h j hj => by
            rcases Nat.lt_succ_iff_lt_or_eq.1 hj with hj | rfl
            · exact hno j hj
            · exact h
          have hcut : ∀ (wB : World), C wB → PlanAt wB wa pa na R mb b cap A2 q ws.length ∧ wy.grownBy wB (some mb) := fun x h => ⟨(hCP x h).1, gtr hgx (hCP x h).2⟩
          cases c1 : S.testBit k with
          | true =>
            have hf := hno2 (by rw [hok, c1]; rfl)
            rw [c1] at e3
            simp only [Bool.not_true] at e3
            clear e4 hok hno2 c1 hbf64 hpw u1 u2 u3 u4 d1 hbl1 hCm
            have HCX := Lib.hid hCx; have HCD := Lib.hid hCd; have HCP := Lib.hid hCP; have HC := Lib.hid hC; have HNO := Lib.hid hno; have HF := Lib.hid hf; have HPX := Lib.hid hPx; have HGX := Lib.hid hgx; have HBX := Lib.hid hbx; have HCUT := Lib.hid hcut; clear hCx hCd hCP hC hno hf hPx hgx hbx hcut
            go_wp2
            refine wp_region_grb C HCD.out (by kernel_rfl) (by kernel_rfl) ?_
            repeat (go_big_quiet_step (fail))
            refine wpQuiet_nil ?_
            intro wB hB0; obtain ⟨uB, hu⟩ := hB0; have hbB0 := uB.h; rw [← hu] at hbB0; clear hu uB hbn
            have HQ := Lib.hid (HCUT.out _ hbB0)
            clear hbB0
            go_wp2
            go_roundw
            case rel => exact ⟨k + 1, rfl, rfl, by go_num, by omega, HF.out, HQ.out⟩
            case measure => simp [intOf]; omega
          | false =>
            rw [c1] at e3 hok
            simp only [Bool.not_false, Bool.true_and] at e3 hok
            cases c2 : decide (befT q k &&& S = befT q k) with
            | false =>
              rw [c2] at e4 hok
              have hf := hno2 (by rw [hok]; rfl)
              generalize befT q k = bq at *
              clear hok hno2 c2 hbf64 hpw u2 d1 hbl1 hCm
              have HCX := Lib.hid hCx; have HCD := Lib.hid hCd; have HCP := Lib.hid hCP; have HC := Lib.hid hC; have HNO := Lib.hid hno; have HF := Lib.hid hf; have HPX := Lib.hid hPx; have HGX := Lib.hid hgx; have HBX := Lib.hid hbx; have HCUT := Lib.hid hcut; have C1 := Lib.hid c1; clear hCx hCd hCP hC hno hf hPx hgx hbx hcut c1
              go_wp2
              refine wp_region_grb C HCD.out (by kernel_rfl) (by kernel_rfl) ?_
              repeat (go_big_quiet_step (fail))
              refine wpQuiet_nil ?_
              intro wB hB0; obtain ⟨uB, hu⟩ := hB0; have hbB0 := uB.h; rw [← hu] at hbB0; clear hu uB hbn u1 u3 u4
              have HQ := Lib.hid (HCUT.out _ hbB0)
              clear hbB0
              go_wp2
              go_roundw
              case rel => exact ⟨k + 1, rfl, rfl, by go_num, by omega, HF.out, HQ.out⟩
              case measure => simp [intOf]; omega
            | true =>
              rw [c2] at e4 hok
              simp only [Bool.true_and] at hok
              have hhc : ∀ u : GrB C, Calls Tryd.prog 34 #[.pointer (some ⟨R, 0, none⟩), .int .u64 (S : Int), .int .i64 (k : Int)] u.wd fun e w'' => e = .returned (.int .i64 (hngS q ws.length S k : Int)) ∧ ∃ u' : GrB C, w'' = u'.wd := fun u =>
                quiet_grb ((hanging_ R mb S k ws.length q _ _ (by omega) HS.out hkn (hCP _ u.h).1.pl).mono fun _ w' ⟨he, hw⟩ => ⟨he, hw ▸ u.h⟩)
              cases c3 : decide (hngS q ws.length S k ≤ best) with
              | false =>
                rw [c3] at hok
                have hf := hno2 (by rw [hok]; rfl)
                generalize befT q k = bq at *
                generalize hngS q ws.length S k = hv at *
                clear hok hno2 c2 hbf64 hpw u2 d1 hbl1 hCm
                have HCX := Lib.hid hCx; have HCD := Lib.hid hCd; have HCP := Lib.hid hCP; have HC := Lib.hid hC; have HNO := Lib.hid hno; have HF := Lib.hid hf; have HPX := Lib.hid hPx; have HGX := Lib.hid hgx; have HBX := Lib.hid hbx; have HCUT := Lib.hid hcut; have C1 := Lib.hid c1; have HHC := Lib.hid hhc; clear hCx hCd hCP hC hno hf hPx hgx hbx hcut c1 hhc
                go_wp2
                refine wp_region_grb C HCD.out (by kernel_rfl) (by kernel_rfl) ?_
                repeat (go_big_quiet_step ((go_at_call 34; exact HHC.out _)))
                refine wpQuiet_nil ?_
                intro wB hB0; obtain ⟨uB, hu⟩ := hB0; have hbB0 := uB.h; rw [← hu] at hbB0; clear hu uB hbn u1 u3 u4
                have HQ := Lib.hid (HCUT.out _ hbB0)
                clear hbB0
                go_wp2
                go_roundw
                case rel => exact ⟨k + 1, rfl, rfl, by go_num, by omega, HF.out, HQ.out⟩
                case measure => simp [intOf]; omega
              | true =>
                rw [c3] at hok
                simp only [Bool.true_and] at hok
                have e6 := pow_wrap k (by omega)
                have e7 := bit_set .u64 64 (by decide) wraps64 S k HS64.out (by omega)
                have hs2 : S ||| 2 ^ k < 2 ^ ws.length := Nat.or_lt_two_pow HS.out (Nat.pow_lt_pow_right (by decide) hkn)
                have hm1 := miss_set1 c1 ws.length hkn
                have hnc : ∀ u : GrB C, Calls Tryd.prog 33 #[.int .u64 ((S ||| 2 ^ k : Nat) : Int), .pointer (some ⟨wa, 0, none⟩), .pointer (some ⟨pa, 0, none⟩), .pointer (some ⟨na, 0, none⟩)] u.wd fun e w'' => e = .returned (.int .i64 (nedN q ws.length (S ||| 2 ^ k) : Int)) ∧ ∃ u' : GrB C, w'' = u'.wd := fun u =>
                  quiet_grb ((need_ wa pa na R mb b cap ws.length A2 q hn _ (S ||| 2 ^ k) _ (Nat.le_refl _) hs2 (hCP _ u.h).1).mono fun _ w' ⟨he, hP', hg'⟩ => ⟨he, hCm _ ⟨hP', gtr (hCP _ u.h).2 hg'⟩⟩)
                have hfs := fewF_step (q := q) (n := ws.length) (best := best) (S := S) (k := k) (miss ws.length (S ||| 2 ^ k)) hkn
                have hnd := okW_ned (q := q) (n := ws.length) (best := best) (S := S) (k := k)
                cases c4 : decide (nedN q ws.length (S ||| 2 ^ k) ≤ best) with
                | false =>
                  rw [c4] at hok
                  have hf := hno2 hok
                  clear hfs hnd hm1
                  generalize S ||| 2 ^ k = S2 at *
                  generalize nedN q ws.length S2 = nv at *
                  generalize befT q k = bq at *
                  generalize hngS q ws.length S k = hv at *
                  clear hok hno2 c2 hbf64 hpw d1 hbl1 hCm
                  have HCX := Lib.hid hCx; have HCD := Lib.hid hCd; have HCP := Lib.hid hCP; have HC := Lib.hid hC; have HNO := Lib.hid hno; have HF := Lib.hid hf; have HPX := Lib.hid hPx; have HGX := Lib.hid hgx; have HBX := Lib.hid hbx; have HCUT := Lib.hid hcut; have C1 := Lib.hid c1; have HHC := Lib.hid hhc; have HNC := Lib.hid hnc; have HS2 := Lib.hid hs2; clear hCx hCd hCP hC hno hf hPx hgx hbx hcut c1 hhc hnc hs2
                  go_wp2
                  refine wp_region_grb C HCD.out (by kernel_rfl) (by kernel_rfl) ?_
                  repeat (go_big_quiet_step (first | (go_at_call 34; exact HHC.out _) | (go_at_call 33; exact HNC.out _)))
                  refine wpQuiet_nil ?_
                  intro wB hB0; obtain ⟨uB, hu⟩ := hB0; have hbB0 := uB.h; rw [← hu] at hbB0; clear hu uB hbn u1 u2 u3 u4
                  have HQ := Lib.hid (HCUT.out _ hbB0)
                  clear hbB0
                  go_wp2
                  go_roundw
                  case rel => exact ⟨k + 1, rfl, rfl, by go_num, by omega, HF.out, HQ.out⟩
                  case measure => simp [intOf]; omega
                | true =>
                  rw [c4] at hok
                  have hfs2 := hfs hok hno
                  rw [hm1] at hfs2
                  have hnd2 := hnd hok
                  clear hfs hnd
                  generalize S ||| 2 ^ k = S2 at *
                  generalize hnv : nedN q ws.length S2 = nv at *
                  generalize befT q k = bq at *
                  generalize hngS q ws.length S k = hv at *
                  clear hok hno2 c2 hbf64 hpw d1 hbl1 hCm
                  have HCX := Lib.hid hCx; have HCD := Lib.hid hCd; have HCP := Lib.hid hCP; have HC := Lib.hid hC; have HNO := Lib.hid hno; have HPX := Lib.hid hPx; have HGX := Lib.hid hgx; have HBX := Lib.hid hbx; have HCUT := Lib.hid hcut; have C1 := Lib.hid c1; have HHC := Lib.hid hhc; have HNC := Lib.hid hnc; have HS2 := Lib.hid hs2; have HM1 := Lib.hid hm1; have HFS2 := Lib.hid hfs2; have HND2 := Lib.hid hnd2; have HNV := Lib.hid hnv; clear hCx hCd hCP hC hno hPx hgx hbx hcut c1 hhc hnc hs2 hm1 hfs2 hnd2 hnv
                  go_wp2
                  refine wp_region_grb C HCD.out (by kernel_rfl) (by kernel_rfl) ?_
                  repeat (go_big_quiet_step (first | (go_at_call 34; exact HHC.out _) | (go_at_call 33; exact HNC.out _)))
                  refine wpQuiet_nil ?_
                  intro wB hB0; obtain ⟨uB, hu⟩ := hB0; have hbB0 := uB.h; rw [← hu] at hbB0; clear hu uB hbn u1 u2 u3 u4
                  have HQ := Lib.hid (HCUT.out _ hbB0)
                  clear hbB0
                  have hownB : wB.ownsRow BB 3 1 vo l.length (ints l) := HOWN.out.kept HQ.out.2 (by
                    rcases hv0 : vo.ownBlock with _ | g
                    · exact .inl rfl
                    · refine .inr fun e => ?_
                      have := (HOWN.out.lt g hv0).1
                      have : g = mb := Option.some.inj e
                      omega)
                  have hszB := HQ.out.2.size
                  have hll2 := HLL.out
                  have HOWNB := Lib.hid hownB; clear hownB
                  go_wp2_with (at_builtin; go_must (refine wpList_app1_Tryd rfl _ _ rfl BB vo l rfl (HOWNB.out.alloc _) _ (k : Int) rfl (heap_alloc_new _ _) (by omega) (by simp; omega) ?_); intro g cap2 w6 hown6 hgrow hat6 hlt6)
                  have hbel6 : Below BB wB w6 := ((Below.refl _ _).alloc (by omega) _).grown hgrow (by simp; omega) (fun j hj => by have := (HOWNB.out.lt j hj).1; omega)
                  have hP6 := HQ.out.1.low hbel6 hlow4 hlowb4
                  have hbr6 := (HBR.out.trans (GB.below HQ.out.2 (by omega) (by have := HBR.out.size; omega))).trans (hbel6.mono (by omega))
                  have hs6 := hbel6.size
                  have HOWN6 := Lib.hid hown6; have HGROW := Lib.hid hgrow; have HBEL6 := Lib.hid hbel6; have HP6 := Lib.hid hP6; have HBR6 := Lib.hid hbr6; clear hown6 hgrow hbel6 hP6 hbr6
                  go_wp2
                  go_roundw
                  case rel => exact ⟨_, S2, l ++ [(k : Int)], rfl, rfl, HS2.out, by rw [HNV.out]; exact HND2.out, by simpa using HOWN6.out, by rw [← HFL3.out, HFS2.out]; simp, by have := HM1.out; simp; omega, HP6.out, HBR6.out, by omega⟩
                  case measure =>
                    have := HM1.out
                    simp [intOf]
                    omega
theorem fewX_zero {p : Int} {ws : List GW} (h : fewX p ws = 0) : errSheet p ws = 0 ∧ ws.length ≤ 14 := by
  unfold fewX at h
  by_cases he : errSheet p ws = 0
  · rw [if_pos he] at h
    refine ⟨he, ?_⟩
    by_cases hl : 14 < ws.length
    · rw [if_pos hl] at h; exact absurd h (by decide)
    · omega
  · rw [if_neg he] at h; exact absurd h he
theorem pFewest_ (p : Int) (A : Option Addr) (c : Nat) (ws : List GW) (w : World) (hsh : ShIn w p A ws) (hT : Tz w) :
    Calls Tryd.prog 16 #[.agg #[.int .i64 p, .slice A ws.length c]] w (HangPost (fewL p ws) (fewN p ws) (fewX p ws) w) := by
  by_cases hx : fewX p ws = 0
  · obtain ⟨he, hl⟩ := fewX_zero hx
    have hp2 := (okAll he).1
    obtain ⟨P, rfl⟩ := Int.eq_ofNat_of_zero_le (show 0 ≤ p by omega)
    unfold fewL fewN
    rw [if_pos hx, if_pos hx, hx]
    exact pFewest_ok P A c ws w he hl hsh.rd hT
  · unfold fewL fewN
    rw [if_neg hx, if_neg hx]
    exact pFewest_bad p A c ws w hsh hx
end Go.Proofs.YtnplcephmidjbaaDoor
/- The example of chapter 12; what the program returns there. -/
namespace Go.Proofs.YtnplcephmidjbaaDoor
open Go.RowKit

def exW (i : Nat) : GW := ⟨1, ((2 * (i % 2) : Nat) : Int), ⟨#[67, 84, 67]⟩⟩
def exTo (k : Nat) : List GW := (List.range k).map exW
theorem exTo_length (k : Nat) : (exTo k).length = k := by unfold exTo; simp
theorem exTo_succ (k : Nat) : exTo (k + 1) = exTo k ++ [exW k] := by unfold exTo; simp [List.range_succ]
def exWs : List GW := exTo 4
theorem ex_fits : ∀ x ∈ exWs, x.fits := by
  intro x hx
  have : x = exW 0 ∨ x = exW 1 ∨ x = exW 2 ∨ x = exW 3 := by
    simp [exWs, exTo, List.range_succ] at hx
    exact hx
  rcases this with rfl | rfl | rfl | rfl <;> (unfold GW.fits exW; decide)
theorem ex_err : errSheet 4 exWs = 0 := by kernel_rfl
theorem ex_reoX : reoX 4 exWs [0, 1, 2, 3] = 0 := by kernel_rfl
theorem ex_hangL : hangL 4 exWs [0, 1, 2, 3] = [2, 4, 4, 2] := by kernel_rfl
theorem ex_hangN : hangN 4 exWs [0, 1, 2, 3] = 4 := by kernel_rfl
theorem ex_fewX : fewX 4 exWs = 0 := by kernel_rfl
theorem ex_fewN : fewN 4 exWs = 2 := by kernel_rfl
theorem ex_fewL : fewL 4 exWs = [0, 2, 1, 3] := by kernel_rfl
theorem ex_bndX : bndX 4 exWs = 0 := by kernel_rfl
theorem ex_bndW : bndW 4 exWs = 0 := by kernel_rfl
theorem ex_bndL : bndL 4 exWs = [0, 1] := by kernel_rfl
theorem ex_share1 : shareL 4 exWs [0, 1, 2, 3] = [0, 1, 2, 3] := by kernel_rfl
theorem ex_reoX2 : reoX 4 exWs [0, 2, 1, 3] = 0 := by kernel_rfl
theorem ex_share2 : shareL 4 exWs [0, 2, 1, 3] = [0, 1, 0, 1] := by kernel_rfl

def ExIn (w : World) (e : Ending) (w' : World) : Prop := ∃ A c, e = .returned (.agg #[.int .i64 4, .slice A 4 c]) ∧ RdW w' A exWs ∧ Below w.heap.size w w'
set_option maxHeartbeats 2000000 in
theorem example_ (w : World) : Calls Tryd.prog 24 #[] w (ExIn w) := by
  go_enter Tryd.func24, Tryd.ntmps24
  go_wp2
  obtain ⟨W2, hW2⟩ : ∃ W2, W2 = (w.alloc (.cells #[.int .i64 0, .slice none 0 0] 24)).alloc (.cells #[.int .i64 4, .slice none 0 0] 24) := ⟨_, rfl⟩
  rw [← hW2]
  have hb2 : Below w.heap.size w W2 := by rw [hW2]; exact ((Below.refl _ _).alloc (Nat.le_refl _) _).alloc (by simp) _
  have hS : W2.heap[w.heap.size + 1]? = some (.cells #[.int .i64 4, .slice none 0 0] 24 (0, 0)) := by rw [hW2]; exact heap_alloc2_new _ _ _
  have k0 : W2.cell? ⟨w.heap.size, 0, none⟩ = some (.int .i64 0) := by rw [hW2]; go_simp
  have k1 : W2.cell? ⟨w.heap.size, 1, none⟩ = some (.slice none 0 0) := by rw [hW2]; go_simp
  have f0 : W2.frozen? ⟨w.heap.size, 0, none⟩ = false := by rw [hW2]; go_simp
  have f1 : W2.frozen? ⟨w.heap.size, 1, none⟩ = false := by rw [hW2]; go_simp
  have hs2 : W2.heap.size = w.heap.size + 1 + 1 := by rw [hW2]; simp
  have hs3 : w.heap.size + 1 ≤ W2.heap.size := by omega
  clear hW2
  have HB2 := Lib.hid hb2; have HS := Lib.hid hS; have K0 := Lib.hid k0; have K1 := Lib.hid k1; have F0 := Lib.hid f0; have F1 := Lib.hid f1; have HS2 := Lib.hid hs2; clear hb2 hS k0 k1 f0 f1 hs2
  go_loopw [2] (fun iv wr => ∃ (i : Nat) (v : Value), iv = .int .i64 i ∧ i ≤ 4 ∧ wr.heap[w.heap.size + 1]? = some (.cells #[.int .i64 4, v] 24 (0, 0)) ∧ wr.ownsRow (w.heap.size + 1 + 1) 44 3 v (exTo i).length (worksC (exTo i)) ∧ Below (w.heap.size + 1) W2 wr) (fun iv _ => 4 - (intOf iv).toNat)
  case atStart => exact ⟨0, _, rfl, by omega, HS.out, World.ownsRow_nil _ _ _ _, Below.refl _ _⟩
  case round =>
    obtain ⟨i, v, rfl, hi, hO, hown, hbr⟩ := hrel
    obtain ⟨wx, rfl⟩ : ∃ wx : World, wx = wr := ⟨_, rfl⟩
    have hOl := lt_of_block hO
    have c0 := cell_of_row wx (w.heap.size + 1) 0 _ _ _ hO
    have c1 := cell_of_row wx (w.heap.size + 1) 1 _ _ _ hO
    have g1 := frozen_of_row wx (w.heap.size + 1) 1 _ _ hO
    simp only [List.getElem?_toArray, List.getElem?_cons_zero, List.getElem?_cons_succ] at c0 c1
    have hvl := hown.lt
    have hN2 : Hid (some (w.heap.size + 1) ≠ v.ownBlock) := fun h => by have := (hvl _ h.symm).1; omega
    have hlen := exTo_length i
    have hsu := exTo_succ i
    by_cases hi4 : i < 4
    · generalize hL : exTo i = L at *
      have HO := Lib.hid hO; have HOWN := Lib.hid hown; have HBR := Lib.hid hbr; have HVL := Lib.hid hvl; have HSU := Lib.hid hsu; have HL := Lib.hid hL; have HLEN := Lib.hid hlen; clear hO hown hbr hvl hsu hL hlen
      obtain rfl | rfl | rfl | rfl : i = 0 ∨ i = 1 ∨ i = 2 ∨ i = 3 := by omega
      · go_wp2_with (at_builtin; go_must (refine wpList_appW_Tryd rfl _ _ rfl (w.heap.size + 1 + 1) v L rfl (HOWN.out.alloc _) _ (exW 0) rfl (heap_alloc_new _ _) (by have := HLEN.out; omega) (by simp; omega) ?_); intro g cap w6 hown6 hgrow hat6 hlt6; have q1 : w6.cell? ⟨w.heap.size + 1, 1, none⟩ = some v := (hgrow.cell_far ⟨w.heap.size + 1, 1, none⟩ (by simp; omega) hN2.out).trans (by go_simp); have q2 : w6.frozen? ⟨w.heap.size + 1, 1, none⟩ = false := (hgrow.frozen_far ⟨w.heap.size + 1, 1, none⟩ (by simp; omega) hN2.out).trans (by go_simp); have q3 : w.heap.size + 1 < w6.heap.size := (by have := hgrow.size; simp at this; omega))
        go_roundw
        case rel =>
          refine ⟨0 + 1, _, rfl, by omega, ?_, by rw [HSU.out]; exact ownsRow_setCell_below hown6 (by show w.heap.size + 1 < w.heap.size + 1 + 1; omega) _, ?_⟩
          · exact heap_setCell_same _ _ 1 _ _ _ ((hgrow.block _ (by simp; omega) hN2.out).trans ((Below.heap_alloc wx _ _ hOl).trans HO.out))
          · exact ((HBR.out.alloc (Nat.le_trans hs3 HBR.out.size) _).grown hgrow (by simp; omega) (fun k' hk' => by have := (HVL.out k' hk').1; omega)).setCell (Nat.le_refl _) _
        case measure => simp [intOf]
      · go_wp2_with (at_builtin; go_must (refine wpList_appW_Tryd rfl _ _ rfl (w.heap.size + 1 + 1) v L rfl (HOWN.out.alloc _) _ (exW 1) rfl (heap_alloc_new _ _) (by have := HLEN.out; omega) (by simp; omega) ?_); intro g cap w6 hown6 hgrow hat6 hlt6; have q1 : w6.cell? ⟨w.heap.size + 1, 1, none⟩ = some v := (hgrow.cell_far ⟨w.heap.size + 1, 1, none⟩ (by simp; omega) hN2.out).trans (by go_simp); have q2 : w6.frozen? ⟨w.heap.size + 1, 1, none⟩ = false := (hgrow.frozen_far ⟨w.heap.size + 1, 1, none⟩ (by simp; omega) hN2.out).trans (by go_simp); have q3 : w.heap.size + 1 < w6.heap.size := (by have := hgrow.size; simp at this; omega))
        go_roundw
        case rel =>
          refine ⟨1 + 1, _, rfl, by omega, ?_, by rw [HSU.out]; exact ownsRow_setCell_below hown6 (by show w.heap.size + 1 < w.heap.size + 1 + 1; omega) _, ?_⟩
          · exact heap_setCell_same _ _ 1 _ _ _ ((hgrow.block _ (by simp; omega) hN2.out).trans ((Below.heap_alloc wx _ _ hOl).trans HO.out))
          · exact ((HBR.out.alloc (Nat.le_trans hs3 HBR.out.size) _).grown hgrow (by simp; omega) (fun k' hk' => by have := (HVL.out k' hk').1; omega)).setCell (Nat.le_refl _) _
        case measure => simp [intOf]
      · go_wp2_with (at_builtin; go_must (refine wpList_appW_Tryd rfl _ _ rfl (w.heap.size + 1 + 1) v L rfl (HOWN.out.alloc _) _ (exW 2) rfl (heap_alloc_new _ _) (by have := HLEN.out; omega) (by simp; omega) ?_); intro g cap w6 hown6 hgrow hat6 hlt6; have q1 : w6.cell? ⟨w.heap.size + 1, 1, none⟩ = some v := (hgrow.cell_far ⟨w.heap.size + 1, 1, none⟩ (by simp; omega) hN2.out).trans (by go_simp); have q2 : w6.frozen? ⟨w.heap.size + 1, 1, none⟩ = false := (hgrow.frozen_far ⟨w.heap.size + 1, 1, none⟩ (by simp; omega) hN2.out).trans (by go_simp); have q3 : w.heap.size + 1 < w6.heap.size := (by have := hgrow.size; simp at this; omega))
        go_roundw
        case rel =>
          refine ⟨2 + 1, _, rfl, by omega, ?_, by rw [HSU.out]; exact ownsRow_setCell_below hown6 (by show w.heap.size + 1 < w.heap.size + 1 + 1; omega) _, ?_⟩
          · exact heap_setCell_same _ _ 1 _ _ _ ((hgrow.block _ (by simp; omega) hN2.out).trans ((Below.heap_alloc wx _ _ hOl).trans HO.out))
          · exact ((HBR.out.alloc (Nat.le_trans hs3 HBR.out.size) _).grown hgrow (by simp; omega) (fun k' hk' => by have := (HVL.out k' hk').1; omega)).setCell (Nat.le_refl _) _
        case measure => simp [intOf]
      · go_wp2_with (at_builtin; go_must (refine wpList_appW_Tryd rfl _ _ rfl (w.heap.size + 1 + 1) v L rfl (HOWN.out.alloc _) _ (exW 3) rfl (heap_alloc_new _ _) (by have := HLEN.out; omega) (by simp; omega) ?_); intro g cap w6 hown6 hgrow hat6 hlt6; have q1 : w6.cell? ⟨w.heap.size + 1, 1, none⟩ = some v := (hgrow.cell_far ⟨w.heap.size + 1, 1, none⟩ (by simp; omega) hN2.out).trans (by go_simp); have q2 : w6.frozen? ⟨w.heap.size + 1, 1, none⟩ = false := (hgrow.frozen_far ⟨w.heap.size + 1, 1, none⟩ (by simp; omega) hN2.out).trans (by go_simp); have q3 : w.heap.size + 1 < w6.heap.size := (by have := hgrow.size; simp at this; omega))
        go_roundw
        case rel =>
          refine ⟨3 + 1, _, rfl, by omega, ?_, by rw [HSU.out]; exact ownsRow_setCell_below hown6 (by show w.heap.size + 1 < w.heap.size + 1 + 1; omega) _, ?_⟩
          · exact heap_setCell_same _ _ 1 _ _ _ ((hgrow.block _ (by simp; omega) hN2.out).trans ((Below.heap_alloc wx _ _ hOl).trans HO.out))
          · exact ((HBR.out.alloc (Nat.le_trans hs3 HBR.out.size) _).grown hgrow (by simp; omega) (fun k' hk' => by have := (HVL.out k' hk').1; omega)).setCell (Nat.le_refl _) _
        case measure => simp [intOf]
    · obtain rfl : i = 4 := by omega
      rw [hlen] at hown
      obtain ⟨B, d, rfl, hd⟩ := own_slice3 hown
      have q0 := (hbr.cell (p := ⟨w.heap.size, 0, none⟩) (by simp)).trans K0.out
      have q1 := (hbr.cell (p := ⟨w.heap.size, 1, none⟩) (by simp)).trans K1.out
      have p0 := (hbr.frozen (p := ⟨w.heap.size, 0, none⟩) (by simp)).trans F0.out
      have p1 := (hbr.frozen (p := ⟨w.heap.size, 1, none⟩) (by simp)).trans F1.out
      have hs4 : w.heap.size < wx.heap.size := by omega
      have hrd : RdW wx B exWs := ⟨by rw [show exWs.length = 4 from hlen]; omega, ex_fits, own_rdW hown⟩
      have hneb : ∀ b off, B = some ⟨b, off, none⟩ → b ≠ w.heap.size := fun b off hB h => by
        subst hB; subst h
        have := (hown.lt w.heap.size rfl).1
        omega
      have hbw := HB2.out.trans (hbr.mono (by omega))
      have HO := Lib.hid hO; have HOWN := Lib.hid hown; have HBR := Lib.hid hbr; have HVL := Lib.hid hvl; have HSU := Lib.hid hsu; have HLEN := Lib.hid hlen; have HRD := Lib.hid hrd; have HNEB := Lib.hid hneb; have HBW := Lib.hid hbw; clear hO hown hbr hvl hsu hlen hrd hneb hbw
      go_wp2
      refine bodyPost_ret (v := .agg #[.int .i64 4, .slice B 4 d]) (by simp [results, Tryd.results24, go_sem, q0, q1]) rfl ⟨B, d, rfl, ⟨HRD.out.1, HRD.out.2.1, fun h0 => ?_⟩, ?_⟩
      · obtain ⟨b, off, hB, hb, hcl⟩ := HRD.out.2.2 h0
        refine ⟨b, off, hB, by simpa using hb, fun q hq => ?_⟩
        rw [World.cell?_setCell_other _ _ _ _ (by simp; intro h; exact absurd h.symm (HNEB.out b off hB)), World.cell?_setCell_other _ _ _ _ (by simp; intro h; exact absurd h.symm (HNEB.out b off hB))]
        exact hcl q hq
      · exact (HBW.out.setCell (by show w.heap.size ≤ w.heap.size; omega) _).setCell (by show w.heap.size ≤ w.heap.size; omega) _
theorem rdI_block {w : World} {g t : Nat} {xs : List Int} {cs : Array Value} (hg : w.heap[g]? = some (.cells cs t (0, 0))) (hc : cs = (ints xs).toArray) (hn : xs.length ≤ 1000) : RdI w (some ⟨g, 0, none⟩) xs :=
  ⟨by omega, fun _ => ⟨g, 0, rfl, lt_of_block hg, fun j hj => by
    rw [cell_of_row w g (0 + j) cs t _ hg, Nat.zero_add, hc]
    have hj' : j < xs.length := by omega
    simp [ints, List.getD_eq_getElem?_getD, hj']⟩⟩

set_option maxRecDepth 100000 in
set_option maxHeartbeats 8000000 in
theorem shown_ (w : World) (hT : Tz w) : Calls Tryd.prog 10 #[] w fun e w' => e = .returned (.bool true) ∧ Below w.heap.size w w' := by
  have B0 := Lib.hid (Below.refl w.heap.size w)
  have HT := Lib.hid hT; clear hT
  go_enter Tryd.func10, Tryd.ntmps10
  go_wp2_with fail
  refine (example_ _).mono ?_; rintro e w1 ⟨A1, c1, rfl, r1, b1⟩
  go_wp2_with fail
  refine (pHanging_ 4 A1 (some ⟨w1.heap.size, 0, none⟩) c1 4 exWs [0, 1, 2, 3] _ ⟨by omega, by omega, r1.later ((Below.refl _ _).alloc (Nat.le_refl _) _) (Nat.le_refl _)⟩ (rdI_block (heap_alloc_new _ _) rfl (by decide))).mono ?_
  rw [ex_hangL, ex_hangN, ex_reoX]
  rintro e w2 ⟨va, rfl, ha, b2⟩
  have b3 := b1.trans ((((Below.refl w1.heap.size w1).alloc (Nat.le_refl _) (.cells #[.int .i64 0, .int .i64 1, .int .i64 2, .int .i64 3] 3)).trans (b2.mono (by simp))).mono b1.size)
  have B2 := Lib.hid (B0.out.trans (b3.mono B0.out.size))
  clear r1 b1 b2 b3
  obtain ⟨LA, lac, rfl, ha⟩ := ha
  have HA := Lib.hid ha; clear ha
  go_wp2_with fail
  refine (example_ _).mono ?_; rintro e w3 ⟨A1, c1, rfl, r1, b1⟩
  have B3 := Lib.hid (B2.out.trans (b1.mono B2.out.size))
  have LA3 := Lib.hid (HA.out.later b1 (Nat.le_refl _))
  clear b1 HA
  have R1 := Lib.hid r1; clear r1
  go_wp2_with fail
  refine (pFewest_ 4 A1 c1 exWs _ ⟨by omega, by omega, R1.out⟩ (HT.out.later B3.out (Nat.le_refl _))).mono ?_
  rw [ex_fewL, ex_fewN, ex_fewX]
  rintro e w4 ⟨va, rfl, hb, b1⟩
  have B4 := Lib.hid (B3.out.trans (b1.mono B3.out.size))
  have LA4 := Lib.hid (LA3.out.later b1 (Nat.le_refl _))
  clear R1 b1 LA3
  obtain ⟨LB, lbc, rfl, hb⟩ := hb
  have HB := Lib.hid hb; clear hb
  go_wp2_with fail
  refine (example_ _).mono ?_; rintro e w5 ⟨A1, c1, rfl, r1, b1⟩
  have B5 := Lib.hid (B4.out.trans (b1.mono B4.out.size))
  have LA5 := Lib.hid (LA4.out.later b1 (Nat.le_refl _))
  have LB5 := Lib.hid (HB.out.later b1 (Nat.le_refl _))
  clear b1 HB LA4
  have R1 := Lib.hid r1; clear r1
  go_wp2_with fail
  refine (pBound_ 4 A1 c1 exWs _ ⟨by omega, by omega, R1.out⟩ (HT.out.later B5.out (Nat.le_refl _))).mono ?_
  rw [ex_bndL, ex_bndW, ex_bndX]
  rintro e w6 ⟨va, rfl, hc, b1⟩
  have B6 := Lib.hid (B5.out.trans (b1.mono B5.out.size))
  have LA6 := Lib.hid (LA5.out.later b1 (Nat.le_refl _))
  have LB6 := Lib.hid (LB5.out.later b1 (Nat.le_refl _))
  clear R1 b1 LA5 LB5
  obtain ⟨LC, lcc, rfl, hc⟩ := hc
  have HC := Lib.hid hc; clear hc
  go_wp2_with fail
  obtain ⟨MB, hMB⟩ : ∃ MB, MB = w6.heap.size := ⟨_, rfl⟩
  rw [← hMB]
  have b0 := (Below.refl w6.heap.size w6).alloc (Nat.le_refl _) (.cells #[.int .i64 0, .slice LC 2 lcc] 37)
  refine (example_ _).mono ?_; rintro e w7 ⟨A1, c1, rfl, r1, b1⟩
  have m0 : w7.cell? ⟨MB, 0, none⟩ = some (.int .i64 0) := below_at b1 (Nat.le_refl _) (by rw [hMB]; go_simp)
  have m1 : w7.cell? ⟨MB, 1, none⟩ = some (.slice LC 2 lcc) := below_at b1 (Nat.le_refl _) (by rw [hMB]; go_simp)
  have b2 := b0.trans (b1.mono (by simp))
  have B7 := Lib.hid (B6.out.trans (b2.mono B6.out.size))
  have LA7 := Lib.hid (LA6.out.later b2 (Nat.le_refl _))
  have LB7 := Lib.hid (LB6.out.later b2 (Nat.le_refl _))
  have LC7 := Lib.hid (HC.out.later b2 (Nat.le_refl _))
  have M7 := Lib.hid (And.intro m0 m1)
  clear b0 b1 b2 m0 m1 hMB HC LA6 LB6 B6
  have R1 := Lib.hid r1; clear r1
  go_wp2_with fail
  have b0 := (Below.refl w7.heap.size w7).alloc (Nat.le_refl _) (.cells #[.int .i64 0, .int .i64 1, .int .i64 2, .int .i64 3] 3)
  refine (pShare_ 4 A1 (some ⟨w7.heap.size, 0, none⟩) c1 4 exWs [0, 1, 2, 3] _ ⟨by omega, by omega, R1.out.later b0 (Nat.le_refl _)⟩ (rdI_block (heap_alloc_new _ _) rfl (by decide)) (HT.out.later (B7.out.trans (b0.mono B7.out.size)) (Nat.le_refl _))).mono ?_
  rw [ex_share1, ex_reoX]
  rintro e w8 ⟨va, rfl, ha, b1⟩
  have b2 := b0.trans (b1.mono (by simp))
  have B8 := Lib.hid (B7.out.trans (b2.mono B7.out.size))
  have LA8 := Lib.hid (LA7.out.later b2 (Nat.le_refl _))
  have LB8 := Lib.hid (LB7.out.later b2 (Nat.le_refl _))
  have LC8 := Lib.hid (LC7.out.later b2 (Nat.le_refl _))
  have M8 := Lib.hid (And.intro (below_at b2 (Nat.le_refl _) M7.out.1) (below_at b2 (Nat.le_refl _) M7.out.2))
  clear B7 M7 LA7 LB7 LC7
  obtain ⟨LD, ldc, rfl, ha⟩ := ha
  have LD8 := Lib.hid ha
  clear R1 b0 b1 b2 ha
  go_wp2_with fail
  refine (example_ _).mono ?_; rintro e w9 ⟨A1, c1, rfl, r1, b1⟩
  have B9 := Lib.hid (B8.out.trans (b1.mono B8.out.size))
  have LA9 := Lib.hid (LA8.out.later b1 (Nat.le_refl _))
  have LB9 := Lib.hid (LB8.out.later b1 (Nat.le_refl _))
  have LC9 := Lib.hid (LC8.out.later b1 (Nat.le_refl _))
  have LD9 := Lib.hid (LD8.out.later b1 (Nat.le_refl _))
  have M9 := Lib.hid (And.intro (below_at b1 (Nat.le_refl _) M8.out.1) (below_at b1 (Nat.le_refl _) M8.out.2))
  clear B8 M8 LA8 LB8 LC8 LD8
  clear b1
  have R1 := Lib.hid r1; clear r1
  go_wp2_with fail
  have b0 := (Below.refl w9.heap.size w9).alloc (Nat.le_refl _) (.cells #[.int .i64 0, .int .i64 2, .int .i64 1, .int .i64 3] 3)
  refine (pShare_ 4 A1 (some ⟨w9.heap.size, 0, none⟩) c1 4 exWs [0, 2, 1, 3] _ ⟨by omega, by omega, R1.out.later b0 (Nat.le_refl _)⟩ (rdI_block (heap_alloc_new _ _) rfl (by decide)) (HT.out.later (B9.out.trans (b0.mono B9.out.size)) (Nat.le_refl _))).mono ?_
  rw [ex_share2, ex_reoX2]
  rintro e w10 ⟨va, rfl, ha, b1⟩
  have b2 := b0.trans (b1.mono (by simp))
  have B10 := Lib.hid (B9.out.trans (b2.mono B9.out.size))
  have LA10 := Lib.hid (LA9.out.later b2 (Nat.le_refl _))
  have LB10 := Lib.hid (LB9.out.later b2 (Nat.le_refl _))
  have LC10 := Lib.hid (LC9.out.later b2 (Nat.le_refl _))
  have LD10 := Lib.hid (LD9.out.later b2 (Nat.le_refl _))
  have M10 := Lib.hid (And.intro (below_at b2 (Nat.le_refl _) M9.out.1) (below_at b2 (Nat.le_refl _) M9.out.2))
  clear B9 M9 LA9 LB9 LC9 LD9
  obtain ⟨LE, lec, rfl, ha⟩ := ha
  have LE10 := Lib.hid ha
  clear R1 b0 b1 b2 ha
  obtain ⟨m0, m1⟩ := M10.out
  have ms := World.block_lt_of_cell? _ _ m0
  go_wp2_with fail
  clear m0 m1 ms
  have b0 := (Below.refl w10.heap.size w10).alloc (Nat.le_refl _) (.cells #[.int .i64 2, .int .i64 4, .int .i64 4, .int .i64 2] 3)
  refine (sameInts_ LA (some ⟨w10.heap.size, 0, none⟩) lac 4 [2, 4, 4, 2] [2, 4, 4, 2] _ (LA10.out.later b0 (Nat.le_refl _)) (rdI_block (heap_alloc_new _ _) rfl (by decide))).mono ?_
  rw [show (decide (([2, 4, 4, 2] : List Int) = [2, 4, 4, 2])) = true from rfl]
  rintro e w11 ⟨rfl, b1⟩
  have b2 := b0.trans (b1.mono (by simp))
  clear LA10
  have B11 := Lib.hid (B10.out.trans (b2.mono B10.out.size))
  have LB11 := Lib.hid (LB10.out.later b2 (Nat.le_refl _))
  have LC11 := Lib.hid (LC10.out.later b2 (Nat.le_refl _))
  have LD11 := Lib.hid (LD10.out.later b2 (Nat.le_refl _))
  have LE11 := Lib.hid (LE10.out.later b2 (Nat.le_refl _))
  have M11 := Lib.hid (And.intro (below_at b2 (Nat.le_refl _) M10.out.1) (below_at b2 (Nat.le_refl _) M10.out.2))
  clear B10 M10 LB10 LC10 LD10 LE10
  clear b0 b1 b2
  obtain ⟨m0, m1⟩ := M11.out
  have ms := World.block_lt_of_cell? _ _ m0
  go_wp2_with fail
  clear m0 m1 ms
  have b0 := (Below.refl w11.heap.size w11).alloc (Nat.le_refl _) (.cells #[.int .i64 0, .int .i64 2, .int .i64 1, .int .i64 3] 3)
  refine (sameInts_ LB (some ⟨w11.heap.size, 0, none⟩) lbc 4 [0, 2, 1, 3] [0, 2, 1, 3] _ (LB11.out.later b0 (Nat.le_refl _)) (rdI_block (heap_alloc_new _ _) rfl (by decide))).mono ?_
  rw [show (decide (([0, 2, 1, 3] : List Int) = [0, 2, 1, 3])) = true from rfl]
  rintro e w12 ⟨rfl, b1⟩
  have b2 := b0.trans (b1.mono (by simp))
  clear LB11
  have B12 := Lib.hid (B11.out.trans (b2.mono B11.out.size))
  have LC12 := Lib.hid (LC11.out.later b2 (Nat.le_refl _))
  have LD12 := Lib.hid (LD11.out.later b2 (Nat.le_refl _))
  have LE12 := Lib.hid (LE11.out.later b2 (Nat.le_refl _))
  have M12 := Lib.hid (And.intro (below_at b2 (Nat.le_refl _) M11.out.1) (below_at b2 (Nat.le_refl _) M11.out.2))
  clear B11 M11 LC11 LD11 LE11
  clear b0 b1 b2
  obtain ⟨m0, m1⟩ := M12.out
  have ms := World.block_lt_of_cell? _ _ m0
  go_wp2_with fail
  clear m0 m1 ms
  have b0 := (Below.refl w12.heap.size w12).alloc (Nat.le_refl _) (.cells #[.int .i64 0, .int .i64 1] 3)
  refine (sameInts_ LC (some ⟨w12.heap.size, 0, none⟩) lcc 2 [0, 1] [0, 1] _ (LC12.out.later b0 (Nat.le_refl _)) (rdI_block (heap_alloc_new _ _) rfl (by decide))).mono ?_
  rw [show (decide (([0, 1] : List Int) = [0, 1])) = true from rfl]
  rintro e w13 ⟨rfl, b1⟩
  have b2 := b0.trans (b1.mono (by simp))
  clear LC12
  have B13 := Lib.hid (B12.out.trans (b2.mono B12.out.size))
  have LD13 := Lib.hid (LD12.out.later b2 (Nat.le_refl _))
  have LE13 := Lib.hid (LE12.out.later b2 (Nat.le_refl _))
  have M13 := Lib.hid (And.intro (below_at b2 (Nat.le_refl _) M12.out.1) (below_at b2 (Nat.le_refl _) M12.out.2))
  clear B12 M12 LD12 LE12
  clear b0 b1 b2
  obtain ⟨m0, m1⟩ := M13.out
  have ms := World.block_lt_of_cell? _ _ m0
  go_wp2_with fail
  clear m0 m1 ms
  have b0 := (Below.refl w13.heap.size w13).alloc (Nat.le_refl _) (.cells #[.int .i64 0, .int .i64 1, .int .i64 2, .int .i64 3] 3)
  refine (sameInts_ LD (some ⟨w13.heap.size, 0, none⟩) ldc 4 [0, 1, 2, 3] [0, 1, 2, 3] _ (LD13.out.later b0 (Nat.le_refl _)) (rdI_block (heap_alloc_new _ _) rfl (by decide))).mono ?_
  rw [show (decide (([0, 1, 2, 3] : List Int) = [0, 1, 2, 3])) = true from rfl]
  rintro e w14 ⟨rfl, b1⟩
  have b2 := b0.trans (b1.mono (by simp))
  clear LD13
  have B14 := Lib.hid (B13.out.trans (b2.mono B13.out.size))
  have LE14 := Lib.hid (LE13.out.later b2 (Nat.le_refl _))
  have M14 := Lib.hid (And.intro (below_at b2 (Nat.le_refl _) M13.out.1) (below_at b2 (Nat.le_refl _) M13.out.2))
  clear B13 M13 LE13
  clear b0 b1 b2
  obtain ⟨m0, m1⟩ := M14.out
  have ms := World.block_lt_of_cell? _ _ m0
  go_wp2_with fail
  clear m0 m1 ms
  have b0 := (Below.refl w14.heap.size w14).alloc (Nat.le_refl _) (.cells #[.int .i64 0, .int .i64 1, .int .i64 0, .int .i64 1] 3)
  refine (sameInts_ LE (some ⟨w14.heap.size, 0, none⟩) lec 4 [0, 1, 0, 1] [0, 1, 0, 1] _ (LE14.out.later b0 (Nat.le_refl _)) (rdI_block (heap_alloc_new _ _) rfl (by decide))).mono ?_
  rw [show (decide (([0, 1, 0, 1] : List Int) = [0, 1, 0, 1])) = true from rfl]
  rintro e w15 ⟨rfl, b1⟩
  have b2 := b0.trans (b1.mono (by simp))
  clear LE14
  have B15 := Lib.hid (B14.out.trans (b2.mono B14.out.size))
  clear b0 b1 b2
  go_wp2_with fail
  go_ret
  exact ⟨rfl, B15.out⟩
end Go.Proofs.YtnplcephmidjbaaDoor
/- The law PairsHang returns true. -/
namespace Go.Proofs.YtnplcephmidjbaaDoor
open Go.RowKit

theorem sameV_ {v u : Value} {xs : List Int} (w : World) (ha : RdV w v xs) (hb : RdV w u xs) : Calls Tryd.prog 15 #[v, u] w fun e w' => e = .returned (.bool true) ∧ Below w.heap.size w w' := by
  obtain ⟨A, c, rfl, ha⟩ := ha
  obtain ⟨B, d, rfl, hb⟩ := hb
  have := sameInts_ A B c d xs xs w ha hb
  rw [show decide (xs = xs) = true by simp] at this
  exact this
set_option maxRecDepth 100000 in
set_option maxHeartbeats 4000000 in
theorem lawHang_ (p : Int) (A L : Option Addr) (c lc : Nat) (ws : List GW) (l : List Int) (w : World) (ha : ShIn w p A ws) (hl : RdI w L l) (hlc : l.length ≤ lc) (hT : Tz w) :
    Calls Tryd.prog 3 #[.agg #[.int .i64 p, .slice A ws.length c], .slice L l.length lc] w fun e w' => e = .returned (.bool true) ∧ Below w.heap.size w w' := by
  have hln := hl.1
  have hb2 : Below w.heap.size w (w.alloc (.cells #[.int .i64 p, .slice A ws.length c] 24)) := (Below.refl _ _).alloc (Nat.le_refl _) _
  have Y0 := Lib.hid hb2; clear hb2
  have X0 := Lib.hid (Box1.made w p A c ws.length 24)
  have HA := Lib.hid ha; have HL := Lib.hid hl; have HT := Lib.hid hT; clear ha hl hT
  by_cases h2 : 2000 < (l.length : Int)
  all_goals
    go_enter Tryd.func3, Tryd.ntmps3
    go_wp2_with fail
    refine (far12_ p A c ws _ (HA.out.rd.later Y0.out (Nat.le_refl _))).mono ?_; rintro e w1 ⟨z, rfl, _, hb1⟩
    cases z
    rotate_left
    · have X1 := Lib.hid (X0.out.later hb1); have Y1 := Lib.hid (Y0.out.trans (hb1.mono Y0.out.size)); clear hb1; obtain ⟨c1, c2, s1⟩ := X1.out
      go_wp2_with fail
      clear c1 c2 s1
      refine (shown_ _ (HT.out.later Y1.out (Nat.le_refl _))).mono ?_; rintro e w8 ⟨rfl, hb1⟩
      go_wp2
      go_ret
      exact ⟨rfl, Y1.out.trans (hb1.mono Y1.out.size)⟩
  · have X1 := Lib.hid (X0.out.later hb1); have Y1 := Lib.hid (Y0.out.trans (hb1.mono Y0.out.size)); clear hb1; obtain ⟨c1, c2, s1⟩ := X1.out
    go_wp2_with fail
    clear c1 c2 s1
    refine (shown_ _ (HT.out.later Y1.out (Nat.le_refl _))).mono ?_; rintro e w8 ⟨rfl, hb1⟩
    go_wp2
    go_ret
    exact ⟨rfl, Y1.out.trans (hb1.mono Y1.out.size)⟩
  · have X1 := Lib.hid (X0.out.later hb1); have Y1 := Lib.hid (Y0.out.trans (hb1.mono Y0.out.size)); clear hb1; obtain ⟨c1, c2, s1⟩ := X1.out
    go_wp2_with fail
    clear c1 c2 s1
    refine (pHanging_ p A L c lc ws l _ (HA.out.later Y1.out (Nat.le_refl _)) (HL.out.later Y1.out (Nat.le_refl _))).mono ?_; rintro e w2 ⟨v1, rfl, hv1, hb1⟩
    have V1 := Lib.hid hv1; clear hv1
    have X2 := Lib.hid (X1.out.later hb1); have Y2 := Lib.hid (Y1.out.trans (hb1.mono Y1.out.size)); clear hb1; obtain ⟨c1, c2, s1⟩ := X2.out
    go_wp2_with fail
    clear c1 c2 s1
    refine (rHanging_ p A L c lc ws l _ (HA.out.later Y2.out (Nat.le_refl _)) (HL.out.later Y2.out (Nat.le_refl _)) hlc).mono ?_; rintro e w3 ⟨v2, rfl, hv2, hb1⟩
    have V2 := Lib.hid hv2; have V1b := Lib.hid (V1.out.later hb1 (Nat.le_refl _)); clear hv2 V1
    have X3 := Lib.hid (X2.out.later hb1); have Y3 := Lib.hid (Y2.out.trans (hb1.mono Y2.out.size)); clear hb1; obtain ⟨c1, c2, s1⟩ := X3.out
    go_wp2_with fail
    clear c1 c2 s1
    refine (pShare_ p A L c lc ws l _ (HA.out.later Y3.out (Nat.le_refl _)) (HL.out.later Y3.out (Nat.le_refl _)) (HT.out.later Y3.out (Nat.le_refl _))).mono ?_; rintro e w4 ⟨v3, rfl, hv3, hb1⟩
    have V3 := Lib.hid hv3; have V1c := Lib.hid (V1b.out.later hb1 (Nat.le_refl _)); have V2b := Lib.hid (V2.out.later hb1 (Nat.le_refl _)); clear hv3 V1b V2
    have X4 := Lib.hid (X3.out.later hb1); have Y4 := Lib.hid (Y3.out.trans (hb1.mono Y3.out.size)); clear hb1; obtain ⟨c1, c2, s1⟩ := X4.out
    go_wp2_with fail
    clear c1 c2 s1
    refine (rShare12_ p A L c lc ws l _ (HA.out.later Y4.out (Nat.le_refl _)) (HL.out.later Y4.out (Nat.le_refl _)) hlc).mono ?_; rintro e w5 ⟨v4, rfl, hv4, hb1⟩
    have V4 := Lib.hid hv4; have V1d := Lib.hid (V1c.out.later hb1 (Nat.le_refl _)); have V2c := Lib.hid (V2b.out.later hb1 (Nat.le_refl _)); have V3b := Lib.hid (V3.out.later hb1 (Nat.le_refl _)); clear hv4 V1c V2b V3
    have Y5 := Lib.hid (Y4.out.trans (hb1.mono Y4.out.size)); clear hb1
    generalize reoX p ws l = E at *
    generalize hangN p ws l = N at *
    go_wp2_with fail
    refine (sameV_ _ V1d.out V2c.out).mono ?_; rintro e w6 ⟨rfl, hb1⟩
    have V3c := Lib.hid (V3b.out.later hb1 (Nat.le_refl _)); have V4b := Lib.hid (V4.out.later hb1 (Nat.le_refl _)); clear V3b V4 V1d V2c
    have Y6 := Lib.hid (Y5.out.trans (hb1.mono Y5.out.size)); clear hb1
    go_wp2_with fail
    refine (sameV_ _ V3c.out V4b.out).mono ?_; rintro e w7 ⟨rfl, hb1⟩
    clear V3c V4b
    have Y7 := Lib.hid (Y6.out.trans (hb1.mono Y6.out.size)); clear hb1
    go_wp2_with fail
    refine (shown_ _ (HT.out.later Y7.out (Nat.le_refl _))).mono ?_; rintro e w8 ⟨rfl, hb1⟩
    have Y8 := Lib.hid (Y7.out.trans (hb1.mono Y7.out.size)); clear hb1
    go_wp2_with fail
    go_ret
    exact ⟨rfl, Y8.out⟩
end Go.Proofs.YtnplcephmidjbaaDoor
/- The law PairsShare returns true. -/
namespace Go.Proofs.YtnplcephmidjbaaDoor
open Go.RowKit

/-- The law's last: 0 where there is none. -/
def lsZ (q : Nat → Nat) (k p : Nat) : Int := if laI q k p < 0 then 0 else laI q k p
theorem lsZ_yes {q : Nat → Nat} {k p : Nat} (h : tkB (q k) p = true) : lsZ q (k + 1) p = (k : Int) := by
  unfold lsZ laI
  rw [if_pos h, if_neg (by omega)]
theorem lsZ_no {q : Nat → Nat} {k p : Nat} (h : tkB (q k) p = false) : lsZ q (k + 1) p = lsZ q k p := by
  unfold lsZ
  have e : laI q (k + 1) p = laI q k p := by
    show (if tkB (q k) p = true then (k : Int) else laI q k p) = _
    rw [h]; rfl
  rw [e]
theorem fs_no {q : Nat → Nat} {k p : Nat} (h : tkB (q k) p = false) : fsI q (k + 1) p = fsI q k p := by
  show (if tkB (q k) p = true ∧ fsI q k p < 0 then (k : Int) else fsI q k p) = _
  rw [h, if_neg (by simp)]
theorem fs_yes {q : Nat → Nat} {k p : Nat} (h : tkB (q k) p = true) : fsI q (k + 1) p = if fsI q k p < 0 then (k : Int) else fsI q k p := by
  show (if tkB (q k) p = true ∧ fsI q k p < 0 then (k : Int) else fsI q k p) = _
  rw [h]
  exact ifc (by simp) _ _
theorem lsZ_used {q : Nat → Nat} {n p : Nat} (h : 0 ≤ fsI q n p) : lsZ q n p = laI q n p := by
  have h1 : ¬ fsI q n p < 0 := by omega
  rw [fsI_neg] at h1
  have h2 : 0 ≤ laI q n p := by
    refine Classical.byContradiction fun hn => h1 fun i hi => ?_
    cases ht : tkB (q i) p with
    | false => rfl
    | true =>
      have := (laI_le q p 0 n).2 ⟨i, hi, by omega, ht⟩
      omega
  unfold lsZ
  rw [if_neg (by omega)]
theorem idB_made (w : World) (m : Nat) : IdB (w.alloc (.cells (madeCells #[.int .i64 0] m) 3)) w.heap.size m (fun _ => 0) := by
  unfold IdB
  rw [heap_alloc_new, idCells_zero]
theorem idB_made2 (w : World) (o : Obj) (m : Nat) : IdB ((w.alloc o).alloc (.cells (madeCells #[.int .i64 0] m) 3)) (w.heap.size + 1) m (fun _ => 0) := by
  have := idB_made (w.alloc o) m
  simpa using this
theorem idB_other {w : World} {R m : Nat} {g : Nat → Int} (h : IdB w R m g) {b : Nat} (hne : R ≠ b) (o : Nat) (x : Value) : IdB (w.setCell ⟨b, o, none⟩ x) R m g := (heap_setCell_other w ⟨b, o, none⟩ R x hne).trans h
theorem idB_lat2 {B : Nat} {w w' : World} {R m : Nat} {g : Nat → Int} (h : IdB w R m g) (hb : Below B w w') (hB : w.heap.size ≤ B) : IdB w' R m g := (hb.block R (Nat.lt_of_lt_of_le (lt_of_block h) hB)).trans h
/-- The places before p have their value, the others 0. -/
def lnF (f : Nat → Int) (p : Nat) : Nat → Int := fun x => if x < p then f x else 0
theorem lnF_upd (f : Nat → Int) (k : Nat) : updF (lnF f k) k (f k) = lnF f (k + 1) := by
  funext p
  unfold updF lnF
  by_cases h : p = k
  · subst h; simp
  · rw [if_neg h]
    by_cases h2 : p < k
    · rw [if_pos h2, if_pos (by omega)]
    · rw [if_neg h2, if_neg (by omega)]
theorem lnF_zero (f : Nat → Int) (k : Nat) : updF (lnF f k) k 0 = lnF f k := by
  funext p
  unfold updF lnF
  by_cases h : p = k
  · subst h; simp
  · rw [if_neg h]
theorem updF_twice (g : Nat → Int) (k : Nat) (a b : Int) : updF (updF g k a) k b = updF g k b := by
  funext p
  unfold updF
  by_cases h : p = k
  · rw [if_pos h, if_pos h]
  · rw [if_neg h, if_neg h, if_neg h]
theorem updF_slf (g : Nat → Int) (k : Nat) (a : Int) : updF g k a k = a := if_pos rfl

set_option maxRecDepth 100000 in
set_option maxHeartbeats 8000000 in
theorem lawShare_ (p : Int) (A L : Option Addr) (c lc : Nat) (ws : List GW) (l : List Int) (w : World) (ha : ShIn w p A ws) (hl : RdI w L l) (hT : Tz w) :
    Calls Tryd.prog 7 #[.agg #[.int .i64 p, .slice A ws.length c], .slice L l.length lc] w fun e w' => e = .returned (.bool true) ∧ Below w.heap.size w w' := by
  have hb2 : Below w.heap.size w (w.alloc (.cells #[.int .i64 p, .slice A ws.length c] 24)) := (Below.refl _ _).alloc (Nat.le_refl _) _
  have Y0 := Lib.hid hb2; clear hb2
  have X0 := Lib.hid (Box1.made w p A c ws.length 24)
  have HA := Lib.hid ha; have HL := Lib.hid hl; have HT := Lib.hid hT; clear ha hl hT
  by_cases h2 : 2000 < (l.length : Int)
  · go_enter Tryd.func7, Tryd.ntmps7
    go_wp2_with fail
    refine (far12_ p A c ws _ (HA.out.rd.later Y0.out (Nat.le_refl _))).mono ?_; rintro e w1 ⟨z, rfl, _, hb1⟩
    cases z
    all_goals
      have X1 := Lib.hid (X0.out.later hb1); have Y1 := Lib.hid (Y0.out.trans (hb1.mono Y0.out.size)); clear hb1; obtain ⟨c1, c2, s1⟩ := X1.out
      go_wp2_with fail
      clear c1 c2 s1
      refine (shown_ _ (HT.out.later Y1.out (Nat.le_refl _))).mono ?_; rintro e w8 ⟨rfl, hb1⟩
      go_wp2
      go_ret
      exact ⟨rfl, Y1.out.trans (hb1.mono Y1.out.size)⟩
  go_enter Tryd.func7, Tryd.ntmps7
  go_wp2_with fail
  refine (far12_ p A c ws _ (HA.out.rd.later Y0.out (Nat.le_refl _))).mono ?_; rintro e w1 ⟨z, rfl, _, hb1⟩
  cases z
  rotate_left
  · have X1 := Lib.hid (X0.out.later hb1); have Y1 := Lib.hid (Y0.out.trans (hb1.mono Y0.out.size)); clear hb1; obtain ⟨c1, c2, s1⟩ := X1.out
    go_wp2_with fail
    clear c1 c2 s1
    refine (shown_ _ (HT.out.later Y1.out (Nat.le_refl _))).mono ?_; rintro e w8 ⟨rfl, hb1⟩
    go_wp2
    go_ret
    exact ⟨rfl, Y1.out.trans (hb1.mono Y1.out.size)⟩
  have X1 := Lib.hid (X0.out.later hb1); have Y1 := Lib.hid (Y0.out.trans (hb1.mono Y0.out.size)); clear hb1; obtain ⟨c1, c2, s1⟩ := X1.out
  go_wp2_with fail
  clear c1 c2 s1
  refine (rCheck_ p A c ws _ HA.out.lo HA.out.hi (HA.out.rd.later Y1.out (Nat.le_refl _))).mono ?_; rintro e w2 ⟨rfl, hb1⟩
  by_cases he : errSheet p ws = 0
  rotate_left
  · have heb : (errSheet p ws != 0) = true := by simpa using he
    generalize errSheet p ws = E at *
    clear he
    have X2 := Lib.hid (X1.out.later hb1); have Y2 := Lib.hid (Y1.out.trans (hb1.mono Y1.out.size)); clear hb1; obtain ⟨c1, c2, s1⟩ := X2.out
    go_wp2_with fail
    clear c1 c2 s1
    refine (shown_ _ (HT.out.later Y2.out (Nat.le_refl _))).mono ?_; rintro e w8 ⟨rfl, hb1⟩
    go_wp2
    go_ret
    exact ⟨rfl, Y2.out.trans (hb1.mono Y2.out.size)⟩
  have hE := Lib.hid he
  rw [he]
  clear he
  have X2 := Lib.hid (X1.out.later hb1); have Y2 := Lib.hid (Y1.out.trans (hb1.mono Y1.out.size)); clear hb1; obtain ⟨c1, c2, s1⟩ := X2.out
  go_wp2_with fail
  clear c1 c2 s1
  refine (rOrder_ p A L c lc ws l _ hE.out (HA.out.rd.later Y2.out (Nat.le_refl _)) (HL.out.later Y2.out (Nat.le_refl _))).mono ?_; rintro e w3 ⟨rfl, hb1⟩
  by_cases ho : ordQ ws l = true
  rotate_left
  · rw [show ordQ ws l = false by simpa using ho]
    clear ho
    have X3 := Lib.hid (X2.out.later hb1); have Y3 := Lib.hid (Y2.out.trans (hb1.mono Y2.out.size)); clear hb1; obtain ⟨c1, c2, s1⟩ := X3.out
    go_wp2_with fail
    clear c1 c2 s1
    refine (shown_ _ (HT.out.later Y3.out (Nat.le_refl _))).mono ?_; rintro e w8 ⟨rfl, hb1⟩
    go_wp2
    go_ret
    exact ⟨rfl, Y3.out.trans (hb1.mono Y3.out.size)⟩
  have hO := Lib.hid ho
  rw [ho]
  clear ho
  have hr0 : reoX p ws l = 0 := by unfold reoX; rw [if_pos hE.out, if_pos hO.out]
  have hhN : hangN p ws l = needQ (plsOf (reoG ws l)) l.length l.length := by unfold hangN; rw [if_pos hr0]
  have hln := (ord_val hO.out).1
  have hp2 := (okAll hE.out).1
  have hp24 := (okAll hE.out).2.1
  have hn4 := (okAll hE.out).2.2.1
  obtain ⟨P, rfl⟩ := Int.eq_ofNat_of_zero_le (show 0 ≤ p by omega)
  have hqP := reo_q (l := l) hE.out
  have hsh := share_ok hqP (by omega)
  have hsl : shareL (P : Int) ws l = (List.range P).map (shareG P (plsOf (reoG ws l)) l.length) := by unfold shareL; rw [if_pos hr0]; rfl
  have hqr : ∀ i, (h : i < l.length) → ∃ y : Nat, y < ws.length ∧ l[i] = (y : Int) ∧ plsOf (reoG ws l) i = plsOf ws y := fun i h => by
    have := (oRun_fol _ _ l 0 (ord_val hO.out).2 i h).1
    exact ⟨(l[i]).toNat, by omega, by omega, plsOf_reo ws l h⟩
  have hwq : ∀ i, (h : i < ws.length) → ws[i].pl = (plsOf ws i : Int) ∧ plsOf ws i ≤ 22 := fun i h => by
    have h1 := pl22 hE.out _ (List.getElem_mem h)
    have e : plsOf ws i = ws[i].pl.toNat := by unfold plsOf; simp [List.getD_eq_getElem?_getD, h]
    omega
  have hl400 : l.length ≤ 400 := by omega
  have HR0 := Lib.hid hr0; have HHN := Lib.hid hhN; have HLN := Lib.hid hln; have HQP := Lib.hid hqP; have HSH := Lib.hid hsh; have HSL := Lib.hid hsl; have HQR := Lib.hid hqr; have HWQ := Lib.hid hwq; clear hr0 hhN hln hqP hsh hsl hqr hwq
  have X3 := Lib.hid (X2.out.later hb1); have Y3 := Lib.hid (Y2.out.trans (hb1.mono Y2.out.size)); clear hb1; obtain ⟨c1, c2, s1⟩ := X3.out
  go_wp2_with fail
  clear c1 c2 s1
  refine (pHanging_ (P : Int) A L c lc ws l _ (HA.out.later Y3.out (Nat.le_refl _)) (HL.out.later Y3.out (Nat.le_refl _))).mono ?_
  rw [HR0.out, HHN.out]
  rintro e w4 ⟨v1, rfl, hv1, hb1⟩
  clear hv1
  have X4 := Lib.hid (X3.out.later hb1); have Y4 := Lib.hid (Y3.out.trans (hb1.mono Y3.out.size)); clear hb1; obtain ⟨c1, c2, s1⟩ := X4.out
  go_wp2_with fail
  clear c1 c2 s1
  refine (pShare_ (P : Int) A L c lc ws l _ (HA.out.later Y4.out (Nat.le_refl _)) (HL.out.later Y4.out (Nat.le_refl _)) (HT.out.later Y4.out (Nat.le_refl _))).mono ?_
  rw [HR0.out, HSL.out]
  rintro e w5 ⟨v2, rfl, hv2, hb1⟩
  have Y5 := Lib.hid (Y4.out.trans (hb1.mono Y4.out.size))
  have X5 := Lib.hid (X4.out.later hb1)
  clear hb1
  obtain ⟨B2, d2, rfl, hv2⟩ := hv2
  rw [show ((List.range P).map (shareG P (plsOf (reoG ws l)) l.length)).length = P by simp]
  have hS : ∀ x, x < P → ((List.range P).map (shareG P (plsOf (reoG ws l)) l.length)).getD x 0 = shareG P (plsOf (reoG ws l)) l.length x := fun x hx => by simp [List.getD_eq_getElem?_getD, hx]
  have hSr : ∀ W, RdI W B2 ((List.range P).map (shareG P (plsOf (reoG ws l)) l.length)) → ∀ x, x < P → ∃ b off, B2 = some ⟨b, off, none⟩ ∧ b < W.heap.size ∧ W.cell? ⟨b, off + x, none⟩ = some (.int .i64 (shareG P (plsOf (reoG ws l)) l.length x)) := fun W hW x hx => by
    obtain ⟨b, off, h1, h2, h3⟩ := hW.at_ (show x < ((List.range P).map (shareG P (plsOf (reoG ws l)) l.length)).length by simpa using hx)
    exact ⟨b, off, h1, h2, by rw [h3]; simp⟩
  generalize needQ (plsOf (reoG ws l)) l.length l.length = N at *
  generalize (List.range P).map (shareG P (plsOf (reoG ws l)) l.length) = SL at *
  generalize shareG P (plsOf (reoG ws l)) l.length = sg at *
  generalize plsOf (reoG ws l) = qr at *
  have hmk := run_make_row' (P := Tryd.prog) 25 3 (.int .i64 0) 8 Tryd.underlying25 infoI_Tryd rfl .i64 .i64 P (by omega) (by omega)
  obtain ⟨c1, c2, s1⟩ := X5.out
  have V5 := Lib.hid hv2
  clear hv2 hS
  have HSR := Lib.hid hSr; clear hSr
  go_upto_region 7 with fail
  go_cut [10, 11] (fun uv dv wx => ∃ U D : Nat, uv = .slice (some ⟨U, 0, none⟩) P P ∧ dv = .slice (some ⟨D, 0, none⟩) P P ∧ IdB wx U P (fun _ => 0) ∧ IdB wx D P (fun _ => 0) ∧ U ≠ D ∧ w5.heap.size ≤ U ∧ w5.heap.size ≤ D ∧ Below w5.heap.size w5 wx)
  case first =>
    go_region
    all_goals
      go_wp2_with fail
      go_meet
      first
      | exact ⟨w5.heap.size, w5.heap.size + 1, rfl, rfl, idB_alloc (idB_made w5 _) _, idB_made2 w5 _ _, by omega, Nat.le_refl _, by omega, (((Below.refl _ _).alloc (Nat.le_refl _) _).alloc (by simp) _).drew⟩
      | exact ⟨w5.heap.size + 1, w5.heap.size, rfl, rfl, idB_made2 w5 _ _, idB_alloc (idB_made w5 _) _, by omega, by omega, Nat.le_refl _, (((Below.refl _ _).alloc (Nat.le_refl _) _).alloc (by simp) _).drew⟩
  case rest =>
    obtain ⟨U, D, rfl, rfl, hU, hD, hne, hUl, hDl, hbc⟩ := hcut
    have C1 := Lib.hid c1
    have C2 := Lib.hid c2
    clear hmk c1 c2 s1
    have hU0 : IdB wc U P (lnF (fsI qr l.length) 0) := hU.congr fun x _ => by unfold lnF; rw [if_neg (by omega)]
    have hD0 : IdB wc D P (lnF (lsZ qr l.length) 0) := hD.congr fun x _ => by unfold lnF; rw [if_neg (by omega)]
    have HU0 := Lib.hid hU0; have HD0 := Lib.hid hD0; have HBC := Lib.hid hbc; clear hU0 hD0 hbc
    clear hU hD
    go_wp2
    go_loopw [12] (fun iv wr => ∃ i : Nat, iv = .int .i64 i ∧ i ≤ P ∧ IdB wr U P (lnF (fsI qr l.length) i) ∧ IdB wr D P (lnF (lsZ qr l.length) i) ∧ Below w5.heap.size w5 wr) (fun iv _ => P - (intOf iv).toNat)
    case atStart => exact ⟨0, rfl, Nat.zero_le _, HU0.out, HD0.out, HBC.out⟩
    case round =>
      obtain ⟨i, rfl, hi, hU, hD, hbr⟩ := hrel
      have c1 := below_at hbr (Nat.le_refl _) C1.out
      have c2 := below_at hbr (Nat.le_refl _) C2.out
      have s1 : w.heap.size < wr.heap.size := World.block_lt_of_cell? _ _ c1
      have sU := lt_of_block hU
      have sD := lt_of_block hD
      by_cases hiP : i < P
      · have x1 : (0 : Int) ≤ (i : Int) := by omega
        have x2 : (i : Int) < (P : Int) := by omega
        have u0 := hU.at_ hiP
        have u1 := hU.free i
        have nU : IdB (wr.setCell ⟨U, i, none⟩ (.int .i64 (-1))) U P (updF (lnF (fsI qr l.length) i) i (fsI qr 0 i)) := hU.put i (-1)
        have nD : IdB (wr.setCell ⟨U, i, none⟩ (.int .i64 (-1))) D P (updF (lnF (lsZ qr l.length) i) i (lsZ qr 0 i)) := by
          rw [show lsZ qr 0 i = 0 from rfl, lnF_zero]
          exact idB_other hD (Ne.symm hne) _ _
        have nB : Below w5.heap.size w5 (wr.setCell ⟨U, i, none⟩ (.int .i64 (-1))) := hbr.setCell hUl _
        have HU := Lib.hid hU; have HD := Lib.hid hD; have HBR := Lib.hid hbr; have NU := Lib.hid nU; have ND := Lib.hid nD; have NB := Lib.hid nB; clear hU hD hbr nU nD nB
        go_wp2
        clear c1 c2 s1 sU sD u0 u1
        go_loopw [13] (fun kv wr => ∃ k : Nat, kv = .int .i64 k ∧ k ≤ l.length ∧ IdB wr U P (updF (lnF (fsI qr l.length) i) i (fsI qr k i)) ∧ IdB wr D P (updF (lnF (lsZ qr l.length) i) i (lsZ qr k i)) ∧ Below w5.heap.size w5 wr) (fun kv _ => l.length - (intOf kv).toNat)
        case atStart => exact ⟨0, rfl, Nat.zero_le _, NU.out, ND.out, NB.out⟩
        case round =>
          obtain ⟨k, rfl, hk, hU, hD, hbk⟩ := hrel
          have c1 := below_at hbk (Nat.le_refl _) C1.out
          have c2 := below_at hbk (Nat.le_refl _) C2.out
          have s1 : w.heap.size < wr.heap.size := World.block_lt_of_cell? _ _ c1
          have sU := lt_of_block hU
          have sD := lt_of_block hD
          have hbw := Y5.out.trans (hbk.mono Y5.out.size)
          by_cases hkl : k < l.length
          · obtain ⟨y, hy, hly, hqk⟩ := HQR.out k hkl
            obtain ⟨bl, ol, rfl, hbl, l1⟩ := (HL.out.later hbw (Nat.le_refl _)).at_ hkl
            obtain ⟨ba, oa, rfl, hba, t1, t2, t3⟩ := (HA.out.rd.later hbw (Nat.le_refl _)).at_ hy
            obtain ⟨p1, p2⟩ := HWQ.out y hy
            rw [hly] at l1
            rw [p1] at t2
            have hcall := fun kk ss W => rTakes_ kk (plsOf ws y : Int) (i : Int) ss W (by omega) (by omega)
            rw [takes_tk] at hcall
            have y1 : (0 : Int) ≤ (k : Int) := by omega
            have y2 : (k : Int) < (l.length : Int) := by omega
            have y5 : (0 : Int) ≤ (y : Int) := by omega
            have y6 : (y : Int) < (ws.length : Int) := by omega
            have fn1 : tkB (plsOf ws y) i = false → fsI qr (k + 1) i = fsI qr k i := fun h => fs_no (by rw [hqk]; exact h)
            have fn2 : tkB (plsOf ws y) i = false → lsZ qr (k + 1) i = lsZ qr k i := fun h => lsZ_no (by rw [hqk]; exact h)
            have fy1 : tkB (plsOf ws y) i = true → fsI qr (k + 1) i = if fsI qr k i < 0 then (k : Int) else fsI qr k i := fun h => fs_yes (by rw [hqk]; exact h)
            have fy2 : tkB (plsOf ws y) i = true → lsZ qr (k + 1) i = (k : Int) := fun h => lsZ_yes (by rw [hqk]; exact h)
            generalize ws[y].kind = kd at *
            generalize ws[y].word = wd0 at *
            generalize tkB (plsOf ws y) i = tk at *
            generalize plsOf ws y = qy at *
            clear hly p1 hqk
            have HU := Lib.hid hU; have HD := Lib.hid hD; have HBK := Lib.hid hbk; have HBW := Lib.hid hbw; have HCALL := Lib.hid hcall; have FN1 := Lib.hid fn1; have FN2 := Lib.hid fn2; have FY1 := Lib.hid fy1; have FY2 := Lib.hid fy2; clear hU hD hbk hbw hcall fn1 fn2 fy1 fy2
            go_wp2
            have hbelc : ∀ (u : Bel wr.heap.size wr) b o, b < wr.heap.size → u.wd.cell? ⟨b, o, none⟩ = wr.cell? ⟨b, o, none⟩ := fun u b o h => u.h.cell (p := ⟨b, o, none⟩) h
            have hbeln : Nonempty (Bel wr.heap.size wr) := ⟨⟨wr, Below.refl _ _⟩⟩
            refine wp_region_bel wr.heap.size (by kernel_rfl) (by kernel_rfl) ?_
            repeat (go_big_quiet_step ((go_at_call 23; exact quiet_bel (Nat.le_refl _) (HCALL.out _ _ _))))
            refine wpQuiet_nil ?_
            intro wB hB0; obtain ⟨uB, hu⟩ := hB0; have hbB0 := uB.h; rw [← hu] at hbB0; clear hu uB hbelc hbeln
            obtain ⟨hbB, hcB, hsB⟩ := bcell2 hbB0; clear hbB0
            have hbB2 : Below w5.heap.size w5 wB := HBK.out.trans (hbB.mono HBK.out.size)
            have vU := idB_lat2 HU.out hbB (Nat.le_refl _)
            have vD := idB_lat2 HD.out hbB (Nat.le_refl _)
            clear c1 c2 s1 l1 t1 t2 t3 hcB hsB hbB HCALL HU HD sU sD hba hbl
            have sU := lt_of_block vU
            have sD := lt_of_block vD
            cases tk
            · have e1 := FN1.out rfl
              have e2 := FN2.out rfl
              rw [← e1] at vU
              rw [← e2] at vD
              clear FN1 FN2 FY1 FY2 e1 e2
              have VU := Lib.hid vU; have VD := Lib.hid vD; have HBB2 := Lib.hid hbB2; clear vU vD hbB2
              go_wp2
              go_roundw
              case rel => exact ⟨k + 1, by go_num, by omega, VU.out, VD.out, HBB2.out⟩
              case measure => simp [intOf]; omega
            · have e1 := FY1.out rfl
              have e2 := FY2.out rfl
              have d0 := vD.at_ hiP
              have d1 := vD.free i
              have vD2 : IdB (wB.setCell ⟨D, i, none⟩ (.int .i64 (k : Int))) D P (updF (lnF (lsZ qr l.length) i) i (lsZ qr (k + 1) i)) := by
                have := vD.put i (k : Int)
                rw [updF_twice] at this
                rw [e2]; exact this
              have vU2 := idB_other vU hne i (.int .i64 (k : Int))
              have u0 := vU2.at_ hiP
              have u1 := vU2.free i
              rw [updF_slf] at u0
              have sU2 := lt_of_block vU2
              have bB : Below w5.heap.size w5 (wB.setCell ⟨D, i, none⟩ (.int .i64 (k : Int))) := hbB2.setCell hDl _
              clear FN1 FN2 FY1 FY2 e2
              by_cases hf : fsI qr k i < 0
              · rw [if_pos hf] at e1
                have vU3 : IdB ((wB.setCell ⟨D, i, none⟩ (.int .i64 (k : Int))).setCell ⟨U, i, none⟩ (.int .i64 (k : Int))) U P (updF (lnF (fsI qr l.length) i) i (fsI qr (k + 1) i)) := by
                  have := vU2.put i (k : Int)
                  rw [updF_twice] at this
                  rw [e1]; exact this
                have vD3 := idB_other vD2 (Ne.symm hne) i (.int .i64 (k : Int))
                have bC : Below w5.heap.size w5 ((wB.setCell ⟨D, i, none⟩ (.int .i64 (k : Int))).setCell ⟨U, i, none⟩ (.int .i64 (k : Int))) := bB.setCell hUl _
                generalize fsI qr k i = fk at *
                have E1 := Lib.hid e1; have VU := Lib.hid vU; have VD := Lib.hid vD; have VU2 := Lib.hid vU2; have VD2 := Lib.hid vD2; have VU3 := Lib.hid vU3; have VD3 := Lib.hid vD3; have HBB2 := Lib.hid hbB2; have BB := Lib.hid bB; have BC := Lib.hid bC; clear e1 vU vD vU2 vD2 vU3 vD3 hbB2 bB bC
                go_wp2
                go_roundw
                case rel => exact ⟨k + 1, by go_num, by omega, VU3.out, VD3.out, BC.out⟩
                case measure => simp [intOf]; omega
              · rw [if_neg hf] at e1
                rw [← e1] at vU2
                generalize fsI qr k i = fk at *
                have hf2 : 0 ≤ fk := by omega
                have E1 := Lib.hid e1; have VU := Lib.hid vU; have VD := Lib.hid vD; have VU2 := Lib.hid vU2; have VD2 := Lib.hid vD2; have HBB2 := Lib.hid hbB2; have BB := Lib.hid bB; clear e1 vU vD vU2 vD2 hbB2 bB
                go_wp2
                go_roundw
                case rel => exact ⟨k + 1, by go_num, by omega, VU2.out, VD2.out, BB.out⟩
                case measure => simp [intOf]; omega
          · obtain rfl : k = l.length := by omega
            have u0 := hU.at_ hiP
            rw [updF_slf] at u0
            rw [lnF_upd] at hU hD
            obtain ⟨g1, g2, g3⟩ := HSH.out
            obtain ⟨g1a, g1b⟩ := g1 i
            have g2 := g2 i
            obtain ⟨bs, os, rfl, hbs, v0⟩ := HSR.out wr (V5.out.later hbk (Nat.le_refl _)) i hiP
            clear g3
            generalize fsI qr l.length i = f at *
            generalize sg i = sv at *
            have x1 : (0 : Int) ≤ (i : Int) := by omega
            have x2 : (i : Int) < (P : Int) := by omega
            by_cases hf : f < 0
            · have q1 : sv = -1 := g1b.1 hf
              subst q1
              have q2 : decide (f < 0) = true := by simpa using hf
              have q3 : decide ((N : Int) ≤ -1) = false := by simp; omega
              clear g1a g1b g2 hf
              have HU := Lib.hid hU; have HD := Lib.hid hD; have HBK := Lib.hid hbk; have HBW := Lib.hid hbw; clear hU hD hbk hbw
              go_wp2
              go_quiet (fail)
              go_wp2
              go_roundw
              case rel => exact ⟨i + 1, by go_num, by omega, HU.out, HD.out, below_drewN HBK.out _⟩
              case measure => simp [intOf]; omega
            · have q1 : sv ≠ -1 := fun h => hf (g1b.2 h)
              have q2 : decide (f < 0) = false := by simpa using hf
              have q4 : (sv == -1) = false := by simpa using q1
              have q5 : decide (sv < -1) = false := by simp; omega
              have q3 : decide ((N : Int) ≤ sv) = false := by have := g2 (by omega); simp; omega
              clear g1a g1b g2 hf q1
              have HU := Lib.hid hU; have HD := Lib.hid hD; have HBK := Lib.hid hbk; have HBW := Lib.hid hbw; clear hU hD hbk hbw
              go_wp2
              go_quiet (fail)
              go_wp2
              go_roundw
              case rel => exact ⟨i + 1, by go_num, by omega, HU.out, HD.out, below_drewN HBK.out _⟩
              case measure => simp [intOf]; omega
      · obtain rfl : i = P := by omega
        have hgt : ∀ W, Below wr.heap.size wr W → ∀ x, x < i → U < W.heap.size ∧ D < W.heap.size ∧ W.cell? ⟨U, x, none⟩ = some (.int .i64 (fsI qr l.length x)) ∧ W.cell? ⟨D, x, none⟩ = some (.int .i64 (lsZ qr l.length x)) := fun W hb x hx => by
          have hU2 := idB_lat2 hU hb (Nat.le_refl _)
          have hD2 := idB_lat2 hD hb (Nat.le_refl _)
          have e1 := hU2.at_ hx
          have e2 := hD2.at_ hx
          unfold lnF at e1 e2
          rw [if_pos hx] at e1 e2
          exact ⟨lt_of_block hU2, lt_of_block hD2, e1, e2⟩
        have hno : ∀ x y, x ≠ y → 0 ≤ sg x → sg x = sg y → fsI qr l.length x ≤ lsZ qr l.length y → fsI qr l.length y ≤ lsZ qr l.length x → False := fun x y hxy h0 he h1 h2 => by
          obtain ⟨g1, _, g3⟩ := HSH.out
          have a1 : 0 ≤ fsI qr l.length x := by have := (g1 x).2; omega
          have a2 : 0 ≤ fsI qr l.length y := by have := (g1 y).2; omega
          rw [lsZ_used a2] at h1
          rw [lsZ_used a1] at h2
          exact g3 x y hxy h0 he ⟨h1, h2⟩
        obtain ⟨wz, rfl⟩ : ∃ wz : World, wz = wr := ⟨_, rfl⟩
        have HGT := Lib.hid hgt; have HNO := Lib.hid hno; have HBR := Lib.hid hbr; have HU := Lib.hid hU; have HD := Lib.hid hD; clear hgt hno hbr hU hD
        go_wp2
        clear c1 c2 s1 sU sD HU HD
        go_loopw [14] (fun xv wr => ∃ x : Nat, xv = .int .i64 x ∧ x ≤ i ∧ Below wz.heap.size wz wr) (fun xv _ => i - (intOf xv).toNat)
        case atStart => exact ⟨0, rfl, Nat.zero_le _, Below.refl _ _⟩
        case round =>
          obtain ⟨x, rfl, hx, hbx⟩ := hrel
          have hbw := HBR.out.trans (hbx.mono HBR.out.size)
          have c1 := below_at hbw (Nat.le_refl _) C1.out
          have s1 : w.heap.size < wr.heap.size := World.block_lt_of_cell? _ _ c1
          by_cases hxP : x < i
          · have x2 : (x : Int) < (i : Int) := by omega
            have HBX := Lib.hid hbx; have HBW := Lib.hid hbw; clear hbx hbw
            obtain ⟨wo, rfl⟩ : ∃ wo : World, wo = wr := ⟨_, rfl⟩
            go_wp2
            clear c1 s1
            go_loopw [15] (fun yv wr => ∃ y : Nat, yv = .int .i64 y ∧ y ≤ x ∧ Below wz.heap.size wz wr) (fun yv _ => x - (intOf yv).toNat)
            case atStart => exact ⟨0, rfl, Nat.zero_le _, HBX.out⟩
            case round =>
              obtain ⟨y, rfl, hy, hby⟩ := hrel
              by_cases hyx : y < x
              · have y1 : (0 : Int) ≤ (y : Int) := by omega
                have y2 : (y : Int) < (x : Int) := by omega
                have y3 : (y : Int) < (i : Int) := by omega
                have x1 : (0 : Int) ≤ (x : Int) := by omega
                obtain ⟨r1, r2, r3, r4⟩ := HGT.out wr hby x hxP
                obtain ⟨_, _, r5, r6⟩ := HGT.out wr hby y (by omega)
                have hn := HNO.out x y (by omega)
                have hbv := HBR.out.trans (hby.mono HBR.out.size)
                obtain ⟨bs, os, hSe, hbs, v0⟩ := HSR.out wr (V5.out.later hbv (Nat.le_refl _)) x hxP
                obtain ⟨bs2, os2, hSe2, _, v1⟩ := HSR.out wr (V5.out.later hbv (Nat.le_refl _)) y (by omega)
                subst hSe
                injection hSe2 with hSe3; injection hSe3 with hS1 hS2; subst hS1; subst hS2
                generalize fsI qr l.length x = fx at *
                generalize fsI qr l.length y = fy at *
                generalize lsZ qr l.length x = lx at *
                generalize lsZ qr l.length y = ly at *
                generalize sg x = sx at *
                generalize sg y = sy at *
                by_cases h0 : 0 ≤ sx
                · have q0 : decide (0 ≤ sx) = true := by simpa using h0
                  by_cases h1 : sx = sy
                  · have q1 : (sx == sy) = true := by simpa using h1
                    by_cases h2 : fx ≤ ly
                    · have q2 : decide (fx ≤ ly) = true := by simpa using h2
                      have q3 : decide (fy ≤ lx) = false := by
                        have : ¬ fy ≤ lx := fun h => hn h0 h1 h2 h
                        simpa using this
                      clear hn h0 h1 h2
                      have HBY := Lib.hid hby; have HBV := Lib.hid hbv; clear hby hbv
                      go_wp2
                      go_quiet (fail)
                      go_wp2
                      go_roundw
                      case rel => exact ⟨y + 1, by go_num, by omega, below_drewN HBY.out _⟩
                      case measure => simp [intOf]; omega
                    · have q2 : decide (fx ≤ ly) = false := by simpa using h2
                      clear hn h0 h1 h2
                      have HBY := Lib.hid hby; have HBV := Lib.hid hbv; clear hby hbv
                      go_wp2
                      go_quiet (fail)
                      go_wp2
                      go_roundw
                      case rel => exact ⟨y + 1, by go_num, by omega, below_drewN HBY.out _⟩
                      case measure => simp [intOf]; omega
                  · have q1 : (sx == sy) = false := by simpa using h1
                    clear hn h0 h1
                    have HBY := Lib.hid hby; have HBV := Lib.hid hbv; clear hby hbv
                    go_wp2
                    go_quiet (fail)
                    go_wp2
                    go_roundw
                    case rel => exact ⟨y + 1, by go_num, by omega, below_drewN HBY.out _⟩
                    case measure => simp [intOf]; omega
                · have q0 : decide (0 ≤ sx) = false := by simpa using h0
                  clear hn h0
                  have HBY := Lib.hid hby; have HBV := Lib.hid hbv; clear hby hbv
                  go_wp2
                  go_quiet (fail)
                  go_wp2
                  go_roundw
                  case rel => exact ⟨y + 1, by go_num, by omega, below_drewN HBY.out _⟩
                  case measure => simp [intOf]; omega
              · obtain rfl : y = x := by omega
                have HBY := Lib.hid hby; clear hby
                clear hyx hy
                go_wp2
                go_roundw
                case rel => exact ⟨y + 1, by go_num, by omega, HBY.out⟩
                case measure => simp [intOf]; omega
          · obtain rfl : x = i := by omega
            have hTr := HT.out.later (Y5.out.trans (hbw.mono Y5.out.size)) (Nat.le_refl _)
            clear hxP hx
            have HBX := Lib.hid hbx; have HBW := Lib.hid hbw; have HTR := Lib.hid hTr; clear hbx hbw hTr
            go_wp2_with (go_at_call 10; refine (shown_ _ HTR.out).mono ?_; rintro e wq ⟨rfl, hbq⟩)
            go_ret
            exact ⟨rfl, Y5.out.trans ((HBW.out.trans (hbq.mono HBW.out.size)).mono Y5.out.size)⟩
end Go.Proofs.YtnplcephmidjbaaDoor
/- The law PairsBeside returns true. -/
namespace Go.Proofs.YtnplcephmidjbaaDoor
open Go.RowKit

set_option maxRecDepth 100000 in
set_option maxHeartbeats 8000000 in
theorem lawBeside_ (p q t : Int) (A B : Option Addr) (c d : Nat) (ws vs : List GW) (w : World) (ha : ShIn w p A ws) (hb : ShIn w q B vs) (hT : Tz w) :
    Calls Tryd.prog 8 #[.agg #[.int .i64 p, .slice A ws.length c], .agg #[.int .i64 q, .slice B vs.length d], .int .u16 t] w fun e w' => e = .returned (.bool true) ∧ Below w.heap.size w w' := by
  have hb2 : Below w.heap.size w ((w.alloc (.cells #[.int .i64 p, .slice A ws.length c] 24)).alloc (.cells #[.int .i64 q, .slice B vs.length d] 24)) := ((Below.refl _ _).alloc (Nat.le_refl _) _).alloc (by simp) _
  have Y0 := Lib.hid hb2; clear hb2
  have X0 := Lib.hid (BoxS.made w p q A B c d ws.length vs.length)
  have HA := Lib.hid ha; have HB := Lib.hid hb; have HT := Lib.hid hT; clear ha hb hT
  go_enter Tryd.func8, Tryd.ntmps8
  go_wp2_with fail
  refine (far12_ p A c ws _ (HA.out.rd.later Y0.out (Nat.le_refl _))).mono ?_; rintro e w1 ⟨z, rfl, _, hb1⟩
  cases z
  rotate_left
  · have X1 := Lib.hid (X0.out.later hb1); have Y1 := Lib.hid (Y0.out.trans (hb1.mono Y0.out.size)); clear hb1; obtain ⟨c1, c2, c3, c4, s1, s2⟩ := X1.out
    go_wp2_with fail
    clear c1 c2 c3 c4 s1 s2
    refine (shown_ _ (HT.out.later Y1.out (Nat.le_refl _))).mono ?_; rintro e w8 ⟨rfl, hb1⟩
    go_wp2
    go_ret
    exact ⟨rfl, Y1.out.trans (hb1.mono Y1.out.size)⟩
  have X1 := Lib.hid (X0.out.later hb1); have Y1 := Lib.hid (Y0.out.trans (hb1.mono Y0.out.size)); clear hb1; obtain ⟨c1, c2, c3, c4, s1, s2⟩ := X1.out
  go_wp2_with fail
  clear c1 c2 c3 c4 s1 s2
  refine (far12_ q B d vs _ (HB.out.rd.later Y1.out (Nat.le_refl _))).mono ?_; rintro e w2 ⟨z, rfl, _, hb1⟩
  cases z
  rotate_left
  · have X2 := Lib.hid (X1.out.later hb1); have Y2 := Lib.hid (Y1.out.trans (hb1.mono Y1.out.size)); clear hb1; obtain ⟨c1, c2, c3, c4, s1, s2⟩ := X2.out
    go_wp2_with fail
    clear c1 c2 c3 c4 s1 s2
    refine (shown_ _ (HT.out.later Y2.out (Nat.le_refl _))).mono ?_; rintro e w8 ⟨rfl, hb1⟩
    go_wp2
    go_ret
    exact ⟨rfl, Y2.out.trans (hb1.mono Y2.out.size)⟩
  have hla := HA.out.rd.1
  have hlb := HB.out.rd.1
  have hwr : IntKind.i64.wrap ((ws.length : Int) + (vs.length : Int)) = (ws.length : Int) + (vs.length : Int) := IntWalk.i64_in _ (by omega)
  by_cases h10 : 10 < (ws.length : Int) + (vs.length : Int)
  · have X2 := Lib.hid (X1.out.later hb1); have Y2 := Lib.hid (Y1.out.trans (hb1.mono Y1.out.size)); clear hb1; obtain ⟨c1, c2, c3, c4, s1, s2⟩ := X2.out
    go_wp2_with fail
    clear c1 c2 c3 c4 s1 s2
    refine (shown_ _ (HT.out.later Y2.out (Nat.le_refl _))).mono ?_; rintro e w8 ⟨rfl, hb1⟩
    go_wp2
    go_ret
    exact ⟨rfl, Y2.out.trans (hb1.mono Y2.out.size)⟩
  have h10b : decide (10 < (ws.length : Int) + (vs.length : Int)) = false := by simpa using h10
  have X2 := Lib.hid (X1.out.later hb1); have Y2 := Lib.hid (Y1.out.trans (hb1.mono Y1.out.size)); clear hb1; obtain ⟨c1, c2, c3, c4, s1, s2⟩ := X2.out
  go_wp2_with fail
  clear c1 c2 c3 c4 s1 s2
  refine (rCheck_ p A c ws _ HA.out.lo HA.out.hi (HA.out.rd.later Y2.out (Nat.le_refl _))).mono ?_; rintro e w3 ⟨rfl, hb1⟩
  by_cases he : errSheet p ws = 0
  rotate_left
  · have heb : (errSheet p ws != 0) = true := by simpa using he
    generalize errSheet p ws = E at *
    clear he
    have X3 := Lib.hid (X2.out.later hb1); have Y3 := Lib.hid (Y2.out.trans (hb1.mono Y2.out.size)); clear hb1; obtain ⟨c1, c2, c3, c4, s1, s2⟩ := X3.out
    go_wp2_with fail
    clear c1 c2 c3 c4 s1 s2
    refine (shown_ _ (HT.out.later Y3.out (Nat.le_refl _))).mono ?_; rintro e w8 ⟨rfl, hb1⟩
    go_wp2
    go_ret
    exact ⟨rfl, Y3.out.trans (hb1.mono Y3.out.size)⟩
  have hE := Lib.hid he
  rw [he]
  clear he
  have X3 := Lib.hid (X2.out.later hb1); have Y3 := Lib.hid (Y2.out.trans (hb1.mono Y2.out.size)); clear hb1; obtain ⟨c1, c2, c3, c4, s1, s2⟩ := X3.out
  go_wp2_with fail
  clear c1 c2 c3 c4 s1 s2
  refine (rCheck_ q B d vs _ HB.out.lo HB.out.hi (HB.out.rd.later Y3.out (Nat.le_refl _))).mono ?_; rintro e w4 ⟨rfl, hb1⟩
  by_cases he : errSheet q vs = 0
  rotate_left
  · have heb : (errSheet q vs != 0) = true := by simpa using he
    generalize errSheet q vs = E at *
    clear he
    have X4 := Lib.hid (X3.out.later hb1); have Y4 := Lib.hid (Y3.out.trans (hb1.mono Y3.out.size)); clear hb1; obtain ⟨c1, c2, c3, c4, s1, s2⟩ := X4.out
    go_wp2_with fail
    clear c1 c2 c3 c4 s1 s2
    refine (shown_ _ (HT.out.later Y4.out (Nat.le_refl _))).mono ?_; rintro e w8 ⟨rfl, hb1⟩
    go_wp2
    go_ret
    exact ⟨rfl, Y4.out.trans (hb1.mono Y4.out.size)⟩
  have hE2 := Lib.hid he
  rw [he]
  clear he
  obtain ⟨hp2, hp24, hlen, hall⟩ := okAll hE.out
  obtain ⟨hq2, hq24, hlen2, hall2⟩ := okAll hE2.out
  have hpq : IntKind.i64.wrap (p + q) = p + q := IntWalk.i64_in _ (by omega)
  by_cases h24 : 24 < p + q
  · clear hall hall2
    have X4 := Lib.hid (X3.out.later hb1); have Y4 := Lib.hid (Y3.out.trans (hb1.mono Y3.out.size)); clear hb1; obtain ⟨c1, c2, c3, c4, s1, s2⟩ := X4.out
    go_wp2_with fail
    clear c1 c2 c3 c4 s1 s2
    refine (shown_ _ (HT.out.later Y4.out (Nat.le_refl _))).mono ?_; rintro e w8 ⟨rfl, hb1⟩
    go_wp2
    go_ret
    exact ⟨rfl, Y4.out.trans (hb1.mono Y4.out.size)⟩
  have h24b : decide (24 < p + q) = false := by simpa using h24
  have HALL := Lib.hid hall; have HALL2 := Lib.hid hall2; clear hall hall2
  have hn10 : ws.length + vs.length ≤ 10 := by omega
  clear h10
  have X4 := Lib.hid (X3.out.later hb1); have Y4 := Lib.hid (Y3.out.trans (hb1.mono Y3.out.size)); clear hb1; obtain ⟨c1, c2, c3, c4, s1, s2⟩ := X4.out
  go_wp2
  have hm1 : (w4.alloc (.cells #[.int .i64 (p + q), .slice none 0 0] 24)).heap[w4.heap.size]? = some (.cells #[.int .i64 (p + q), .slice none 0 0] 24 (0, 0)) := heap_alloc_new _ _
  have hm2 : Below w4.heap.size w4 (w4.alloc (.cells #[.int .i64 (p + q), .slice none 0 0] 24)) := (Below.refl _ _).alloc (Nat.le_refl _) _
  have HM1 := Lib.hid hm1; have HM2 := Lib.hid hm2; clear hm1 hm2
  clear c1 c2 c3 c4 s1 s2
  go_loopw [8, 9] (fun iv kv wr => ∃ (i k : Nat) (l : List GW) (v : Value), iv = .int .i64 i ∧ kv = .int .i64 k ∧ i ≤ ws.length ∧ k ≤ vs.length ∧ Mix p ws vs i k l ∧ (∀ x ∈ l, x.fits) ∧ wr.heap[w4.heap.size]? = some (.cells #[.int .i64 (p + q), v] 24 (0, 0)) ∧
    wr.ownsRow (w4.heap.size + 1) 44 3 v l.length (worksC l) ∧ Below w4.heap.size w4 wr) (fun iv kv _ => ws.length + vs.length - ((intOf iv).toNat + (intOf kv).toNat))
  case atStart => exact ⟨0, 0, [], _, rfl, rfl, Nat.zero_le _, Nat.zero_le _, Mix.nil _ _ _, (fun x hx => by cases hx), HM1.out, World.ownsRow_nil _ _ _ _, HM2.out⟩
  case round =>
    obtain ⟨i, k, l, v, rfl, rfl, hi, hk, hM, hF, hO, hown, hbw⟩ := hrel
    obtain ⟨c1, c2, c3, c4, s1, s2⟩ := X4.out.later hbw
    have o1 : wr.cell? ⟨w4.heap.size, 1, none⟩ = some v := cell_of_row wr _ 1 _ _ _ hO
    have o0 : wr.cell? ⟨w4.heap.size, 0, none⟩ = some (.int .i64 (p + q)) := cell_of_row wr _ 0 _ _ _ hO
    have o2 : wr.frozen? ⟨w4.heap.size, 1, none⟩ = false := frozen_of_row _ _ 1 _ _ hO
    have hOl := lt_of_block hO
    have hXW := Y4.out.trans (hbw.mono Y4.out.size)
    have hvl := hown.lt
    have hll := hM.1
    have x0 : (0 : Int) ≤ (i : Int) := by omega
    have x1 : (0 : Int) ≤ (k : Int) := by omega
    by_cases hend : i < ws.length ∨ k < vs.length
    · have hbit : ∃ z : Bool, (bits .and .u16 (t / 2 ^ (i + k)) 1 == 1) = z := ⟨_, rfl⟩
      obtain ⟨zb, hz⟩ := hbit
      have x2 : IntKind.i64.wrap ((i : Int) + (k : Int)) = (i : Int) + (k : Int) := IntWalk.i64_in _ (by omega)
      have x3 : IntKind.u64.wrap ((i : Int) + (k : Int)) = (i : Int) + (k : Int) := by rw [show ((i : Int) + (k : Int)) = ((i + k : Nat) : Int) by simp]; exact wraps_u64 _ (by omega) (by omega)
      have x4 : (i : Int) + (k : Int) < 16 := by omega
      have x5 : (0 : Int) ≤ (i : Int) + (k : Int) := by omega
      have x6 : ((i : Int) + (k : Int)).toNat = i + k := by omega
      by_cases hin : i < ws.length
      · have y1 : (i : Int) < (ws.length : Int) := by omega
        by_cases hkm : k < vs.length
        · have y2 : (k : Int) < (vs.length : Int) := by omega
          have y3 : ((k : Int) == (vs.length : Int)) = false := by simp; omega
          clear hend
          cases zb
          · -- take a work of b
            obtain ⟨bb, ob, rfl, hbb, t1, t2, t3⟩ := (HB.out.rd.later hXW (Nat.le_refl _)).at_ hkm
            have hgd : vs.getD k gwE = vs[k] := by simp [List.getD_eq_getElem?_getD, hkm]
            have hfb : vs[k].fits := HB.out.rd.2.1 _ (List.getElem_mem hkm)
            obtain ⟨_, hpl1, hpl2, _⟩ := HALL2.out vs[k] (List.getElem_mem hkm)
            have hN2 : Hid (some w4.heap.size ≠ v.ownBlock) := fun h => by have := (hvl _ h.symm).1; omega
            have hN1 : Hid (some wr.heap.size ≠ v.ownBlock) := fun h => by have := (hvl _ h.symm).2; omega
            generalize vs[k] = z at *
            have z1 : IntKind.i64.wrap (z.pl + p) = z.pl + p := IntWalk.i64_in _ (by omega)
            have HM := Lib.hid hM; have HF := Lib.hid hF; have HO := Lib.hid hO; have HOWN := Lib.hid hown; have HBW := Lib.hid hbw; have HVL := Lib.hid hvl; have HLL := Lib.hid hll; have HXW := Lib.hid hXW; have HGD := Lib.hid hgd; have HFB := Lib.hid hfb; clear hM hF hO hown hbw hvl hll hXW hgd hfb
            go_wp2_with (at_builtin; go_must (refine wpList_appW_Tryd rfl _ _ rfl (w4.heap.size + 1) v l rfl (by repeat (first | exact HOWN.out | refine World.ownsRow.alloc ?_ _)) (wr.heap.size + 1) ⟨z.kind, z.pl + p, z.word⟩ rfl (by have := heap_alloc_new (wr.alloc (.cells #[.int .i64 z.kind, .int .i64 (z.pl + p), .string z.word] 44)) (.cells #[.int .i64 z.kind, .int .i64 (z.pl + p), .string z.word] 44); rw [World.size_alloc] at this; exact this) (by have := HLL.out; omega) (by simp; omega) ?_); intro g cap w5 hown5 hgrow hat5 hlt5; have q1 : w5.cell? ⟨w4.heap.size, 1, none⟩ = some v := (hgrow.cell_far ⟨w4.heap.size, 1, none⟩ (by simp; omega) hN2.out).trans (by go_simp); have q2 : w5.frozen? ⟨w4.heap.size, 1, none⟩ = false := (hgrow.frozen_far ⟨w4.heap.size, 1, none⟩ (by simp; omega) hN2.out).trans (by go_simp); have q3 : w4.heap.size < w5.heap.size := (by have := hgrow.size; simp at this; omega))
            go_roundw
            case rel =>
              refine ⟨i, k + 1, _, _, rfl, by go_num, hi, by omega, (by have := HM.out.putB; rw [HGD.out] at this; exact this), (fun x hx => by rcases List.mem_append.1 hx with h | h; exact HF.out x h; rw [List.mem_singleton.1 h]; exact ⟨HFB.out.1, ⟨by show _ ≤ z.pl + p; omega, by show z.pl + p ≤ _; omega⟩, HFB.out.2.2⟩), ?_, ownsRow_setCell_below hown5 (by show w4.heap.size < w4.heap.size + 1; omega) _, ?_⟩
              · exact heap_setCell_same _ _ 1 _ _ _ ((hgrow.block _ (by simp; omega) hN2.out).trans ((Below.heap_alloc _ _ _ (by simp; omega)).trans ((Below.heap_alloc _ _ _ hOl).trans HO.out)))
              · exact (((HBW.out.alloc HBW.out.size _).alloc (by simp; omega) _).grown hgrow (by simp; have := HBW.out.size; omega) (fun k' hk' => by have := (HVL.out k' hk').1; omega)).setCell (Nat.le_refl _) _
            case measure => simp [intOf]; omega
          · -- take a work of a
            obtain ⟨ba, oa, rfl, hba, t1, t2, t3⟩ := (HA.out.rd.later hXW (Nat.le_refl _)).at_ hin
            have hgd : ws.getD i gwE = ws[i] := by simp [List.getD_eq_getElem?_getD, hin]
            have hfa : ws[i].fits := HA.out.rd.2.1 _ (List.getElem_mem hin)
            have hN2 : Hid (some w4.heap.size ≠ v.ownBlock) := fun h => by have := (hvl _ h.symm).1; omega
            generalize ws[i] = z at *
            have HM := Lib.hid hM; have HF := Lib.hid hF; have HO := Lib.hid hO; have HOWN := Lib.hid hown; have HBW := Lib.hid hbw; have HVL := Lib.hid hvl; have HLL := Lib.hid hll; have HXW := Lib.hid hXW; have HGD := Lib.hid hgd; have HFA := Lib.hid hfa; clear hM hF hO hown hbw hvl hll hXW hgd hfa
            go_wp2
            go_region_law
              (first | (refine step_appW_Tryd (by rfl) _ _ (by rfl) (w4.heap.size + 1) v l (by rfl) (by repeat (first | exact HOWN.out | refine World.ownsRow.alloc ?_ _ | exact (World.ownsRow.alloc HOWN.out _).drew)) wr.heap.size z (by rfl) (heap_alloc_new _ _) (by have := HLL.out; omega) (by simp; omega) ?_; intro g cap w3 hown3 hgrow hat3 hlt3; have q1 : w3.cell? ⟨w4.heap.size, 1, none⟩ = some v := (hgrow.cell_far ⟨w4.heap.size, 1, none⟩ (by simp; omega) hN2.out).trans (by go_simp); have q2 : w3.frozen? ⟨w4.heap.size, 1, none⟩ = false := (hgrow.frozen_far ⟨w4.heap.size, 1, none⟩ (by simp; omega) hN2.out).trans (by go_simp); have q3 : w4.heap.size < w3.heap.size := (by have := hgrow.size; simp at this; omega)))
            all_goals
              go_wp2
              go_roundw
              case rel =>
                refine ⟨i + 1, k, _, _, by go_num, rfl, by omega, hk, (by have := HM.out.putA; rw [HGD.out] at this; exact this), (fun x hx => by rcases List.mem_append.1 hx with h | h; exact HF.out x h; rw [List.mem_singleton.1 h]; exact HFA.out), ?_, ownsRow_setCell_below hown3 (by show w4.heap.size < w4.heap.size + 1; omega) _, ?_⟩
                · exact heap_setCell_same _ _ 1 _ _ _ ((hgrow.block _ (by simp; omega) hN2.out).trans ((Below.heap_alloc wr _ _ hOl).trans HO.out))
                · exact ((HBW.out.alloc HBW.out.size _).drew.grown hgrow (by simp; have := HBW.out.size; omega) (fun k' hk' => by have := (HVL.out k' hk').1; omega)).setCell (Nat.le_refl _) _
              case measure => simp [intOf]; omega
        · have y2 : ((k : Int) == (vs.length : Int)) = true := by simp; omega
          clear hend hz
          obtain ⟨ba, oa, rfl, hba, t1, t2, t3⟩ := (HA.out.rd.later hXW (Nat.le_refl _)).at_ hin
          have hgd : ws.getD i gwE = ws[i] := by simp [List.getD_eq_getElem?_getD, hin]
          have hfa : ws[i].fits := HA.out.rd.2.1 _ (List.getElem_mem hin)
          have hN2 : Hid (some w4.heap.size ≠ v.ownBlock) := fun h => by have := (hvl _ h.symm).1; omega
          generalize ws[i] = z at *
          have HM := Lib.hid hM; have HF := Lib.hid hF; have HO := Lib.hid hO; have HOWN := Lib.hid hown; have HBW := Lib.hid hbw; have HVL := Lib.hid hvl; have HLL := Lib.hid hll; have HXW := Lib.hid hXW; have HGD := Lib.hid hgd; have HFA := Lib.hid hfa; clear hM hF hO hown hbw hvl hll hXW hgd hfa
          go_wp2
          go_region_law
            (first | (refine step_appW_Tryd (by rfl) _ _ (by rfl) (w4.heap.size + 1) v l (by rfl) (by repeat (first | exact HOWN.out | refine World.ownsRow.alloc ?_ _ | exact (World.ownsRow.alloc HOWN.out _).drew)) wr.heap.size z (by rfl) (heap_alloc_new _ _) (by have := HLL.out; omega) (by simp; omega) ?_; intro g cap w3 hown3 hgrow hat3 hlt3; have q1 : w3.cell? ⟨w4.heap.size, 1, none⟩ = some v := (hgrow.cell_far ⟨w4.heap.size, 1, none⟩ (by simp; omega) hN2.out).trans (by go_simp); have q2 : w3.frozen? ⟨w4.heap.size, 1, none⟩ = false := (hgrow.frozen_far ⟨w4.heap.size, 1, none⟩ (by simp; omega) hN2.out).trans (by go_simp); have q3 : w4.heap.size < w3.heap.size := (by have := hgrow.size; simp at this; omega)))
          all_goals
            go_wp2
            go_roundw
            case rel =>
              refine ⟨i + 1, k, _, _, by go_num, rfl, by omega, hk, (by have := HM.out.putA; rw [HGD.out] at this; exact this), (fun x hx => by rcases List.mem_append.1 hx with h | h; exact HF.out x h; rw [List.mem_singleton.1 h]; exact HFA.out), ?_, ownsRow_setCell_below hown3 (by show w4.heap.size < w4.heap.size + 1; omega) _, ?_⟩
              · exact heap_setCell_same _ _ 1 _ _ _ ((hgrow.block _ (by simp; omega) hN2.out).trans ((Below.heap_alloc wr _ _ hOl).trans HO.out))
              · exact ((HBW.out.alloc HBW.out.size _).drew.grown hgrow (by simp; have := HBW.out.size; omega) (fun k' hk' => by have := (HVL.out k' hk').1; omega)).setCell (Nat.le_refl _) _
            case measure => simp [intOf]; omega
      · have hkm : k < vs.length := by omega
        have y1 : decide ((i : Int) < (ws.length : Int)) = false := by simp; omega
        have y2 : (k : Int) < (vs.length : Int) := by omega
        have y3 : ((k : Int) == (vs.length : Int)) = false := by simp; omega
        clear hend hz
        obtain ⟨bb, ob, rfl, hbb, t1, t2, t3⟩ := (HB.out.rd.later hXW (Nat.le_refl _)).at_ hkm
        have hgd : vs.getD k gwE = vs[k] := by simp [List.getD_eq_getElem?_getD, hkm]
        have hfb : vs[k].fits := HB.out.rd.2.1 _ (List.getElem_mem hkm)
        obtain ⟨_, hpl1, hpl2, _⟩ := HALL2.out vs[k] (List.getElem_mem hkm)
        have hN2 : Hid (some w4.heap.size ≠ v.ownBlock) := fun h => by have := (hvl _ h.symm).1; omega
        have hN1 : Hid (some wr.heap.size ≠ v.ownBlock) := fun h => by have := (hvl _ h.symm).2; omega
        generalize vs[k] = z at *
        have z1 : IntKind.i64.wrap (z.pl + p) = z.pl + p := IntWalk.i64_in _ (by omega)
        have HM := Lib.hid hM; have HF := Lib.hid hF; have HO := Lib.hid hO; have HOWN := Lib.hid hown; have HBW := Lib.hid hbw; have HVL := Lib.hid hvl; have HLL := Lib.hid hll; have HXW := Lib.hid hXW; have HGD := Lib.hid hgd; have HFB := Lib.hid hfb; clear hM hF hO hown hbw hvl hll hXW hgd hfb
        go_wp2_with (at_builtin; go_must (refine wpList_appW_Tryd rfl _ _ rfl (w4.heap.size + 1) v l rfl (by repeat (first | exact HOWN.out | refine World.ownsRow.alloc ?_ _)) (wr.heap.size + 1) ⟨z.kind, z.pl + p, z.word⟩ rfl (by have := heap_alloc_new (wr.alloc (.cells #[.int .i64 z.kind, .int .i64 (z.pl + p), .string z.word] 44)) (.cells #[.int .i64 z.kind, .int .i64 (z.pl + p), .string z.word] 44); rw [World.size_alloc] at this; exact this) (by have := HLL.out; omega) (by simp; omega) ?_); intro g cap w5 hown5 hgrow hat5 hlt5; have q1 : w5.cell? ⟨w4.heap.size, 1, none⟩ = some v := (hgrow.cell_far ⟨w4.heap.size, 1, none⟩ (by simp; omega) hN2.out).trans (by go_simp); have q2 : w5.frozen? ⟨w4.heap.size, 1, none⟩ = false := (hgrow.frozen_far ⟨w4.heap.size, 1, none⟩ (by simp; omega) hN2.out).trans (by go_simp); have q3 : w4.heap.size < w5.heap.size := (by have := hgrow.size; simp at this; omega))
        go_roundw
        case rel =>
          refine ⟨i, k + 1, _, _, rfl, by go_num, hi, by omega, (by have := HM.out.putB; rw [HGD.out] at this; exact this), (fun x hx => by rcases List.mem_append.1 hx with h | h; exact HF.out x h; rw [List.mem_singleton.1 h]; exact ⟨HFB.out.1, ⟨by show _ ≤ z.pl + p; omega, by show z.pl + p ≤ _; omega⟩, HFB.out.2.2⟩), ?_, ownsRow_setCell_below hown5 (by show w4.heap.size < w4.heap.size + 1; omega) _, ?_⟩
          · exact heap_setCell_same _ _ 1 _ _ _ ((hgrow.block _ (by simp; omega) hN2.out).trans ((Below.heap_alloc _ _ _ (by simp; omega)).trans ((Below.heap_alloc _ _ _ hOl).trans HO.out)))
          · exact (((HBW.out.alloc HBW.out.size _).alloc (by simp; omega) _).grown hgrow (by simp; have := HBW.out.size; omega) (fun k' hk' => by have := (HVL.out k' hk').1; omega)).setCell (Nat.le_refl _) _
        case measure => simp [intOf]; omega
    · obtain rfl : i = ws.length := by omega
      obtain rfl : k = vs.length := by omega
      have herr := hM.err hE.out hE2.out h24 hn10
      have hneed := hM.need hE.out hE2.out h24
      obtain ⟨SB0, sd, rfl, hsd⟩ := own_slice3 hown
      have hrs : RdW wr SB0 l := ⟨by omega, hF, own_rdW hown⟩
      have hx3 : fewX (p + q) l = 0 := by unfold fewX; rw [if_pos herr, if_neg (by omega)]
      have hxa : fewX p ws = 0 := by unfold fewX; rw [if_pos hE.out, if_neg (by omega)]
      have hxb : fewX q vs = 0 := by unfold fewX; rw [if_pos hE2.out, if_neg (by omega)]
      have hn3 : fewN (p + q) l = nedN (plsOf l) l.length 0 := by unfold fewN; rw [if_pos hx3]
      have hna : fewN p ws = nedN (plsOf ws) ws.length 0 := by unfold fewN; rw [if_pos hxa]
      have hnb : fewN q vs = nedN (plsOf vs) vs.length 0 := by unfold fewN; rw [if_pos hxb]
      rw [hneed, ← hna, ← hnb] at hn3
      have X5 := Lib.hid (X4.out.later hbw)
      have Y5 := Lib.hid hXW
      clear hneed hend hvl hown hO hM hF o2 hOl c1 c2 c3 c4 s1 s2 hna hnb
      have HERR := Lib.hid herr; have HBW := Lib.hid hbw; have HXA := Lib.hid hxa; have HXB := Lib.hid hxb; have HX3 := Lib.hid hx3; have HRS := Lib.hid hrs; have HXW := Lib.hid hXW; have HLL := Lib.hid hll; have HN3 := Lib.hid hn3; clear herr hbw hxa hxb hx3 hrs hXW hll hn3
      have o0h := Lib.hid o0
      have o1h := Lib.hid o1
      have oS : w4.heap.size < wr.heap.size := World.block_lt_of_cell? _ _ o1
      obtain ⟨c1, c2, c3, c4, s1, s2⟩ := X5.out
      go_wp2_with fail
      refine (pFewest_ (p + q) SB0 sd l _ ⟨by omega, by omega, HRS.out⟩ (HT.out.later Y5.out (Nat.le_refl _))).mono ?_
      rw [HN3.out, HX3.out]
      rintro e w5 ⟨v1, rfl, hv1, hb1⟩
      clear hv1 o0 o1 o0h o1h oS c1 c2 c3 c4 s1 s2
      have X6 := Lib.hid (X5.out.later hb1); have Y6 := Lib.hid (Y5.out.trans (hb1.mono Y5.out.size)); clear hb1; obtain ⟨c1, c2, c3, c4, s1, s2⟩ := X6.out
      go_wp2_with fail
      clear c1 c2 c3 c4 s1 s2
      refine (pFewest_ p A c ws _ (HA.out.later Y6.out (Nat.le_refl _)) (HT.out.later Y6.out (Nat.le_refl _))).mono ?_
      rw [HXA.out]
      rintro e w6 ⟨v2, rfl, hv2, hb1⟩
      clear hv2
      have X7 := Lib.hid (X6.out.later hb1); have Y7 := Lib.hid (Y6.out.trans (hb1.mono Y6.out.size)); clear hb1; obtain ⟨c1, c2, c3, c4, s1, s2⟩ := X7.out
      go_wp2_with fail
      clear c1 c2 c3 c4 s1 s2
      refine (pFewest_ q B d vs _ (HB.out.later Y7.out (Nat.le_refl _)) (HT.out.later Y7.out (Nat.le_refl _))).mono ?_
      rw [HXB.out]
      rintro e w7 ⟨v3, rfl, hv3, hb1⟩
      clear hv3
      generalize fewN p ws = M at *
      generalize fewN q vs = L at *
      clear HM1 HM2 HALL HALL2 HERR HBW HX3 HXA HXB HRS HXW HLL HN3
      rcases Nat.lt_trichotomy M L with hML | hML | hML
      · rw [Nat.max_eq_right (Nat.le_of_lt hML)]
        have X8 := Lib.hid (X7.out.later hb1); have Y8 := Lib.hid (Y7.out.trans (hb1.mono Y7.out.size)); clear hb1; obtain ⟨c1, c2, c3, c4, s1, s2⟩ := X8.out
        go_wp2_with fail
        clear c1 c2 c3 c4 s1 s2
        refine (shown_ _ (HT.out.later Y8.out (Nat.le_refl _))).mono ?_; rintro e w8 ⟨rfl, hb1⟩
        have Y9 := Lib.hid (Y8.out.trans (hb1.mono Y8.out.size)); clear hb1
        go_wp2_with fail
        go_ret
        exact ⟨rfl, Y9.out⟩
      · subst hML
        rw [Nat.max_self]
        have X8 := Lib.hid (X7.out.later hb1); have Y8 := Lib.hid (Y7.out.trans (hb1.mono Y7.out.size)); clear hb1; obtain ⟨c1, c2, c3, c4, s1, s2⟩ := X8.out
        go_wp2_with fail
        clear c1 c2 c3 c4 s1 s2
        refine (shown_ _ (HT.out.later Y8.out (Nat.le_refl _))).mono ?_; rintro e w8 ⟨rfl, hb1⟩
        have Y9 := Lib.hid (Y8.out.trans (hb1.mono Y8.out.size)); clear hb1
        go_wp2_with fail
        go_ret
        exact ⟨rfl, Y9.out⟩
      · rw [Nat.max_eq_left (Nat.le_of_lt hML)]
        have hn : ¬ M < L := by omega
        clear hML
        have X8 := Lib.hid (X7.out.later hb1); have Y8 := Lib.hid (Y7.out.trans (hb1.mono Y7.out.size)); clear hb1; obtain ⟨c1, c2, c3, c4, s1, s2⟩ := X8.out
        go_wp2_with fail
        clear c1 c2 c3 c4 s1 s2
        refine (shown_ _ (HT.out.later Y8.out (Nat.le_refl _))).mono ?_; rintro e w8 ⟨rfl, hb1⟩
        have Y9 := Lib.hid (Y8.out.trans (hb1.mono Y8.out.size)); clear hb1
        go_wp2_with fail
        go_ret
        exact ⟨rfl, Y9.out⟩
end Go.Proofs.YtnplcephmidjbaaDoor
