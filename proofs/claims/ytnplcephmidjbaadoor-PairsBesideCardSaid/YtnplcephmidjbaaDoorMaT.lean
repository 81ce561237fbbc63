/- Texts of this claim, laid together: PrNeed, PrFewP, PrOrdP, PrBsP, PrBsM, PrMarkP, PrPrep, PrRNeed, PrBound, PrShP. -/
import Derived.Test.YtnplcephmidjbaaDoorMaA
import Derived.Test.YtnplcephmidjbaaDoorMaB
import Derived.Test.YtnplcephmidjbaaDoorMaG
import Derived.Test.YtnplcephmidjbaaDoorMaN
import Derived.Test.YtnplcephmidjbaaDoorMaO
import Derived.Test.YtnplcephmidjbaaDoorMaP
import Derived.Test.YtnplcephmidjbaaDoorMaQ
import Derived.Test.YtnplcephmidjbaaDoorMaR
import Derived.BigRegion
import Derived.Deep.RegionLaw
/- Package pairs: the need of what is not done, as Fewest's function finds it, with what it knows. -/
namespace Go.Proofs.YtnplcephmidjbaaDoor
open Go.RowKit

/-- The need, of a sheet's places. -/
def nedN (q : Nat → Nat) (n S : Nat) : Nat := ndN n (befT q) (hngS q n) S
/-- The value of Fewest's function. -/
def needV (wa pa na : Nat) : Value := .func (.func 33) #[] #[.pointer (some ⟨wa, 0, none⟩), .pointer (some ⟨pa, 0, none⟩), .pointer (some ⟨na, 0, none⟩)]
/-- What Fewest's function sees: all works, the plan, itself. -/
structure PlanAt (w : World) (wa pa na R mb b cap : Nat) (A : Option Addr) (q : Nat → Nat) (n : Nat) : Prop where
  all : w.cell? ⟨wa, 0, none⟩ = some (.int .u64 ((2 ^ n - 1 : Nat) : Int))
  plan : w.cell? ⟨pa, 0, none⟩ = some (.pointer (some ⟨R, 0, none⟩))
  self : w.cell? ⟨na, 0, none⟩ = some (needV wa pa na)
  pl : PlB w R (.slice A n cap) (tkS q n) mb
  at_ : 0 < n → A = some ⟨b, 0, none⟩
  bef : ∀ i, i < n → w.cell? ⟨b, i, none⟩ = some (.int .u64 (befT q i : Int))
  good : MapOk w mb .u64 .i64 (fun z => (nedN q n z.toNat : Int))
  tz : Tz w
  ne : wa ≠ mb ∧ pa ≠ mb ∧ na ≠ mb ∧ R ≠ mb ∧ b ≠ mb ∧ 1 ≠ mb
theorem PlanAt.kept {w w' : World} {wa pa na R mb b cap n : Nat} {A : Option Addr} {q : Nat → Nat} (h : PlanAt w wa pa na R mb b cap A q n) (hg : w.grownBy w' (some mb)) (hm : MapOk w' mb .u64 .i64 (fun z => (nedN q n z.toNat : Int))) : PlanAt w' wa pa na R mb b cap A q n := by
  obtain ⟨n1, n2, n3, n4, n5, n6⟩ := h.ne
  exact ⟨GB.cell hg h.all n1, GB.cell hg h.plan n2, GB.cell hg h.self n3, h.pl.kept hg (by simpa using n4), h.at_, fun i hi => GB.cell hg (h.bef i hi) n5, hm, fun j hj => GB.cell hg (h.tz j hj) n6, h.ne⟩
theorem PlanAt.later {w w' : World} {wa pa na R mb b cap n : Nat} {A : Option Addr} {q : Nat → Nat} (h : PlanAt w wa pa na R mb b cap A q n) (hb : Below w.heap.size w w') : PlanAt w' wa pa na R mb b cap A q n :=
  ⟨below_at hb (Nat.le_refl _) h.all, below_at hb (Nat.le_refl _) h.plan, below_at hb (Nat.le_refl _) h.self, h.pl.later hb, h.at_, fun i hi => below_at hb (Nat.le_refl _) (h.bef i hi), h.good.later hb, h.tz.later hb (Nat.le_refl _), h.ne⟩
theorem PlanAt.drew {w : World} {wa pa na R mb b cap n : Nat} {A : Option Addr} {q : Nat → Nat} (h : PlanAt w wa pa na R mb b cap A q n) : PlanAt w.drew wa pa na R mb b cap A q n :=
  ⟨h.all, h.plan, h.self, h.pl, h.at_, h.bef, h.good, h.tz, h.ne⟩

theorem andNot_nat (a b : Nat) (ha : a < 2 ^ 64) (hb : b < 2 ^ 64) : ∃ x : Nat, bits .andNot .u64 (a : Int) (b : Int) = (x : Int) ∧ x < 2 ^ 64 ∧ ∀ i, x.testBit i = (a.testBit i && !b.testBit i) := by
  have h1 : (BitVec.ofInt 64 (a : Int)).toNat = a := by
    rw [BitVec.ofInt_natCast, BitVec.toNat_ofNat]; exact Nat.mod_eq_of_lt ha
  have h2 : (BitVec.ofInt 64 (b : Int)).toNat = b := by
    rw [BitVec.ofInt_natCast, BitVec.toNat_ofNat]; exact Nat.mod_eq_of_lt hb
  refine ⟨(BitVec.ofInt 64 (a : Int) &&& ~~~ BitVec.ofInt 64 (b : Int)).toNat, ?_, BitVec.isLt _, fun i => ?_⟩
  · show IntKind.u64.wrap ((BitVec.ofInt 64 (a : Int) &&& ~~~ BitVec.ofInt 64 (b : Int)).toNat : Int) = _
    exact wraps64 _ (Int.natCast_nonneg _) (by have := (BitVec.ofInt 64 (a : Int) &&& ~~~ BitVec.ofInt 64 (b : Int)).isLt; omega)
  · rw [BitVec.toNat_and, BitVec.toNat_not, h1, h2, Nat.testBit_and, Nat.sub_sub, Nat.add_comm 1 b, Nat.testBit_two_pow_sub_succ hb]
    by_cases hi : i < 64
    · rw [decide_eq_true hi, Bool.true_and]
    · rw [decide_eq_false hi, Nat.testBit_lt_two_pow (Nat.lt_of_lt_of_le ha (Nat.pow_le_pow_right (by decide) (by omega)))]
      rfl
theorem and_nat (a b : Nat) (ha : a < 2 ^ 64) (hb : b < 2 ^ 64) : bits .and .u64 (a : Int) (b : Int) = ((a &&& b : Nat) : Int) := (bits_nat .u64 64 (by decide) wraps64 a b ha hb).1

set_option maxRecDepth 100000 in
set_option maxHeartbeats 4000000 in
theorem need_ (wa pa na R mb b cap n : Nat) (A : Option Addr) (q : Nat → Nat) (hn : n ≤ 14) : ∀ (m S : Nat) (w : World), miss n S ≤ m → S < 2 ^ n → PlanAt w wa pa na R mb b cap A q n →
    Calls Tryd.prog 33 #[.int .u64 (S : Int), .pointer (some ⟨wa, 0, none⟩), .pointer (some ⟨pa, 0, none⟩), .pointer (some ⟨na, 0, none⟩)] w fun e w' => e = .returned (.int .i64 (nedN q n S : Int)) ∧ PlanAt w' wa pa na R mb b cap A q n ∧ w.grownBy w' (some mb) := by
  intro m
  induction m using Nat.strongRecOn with
  | _ m ih =>
    intro S w hms hS hC
    have IH := Lib.hid ih; clear ih
    have c0 := hC.all
    have c1 := hC.plan
    have c2 := hC.self
    have c3 := hC.pl.at25
    have hRl := hC.pl.lt
    have hwl := World.block_lt_of_cell? w _ c0
    have hpl := World.block_lt_of_cell? w _ c1
    have hnl := World.block_lt_of_cell? w _ c2
    have h2n : 2 ^ n ≤ 2 ^ 14 := Nat.pow_le_pow_right (by decide) hn
    have h2p := Nat.two_pow_pos n
    have hA64 : 2 ^ n - 1 < 2 ^ 64 := by omega
    have hS64 : S < 2 ^ 64 := by omega
    by_cases hfull : S = 2 ^ n - 1
    · have hb0 : ((S : Int) == ((2 ^ n - 1 : Nat) : Int)) = true := by rw [hfull]; simp
      have hr : nedN q n S = 0 := by unfold nedN; rw [hfull]; exact ndN_full _ _ _
      generalize 2 ^ n - 1 = al at *
      clear hfull
      have HR := Lib.hid hr; have HC := Lib.hid hC; have HA64 := Lib.hid hA64; have HS64 := Lib.hid hS64; have H2N := Lib.hid h2n; have H2P := Lib.hid h2p; have HS := Lib.hid hS; clear hr hC hA64 hS64 h2n h2p hS
      go_enter Tryd.func33, Tryd.ntmps33
      go_wp2
      go_ret
      exact ⟨ret_int (by rw [HR.out]; rfl), HC.out, World.grownBy.refl _ _⟩
    · have hb0 : ((S : Int) == ((2 ^ n - 1 : Nat) : Int)) = false := beq_eq_false_iff_ne.2 (by omega)
      have hz : (zeroValue 3).run Tryd.prog w = .ok (.int .i64 0) w := by kernel_rfl
      rcases hC.good.lookup Tryd.underlying64 Tryd.underlying46 hz (S : Int) with hl | hl
      · simp only [Int.toNat_natCast] at hl
        generalize 2 ^ n - 1 = al at *
        have HC := Lib.hid hC; have HA64 := Lib.hid hA64; have HS64 := Lib.hid hS64; have H2N := Lib.hid h2n; have H2P := Lib.hid h2p; have HS := Lib.hid hS; clear hC hA64 hS64 h2n h2p hS
        clear hfull hz
        go_enter Tryd.func33, Tryd.ntmps33
        go_wp2
        go_ret
        exact ⟨rfl, HC.out, World.grownBy.refl _ _⟩
      · have hn0 : 0 < n := by
          rcases Nat.eq_zero_or_pos n with h0 | h0
          · subst h0; simp at hS hfull; omega
          · exact h0
        obtain rfl := hC.at_ hn0
        obtain ⟨x0, hx0, hx64, hxb⟩ := andNot_nat (2 ^ n - 1) S hA64 hS64
        have hleft : LeftIs n S 0 x0 := fun i => by
          rw [hxb i, Nat.testBit_two_pow_sub_one]; simp
        have hst := ndN_step n (befT q) (hngS q n) S hfull
        generalize hal : 2 ^ n - 1 = al at *
        have HC := Lib.hid hC; have HA64 := Lib.hid hA64; have HS64 := Lib.hid hS64; have H2N := Lib.hid h2n; have H2P := Lib.hid h2p; have HS := Lib.hid hS; have HXB := Lib.hid hxb; have HX64 := Lib.hid hx64; have HLEFT := Lib.hid hleft; have HST := Lib.hid hst; have HAL := Lib.hid hal; clear hC hA64 hS64 h2n h2p hS hxb hx64 hleft hst hal
        clear hfull
        go_enter Tryd.func33, Tryd.ntmps33
        go_wp2
        clear c0 c1 c2 c3 hRl hwl hpl hnl hl hz hb0 hx0
        go_loopw [8, 9] (fun bv lv wr => ∃ k x : Nat, lv = .int .u64 (x : Int) ∧ k ≤ n ∧ LeftIs n S k x ∧ bv = .int .i64 (minF (nedN q n) (hngS q n) (befT q) S k : Int) ∧ PlanAt wr wa pa na R mb b cap (some ⟨b, 0, none⟩) q n ∧ w.grownBy wr (some mb)) (fun _ lv _ => (intOf lv).toNat)
        case atStart => exact ⟨0, x0, rfl, Nat.zero_le _, HLEFT.out, rfl, HC.out, World.grownBy.refl _ _⟩
        case round =>
          obtain ⟨k, x, rfl, hk, hlf, rfl, hP, hgr⟩ := hrel
          have d0 := hP.all
          have d1 := hP.plan
          have d2 := hP.self
          have d25 := hP.pl.at25
          have d3 := hP.pl.at0
          have hmin := minF_le (nedN q n) (hngS q n) (befT q) S k
          have hms := fun i => minF_succ (nedN q n) (hngS q n) (befT q) S i
          by_cases hx : x = 0
          · subst hx
            have hfin : nedN q n S = minF (nedN q n) (hngS q n) (befT q) S k := by
              have h1 := HST.out
              have h2 := minF_skip (g := nedN q n) (h := hngS q n) (bef := befT q) (S := S) (k := k) (n - k) fun i h1 h2 => hlf.zero rfl i h1 (by omega)
              rw [show k + (n - k) = n by omega] at h2
              unfold nedN at h2 ⊢
              rw [h1, ← h2]
            generalize minF (nedN q n) (hngS q n) (befT q) S k = mk at *
            clear d0 d2 hms
            have HFIN := Lib.hid hfin; have HLF := Lib.hid hlf; have HP := Lib.hid hP; have HGR := Lib.hid hgr; clear hfin hlf hP hgr
            go_wp2_with (at_mapUpdate; refine wpList_upd_ok _ rfl _ _ _ 64 rfl 46 3 Tryd.underlying64 Tryd.underlying46 mb rfl HP.out.good (S : Int) rfl (by show Value.int IntKind.i64 (mk : Int) = _; rw [Int.toNat_natCast, HFIN.out]) ?_; intro w3 hgood3 hgr3)
            go_ret
            exact ⟨ret_int (by rw [HFIN.out]), HP.out.kept hgr3 hgood3, gtr HGR.out hgr3⟩
          · have hx1 : ((x : Int) != 0) = true := by simpa using hx
            obtain ⟨wk, hwb, hwl, hwn⟩ := low_bit hx
            obtain ⟨g1, g2, g3, g4, g5⟩ := hlf.next hwb hwl hwn
            have hx64 : x < 2 ^ 64 := Nat.lt_of_lt_of_le hlf.lt (Nat.le_trans H2N.out (Nat.pow_le_pow_right (by decide) (by decide)))
            have htz := fun W h => tz_ x hx64 W h
            rw [ctz_iff hx64 hwb hwl] at htz
            have hskip := minF_skip (g := nedN q n) (h := hngS q n) (bef := befT q) (S := S) (k := k) (wk - k) fun i h1 h2 => g4 i h1 (by omega)
            rw [show k + (wk - k) = wk by omega] at hskip
            have hm1 := hms wk
            rw [hskip] at hm1
            have e1 : IntKind.u64.wrap ((x : Int) - 1) = ((x - 1 : Nat) : Int) := by
              rw [show (x : Int) - 1 = ((x - 1 : Nat) : Int) by omega]
              exact wraps64 _ (Int.natCast_nonneg _) (by omega)
            have e2 := and_nat x (x - 1) hx64 (by omega)
            have hdec : x &&& (x - 1) < x := by
              have := Nat.and_le_right (n := x) (m := x - 1)
              omega
            have hbf := hP.bef wk g2
            have hbl := World.block_lt_of_cell? wr _ hbf
            have z1 : (0 : Int) ≤ (wk : Int) := by omega
            have z2 : (wk : Int) < (n : Int) := by omega
            have z3 : (wk : Int) < 64 := by omega
            have hbf64 : befT q wk < 2 ^ 64 := Nat.lt_of_lt_of_le (befT_lt q wk) (Nat.pow_le_pow_right (by decide) (by omega))
            have e3 := bits_andnot .u64 64 (by decide) wraps64 (befT q wk) S hbf64 HS64.out
            have hfr : freeB (befT q) S wk = decide (befT q wk &&& S = befT q wk) := by unfold freeB; rw [g3]; rfl
            rw [hfr] at hm1
            have htz2 := htz wr hP.tz
            generalize hx2 : x &&& (x - 1) = x2 at *
            generalize x - 1 = xm at *
            generalize hmk : minF (nedN q n) (hngS q n) (befT q) S k = mk at *
            clear hms hskip htz hfr
            cases hd : decide (befT q wk &&& S = befT q wk) with
            | false =>
              rw [hd] at e3 hm1
              rw [if_neg (by decide)] at hm1
              generalize befT q wk = bw at *
              clear d0 d2 d25 z3 hd
              have HM1 := Lib.hid hm1; have HLF := Lib.hid hlf; have HP := Lib.hid hP; have HGR := Lib.hid hgr; have HWB := Lib.hid hwb; have HWL := Lib.hid hwl; have HWN := Lib.hid hwn; have G3 := Lib.hid g3; have G4 := Lib.hid g4; have G5 := Lib.hid g5; have HX64 := Lib.hid hx64; have HDEC := Lib.hid hdec; have HBF64 := Lib.hid hbf64; have HTZ2 := Lib.hid htz2; have HX2 := Lib.hid hx2; have HMK := Lib.hid hmk; clear hm1 hlf hP hgr hwb hwl hwn g3 g4 g5 hx64 hdec hbf64 htz2 hx2 hmk
              go_wp2_with (go_at_call 28; refine HTZ2.out.mono ?_; rintro e w9 ⟨rfl, rfl⟩)
              go_roundw
              case rel => exact ⟨wk + 1, x2, rfl, by omega, G5.out, by rw [HM1.out], HP.out, HGR.out⟩
              case measure =>
                have := HDEC.out
                simp [intOf]; omega
            | true =>
              rw [hd] at e3 hm1
              rw [if_pos rfl] at hm1
              have e4 := pow_wrap wk (by omega)
              have e5 := bit_set .u64 64 (by decide) wraps64 S wk HS64.out (by omega)
              have hs2 : S ||| 2 ^ wk < 2 ^ n := Nat.or_lt_two_pow HS.out (Nat.pow_lt_pow_right (by decide) g2)
              have hmiss := miss_set g2 g3
              have hhl := hngS_le q n S wk
              have hnl : nedN q n (S ||| 2 ^ wk) ≤ 25 := ndN_le _ _ _ _
              have hhang := fun v W h => hanging_ R mb S wk n q v W (by omega) HS.out g2 h
              have hneed := fun W h => IH.out (miss n (S ||| 2 ^ wk)) (by omega) (S ||| 2 ^ wk) W (Nat.le_refl _) hs2 h
              generalize S ||| 2 ^ wk = s2 at *
              generalize befT q wk = bw at *
              generalize hngS q n S wk = hv at *
              generalize nedN q n s2 = nv at *
              have d2' : wr.cell? ⟨na, 0, none⟩ = some (.func (.func 33) #[] #[.pointer (some ⟨wa, 0, none⟩), .pointer (some ⟨pa, 0, none⟩), .pointer (some ⟨na, 0, none⟩)]) := d2
              clear d0 d2 d25 hd
              have HM1 := Lib.hid hm1; have HLF := Lib.hid hlf; have HP := Lib.hid hP; have HGR := Lib.hid hgr; have HWB := Lib.hid hwb; have HWL := Lib.hid hwl; have HWN := Lib.hid hwn; have G3 := Lib.hid g3; have G4 := Lib.hid g4; have G5 := Lib.hid g5; have HX64 := Lib.hid hx64; have HDEC := Lib.hid hdec; have HBF64 := Lib.hid hbf64; have HTZ2 := Lib.hid htz2; have HX2 := Lib.hid hx2; have HMK := Lib.hid hmk; have HS2 := Lib.hid hs2; have HMISS := Lib.hid hmiss; have HHANG := Lib.hid hhang; have HNEED := Lib.hid hneed; clear hm1 hlf hP hgr hwb hwl hwn g3 g4 g5 hx64 hdec hbf64 htz2 hx2 hmk hs2 hmiss hhang hneed
              go_upto_region 12 with (go_at_call 28; refine HTZ2.out.mono ?_; rintro e w9 ⟨rfl, rfl⟩)
              go_region_held3 (fun wX => wX.cell? ⟨pa, 0, none⟩ = some (.pointer (some ⟨R, 0, none⟩)) ∧ wX.cell? ⟨na, 0, none⟩ = some (.func (.func 33) #[] #[.pointer (some ⟨wa, 0, none⟩), .pointer (some ⟨pa, 0, none⟩), .pointer (some ⟨na, 0, none⟩)]) ∧ PlanAt wX wa pa na R mb b cap (some ⟨b, 0, none⟩) q n ∧ wr.grownBy wX (some mb)) (first | exact ⟨d1, d2', HP.out.drew, GB.drew (World.grownBy.refl _ _)⟩ | exact ‹_ ∧ _ ∧ PlanAt _ wa pa na R mb b cap (some ⟨b, 0, none⟩) q n ∧ _› | exact ⟨hP2.plan, hP2.self, hP2, gtr (GB.drew (World.grownBy.refl _ _)) hg2⟩) (first | (go_at_call 34; refine (HHANG.out _ _ (by first | exact HP.out.drew.pl | exact hP2.pl)).mono ?_; rintro e w2 ⟨rfl, rfl⟩) | (go_at_call 33; refine (HNEED.out _ HP.out.drew).mono ?_; rintro e w2 ⟨rfl, hP2, hg2⟩))
              have hS3 : PlanAt w2 wa pa na R mb b cap (some ⟨b, 0, none⟩) q n ∧ wr.grownBy w2 (some mb) := ⟨hP2, gtr (GB.drew (World.grownBy.refl _ _)) hg2⟩
              have hres : (if (if hv < nv then (nv : Int) else (hv : Int)) < (mk : Int) then (if hv < nv then (nv : Int) else (hv : Int)) else (mk : Int)) = ((min mk (max hv nv) : Nat) : Int) := by
                split <;> split <;> omega
              rw [hres]
              clear hP2 hg2 hres
              have HS3 := Lib.hid hS3; clear hS3
              go_wp2
              go_roundw
              case rel => exact ⟨wk + 1, x2, rfl, by omega, G5.out, by rw [HM1.out], HS3.out.1, gtr HGR.out HS3.out.2⟩
              case measure =>
                have := HDEC.out
                simp [intOf]; omega
end Go.Proofs.YtnplcephmidjbaaDoor
/- Fewest of package pairs in plain Lean: the order that is found. -/
namespace Go.Proofs.YtnplcephmidjbaaDoor

theorem miss_above (n S k : Nat) (hk : n ≤ k) : miss n (S ||| 2 ^ k) = miss n S := by
  unfold miss
  refine List.countP_congr fun i hi => ?_
  have := List.mem_range.1 hi
  rw [testBit_set, decide_eq_false (by omega), Bool.or_false]
theorem miss_succ (n S : Nat) : miss (n + 1) S = miss n S + if S.testBit n = true then 0 else 1 := by
  unfold miss
  rw [List.range_succ, List.countP_append]
  cases h : S.testBit n <;> simp [h]
theorem miss_set1 {S k : Nat} (h : S.testBit k = false) : ∀ n, k < n → miss n (S ||| 2 ^ k) + 1 = miss n S
  | 0, hk => absurd hk (by omega)
  | n + 1, hk => by
    rw [miss_succ, miss_succ]
    by_cases hkn : k = n
    · subst hkn; rw [miss_above _ _ _ (Nat.le_refl _), testBit_set, h]; simp
    · have := miss_set1 h n (by omega)
      rw [testBit_set, decide_eq_false hkn, Bool.or_false]
      omega
theorem full_iff {n S : Nat} (hS : S < 2 ^ n) : S = 2 ^ n - 1 ↔ ∀ i, i < n → S.testBit i = true := by
  constructor
  · intro h i hi
    rw [h, Nat.testBit_two_pow_sub_one, decide_eq_true hi]
  · intro h
    apply Nat.eq_of_testBit_eq
    intro i
    rw [Nat.testBit_two_pow_sub_one]
    by_cases hi : i < n
    · rw [h i hi, decide_eq_true hi]
    · rw [decide_eq_false hi]
      exact Nat.testBit_lt_two_pow (Nat.lt_of_lt_of_le hS (Nat.pow_le_pow_right (by decide) (by omega)))
theorem miss_zero {n S : Nat} (hS : S < 2 ^ n) : miss n S = 0 ↔ S = 2 ^ n - 1 := by
  rw [full_iff hS]
  unfold miss
  rw [List.countP_eq_zero]
  constructor
  · intro h i hi
    have := h i (List.mem_range.2 hi)
    simpa using this
  · intro h i hi
    simp [h i (List.mem_range.1 hi)]
theorem miss_none (n : Nat) : miss n 0 = n := by
  induction n with
  | zero => rfl
  | succ n ih => rw [miss_succ, ih]; simp
/-- The least work that is not done. -/
theorem undone {n S : Nat} (hS : S < 2 ^ n) (hne : S ≠ 2 ^ n - 1) : ∃ k, k < n ∧ S.testBit k = false ∧ ∀ j, j < k → S.testBit j = true := by
  have key : ∀ m, m ≤ n → (∃ k, k < m ∧ S.testBit k = false ∧ ∀ j, j < k → S.testBit j = true) ∨ ∀ j, j < m → S.testBit j = true := by
    intro m
    induction m with
    | zero => exact fun _ => .inr fun j hj => absurd hj (by omega)
    | succ m ih =>
      intro hm
      rcases ih (by omega) with ⟨k, h1, h2⟩ | h
      · exact .inl ⟨k, by omega, h2⟩
      · cases hb : S.testBit m with
        | false => exact .inl ⟨m, by omega, hb, h⟩
        | true =>
          refine .inr fun j hj => ?_
          rcases Nat.lt_succ_iff_lt_or_eq.1 hj with hj | rfl
          · exact h j hj
          · exact hb
  rcases key n (Nat.le_refl _) with h | h
  · exact h
  · exact absurd ((full_iff hS).2 h) hne
theorem undone_free {q : Nat → Nat} {S k : Nat} (h : S.testBit k = false) (hl : ∀ j, j < k → S.testBit j = true) : freeB (befT q) S k = true := by
  unfold freeB
  rw [h, Bool.not_false, Bool.true_and, decide_eq_true_eq]
  apply Nat.eq_of_testBit_eq
  intro i
  rw [Nat.testBit_and, befT_bit]
  by_cases hi : i < k
  · rw [hl i hi, Bool.and_true]
  · rw [decide_eq_false hi]; rfl
theorem minF_le_iff {g : Nat → Nat} {h : Nat → Nat → Nat} {bef : Nat → Nat} {S v : Nat} (hv : v ≤ 24) : ∀ n, minF g h bef S n ≤ v ↔ ∃ k, k < n ∧ freeB bef S k = true ∧ h S k ≤ v ∧ g (S ||| 2 ^ k) ≤ v
  | 0 => by
    unfold minF
    constructor
    · intro h; omega
    · rintro ⟨k, hk, _⟩; omega
  | n + 1 => by
    have ih := minF_le_iff (g := g) (h := h) (bef := bef) (S := S) hv n
    rw [minF_succ]
    by_cases hf : freeB bef S n = true
    · rw [if_pos hf]
      constructor
      · intro hm
        by_cases hc : minF g h bef S n ≤ v
        · obtain ⟨k, h1, h2⟩ := ih.1 hc; exact ⟨k, by omega, h2⟩
        · exact ⟨n, by omega, hf, by omega, by omega⟩
      · rintro ⟨k, h1, h2, h3, h4⟩
        rcases Nat.lt_succ_iff_lt_or_eq.1 h1 with h1 | rfl
        · have := ih.2 ⟨k, h1, h2, h3, h4⟩; omega
        · omega
    · rw [if_neg hf, ih]
      constructor
      · rintro ⟨k, h1, h2⟩; exact ⟨k, by omega, h2⟩
      · rintro ⟨k, h1, h2, h3⟩
        rcases Nat.lt_succ_iff_lt_or_eq.1 h1 with h1 | rfl
        · exact ⟨k, h1, h2, h3⟩
        · exact absurd h2 hf
theorem nedN_le24 (q : Nat → Nat) (n : Nat) : ∀ m S, miss n S ≤ m → S < 2 ^ n → nedN q n S ≤ 24 := by
  intro m
  induction m with
  | zero =>
    intro S hm hS
    rw [(miss_zero hS).1 (by omega)]
    unfold nedN
    rw [ndN_full]
    omega
  | succ m ih =>
    intro S hm hS
    by_cases hf : S = 2 ^ n - 1
    · rw [hf]; unfold nedN; rw [ndN_full]; omega
    · obtain ⟨k, h1, h2, h3⟩ := undone hS hf
      have := miss_set1 h2 n h1
      have h4 := ih (S ||| 2 ^ k) (by omega) (Nat.or_lt_two_pow hS (Nat.pow_lt_pow_right (by decide) h1))
      unfold nedN at *
      rw [ndN_step _ _ _ _ hf]
      exact (minF_le_iff (Nat.le_refl _) n).2 ⟨k, h1, undone_free h2 h3, hngS_le _ _ _ _, h4⟩
/-- May a work be next on the way to the best need? -/
def okW (q : Nat → Nat) (n best S k : Nat) : Bool := freeB (befT q) S k && (decide (hngS q n S k ≤ best) && decide (nedN q n (S ||| 2 ^ k) ≤ best))
theorem okW_some {q : Nat → Nat} {n best S : Nat} (hb : best ≤ 24) (hne : S ≠ 2 ^ n - 1) (hn : nedN q n S ≤ best) : ∃ k, k < n ∧ okW q n best S k = true := by
  unfold nedN at hn
  rw [ndN_step _ _ _ _ hne] at hn
  obtain ⟨k, h1, h2, h3, h4⟩ := (minF_le_iff hb n).1 hn
  refine ⟨k, h1, ?_⟩
  unfold okW nedN
  rw [h2, decide_eq_true h3, decide_eq_true h4]
  rfl
theorem okW_ned {q : Nat → Nat} {n best S k : Nat} (h : okW q n best S k = true) : nedN q n (S ||| 2 ^ k) ≤ best := by
  unfold okW at h
  simp only [Bool.and_eq_true, decide_eq_true_eq] at h
  exact h.2.2
theorem okW_bit {q : Nat → Nat} {n best S k : Nat} (h : okW q n best S k = true) : S.testBit k = false := by
  unfold okW at h
  simp only [Bool.and_eq_true] at h
  exact freeB_bit h.1
/-- The order, from S on, of m works at most. -/
def fewF (q : Nat → Nat) (n best : Nat) : Nat → Nat → List Int
  | 0, _ => []
  | m + 1, S => match (List.range n).find? (okW q n best S) with
    | some k => (k : Int) :: fewF q n best m (S ||| 2 ^ k)
    | none => []
theorem find_range {p : Nat → Bool} {n k : Nat} (hk : k < n) (hp : p k = true) (hl : ∀ j, j < k → p j = false) : (List.range n).find? p = some k := by
  rw [List.find?_range_eq_some]
  exact ⟨hp, List.mem_range.2 hk, fun j hj => by rw [hl j hj]; rfl⟩
theorem fewF_step {q : Nat → Nat} {n best S k : Nat} (m : Nat) (hk : k < n) (hp : okW q n best S k = true) (hl : ∀ j, j < k → okW q n best S j = false) : fewF q n best (m + 1) S = (k : Int) :: fewF q n best m (S ||| 2 ^ k) := by
  show (match (List.range n).find? (okW q n best S) with | some k => (k : Int) :: fewF q n best m (S ||| 2 ^ k) | none => []) = _
  rw [find_range hk hp hl]
/-- What Fewest returns. -/
def fewX (p : Int) (ws : List GW) : Int := if errSheet p ws = 0 then (if 14 < ws.length then 3 else 0) else errSheet p ws
def fewN (p : Int) (ws : List GW) : Nat := if fewX p ws = 0 then nedN (plsOf ws) ws.length 0 else 0
def fewL (p : Int) (ws : List GW) : List Int := if fewX p ws = 0 then fewF (plsOf ws) ws.length (nedN (plsOf ws) ws.length 0) ws.length 0 else []
end Go.Proofs.YtnplcephmidjbaaDoor
/- Orders and the need, in plain Lean: what an order needs, the need of Fewest, the least order; the places of a mark hang. -/
namespace Go.Proofs.YtnplcephmidjbaaDoor

theorem touch_tP (a b : Nat) : touchB (a : Int) (b : Int) = tP a b := by
  unfold touchB tP
  rw [decide_eq_decide]
  omega
theorem free_tP (q : Nat → Nat) (S k : Nat) : freeB (befT q) S k = true ↔ S.testBit k = false ∧ ∀ a, a < k → tP (q a) (q k) = true → S.testBit a = true := by
  rw [free_iff]
  refine and_congr_right fun _ => ?_
  constructor
  · intro h a ha ht; exact h a ha (by rw [touch_tP]; exact ht)
  · intro h a ha ht; exact h a ha (by rw [← touch_tP]; exact ht)
theorem val_cons {n : Nat} {q : Nat → Nat} {S : Nat} {x : Int} {l : List Int} : (oRun n q S (x :: l)).isSome = true ↔ (0 ≤ x ∧ x < n ∧ freeB (befT q) S x.toNat = true) ∧ (oRun n q (S ||| 2 ^ x.toNat) l).isSome = true := by
  have e : oRun n q S (x :: l) = match oStep n q S x with | some S' => oRun n q S' l | none => none := rfl
  rw [e]
  unfold oStep
  by_cases h : 0 ≤ x ∧ x < n ∧ S.testBit x.toNat = false ∧ ∀ a, a < x.toNat → tP (q a) (q x.toNat) = true → S.testBit a = true
  · rw [if_pos h]
    constructor
    · intro h2; exact ⟨⟨h.1, h.2.1, (free_tP q S _).2 h.2.2⟩, h2⟩
    · intro h2; exact h2.2
  · rw [if_neg h]
    constructor
    · intro h2; cases h2
    · rintro ⟨⟨h1, h2, h3⟩, _⟩
      exact absurd ⟨h1, h2, (free_tP q S _).1 h3⟩ h
/-- What a way needs. -/
def wlkN (q : Nat → Nat) (n : Nat) : Nat → List Int → Nat
  | _, [] => 0
  | S, x :: l => max (hngS q n S x.toNat) (wlkN q n (S ||| 2 ^ x.toNat) l)
theorem wlkN_le24 (q : Nat → Nat) (n : Nat) : ∀ l S, wlkN q n S l ≤ 24
  | [], _ => Nat.zero_le _
  | x :: l, S => by
    have h1 := hngS_le q n S x.toNat
    have h2 := wlkN_le24 q n l (S ||| 2 ^ x.toNat)
    unfold wlkN; omega
theorem set_lt {n S : Nat} {x : Int} (hS : S < 2 ^ n) (h0 : 0 ≤ x) (hx : x < n) : S ||| 2 ^ x.toNat < 2 ^ n := Nat.or_lt_two_pow hS (Nat.pow_lt_pow_right (by decide) (by omega))
theorem ned_walk (q : Nat → Nat) (n : Nat) : ∀ (l : List Int) (S : Nat), S < 2 ^ n → (oRun n q S l).isSome = true → l.length = miss n S → nedN q n S ≤ wlkN q n S l
  | [], S, hS, _, hl => by
    rw [(miss_zero hS).1 hl.symm]
    unfold nedN
    rw [ndN_full]
    exact Nat.zero_le _
  | x :: l, S, hS, hv, hl => by
    obtain ⟨⟨h0, hx, hf⟩, hv2⟩ := val_cons.1 hv
    have hb := freeB_bit hf
    have hm := miss_set1 hb n (by omega)
    have hne : S ≠ 2 ^ n - 1 := fun e => by
      have := (full_iff hS).1 e x.toNat (by omega)
      rw [hb] at this; cases this
    simp only [List.length_cons] at hl
    have ih := ned_walk q n l (S ||| 2 ^ x.toNat) (set_lt hS h0 hx) hv2 (by omega)
    have h24 := wlkN_le24 q n (x :: l) S
    have e : nedN q n S = minF (nedN q n) (hngS q n) (befT q) S n := ndN_step _ _ _ _ hne
    rw [e]
    refine (minF_le_iff h24 n).2 ⟨x.toNat, by omega, hf, ?_, ?_⟩
    · unfold wlkN; omega
    · unfold wlkN; omega
theorem few_walk (q : Nat → Nat) (n best : Nat) (hb : best ≤ 24) : ∀ (m S : Nat), S < 2 ^ n → miss n S = m → nedN q n S ≤ best →
    (oRun n q S (fewF q n best m S)).isSome = true ∧ (fewF q n best m S).length = m ∧ wlkN q n S (fewF q n best m S) ≤ best
  | 0, S, _, _, _ => ⟨rfl, rfl, Nat.zero_le _⟩
  | m + 1, S, hS, hm, hn => by
    have hne : S ≠ 2 ^ n - 1 := fun e => by have := (miss_zero hS).2 e; omega
    obtain ⟨k0, hk0, hok0⟩ := okW_some hb hne hn
    obtain ⟨k, hk, hok, hfst⟩ : ∃ k, k < n ∧ okW q n best S k = true ∧ ∀ j, j < k → okW q n best S j = false := by
      have key : ∀ m, okW q n best S m = true → m < n → ∃ k, k < n ∧ okW q n best S k = true ∧ ∀ j, j < k → okW q n best S j = false := by
        intro m
        induction m using Nat.strongRecOn with
        | _ m ih =>
          intro h1 h2
          by_cases hj : ∃ j, j < m ∧ okW q n best S j = true
          · obtain ⟨j, hj1, hj2⟩ := hj; exact ih j hj1 hj2 (by omega)
          · refine ⟨m, h2, h1, fun j hj2 => ?_⟩
            cases h : okW q n best S j with
            | false => rfl
            | true => exact absurd ⟨j, hj2, h⟩ hj
      exact key k0 hok0 hk0
    rw [fewF_step m hk hok hfst]
    have hbit := okW_bit hok
    have hms := miss_set1 hbit n hk
    have hS2 : S ||| 2 ^ k < 2 ^ n := Nat.or_lt_two_pow hS (Nat.pow_lt_pow_right (by decide) hk)
    obtain ⟨i1, i2, i3⟩ := few_walk q n best hb m (S ||| 2 ^ k) hS2 (by omega) (okW_ned hok)
    have hfr : freeB (befT q) S k = true ∧ hngS q n S k ≤ best := by
      unfold okW at hok
      simp only [Bool.and_eq_true, decide_eq_true_eq] at hok
      exact ⟨hok.1, hok.2.1⟩
    refine ⟨val_cons.2 ⟨⟨by omega, by omega, hfr.1⟩, i1⟩, by rw [List.length_cons, i2], ?_⟩
    show max (hngS q n S k) (wlkN q n (S ||| 2 ^ k) (fewF q n best m (S ||| 2 ^ k))) ≤ best
    omega
/-- The order that is found is the least one of those that need no more. -/
theorem few_first (q : Nat → Nat) (n best : Nat) (hb : best ≤ 24) : ∀ (l : List Int) (S : Nat), S < 2 ^ n → (oRun n q S l).isSome = true → l.length = miss n S → wlkN q n S l ≤ best → nedN q n S ≤ best →
    ∀ i, i < l.length → (∀ j, j < i → (fewF q n best (miss n S) S).getD j 0 = l.getD j 0) → (fewF q n best (miss n S) S).getD i 0 ≤ l.getD i 0
  | [], _, _, _, _, _, _ => fun i hi => absurd hi (by simp)
  | x :: l, S, hS, hv, hl, hw, hn => by
    intro i hi hj
    obtain ⟨⟨h0, hx, hf⟩, hv2⟩ := val_cons.1 hv
    have hbx := freeB_bit hf
    have hm := miss_set1 hbx n (by omega)
    simp only [List.length_cons] at hl hi
    have hwx : max (hngS q n S x.toNat) (wlkN q n (S ||| 2 ^ x.toNat) l) ≤ best := hw
    have hS2 := set_lt hS h0 hx
    have hnx := ned_walk q n l (S ||| 2 ^ x.toNat) hS2 hv2 (by omega)
    have hokx : okW q n best S x.toNat = true := by
      unfold okW
      rw [hf, decide_eq_true (by omega), decide_eq_true (by omega)]
      rfl
    obtain ⟨k, hk, hok, hfst⟩ : ∃ k, k < n ∧ okW q n best S k = true ∧ ∀ j, j < k → okW q n best S j = false := by
      have key : ∀ m, okW q n best S m = true → m < n → ∃ k, k < n ∧ okW q n best S k = true ∧ ∀ j, j < k → okW q n best S j = false := by
        intro m
        induction m using Nat.strongRecOn with
        | _ m ih =>
          intro h1 h2
          by_cases hj : ∃ j, j < m ∧ okW q n best S j = true
          · obtain ⟨j, hj1, hj2⟩ := hj; exact ih j hj1 hj2 (by omega)
          · refine ⟨m, h2, h1, fun j hj2 => ?_⟩
            cases h : okW q n best S j with
            | false => rfl
            | true => exact absurd ⟨j, hj2, h⟩ hj
      exact key x.toNat hokx (by omega)
    have hkx : k ≤ x.toNat := by
      rcases Nat.lt_or_ge x.toNat k with h | h
      · rw [hfst _ h] at hokx; cases hokx
      · exact h
    obtain ⟨m, hmm⟩ : ∃ m, miss n S = m + 1 := ⟨l.length, by omega⟩
    rw [hmm, fewF_step m hk hok hfst] at hj ⊢
    cases i with
    | zero => simp only [List.getD_cons_zero]; omega
    | succ i =>
      have h1 := hj 0 (by omega)
      simp only [List.getD_cons_zero] at h1
      have hxk : x.toNat = k := by omega
      rw [← hxk] at hj ⊢
      have hmx : miss n (S ||| 2 ^ x.toNat) = m := by omega
      have ih := few_first q n best hb l (S ||| 2 ^ x.toNat) hS2 hv2 (by omega) (by omega) (by omega) i (by omega) (fun j hji => by
        have := hj (j + 1) (by omega)
        simp only [List.getD_cons_succ] at this
        rw [hmx]; exact this)
      rw [hmx] at ih
      simp only [List.getD_cons_succ]
      exact ih
/-- The works of a list, from S on. -/
def folS (S : Nat) (l : List Int) : Nat := l.foldl (fun S x => S ||| 2 ^ x.toNat) S
theorem folS_bits (l : List Int) : folS 0 l = bitsL l := rfl
theorem oRun_fol (n : Nat) (q : Nat → Nat) : ∀ (l : List Int) (S : Nat), (oRun n q S l).isSome = true → ∀ k, (h : k < l.length) → (0 ≤ l[k] ∧ l[k] < n) ∧ freeB (befT q) (folS S (l.take k)) (l[k]).toNat = true
  | [], _, _ => fun k h => absurd h (by simp)
  | x :: l, S, hv => by
    obtain ⟨⟨h0, hx, hf⟩, hv2⟩ := val_cons.1 hv
    intro k hk
    cases k with
    | zero => exact ⟨⟨h0, hx⟩, hf⟩
    | succ k => exact oRun_fol n q l (S ||| 2 ^ x.toNat) hv2 k (by simpa using hk)
theorem wlk_le_iff (q : Nat → Nat) (n v : Nat) : ∀ (l : List Int) (S : Nat), wlkN q n S l ≤ v ↔ ∀ k, (h : k < l.length) → hngS q n (folS S (l.take k)) (l[k]).toNat ≤ v
  | [], S => by
    constructor
    · intro _ k h; exact absurd h (by simp)
    · intro _; exact Nat.zero_le _
  | x :: l, S => by
    have ih := wlk_le_iff q n v l (S ||| 2 ^ x.toNat)
    have e : wlkN q n S (x :: l) = max (hngS q n S x.toNat) (wlkN q n (S ||| 2 ^ x.toNat) l) := rfl
    rw [e]
    constructor
    · intro h k hk
      cases k with
      | zero => show hngS q n S x.toNat ≤ v; omega
      | succ k => exact ih.1 (by omega) k (by simpa using hk)
    · intro h
      have h1 : hngS q n S x.toNat ≤ v := h 0 (by simp)
      have h2 := ih.2 fun k hk => h (k + 1) (by simpa using hk)
      omega
theorem miss_fol (n : Nat) (q : Nat → Nat) : ∀ (l : List Int) (S : Nat), (oRun n q S l).isSome = true → miss n (folS S l) + l.length = miss n S
  | [], _, _ => rfl
  | x :: l, S, hv => by
    obtain ⟨⟨h0, hx, hf⟩, hv2⟩ := val_cons.1 hv
    have := miss_fol n q l (S ||| 2 ^ x.toNat) hv2
    have hm := miss_set1 (freeB_bit hf) n (by omega)
    show miss n (folS (S ||| 2 ^ x.toNat) l) + (l.length + 1) = _
    omega
theorem fol_lt (n : Nat) (q : Nat → Nat) : ∀ (l : List Int) (S : Nat), S < 2 ^ n → (oRun n q S l).isSome = true → folS S l < 2 ^ n
  | [], _, hS, _ => hS
  | x :: l, S, hS, hv => by
    obtain ⟨⟨h0, hx, _⟩, hv2⟩ := val_cons.1 hv
    exact fol_lt n q l (S ||| 2 ^ x.toNat) (set_lt hS h0 hx) hv2
section
variable {ws : List GW} {l : List Int}
theorem ord_val (h : ordQ ws l = true) : l.length = ws.length ∧ (oRun ws.length (plsOf ws) 0 l).isSome = true := by
  unfold ordQ at h
  rw [Bool.and_eq_true, decide_eq_true_eq] at h
  exact h
theorem ord_all (h : ordQ ws l = true) {j : Nat} (hj : j < ws.length) : ∃ i, ∃ h : i < l.length, (l[i]).toNat = j := by
  obtain ⟨h1, h2⟩ := ord_val h
  have hm := miss_fol _ _ l 0 h2
  rw [miss_none] at hm
  have hlt := fol_lt _ _ l 0 (Nat.two_pow_pos _) h2
  have hf := (full_iff hlt).1 ((miss_zero hlt).1 (by omega)) j hj
  rw [folS_bits, bitsL_bit] at hf
  obtain ⟨x, hx, hxj⟩ := hf
  obtain ⟨i, hi, rfl⟩ := List.mem_iff_getElem.1 hx
  exact ⟨i, hi, hxj⟩
theorem take_bit (l : List Int) (k b : Nat) : (bitsL (l.take k)).testBit b = true ↔ ∃ i, ∃ h : i < l.length, i < k ∧ (l[i]).toNat = b := by
  rw [bitsL_bit]
  constructor
  · rintro ⟨x, hx, rfl⟩
    obtain ⟨i, hi, rfl⟩ := List.mem_iff_getElem.1 hx
    rw [List.length_take] at hi
    exact ⟨i, by omega, by omega, by rw [List.getElem_take]⟩
  · rintro ⟨i, hi, hk, rfl⟩
    refine ⟨l[i], List.mem_iff_getElem.2 ⟨i, by rw [List.length_take]; omega, by rw [List.getElem_take]⟩, rfl⟩
/-- While the k-th work of an order is made: the places in two readings. -/
theorem hang_ord (h : ordQ ws l = true) {k : Nat} (hk : k < l.length) (p : Nat) : hgQ (plsOf (reoG ws l)) l.length k p = hgS (plsOf ws) ws.length (bitsL (l.take k)) (l[k]).toNat p := by
  obtain ⟨h1, h2⟩ := ord_val h
  have hv := fun k hk => oRun_fol _ _ l 0 h2 k hk
  have hrg : ∀ i, (hi : i < l.length) → (l[i]).toNat < ws.length := fun i hi => by have := (hv i hi).1; omega
  have hq : ∀ i, (hi : i < l.length) → plsOf (reoG ws l) i = plsOf ws (l[i]).toNat := fun i hi => plsOf_reo ws l hi
  have hdis : ∀ i j, (hi : i < l.length) → (hj : j < l.length) → i < j → (l[i]).toNat ≠ (l[j]).toNat := fun i j hi hj hij e => by
    have h3 := freeB_bit (hv j hj).2
    rw [folS_bits] at h3
    have h4 := (take_bit l j (l[j]).toNat).2 ⟨i, hi, hij, e⟩
    rw [h3] at h4; cases h4
  rw [Bool.eq_iff_iff, hgQ_iff, hgS_ref, Bool.and_eq_true, bgB_iff, opB_iff]
  refine and_congr ?_ ?_
  · constructor
    · rintro ⟨i, hi, hik, ht⟩
      rw [hq i hi] at ht
      refine ⟨(l[i]).toNat, hrg i hi, ht, ?_⟩
      rcases Nat.lt_or_ge i k with h3 | h3
      · exact .inr ((take_bit l k _).2 ⟨i, hi, h3, rfl⟩)
      · obtain rfl : i = k := by omega
        exact .inl rfl
    · rintro ⟨j, hj, ht, rfl | hs⟩
      · exact ⟨k, hk, Nat.le_refl _, by rw [hq k hk]; exact ht⟩
      · obtain ⟨i, hi, hik, rfl⟩ := (take_bit l k j).1 hs
        exact ⟨i, hi, by omega, by rw [hq i hi]; exact ht⟩
  · constructor
    · rintro ⟨i, hi, hik, ht⟩
      rw [hq i hi] at ht
      refine ⟨(l[i]).toNat, hrg i hi, ht, ?_⟩
      cases hs : (bitsL (l.take k)).testBit (l[i]).toNat with
      | false => rfl
      | true =>
        obtain ⟨j, hj, hjk, he⟩ := (take_bit l k _).1 hs
        exact absurd he (hdis j i hj hi (by omega))
    · rintro ⟨j, hj, ht, hs⟩
      obtain ⟨i, hi, rfl⟩ := ord_all h hj
      refine ⟨i, hi, ?_, by rw [hq i hi]; exact ht⟩
      rcases Nat.lt_or_ge i k with h3 | h3
      · rw [(take_bit l k _).2 ⟨i, hi, h3, rfl⟩] at hs; cases hs
      · exact h3
theorem hng_ord (h : ordQ ws l = true) {k : Nat} (hk : k < l.length) : hngN (plsOf (reoG ws l)) l.length k = hngS (plsOf ws) ws.length (bitsL (l.take k)) (l[k]).toNat :=
  cntP_congr 24 fun p _ => hang_ord h hk p
/-- What an order needs. -/
theorem need_ord (h : ordQ ws l = true) : needQ (plsOf (reoG ws l)) l.length l.length = wlkN (plsOf ws) ws.length 0 l := by
  apply Nat.le_antisymm
  · refine needQ_least _ _ _ _ fun k hk => ?_
    rw [hng_ord h hk]
    exact (wlk_le_iff _ _ _ l 0).1 (Nat.le_refl _) k hk
  · refine (wlk_le_iff _ _ _ l 0).2 fun k hk => ?_
    rw [folS_bits, ← hng_ord h hk]
    exact needQ_ge _ _ _ k hk
end
end Go.Proofs.YtnplcephmidjbaaDoor
/- Two sheets beside each other, in plain Lean: the need is the greater one. -/
namespace Go.Proofs.YtnplcephmidjbaaDoor

/-- The works r within the works q: in their order, o places to the right, alone in their places. -/
structure Emb (q : Nat → Nat) (n : Nat) (r : Nat → Nat) (m : Nat) (g : Nat → Nat) (o P : Nat) : Prop where
  mono : ∀ a b, a < b → b < m → g a < g b
  lt : ∀ a, a < m → g a < n
  val : ∀ a, a < m → q (g a) = r a + o
  rng : ∀ a, a < m → r a + 2 ≤ P
  oth : ∀ k, k < n → (∀ a, a < m → g a ≠ k) → q k + 2 ≤ o ∨ o + P ≤ q k
  top : o + P ≤ 24
section
variable {q r g : Nat → Nat} {n m o P : Nat}
theorem Emb.inj (E : Emb q n r m g o P) {a b : Nat} (ha : a < m) (hb : b < m) (h : g a = g b) : a = b := by
  rcases Nat.lt_trichotomy a b with h1 | h1 | h1
  · have := E.mono a b h1 hb; omega
  · exact h1
  · have := E.mono b a h1 ha; omega
theorem Emb.ltI (E : Emb q n r m g o P) {a b : Nat} (ha : a < m) (hb : b < m) (h : g a < g b) : a < b := by
  rcases Nat.lt_trichotomy a b with h1 | h1 | h1
  · exact h1
  · subst h1; omega
  · have := E.mono b a h1 ha; omega
theorem tkB_iff (a p : Nat) : tkB a p = true ↔ p = a ∨ p = a + 1 := by unfold tkB; simp
theorem tP_iff (a b : Nat) : tP a b = true ↔ a ≤ b + 1 ∧ b ≤ a + 1 := by unfold tP; simp
/-- State T of the works r is what state S of the works q shows of them. -/
def Rel (m : Nat) (g : Nat → Nat) (S T : Nat) : Prop := ∀ a, a < m → T.testBit a = S.testBit (g a)
theorem Rel.step (E : Emb q n r m g o P) {S T a : Nat} (h : Rel m g S T) (ha : a < m) : Rel m g (S ||| 2 ^ g a) (T ||| 2 ^ a) := fun b hb => by
  rw [testBit_set, testBit_set, h b hb]
  congr 1
  rw [decide_eq_decide]
  exact ⟨fun e => by rw [e], fun e => E.inj ha hb e⟩
theorem Rel.skip {S T k : Nat} (h : Rel m g S T) (hk : ∀ a, a < m → g a ≠ k) : Rel m g (S ||| 2 ^ k) T := fun b hb => by
  rw [testBit_set, h b hb, decide_eq_false (fun e => hk b hb e.symm), Bool.or_false]
theorem Emb.free (E : Emb q n r m g o P) {S T a : Nat} (h : Rel m g S T) (ha : a < m) : freeB (befT q) S (g a) = true ↔ freeB (befT r) T a = true := by
  rw [free_tP, free_tP, h a ha]
  refine and_congr_right fun _ => ?_
  constructor
  · intro h2 b hb ht
    rw [h b (by omega)]
    refine h2 (g b) (E.mono b a hb ha) ?_
    rw [tP_iff] at ht ⊢
    rw [E.val a ha, E.val b (by omega)]
    omega
  · intro h2 k hk ht
    rw [tP_iff, E.val a ha] at ht
    have hr := E.rng a ha
    by_cases hc : ∃ b, b < m ∧ g b = k
    · obtain ⟨b, hb, rfl⟩ := hc
      rw [← h b hb]
      have hba := E.ltI hb ha hk
      refine h2 b hba ?_
      rw [E.val b hb] at ht
      rw [tP_iff]
      omega
    · have := E.oth k (by have := E.lt a ha; omega) fun b hb e => hc ⟨b, hb, e⟩
      omega
theorem hgS_iff (q : Nat → Nat) (n S k p : Nat) : hgS q n S k p = true ↔ (∃ i, i < n ∧ tkB (q i) p = true ∧ (i = k ∨ S.testBit i = true)) ∧ ∃ i, i < n ∧ tkB (q i) p = true ∧ S.testBit i = false := by
  rw [hgS_ref, Bool.and_eq_true, bgB_iff, opB_iff]
/-- Within the places of r both hang alike. -/
theorem Emb.hang (E : Emb q n r m g o P) {S T a : Nat} (h : Rel m g S T) (ha : a < m) {p : Nat} (hp : p < P) : hgS q n S (g a) (p + o) = hgS r m T a p := by
  have tk : ∀ i, i < n → tkB (q i) (p + o) = true → ∃ b, b < m ∧ g b = i ∧ tkB (r b) p = true := fun i hi ht => by
    rw [tkB_iff] at ht
    by_cases hc : ∃ b, b < m ∧ g b = i
    · obtain ⟨b, hb, rfl⟩ := hc
      refine ⟨b, hb, rfl, ?_⟩
      rw [E.val b hb] at ht
      rw [tkB_iff]; omega
    · have := E.oth i hi fun b hb e => hc ⟨b, hb, e⟩
      omega
  have tk2 : ∀ b, b < m → tkB (r b) p = true → tkB (q (g b)) (p + o) = true := fun b hb ht => by
    rw [tkB_iff] at ht ⊢
    rw [E.val b hb]; omega
  rw [Bool.eq_iff_iff, hgS_iff, hgS_iff]
  constructor
  · rintro ⟨⟨i, hi, ht, hs⟩, j, hj, htj, hsj⟩
    obtain ⟨b, hb, rfl, hb2⟩ := tk i hi ht
    obtain ⟨c, hc, rfl, hc2⟩ := tk j hj htj
    refine ⟨⟨b, hb, hb2, ?_⟩, c, hc, hc2, by rw [h c hc]; exact hsj⟩
    rcases hs with hs | hs
    · exact .inl (E.inj hb ha hs)
    · exact .inr (by rw [h b hb]; exact hs)
  · rintro ⟨⟨b, hb, ht, hs⟩, c, hc, htc, hsc⟩
    refine ⟨⟨g b, E.lt b hb, tk2 b hb ht, ?_⟩, g c, E.lt c hc, tk2 c hc htc, by rw [← h c hc]; exact hsc⟩
    rcases hs with rfl | hs
    · exact .inl rfl
    · exact .inr (by rw [← h b hb]; exact hs)
/-- No place from P on hangs among r. -/
theorem Emb.none (E : Emb q n r m g o P) {T a p : Nat} (hp : P ≤ p) : hgS r m T a p = false := by
  cases h : hgS r m T a p with
  | false => rfl
  | true =>
    obtain ⟨⟨i, hi, ht, _⟩, _⟩ := (hgS_iff _ _ _ _ _).1 h
    rw [tkB_iff] at ht
    have := E.rng i hi
    omega
theorem Emb.count (E : Emb q n r m g o P) {S T a : Nat} (h : Rel m g S T) (ha : a < m) : hngS q n S (g a) = cntP (hgS q n S (g a)) o + hngS r m T a + cntP (fun i => hgS q n S (g a) (o + P + i)) (24 - (o + P)) := by
  have ht := E.top
  have e1 : hngS q n S (g a) = cntP (hgS q n S (g a)) (o + P + (24 - (o + P))) := by unfold hngS; congr 1; omega
  have e2 : hngS r m T a = cntP (hgS r m T a) P := by
    have e : hngS r m T a = cntP (hgS r m T a) (P + (24 - P)) := by unfold hngS; congr 1; omega
    rw [e, cntP_more _ fun p hp _ => E.none hp]
  rw [e1, cntP_add, cntP_add, e2]
  congr 2
  exact cntP_congr P fun p hp => by rw [Nat.add_comm o p]; exact E.hang h ha hp
theorem Emb.hng_le (E : Emb q n r m g o P) {S T a : Nat} (h : Rel m g S T) (ha : a < m) : hngS r m T a ≤ hngS q n S (g a) := by
  rw [E.count h ha]; omega
theorem cntP_none {f : Nat → Bool} (n : Nat) (h : ∀ p, p < n → f p = false) : cntP f n = 0 := by
  have := cntP_more (f := f) (m := 0) n fun p _ hp => h p (by omega)
  rw [Nat.zero_add] at this
  exact this
/-- If the works beside r are all done or none of them is, only places of r hang while one of r is made. -/
theorem Emb.hng_eq (E : Emb q n r m g o P) {S T a : Nat} {v : Bool} (h : Rel m g S T) (ha : a < m) (hv : ∀ k, k < n → (∀ a, a < m → g a ≠ k) → S.testBit k = v) : hngS q n S (g a) = hngS r m T a := by
  have out : ∀ p, p < o ∨ o + P ≤ p → hgS q n S (g a) p = false := fun p hp => by
    cases hh : hgS q n S (g a) p with
    | false => rfl
    | true =>
      obtain ⟨⟨i, hi, ht, hs⟩, j, hj, htj, hsj⟩ := (hgS_iff _ _ _ _ _).1 hh
      have far : ∀ k, k < n → tkB (q k) p = true → ∀ b, b < m → g b ≠ k := fun k hk ht b hb e => by
        subst e
        rw [tkB_iff, E.val b hb] at ht
        have := E.rng b hb
        omega
      have h1 := hv i hi (far i hi ht)
      have h2 := hv j hj (far j hj htj)
      rcases hs with rfl | hs
      · exact absurd rfl (far _ hi ht a ha)
      · rw [hs] at h1; rw [hsj, ← h1] at h2; cases h2
  rw [E.count h ha, cntP_none o fun p hp => out p (.inl hp), cntP_none _ fun p _ => out _ (.inr (by omega))]
  omega
/-- What a part needs the whole needs. -/
theorem Emb.lo (E : Emb q n r m g o P) : ∀ (d S T : Nat), miss n S = d → S < 2 ^ n → T < 2 ^ m → Rel m g S T → nedN r m T ≤ nedN q n S := by
  intro d
  induction d with
  | zero =>
    intro S T hd hS hT h
    have hf := (full_iff hS).1 ((miss_zero hS).1 hd)
    have : T = 2 ^ m - 1 := (full_iff hT).2 fun a ha => by rw [h a ha]; exact hf _ (E.lt a ha)
    rw [this]
    unfold nedN
    rw [ndN_full]
    exact Nat.zero_le _
  | succ d ih =>
    intro S T hd hS hT h
    have hne : S ≠ 2 ^ n - 1 := fun e => by have := (miss_zero hS).2 e; omega
    have e : nedN q n S = minF (nedN q n) (hngS q n) (befT q) S n := ndN_step _ _ _ _ hne
    by_cases h25 : nedN q n S ≤ 24
    rotate_left
    · have h1 : nedN r m T ≤ 25 := ndN_le _ _ _ _
      omega
    obtain ⟨k, hk, hf, h1, h2⟩ := (minF_le_iff h25 n).1 (Nat.le_of_eq e.symm)
    have hms := miss_set1 (freeB_bit hf) n hk
    have hS2 : S ||| 2 ^ k < 2 ^ n := Nat.or_lt_two_pow hS (Nat.pow_lt_pow_right (by decide) hk)
    by_cases hc : ∃ a, a < m ∧ g a = k
    · obtain ⟨a, ha, rfl⟩ := hc
      have hT2 : T ||| 2 ^ a < 2 ^ m := Nat.or_lt_two_pow hT (Nat.pow_lt_pow_right (by decide) ha)
      have i1 := ih _ _ (by omega) hS2 hT2 (h.step E ha)
      have i2 := E.hng_le h ha
      have hneT : T ≠ 2 ^ m - 1 := fun e => by
        have := (full_iff hT).1 e a ha
        rw [h a ha, freeB_bit hf] at this; cases this
      have e2 : nedN r m T = minF (nedN r m) (hngS r m) (befT r) T m := ndN_step _ _ _ _ hneT
      rw [e2]
      exact (minF_le_iff h25 m).2 ⟨a, ha, (E.free h ha).1 hf, by omega, by omega⟩
    · have := ih _ _ (by omega) hS2 hT (h.skip fun a ha e => hc ⟨a, ha, e⟩)
      omega
/-- A part may be made first, if what lies beside it is all done or all undone. -/
theorem Emb.up (E : Emb q n r m g o P) {U : Nat} (hU : U < 2 ^ n) {v : Bool} : ∀ (d S T : Nat), miss m T = d → S < 2 ^ n → T < 2 ^ m → Rel m g S T →
    (∀ k, k < n → (∀ a, a < m → g a ≠ k) → S.testBit k = v ∧ U.testBit k = S.testBit k) → (∀ a, a < m → U.testBit (g a) = true) → nedN q n S ≤ max (nedN r m T) (nedN q n U) := by
  intro d
  induction d with
  | zero =>
    intro S T hd hS hT h ho hu
    have hf := (full_iff hT).1 ((miss_zero hT).1 hd)
    have e : S = U := by
      apply Nat.eq_of_testBit_eq
      intro k
      by_cases hk : k < n
      · by_cases hc : ∃ a, a < m ∧ g a = k
        · obtain ⟨a, ha, rfl⟩ := hc
          rw [hu a ha, ← h a ha, hf a ha]
        · exact (ho k hk fun a ha e => hc ⟨a, ha, e⟩).2.symm
      · have hp : 2 ^ n ≤ 2 ^ k := Nat.pow_le_pow_right (by decide) (by omega)
        rw [Nat.testBit_lt_two_pow (by omega), Nat.testBit_lt_two_pow (by omega)]
    rw [e]; omega
  | succ d ih =>
    intro S T hd hS hT h ho hu
    have hne : T ≠ 2 ^ m - 1 := fun e => by have := (miss_zero hT).2 e; omega
    have e : nedN r m T = minF (nedN r m) (hngS r m) (befT r) T m := ndN_step _ _ _ _ hne
    by_cases h25 : nedN r m T ≤ 24
    rotate_left
    · have h1 : nedN q n S ≤ 25 := ndN_le _ _ _ _
      omega
    obtain ⟨a, ha, hf, h1, h2⟩ := (minF_le_iff h25 m).1 (Nat.le_of_eq e.symm)
    have hbT := freeB_bit hf
    have hms := miss_set1 hbT m ha
    have hT2 : T ||| 2 ^ a < 2 ^ m := Nat.or_lt_two_pow hT (Nat.pow_lt_pow_right (by decide) ha)
    have hS2 : S ||| 2 ^ g a < 2 ^ n := Nat.or_lt_two_pow hS (Nat.pow_lt_pow_right (by decide) (E.lt a ha))
    have i1 := ih _ _ (by omega) hS2 hT2 (h.step E ha) (fun k hk hc => by
      have := ho k hk hc
      rw [testBit_set, decide_eq_false (hc a ha), Bool.or_false]
      exact this) hu
    have i2 := E.hng_eq h ha fun k hk hc => (ho k hk hc).1
    have hneS : S ≠ 2 ^ n - 1 := fun e => by
      have := (full_iff hS).1 e (g a) (E.lt a ha)
      rw [← h a ha, hbT] at this; cases this
    have e2 : nedN q n S = minF (nedN q n) (hngS q n) (befT q) S n := ndN_step _ _ _ _ hneS
    by_cases hv : max (nedN r m T) (nedN q n U) ≤ 24
    · rw [e2]
      exact (minF_le_iff hv n).2 ⟨g a, E.lt a ha, (E.free h ha).2 hf, by omega, by omega⟩
    · have h1 : nedN q n S ≤ 25 := ndN_le _ _ _ _
      omega
end
/-- The works of a list of numbers below m, as bits. -/
def rgS (g : Nat → Nat) : Nat → Nat
  | 0 => 0
  | m + 1 => rgS g m ||| 2 ^ g m
theorem rgS_bit (g : Nat → Nat) (k : Nat) : ∀ m, (rgS g m).testBit k = true ↔ ∃ a, a < m ∧ g a = k
  | 0 => by unfold rgS; simp
  | m + 1 => by
    have ih := rgS_bit g k m
    unfold rgS
    rw [testBit_set, Bool.or_eq_true, ih, decide_eq_true_eq]
    constructor
    · rintro (⟨a, ha, e⟩ | e)
      · exact ⟨a, by omega, e⟩
      · exact ⟨m, by omega, e⟩
    · rintro ⟨a, ha, e⟩
      rcases Nat.lt_succ_iff_lt_or_eq.1 ha with h | rfl
      · exact .inl ⟨a, h, e⟩
      · exact .inr e
theorem rgS_lt {g : Nat → Nat} {n : Nat} : ∀ m, (∀ a, a < m → g a < n) → rgS g m < 2 ^ n
  | 0, _ => Nat.two_pow_pos _
  | m + 1, h => Nat.or_lt_two_pow (rgS_lt m fun a ha => h a (by omega)) (Nat.pow_lt_pow_right (by decide) (h m (by omega)))
/-- THE LAW: two parts that lie beside each other need what the greater one needs. -/
theorem beside_need {q r s g h : Nat → Nat} {n m k o P o' P' : Nat} (E : Emb q n r m g o P) (F : Emb q n s k h o' P') (hc : ∀ i, i < n → (∃ a, a < m ∧ g a = i) ∨ ∃ b, b < k ∧ h b = i) (hd : ∀ a b, a < m → b < k → g a ≠ h b) :
    nedN q n 0 = max (nedN r m 0) (nedN s k 0) := by
  have z : ∀ {m : Nat} {g : Nat → Nat}, Rel m g 0 0 := fun a _ => by rw [Nat.zero_testBit, Nat.zero_testBit]
  have l1 := E.lo _ 0 0 rfl (Nat.two_pow_pos _) (Nat.two_pow_pos _) z
  have l2 := F.lo _ 0 0 rfl (Nat.two_pow_pos _) (Nat.two_pow_pos _) z
  have hV : rgS g m < 2 ^ n := rgS_lt m E.lt
  have bg : ∀ b, b < k → (rgS g m).testBit (h b) = false := fun b hb => by
    cases e : (rgS g m).testBit (h b) with
    | false => rfl
    | true => obtain ⟨a, ha, e2⟩ := (rgS_bit g _ m).1 e; exact absurd e2 (hd a b ha hb)
  have u1 := E.up (v := false) hV _ 0 0 rfl (Nat.two_pow_pos _) (Nat.two_pow_pos _) z (fun i hi hn => by
    rcases hc i hi with ⟨a, ha, e⟩ | ⟨b, hb, rfl⟩
    · exact absurd e (hn a ha)
    · rw [bg b hb]; simp) (fun a ha => (rgS_bit g _ m).2 ⟨a, ha, rfl⟩)
  have hW : 2 ^ n - 1 < 2 ^ n := by have := Nat.two_pow_pos n; omega
  have fl : ∀ i, i < n → (2 ^ n - 1).testBit i = true := fun i hi => by rw [Nat.testBit_two_pow_sub_one, decide_eq_true hi]
  have u2 := F.up (v := true) hW _ (rgS g m) 0 rfl hV (Nat.two_pow_pos _) (fun b hb => by rw [bg b hb, Nat.zero_testBit]) (fun i hi hn => by
    rcases hc i hi with ⟨a, ha, e⟩ | ⟨b, hb, e⟩
    · rw [(rgS_bit g _ m).2 ⟨a, ha, e⟩, fl i hi]; simp
    · exact absurd e (hn b hb)) (fun b hb => fl _ (F.lt b hb))
  have e0 : nedN q n (2 ^ n - 1) = 0 := by unfold nedN; rw [ndN_full]
  rw [e0] at u2
  omega
end Go.Proofs.YtnplcephmidjbaaDoor
/- Two sheets laid beside each other, work by work, in plain Lean. -/
namespace Go.Proofs.YtnplcephmidjbaaDoor

def shf (p : Int) (x : GW) : GW := ⟨x.kind, x.pl + p, x.word⟩
/-- l holds the first i works of A and the first k of B, those of B p places to the right. -/
def Mix (p : Int) (A B : List GW) (i k : Nat) (l : List GW) : Prop :=
  l.length = i + k ∧ ∃ g h : Nat → Nat, (∀ a b, a < b → b < i → g a < g b) ∧ (∀ a b, a < b → b < k → h a < h b) ∧ (∀ a, a < i → g a < i + k ∧ l.getD (g a) gwE = A.getD a gwE) ∧ (∀ b, b < k → h b < i + k ∧ l.getD (h b) gwE = shf p (B.getD b gwE)) ∧
    (∀ j, j < i + k → (∃ a, a < i ∧ g a = j) ∨ ∃ b, b < k ∧ h b = j) ∧ ∀ a b, a < i → b < k → g a ≠ h b
theorem Mix.nil (p : Int) (A B : List GW) : Mix p A B 0 0 [] := ⟨rfl, id, id, fun _ _ _ h => absurd h (by omega), fun _ _ _ h => absurd h (by omega), fun _ h => absurd h (by omega), fun _ h => absurd h (by omega), fun _ h => absurd h (by omega), fun _ _ h => absurd h (by omega)⟩
theorem getD_snoc (l : List GW) (x : GW) (j : Nat) (h : j < l.length) : (l ++ [x]).getD j gwE = l.getD j gwE := by
  simp [List.getD_eq_getElem?_getD, List.getElem?_append_left h]
theorem getD_last (l : List GW) (x : GW) : (l ++ [x]).getD l.length gwE = x := by
  simp [List.getD_eq_getElem?_getD]
section
variable {p : Int} {A B l : List GW} {i k : Nat}
theorem Mix.putA (m : Mix p A B i k l) : Mix p A B (i + 1) k (l ++ [A.getD i gwE]) := by
  obtain ⟨hl, g, h, m1, m2, m3, m4, m5, m6⟩ := m
  refine ⟨by simp; omega, fun a => if a < i then g a else i + k, h, fun a b hab hb => ?_, m2, fun a ha => ?_, fun b hb => ?_, fun j hj => ?_, fun a b ha hb => ?_⟩
  · show (if a < i then g a else i + k) < (if b < i then g b else i + k)
    rw [if_pos (by omega)]
    by_cases hbi : b < i
    · rw [if_pos hbi]; exact m1 a b hab hbi
    · rw [if_neg hbi]; exact (m3 a (by omega)).1
  · show (if a < i then g a else i + k) < i + 1 + k ∧ (l ++ [A.getD i gwE]).getD (if a < i then g a else i + k) gwE = A.getD a gwE
    by_cases hai : a < i
    · rw [if_pos hai, getD_snoc _ _ _ (by have := (m3 a hai).1; omega)]
      exact ⟨by have := (m3 a hai).1; omega, (m3 a hai).2⟩
    · obtain rfl : a = i := by omega
      rw [if_neg hai, ← hl, getD_last]
      exact ⟨by omega, rfl⟩
  · rw [getD_snoc _ _ _ (by have := (m4 b hb).1; omega)]
    exact ⟨by have := (m4 b hb).1; omega, (m4 b hb).2⟩
  · by_cases hj2 : j < i + k
    · rcases m5 j hj2 with ⟨a, ha, e⟩ | ⟨b, hb, e⟩
      · exact .inl ⟨a, by omega, by show (if a < i then g a else i + k) = j; rw [if_pos ha]; exact e⟩
      · exact .inr ⟨b, hb, e⟩
    · exact .inl ⟨i, by omega, by show (if i < i then g i else i + k) = j; rw [if_neg (by omega)]; omega⟩
  · show (if a < i then g a else i + k) ≠ h b
    by_cases hai : a < i
    · rw [if_pos hai]; exact m6 a b hai hb
    · rw [if_neg hai]; have := (m4 b hb).1; omega
theorem Mix.putB (m : Mix p A B i k l) : Mix p A B i (k + 1) (l ++ [shf p (B.getD k gwE)]) := by
  obtain ⟨hl, g, h, m1, m2, m3, m4, m5, m6⟩ := m
  refine ⟨by simp; omega, g, fun b => if b < k then h b else i + k, m1, fun a b hab hb => ?_, fun a ha => ?_, fun b hb => ?_, fun j hj => ?_, fun a b ha hb => ?_⟩
  · show (if a < k then h a else i + k) < (if b < k then h b else i + k)
    rw [if_pos (by omega)]
    by_cases hbi : b < k
    · rw [if_pos hbi]; exact m2 a b hab hbi
    · rw [if_neg hbi]; exact (m4 a (by omega)).1
  · rw [getD_snoc _ _ _ (by have := (m3 a ha).1; omega)]
    exact ⟨by have := (m3 a ha).1; omega, (m3 a ha).2⟩
  · show (if b < k then h b else i + k) < i + (k + 1) ∧ (l ++ [shf p (B.getD k gwE)]).getD (if b < k then h b else i + k) gwE = shf p (B.getD b gwE)
    by_cases hbk : b < k
    · rw [if_pos hbk, getD_snoc _ _ _ (by have := (m4 b hbk).1; omega)]
      exact ⟨by have := (m4 b hbk).1; omega, (m4 b hbk).2⟩
    · obtain rfl : b = k := by omega
      rw [if_neg hbk, ← hl, getD_last]
      exact ⟨by omega, rfl⟩
  · by_cases hj2 : j < i + k
    · rcases m5 j hj2 with ⟨a, ha, e⟩ | ⟨b, hb, e⟩
      · exact .inl ⟨a, ha, e⟩
      · exact .inr ⟨b, by omega, by show (if b < k then h b else i + k) = j; rw [if_pos hb]; exact e⟩
    · exact .inr ⟨k, by omega, by show (if k < k then h k else i + k) = j; rw [if_neg (by omega)]; omega⟩
  · show g a ≠ (if b < k then h b else i + k)
    by_cases hbk : b < k
    · rw [if_pos hbk]; exact m6 a b ha hbk
    · rw [if_neg hbk]; have := (m3 a ha).1; omega
theorem err_zero {p : Int} {ws : List GW} : errSheet p ws = 0 ↔ (p ≤ 24 ∧ ws.length ≤ 400 ∧ 2 ≤ p) ∧ ∀ x ∈ ws, longW x = false ∧ badW p x = false ∧ formW x.word = false := by
  have q1 : (∀ x ∈ ws, longW x = false ∧ badW p x = false ∧ formW x.word = false) ↔ ¬ ws.any longW = true ∧ ¬ ws.any (badW p) = true ∧ ¬ ws.any (fun x => formW x.word) = true := by
    simp only [Bool.not_eq_true, List.any_eq_false]
    constructor
    · intro h; exact ⟨fun x hx => by simp [(h x hx).1], fun x hx => by simp [(h x hx).2.1], fun x hx => by simp [(h x hx).2.2]⟩
    · rintro ⟨h1, h2, h3⟩ x hx; exact ⟨by simpa using h1 x hx, by simpa using h2 x hx, by simpa using h3 x hx⟩
  rw [q1]
  unfold errSheet
  constructor
  · intro h
    split at h
    · omega
    · rename_i h1
      split at h
      · omega
      · rename_i h2
        split at h
        · omega
        · rename_i h3
          split at h
          · omega
          · rename_i h4
            exact ⟨⟨by omega, by omega, by omega⟩, fun e => h1 (.inr (.inr e)), h3, h4⟩
  · rintro ⟨⟨a1, a2, a3⟩, b1, b2, b3⟩
    rw [if_neg (by rintro (h | h | h) <;> first | omega | exact b1 h), if_neg (by omega), if_neg b2, if_neg b3]
theorem Mix.mem (m : Mix p A B A.length B.length l) {x : GW} (hx : x ∈ l) : x ∈ A ∨ ∃ y, y ∈ B ∧ x = shf p y := by
  obtain ⟨hl, g, h, m1, m2, m3, m4, m5, m6⟩ := m
  obtain ⟨j, hj, rfl⟩ := List.mem_iff_getElem.1 hx
  have e : l.getD j gwE = l[j] := by simp [List.getD_eq_getElem?_getD, hj]
  rcases m5 j (by omega) with ⟨a, ha, rfl⟩ | ⟨b, hb, rfl⟩
  · refine .inl ?_
    rw [← e, (m3 a ha).2]
    simp [List.getD_eq_getElem?_getD, ha]
  · refine .inr ⟨B.getD b gwE, by simp [List.getD_eq_getElem?_getD, hb], ?_⟩
    rw [← e, (m4 b hb).2]
/-- The sheet of both is valid. -/
theorem Mix.err {pb : Int} (m : Mix p A B A.length B.length l) (ha : errSheet p A = 0) (hb : errSheet pb B = 0) (h24 : p + pb ≤ 24) (h10 : A.length + B.length ≤ 10) : errSheet (p + pb) l = 0 := by
  obtain ⟨⟨a1, a2, a3⟩, a4⟩ := err_zero.1 ha
  obtain ⟨⟨b1, b2, b3⟩, b4⟩ := err_zero.1 hb
  refine err_zero.2 ⟨⟨h24, by have := m.1; omega, by omega⟩, fun x hx => ?_⟩
  rcases m.mem hx with hx | ⟨y, hy, rfl⟩
  · obtain ⟨c1, c2, c3⟩ := a4 x hx
    refine ⟨c1, ?_, c3⟩
    unfold badW at c2 ⊢
    rw [decide_eq_false_iff_not] at c2 ⊢
    rintro (h | h | h | h)
    · exact c2 (.inl h)
    · exact c2 (.inr (.inl h))
    · exact c2 (.inr (.inr (.inl (by omega))))
    · exact c2 (.inr (.inr (.inr h)))
  · obtain ⟨c1, c2, c3⟩ := b4 y hy
    refine ⟨c1, ?_, c3⟩
    unfold badW at c2 ⊢
    rw [decide_eq_false_iff_not] at c2 ⊢
    show ¬ ((y.kind ≠ 1 ∧ y.kind ≠ 2) ∨ y.pl + p < 0 ∨ p + pb - 2 < y.pl + p ∨ (y.kind = 2 ∧ (!y.word.toList.isEmpty) = true))
    rintro (h | h | h | h)
    · exact c2 (.inl h)
    · exact c2 (.inr (.inl (by omega)))
    · exact c2 (.inr (.inr (.inl (by omega))))
    · exact c2 (.inr (.inr (.inr h)))
theorem Mix.need {pb : Int} (m : Mix p A B A.length B.length l) (ha : errSheet p A = 0) (hb : errSheet pb B = 0) (h24 : p + pb ≤ 24) :
    nedN (plsOf l) l.length 0 = max (nedN (plsOf A) A.length 0) (nedN (plsOf B) B.length 0) := by
  obtain ⟨_, _, _, ha4⟩ := okAll ha
  obtain ⟨hp2, _, _, _⟩ := okAll ha
  obtain ⟨hb2, _, _, hb4⟩ := okAll hb
  obtain ⟨hl, g, h, m1, m2, m3, m4, m5, m6⟩ := m
  have pA : ∀ a, a < A.length → plsOf l (g a) = plsOf A a ∧ plsOf A a + 2 ≤ p.toNat := fun a hh => by
    have e : plsOf l (g a) = plsOf A a := by unfold plsOf; rw [(m3 a hh).2]
    have e2 : A.getD a gwE ∈ A := by simp [List.getD_eq_getElem?_getD, hh]
    have := ha4 _ e2
    refine ⟨e, ?_⟩
    unfold plsOf; omega
  have pB : ∀ b, b < B.length → plsOf l (h b) = plsOf B b + p.toNat ∧ plsOf B b + 2 ≤ pb.toNat := fun b hh => by
    have e2 : B.getD b gwE ∈ B := by simp [List.getD_eq_getElem?_getD, hh]
    have h4 := hb4 _ e2
    have e : plsOf l (h b) = plsOf B b + p.toNat := by
      unfold plsOf
      rw [(m4 b hh).2]
      show ((B.getD b gwE).pl + p).toNat = _
      omega
    refine ⟨e, ?_⟩
    unfold plsOf; omega
  rw [hl]
  have E : Emb (plsOf l) (A.length + B.length) (plsOf A) A.length g 0 p.toNat := ⟨m1, fun a hh => (m3 a hh).1, fun a hh => (pA a hh).1, fun a hh => (pA a hh).2, fun j hj hn => by
    rcases m5 j hj with ⟨a, h1, h2⟩ | ⟨b, h1, rfl⟩
    · exact absurd h2 (hn a h1)
    · have := pB b h1; omega, by omega⟩
  have F : Emb (plsOf l) (A.length + B.length) (plsOf B) B.length h p.toNat pb.toNat := ⟨m2, fun a hh => (m4 a hh).1, fun a hh => (pB a hh).1, fun a hh => (pB a hh).2, fun j hj hn => by
    rcases m5 j hj with ⟨a, h1, rfl⟩ | ⟨b, h1, h2⟩
    · have := pA a h1; omega
    · exact absurd h2 (hn b h1), by omega⟩
  exact beside_need E F m5 m6
end
end Go.Proofs.YtnplcephmidjbaaDoor
/- In plain Lean: in any order pairs hang in the places of a mark while its work is made. -/
namespace Go.Proofs.YtnplcephmidjbaaDoor

theorem cntP_mono {f g : Nat → Bool} : ∀ m, (∀ p, p < m → f p = true → g p = true) → cntP f m ≤ cntP g m
  | 0, _ => Nat.le_refl _
  | m + 1, h => by
    have ih := cntP_mono m fun p hp => h p (by omega)
    have e1 : cntP f (m + 1) = cntP f m + if f m = true then 1 else 0 := rfl
    have e2 : cntP g (m + 1) = cntP g m + if g m = true then 1 else 0 := rfl
    rw [e1, e2]
    by_cases hf : f m = true
    · rw [if_pos hf, if_pos (h m (by omega) hf)]; omega
    · rw [if_neg hf]; omega
theorem fol_closed (n : Nat) (q : Nat → Nat) : ∀ (l : List Int) (S : Nat), ClS q S → (oRun n q S l).isSome = true → ∀ k, ClS q (folS S (l.take k))
  | [], S, hc, _ => fun k => by rw [List.take_nil]; exact hc
  | x :: l, S, hc, hv => by
    obtain ⟨⟨h0, hx, hf⟩, hv2⟩ := val_cons.1 hv
    intro k
    cases k with
    | zero => exact hc
    | succ k =>
      have hb := ((free_tP q S x.toNat).1 hf).2
      exact fol_closed n q l (S ||| 2 ^ x.toNat) (hc.put ((bef_touch hc).2 hb)) hv2 k
theorem cls_zero (q : Nat → Nat) : ClS q 0 := fun b hb => by rw [Nat.zero_testBit] at hb; cases hb
section
variable {ws : List GW} {l : List Int}
theorem mark_hang (h : ordQ ws l = true) {k w p : Nat} (hk : k < l.length) (hw : (l[k]).toNat = w) (hm : MarkP (plsOf ws) ws.length w p) : hgS (plsOf ws) ws.length (bitsL (l.take k)) w p = true := by
  obtain ⟨h1, h2⟩ := ord_val h
  have hv := oRun_fol _ _ l 0 h2 k hk
  have hc := fol_closed _ _ l 0 (cls_zero _) h2 k
  have hb := (free_tP _ _ _).1 hv.2
  rw [hw] at hb
  rw [folS_bits] at hc hb
  have hwn : w < ws.length := by have := hv.1; omega
  obtain ⟨⟨a, ha, hat⟩, b, hb1, hbn, hbt⟩ := hm
  rw [hgS_ref, Bool.and_eq_true, bgB_iff, opB_iff]
  refine ⟨⟨a, ?_, hat, ?_⟩, b, hbn, hbt, ?_⟩
  · rcases ha with rfl | ha
    · exact hwn
    · have := ha.lt; omega
  · rcases ha with rfl | ha
    · exact .inl rfl
    · exact .inr ((bef_touch hc).2 hb.2 a ha)
  · rcases hb1 with rfl | hb1
    · exact hb.1
    · cases hs : (bitsL (l.take k)).testBit b with
      | false => rfl
      | true =>
        have := hc b hs w hb1
        rw [hb.1] at this; cases this
theorem mark_need (h : ordQ ws l = true) {w : Nat} (hw : w < ws.length) : mrkC (plsOf ws) ws.length w ≤ needQ (plsOf (reoG ws l)) l.length l.length := by
  obtain ⟨k, hk, hkw⟩ := ord_all h hw
  refine Nat.le_trans ?_ (needQ_ge _ _ _ k hk)
  rw [hng_ord h hk, hkw]
  exact cntP_mono 24 fun p _ hp => mark_hang h hk hkw ((bothN_bit hw).1 hp)
/-- The order of Fewest. -/
theorem few_ord {p : Int} (hx : fewX p ws = 0) : ordQ ws (fewL p ws) = true ∧ (fewL p ws).length = ws.length ∧ needQ (plsOf (reoG ws (fewL p ws))) (fewL p ws).length (fewL p ws).length = fewN p ws := by
  have hb := nedN_le24 (plsOf ws) ws.length _ 0 (Nat.le_refl _) (Nat.two_pow_pos _)
  obtain ⟨h1, h2, h3⟩ := few_walk (plsOf ws) ws.length _ hb ws.length 0 (Nat.two_pow_pos _) (miss_none _) (Nat.le_refl _)
  have e1 : fewL p ws = fewF (plsOf ws) ws.length (nedN (plsOf ws) ws.length 0) ws.length 0 := by unfold fewL; rw [if_pos hx]
  have e2 : fewN p ws = nedN (plsOf ws) ws.length 0 := by unfold fewN; rw [if_pos hx]
  have ho : ordQ ws (fewL p ws) = true := by
    unfold ordQ
    rw [e1, h1, Bool.and_true, decide_eq_true_eq]
    exact h2
  refine ⟨ho, by rw [e1]; exact h2, ?_⟩
  rw [need_ord ho, e1, e2]
  exact Nat.le_antisymm h3 (ned_walk _ _ _ _ (Nat.two_pow_pos _) h1 (by rw [h2, miss_none]))
theorem few_le {p : Int} (hx : fewX p ws = 0) (h : ordQ ws l = true) : fewN p ws ≤ needQ (plsOf (reoG ws l)) l.length l.length := by
  obtain ⟨h1, h2⟩ := ord_val h
  have e2 : fewN p ws = nedN (plsOf ws) ws.length 0 := by unfold fewN; rw [if_pos hx]
  rw [need_ord h, e2]
  exact ned_walk _ _ _ _ (Nat.two_pow_pos _) h2 (by rw [h1, miss_none])
theorem few_lex {p : Int} (hx : fewX p ws = 0) (h : ordQ ws l = true) (hn : needQ (plsOf (reoG ws l)) l.length l.length = fewN p ws) :
    ∀ i, i < l.length → (∀ j, j < i → (fewL p ws).getD j 0 = l.getD j 0) → (fewL p ws).getD i 0 ≤ l.getD i 0 := by
  obtain ⟨h1, h2⟩ := ord_val h
  have hb := nedN_le24 (plsOf ws) ws.length _ 0 (Nat.le_refl _) (Nat.two_pow_pos _)
  have e1 : fewL p ws = fewF (plsOf ws) ws.length (nedN (plsOf ws) ws.length 0) ws.length 0 := by unfold fewL; rw [if_pos hx]
  have e2 : fewN p ws = nedN (plsOf ws) ws.length 0 := by unfold fewN; rw [if_pos hx]
  have := few_first (plsOf ws) ws.length _ hb l 0 (Nat.two_pow_pos _) h2 (by rw [h1, miss_none]) (by rw [← need_ord h, hn, e2]; exact Nat.le_refl _) (Nat.le_refl _)
  rw [miss_none] at this
  rw [e1]
  exact this
end
/-- Among the first k works of an order: one up to the position that takes the place; one from it on. -/
def bfR (t : Nat → Bool) (a : Nat) : Nat → Bool
  | 0 => false
  | k + 1 => bfR t a k || (t k && decide (k ≤ a))
def afR (t : Nat → Bool) (a : Nat) : Nat → Bool
  | 0 => false
  | k + 1 => afR t a k || (t k && decide (a ≤ k))
theorem bfR_of {t : Nat → Bool} {a i : Nat} (hi : i ≤ a) (ht : t i = true) : ∀ n, i < n → bfR t a n = true
  | 0, h => absurd h (by omega)
  | n + 1, h => by
    unfold bfR
    rcases Nat.lt_succ_iff_lt_or_eq.1 h with h | rfl
    · rw [bfR_of hi ht n h]; rfl
    · rw [ht, decide_eq_true hi]; simp
theorem afR_of {t : Nat → Bool} {a i : Nat} (hi : a ≤ i) (ht : t i = true) : ∀ n, i < n → afR t a n = true
  | 0, h => absurd h (by omega)
  | n + 1, h => by
    unfold afR
    rcases Nat.lt_succ_iff_lt_or_eq.1 h with h | rfl
    · rw [afR_of hi ht n h]; rfl
    · rw [ht, decide_eq_true hi]; simp
theorem mark_bf {ws : List GW} {l : List Int} (h : ordQ ws l = true) {k w p : Nat} (hk : k < l.length) (hw : (l[k]).toNat = w) (hm : MarkP (plsOf ws) ws.length w p) :
    bfR (fun i => tkB (plsOf (reoG ws l) i) p) k l.length = true ∧ afR (fun i => tkB (plsOf (reoG ws l) i) p) k l.length = true := by
  have h1 := mark_hang h hk hw hm
  rw [← hw, ← hang_ord h hk, hgQ_iff] at h1
  obtain ⟨⟨i, hi, hik, ht⟩, j, hj, hjk, hu⟩ := h1
  exact ⟨bfR_of hik ht _ hi, afR_of hjk hu _ hj⟩
end Go.Proofs.YtnplcephmidjbaaDoor
/- Package pairs: prepared. -/
namespace Go.Proofs.YtnplcephmidjbaaDoor
open Go.RowKit

theorem zpl (mb : Nat) : (#[Value.slice none 0 0, .int .u64 0, .int .u64 0, .int .u64 0, .int .u64 0, .int .u64 0, .int .u64 0, .int .u64 0, .int .u64 0, .int .u64 0, .int .u64 0, .int .u64 0, .int .u64 0, .int .u64 0, .int .u64 0, .int .u64 0, .int .u64 0, .int .u64 0, .int .u64 0, .int .u64 0, .int .u64 0, .int .u64 0, .int .u64 0, .int .u64 0, .int .u64 0, .map (some mb)] : Array Value) = plCells (.slice none 0 0) (fun _ => 0) mb := rfl
/-- What stands before the first i works. -/
def befL (q : Nat → Nat) (i : Nat) : List Int := (List.range i).map fun j => (befT q j : Int)
theorem befL_length (q : Nat → Nat) (i : Nat) : (befL q i).length = i := by unfold befL; simp
theorem befL_succ (q : Nat → Nat) (i : Nat) : befL q (i + 1) = befL q i ++ [(befT q i : Int)] := by unfold befL; simp [List.range_succ]
def PrepPost (q : Nat → Nat) (n : Nat) (w : World) (e : Ending) (w' : World) : Prop :=
  ∃ R mb b A cap, e = .returned (.pointer (some ⟨R, 0, none⟩)) ∧ PlB w' R (.slice A n cap) (tkS q n) mb ∧ (0 < n → A = some ⟨b, 0, none⟩) ∧ (∀ i, i < n → w'.cell? ⟨b, i, none⟩ = some (.int .u64 (befT q i : Int))) ∧
    w'.heap[mb]? = some (.map #[] 0) ∧ w.heap.size ≤ mb ∧ w.heap.size ≤ R ∧ R ≠ mb ∧ b ≠ mb ∧ Below w.heap.size w w'
theorem bef_of {w : World} {base n mb : Nat} {v : Value} {q : Nat → Nat} (h : w.ownsRow base 46 1 v (befL q n).length (u64s (befL q n))) (hm : mb < base) :
    ∃ A cap b, v = .slice A n cap ∧ (0 < n → A = some ⟨b, 0, none⟩) ∧ (∀ i, i < n → w.cell? ⟨b, i, none⟩ = some (.int .u64 (befT q i : Int))) ∧ b ≠ mb := by
  rw [befL_length] at h
  rcases Nat.eq_zero_or_pos n with h0 | h0
  · rcases h.2 with ⟨rfl, _⟩ | ⟨g, cap, cur, rfl, _⟩
    · exact ⟨none, 0, mb + 1, by rw [h0], fun h => absurd h (by omega), fun i hi => absurd hi (by omega), by omega⟩
    · exact ⟨_, cap, mb + 1, rfl, fun h => absurd h (by omega), fun i hi => absurd hi (by omega), by omega⟩
  · obtain ⟨g, cap, rfl, hg, _⟩ := h.form h0
    refine ⟨_, cap, g, rfl, fun _ => rfl, fun i hi => ?_, by omega⟩
    rw [h.cellAt i (by omega)]
    simp [u64s, befL, hi]
theorem PlB.drewP {w : World} {R mb : Nat} {v : Value} {T : Nat → Nat} (h : PlB w R v T mb) : PlB w.drew R v T mb := h
/-- The takes within a work: its first j places are through. -/
theorem tkS_step (q : Nat → Nat) (i : Nat) : updF (updF (tkS q i) (q i) (tkS q i (q i) ||| 2 ^ i)) (q i + 1) (tkS q i (q i + 1) ||| 2 ^ i) = tkS q (i + 1) := by
  funext p
  unfold updF
  show _ = if tkB (q i) p = true then tkS q i p ||| 2 ^ i else tkS q i p
  unfold tkB
  by_cases h1 : p = q i + 1
  · subst h1; rw [if_pos rfl, if_pos (by simp)]
  · rw [if_neg h1]
    by_cases h2 : p = q i
    · subst h2; rw [if_pos rfl, if_pos (by simp)]
    · rw [if_neg h2, if_neg (by simp [h1, h2])]

set_option maxRecDepth 100000 in
set_option maxHeartbeats 4000000 in
theorem prepared_ (P : Nat) (A : Option Addr) (c : Nat) (ws : List GW) (w : World) (hn : ws.length ≤ 14) (hok : errSheet P ws = 0) (ha : RdW w A ws) :
    Calls Tryd.prog 32 #[.agg #[.int .i64 (P : Int), .slice A ws.length c]] w (PrepPost (plsOf ws) ws.length w) := by
  have hmm := @run_makeMap Tryd.prog
  have hpl : ∀ i, (h : i < ws.length) → ws[i].pl = (plsOf ws i : Int) ∧ plsOf ws i + 2 ≤ P ∧ P ≤ 24 := fun i h => by
    obtain ⟨_, h24, _, hall⟩ := okAll hok
    have h1 := hall _ (List.getElem_mem h)
    have e : plsOf ws i = ws[i].pl.toNat := by unfold plsOf; simp [List.getD_eq_getElem?_getD, h]
    omega
  have HA := Lib.hid ha; have HOK := Lib.hid hok; have HPL := Lib.hid hpl; clear ha hok hpl
  go_enter Tryd.func32, Tryd.ntmps32
  go_wp2
  rw [zpl]
  clear hmm
  obtain ⟨W3, hW⟩ : ∃ W3, W3 = ((w.alloc (.cells #[.int .i64 (P : Int), .slice A ws.length c] 24)).alloc (.map #[] 0)).alloc (.cells (plCells (.slice none 0 0) (fun _ => 0) (w.heap.size + 1)) 66) := ⟨_, rfl⟩
  have hB : Below w.heap.size w W3 := by rw [hW]; exact (((Below.refl _ _).alloc (Nat.le_refl _) _).alloc (by simp) _).alloc (by simp; omega) _
  have hs3 : W3.heap.size = w.heap.size + 3 := by rw [hW]; simp
  have q1 : PlB W3 (w.heap.size + 1 + 1) (.slice none 0 0) (tkS (plsOf ws) 0) (w.heap.size + 1) := by
    rw [show tkS (plsOf ws) 0 = fun _ => 0 by funext p; rfl]
    unfold PlB
    have := heap_alloc_new ((w.alloc (.cells #[.int .i64 (P : Int), .slice A ws.length c] 24)).alloc (.map #[] 0)) (.cells (plCells (.slice none 0 0) (fun _ => 0) (w.heap.size + 1)) 66)
    rw [hW]; simpa using this
  have q2 : W3.heap[w.heap.size + 1]? = some (.map #[] 0) := by
    have h1 : ((w.alloc (.cells #[.int .i64 (P : Int), .slice A ws.length c] 24)).alloc (.map #[] 0)).heap[w.heap.size + 1]? = some (.map #[] 0) := by
      have := heap_alloc_new (w.alloc (.cells #[.int .i64 (P : Int), .slice A ws.length c] 24)) (.map #[] 0)
      simpa using this
    have h2 := heap_alloc_old ((w.alloc (.cells #[.int .i64 (P : Int), .slice A ws.length c] 24)).alloc (.map #[] 0)) (.cells (plCells (.slice none 0 0) (fun _ => 0) (w.heap.size + 1)) 66) (lt_of_block h1)
    rw [hW, h2]; exact h1
  rw [← hW]
  clear hW
  obtain ⟨R, hR⟩ : ∃ R, R = w.heap.size + 1 + 1 := ⟨_, rfl⟩
  obtain ⟨mb, hmb⟩ : ∃ mb, mb = w.heap.size + 1 := ⟨_, rfl⟩
  rw [← hR, ← hmb] at q1
  rw [← hmb] at q2
  rw [← hR]
  have hRm : mb < R := by omega
  have hRw : w.heap.size ≤ mb := by omega
  have hRs : W3.heap.size = R + 1 := by omega
  clear hR hs3
  generalize plsOf ws = q at *
  have HB := Lib.hid hB; have Q1 := Lib.hid q1; have Q2 := Lib.hid q2; have HRS := Lib.hid hRs; have HMB := Lib.hid hmb; clear hB q1 q2 hRs hmb
  go_loopw [12] (fun iv wr => ∃ (i : Nat) (v : Value), iv = .int .i64 i ∧ i ≤ ws.length ∧ PlB wr R v (tkS q i) mb ∧ wr.ownsRow (R + 1) 46 1 v (befL q i).length (u64s (befL q i)) ∧ Below R W3 wr) (fun iv _ => ws.length - (intOf iv).toNat)
  case atStart => exact ⟨0, _, rfl, Nat.zero_le _, Q1.out, World.ownsRow_nil _ _ _ _, Below.refl _ _⟩
  case round =>
    obtain ⟨i, v, rfl, hi, hpl, hown, hbr⟩ := hrel
    obtain ⟨wy, rfl⟩ : ∃ wy : World, wy = wr := ⟨_, rfl⟩
    have hbw := HB.out.trans (hbr.mono (by omega))
    have hRl := hpl.lt
    by_cases hlt : i < ws.length
    · obtain ⟨b, off, rfl, hbA, h1, h2, h3⟩ := (HA.out.later hbw (Nat.le_refl _)).at_ hlt
      obtain ⟨g1, g2, g3⟩ := HPL.out i hlt
      rw [g1] at h2
      generalize ws[i].kind = kd at *
      generalize ws[i].word = wd0 at *
      have k0 := hpl.at0
      have f0 := hpl.free 0
      have k1 := hpl.at_ (p := q i) (by omega)
      have k2 := hpl.at_ (p := q i + 1) (by omega)
      have z1 : (0 : Int) ≤ (i : Int) := by omega
      have z2 : (i : Int) < (ws.length : Int) := by omega
      have z3 : (0 : Int) ≤ (q i : Int) := by omega
      have z4 : (q i : Int) < 24 := by omega
      have z5 : IntKind.i64.wrap ((q i : Int) + 1) = (q i : Int) + 1 := IntWalk.i64_in _ (by omega)
      have z6 : (0 : Int) ≤ (q i : Int) + 1 := by omega
      have z7 : (q i : Int) + 1 < 24 := by omega
      have z8 : ((q i : Int) + 1).toNat = q i + 1 := by omega
      have hT : ∀ p, tkS q i p < 2 ^ 64 := fun p => Nat.lt_of_lt_of_le (tkS_lt q p i) (Nat.pow_le_pow_right (by decide) (by omega))
      have e1 := (bits_nat .u64 64 (by decide) wraps64 (tkS q i (q i)) (tkS q i (q i + 1)) (hT _) (hT _)).2
      rw [show tkS q i (q i) ||| tkS q i (q i + 1) = befT q i from rfl] at e1
      have hlen := befL_length q i
      have hbs := befL_succ q i
      generalize befT q i = bf at *
      generalize befL q i = bl at *
      have hlo := hown.lt
      have HN1 : Hid (some R ≠ v.ownBlock) := fun h => by have := (hlo _ h.symm).1; omega
      have HN2 : Hid (some wy.heap.size ≠ v.ownBlock) := fun h => by have := (hlo _ h.symm).2; omega
      generalize tkS q i (q i) = ta at *
      generalize tkS q i (q i + 1) = tb at *
      have HPL := Lib.hid hpl; have HOWN := Lib.hid hown; have HBR := Lib.hid hbr; have HBW := Lib.hid hbw; have G1 := Lib.hid g1; have HT := Lib.hid hT; have HLEN := Lib.hid hlen; have HBS := Lib.hid hbs; have HLO := Lib.hid hlo; clear hpl hown hbr hbw g1 hT hlen hbs hlo
      go_upto_region 5 with fail
      go_cut [] (fun wx => ∃ v2 : Value, PlB wx R v2 (tkS q i) mb ∧ wx.ownsRow (R + 1) 46 1 v2 (bl ++ [(bf : Int)]).length (u64s (bl ++ [(bf : Int)])) ∧ Below R W3 wx ∧ wx.cell? ⟨wy.heap.size, 1, none⟩ = some (.int .i64 (q i : Int)) ∧ wy.heap.size < wx.heap.size)
      case first =>
        have hWn : ((wy.alloc (.cells #[.int .i64 kd, .int .i64 (q i : Int), .string wd0] 44)).alloc (.cells #[.int .u64 (bf : Int)] 46)).drew.heap[wy.heap.size + 1]? = some (.cells #[.int .u64 (bf : Int)] 46 (0, 0)) := heap_alloc2_new _ _ _
        obtain ⟨g, cap, w6, hap, hown6, hgrow, hat6, hlt6⟩ := run_appU_Tryd ((wy.alloc (.cells #[.int .i64 kd, .int .i64 (q i : Int), .string wd0] 44)).alloc (.cells #[.int .u64 (bf : Int)] 46)).drew (R + 1) v bl ((HOWN.out.alloc _).alloc _).drew (wy.heap.size + 1) (bf : Int) hWn (by have := HLEN.out; omega) (by simp; omega) 62
        have r0 : w6.cell? ⟨wy.heap.size, 1, none⟩ = some (.int .i64 (q i : Int)) := (hgrow.cell_far ⟨wy.heap.size, 1, none⟩ (by simp; omega) HN2.out).trans (by go_simp)
        have r1 : w6.cell? ⟨R, 0, none⟩ = some v := (hgrow.cell_far ⟨R, 0, none⟩ (by simp; omega) HN1.out).trans (by go_simp)
        have r2 : w6.frozen? ⟨R, 0, none⟩ = false := (hgrow.frozen_far ⟨R, 0, none⟩ (by simp; omega) HN1.out).trans (by go_simp)
        have r3 : R < w6.heap.size := (by have := hgrow.size; simp at this; omega)
        clear hWn
        simp [go_sem] at hap
        have HOWN6 := Lib.hid hown6; have HGROW := Lib.hid hgrow; clear hown6 hgrow
        go_region
        all_goals
          go_wp2_with fail
          have hown6 := HOWN6.out
          have hgrow := HGROW.out
          go_meet
          have hp6 : PlB w6 R v (tkS q i) mb := PlB.kept (PlB.drewP ((HPL.out.alloc _).alloc _)) hgrow HN1.out
          refine ⟨_, hp6.put0 _, ownsRow_setCell_below (by simpa using hown6) (by show R < R + 1; omega) _, ((((HBR.out.alloc (Nat.le_of_lt hRl) _).alloc (by simp; omega) _).drew.grown hgrow (by simp; omega) (fun j hj => by have := (HLO.out j hj).1; omega)).setCell (Nat.le_refl _) _), ?_, ?_⟩
          · rw [World.cell?_of_block (heap_setCell_other _ _ _ _ (by simp; omega))]; exact r0
          · have := hgrow.size; simp at this ⊢; omega
      case rest =>
        obtain ⟨v2, hpx, hox, hbx, hcx, hsx⟩ := hcut
        have hRx := hpx.lt
        have k3 := hpx.at_ (p := q i) (by omega)
        have f3 := hpx.free (1 + q i)
        have e2 := pow_wrap i (by omega)
        have hTa := HT.out (q i)
        have hTb := HT.out (q i + 1)
        have e3 := bit_set .u64 64 (by decide) wraps64 (tkS q i (q i)) i hTa (by omega)
        have e4 := bit_set .u64 64 (by decide) wraps64 (tkS q i (q i + 1)) i hTb (by omega)
        have z9 : (i : Int) < 64 := by omega
        have hp1 := hpx.put (p := q i) (by omega) (tkS q i (q i) ||| 2 ^ i)
        have k4 := hp1.at_ (p := q i + 1) (by omega)
        rw [show updF (tkS q i) (q i) (tkS q i (q i) ||| 2 ^ i) (q i + 1) = tkS q i (q i + 1) from if_neg (by omega)] at k4
        have hp2 := hp1.put (p := q i + 1) (by omega) (tkS q i (q i + 1) ||| 2 ^ i)
        rw [tkS_step] at hp2
        have f4 := hp1.free (1 + (q i + 1))
        clear k0 f0 k1 k2 hTa hTb e1
        generalize tkS q i (q i) ||| 2 ^ i = ta2 at *
        generalize tkS q i (q i + 1) ||| 2 ^ i = tb2 at *
        generalize tkS q i (q i) = ta at *
        generalize tkS q i (q i + 1) = tb at *
        have hbl2 : wy.heap.size ≠ R := by omega
        have k5 : (wc.setCell ⟨R, 1 + q i, none⟩ (.int .u64 (ta2 : Int))).cell? ⟨wy.heap.size, 1, none⟩ = some (.int .i64 (q i : Int)) := by
          rw [World.cell?_of_block (heap_setCell_other _ _ _ _ (by simp; omega))]; exact hcx
        have HPX := Lib.hid hpx; have HOX := Lib.hid hox; have HBX := Lib.hid hbx; have HP1 := Lib.hid hp1; have HP2 := Lib.hid hp2; clear hpx hox hbx hp1 hp2
        go_wp2
        go_region
        go_wp2
        go_region
        go_wp2
        go_roundw
        case rel => exact ⟨i + 1, v2, by go_num, by omega, HP2.out, by rw [HBS.out]; exact ((ownsRow_setCell_below (ownsRow_setCell_below HOX.out (by show R < R + 1; omega) _) (by show R < R + 1; omega) _).drew).drew, ((HBX.out.setCell (Nat.le_refl _) _).setCell (Nat.le_refl _) _).drew.drew⟩
        case measure => simp [intOf]; omega
    · obtain rfl : i = ws.length := by omega
      obtain ⟨A2, cap, b, rfl, hA2, hbc, hbm⟩ := bef_of hown (mb := mb) (by omega)
      have hmm : wy.heap[mb]? = some (.map #[] 0) := (hbr.block _ hRm).trans Q2.out
      have HPL2 := Lib.hid hpl; clear hpl
      have HOWN := Lib.hid hown; have HBR := Lib.hid hbr; have HBW := Lib.hid hbw; have HBC := Lib.hid hbc; have HMM := Lib.hid hmm; clear hown hbr hbw hbc hmm
      go_wp2
      go_ret
      exact ⟨R, mb, b, A2, cap, rfl, HPL2.out, hA2, HBC.out, HMM.out, hRw, by omega, by omega, hbm, HBW.out⟩
end Go.Proofs.YtnplcephmidjbaaDoor
/- The reference of package pairs: need, with what it knows. -/
namespace Go.Proofs.YtnplcephmidjbaaDoor
open Go.RowKit

theorem gb_below {w w' : World} (h : Below w.heap.size w w') (row : Option Nat) : w.grownBy w' row := ⟨h.os, h.tape, h.output, h.size, fun i hi _ => h.block i hi⟩
/-- Was a work found among the first k; the best so far. -/
def fndB (q : Nat → Nat) (n S k : Nat) : Bool := decide (minF (nedN q n) (hngS q n) (befT q) S k ≤ 24)
def bstN (q : Nat → Nat) (n S k : Nat) : Nat := if fndB q n S k = true then minF (nedN q n) (hngS q n) (befT q) S k else 0
theorem fnd_no {q : Nat → Nat} {n S k : Nat} (h : freeB (befT q) S k = false) : fndB q n S (k + 1) = fndB q n S k ∧ bstN q n S (k + 1) = bstN q n S k := by
  have e := minF_succ (nedN q n) (hngS q n) (befT q) S k
  rw [if_neg (by rw [h]; decide)] at e
  unfold bstN fndB
  rw [e]
  exact ⟨rfl, rfl⟩
theorem fnd_yes {q : Nat → Nat} {n S k : Nat} (h : freeB (befT q) S k = true) (hv : nedN q n (S ||| 2 ^ k) ≤ 24) :
    fndB q n S (k + 1) = true ∧ (fndB q n S k = false → bstN q n S (k + 1) = max (hngS q n S k) (nedN q n (S ||| 2 ^ k))) ∧
      (fndB q n S k = true → bstN q n S (k + 1) = min (bstN q n S k) (max (hngS q n S k) (nedN q n (S ||| 2 ^ k)))) := by
  have e := minF_succ (nedN q n) (hngS q n) (befT q) S k
  rw [if_pos h] at e
  have h1 := hngS_le q n S k
  have h2 := minF_le (nedN q n) (hngS q n) (befT q) S k
  have hf : fndB q n S (k + 1) = true := by unfold fndB; rw [e, decide_eq_true_eq]; omega
  refine ⟨hf, fun h0 => ?_, fun h0 => ?_⟩
  · unfold bstN
    rw [if_pos hf, e]
    have : ¬ minF (nedN q n) (hngS q n) (befT q) S k ≤ 24 := by unfold fndB at h0; simpa using h0
    omega
  · unfold bstN
    rw [if_pos hf, if_pos h0, e]
theorem bst_zero (q : Nat → Nat) (n S : Nat) : fndB q n S 0 = false ∧ bstN q n S 0 = 0 := ⟨rfl, rfl⟩
theorem bst_end {q : Nat → Nat} {n S : Nat} (hS : S < 2 ^ n) : bstN q n S n = nedN q n S := by
  by_cases hf : S = 2 ^ n - 1
  · have h0 : ∀ k, k ≤ n → minF (nedN q n) (hngS q n) (befT q) S k = 25 := by
      intro k
      induction k with
      | zero => exact fun _ => rfl
      | succ k ih =>
        intro hk
        have hb := (full_iff hS).1 hf k (by omega)
        rw [minF_succ, if_neg (by unfold freeB; rw [hb]; simp)]
        exact ih (by omega)
    unfold bstN fndB
    rw [h0 n (Nat.le_refl _), hf]
    unfold nedN
    rw [ndN_full]
    rfl
  · have h1 := nedN_le24 q n _ S (Nat.le_refl _) hS
    have h2 : nedN q n S = minF (nedN q n) (hngS q n) (befT q) S n := ndN_step _ _ _ _ hf
    unfold bstN fndB
    rw [← h2, decide_eq_true h1, if_pos rfl]
theorem bst_le (q : Nat → Nat) (n S k : Nat) : bstN q n S k ≤ 24 := by
  unfold bstN
  split
  · rename_i h; unfold fndB at h; simpa using h
  · omega
/-- What the reference's need sees: its sheet, and a row of what is known. -/
structure RnC (w : World) (X kb P N kc : Nat) (A : Option Addr) (c : Nat) (ws : List GW) : Prop where
  sr : SrC w X P A c ws
  kn : w.cell? ⟨X, 2, none⟩ = some (.slice (some ⟨kb, 0, none⟩) N kc)
  bl : ∃ g, IdB w kb N g ∧ ∀ S, S < N → g S = -1 ∨ g S = (nedN (plsOf ws) ws.length S : Int)
  nX : X ≠ kb
  nA : ∀ b off, A = some ⟨b, off, none⟩ → 0 < ws.length → b ≠ kb
theorem RnC.later {w w' : World} {X kb P N kc c : Nat} {A : Option Addr} {ws : List GW} (h : RnC w X kb P N kc A c ws) (hb : Below w.heap.size w w') : RnC w' X kb P N kc A c ws := by
  obtain ⟨g, h1, h2⟩ := h.bl
  exact ⟨h.sr.later hb, below_at hb (Nat.le_refl _) h.kn, ⟨g, (hb.block kb (lt_of_block h1)).trans h1, h2⟩, h.nX, h.nA⟩
theorem RdW.grb {w w' : World} {A : Option Addr} {ws : List GW} {kb : Nat} (h : RdW w A ws) (hg : w.grownBy w' (some kb)) (hne : ∀ b off, A = some ⟨b, off, none⟩ → 0 < ws.length → b ≠ kb) : RdW w' A ws := by
  refine ⟨h.1, h.2.1, fun h0 => ?_⟩
  obtain ⟨b, off, e, hlt, hc⟩ := h.2.2 h0
  exact ⟨b, off, e, Nat.lt_of_lt_of_le hlt hg.size, fun j hj => GB.cell hg (hc j hj) (hne b off e (by omega))⟩
theorem RnC.store {w : World} {X kb P N kc c S : Nat} {A : Option Addr} {ws : List GW} (h : RnC w X kb P N kc A c ws) (hS : S < N) :
    RnC (w.setCell ⟨kb, S, none⟩ (.int .i64 (nedN (plsOf ws) ws.length S : Int))) X kb P N kc A c ws ∧ w.grownBy (w.setCell ⟨kb, S, none⟩ (.int .i64 (nedN (plsOf ws) ws.length S : Int))) (some kb) := by
  obtain ⟨g, h1, h2⟩ := h.bl
  have hg : w.grownBy (w.setCell ⟨kb, S, none⟩ (.int .i64 (nedN (plsOf ws) ws.length S : Int))) (some kb) := GB.setCell (World.grownBy.refl _ _) (.inl rfl) _
  refine ⟨⟨⟨GB.cell hg h.sr.ps h.nX, GB.cell hg h.sr.wk h.nX, h.sr.rd.grb hg h.nA⟩, GB.cell hg h.kn h.nX, ⟨_, h1.put S _, fun T hT => ?_⟩, h.nX, h.nA⟩, hg⟩
  unfold updF
  by_cases e : T = S
  · subst e; rw [if_pos rfl]; exact .inr rfl
  · rw [if_neg e]; exact h2 T hT

set_option maxRecDepth 100000 in
set_option maxHeartbeats 4000000 in
theorem rneed_ (X kb P N kc : Nat) (A : Option Addr) (c : Nat) (ws : List GW) (hok : errSheet P ws = 0) (hn : ws.length ≤ 14) (hN : N = 2 ^ ws.length) : ∀ (m S : Nat) (w : World), miss ws.length S ≤ m → S < N → RnC w X kb P N kc A c ws →
    Calls Tryd.prog 35 #[.pointer (some ⟨X, 0, none⟩), .int .i64 (S : Int)] w fun e w' => e = .returned (.int .i64 (nedN (plsOf ws) ws.length S : Int)) ∧ RnC w' X kb P N kc A c ws ∧ w.grownBy w' (some kb) := by
  intro m
  induction m using Nat.strongRecOn with
  | _ m ih =>
    intro S w hms hS hC
    have IH := Lib.hid ih; clear ih
    have hN14 : N ≤ 2 ^ 14 := by rw [hN]; exact Nat.pow_le_pow_right (by decide) hn
    have hS2 : S < 2 ^ ws.length := by rw [← hN]; exact hS
    obtain ⟨g, hg1, hg2⟩ := hC.bl
    have c0 := hC.sr.wk
    have c1 := hC.kn
    have c2 := hg1.at_ hS
    have hXl := World.block_lt_of_cell? w _ c0
    have z1 : (0 : Int) ≤ (S : Int) := by omega
    have z2 : (S : Int) < (N : Int) := by omega
    rcases hg2 S hS with hgs | hgs
    rotate_left
    · rw [hgs] at c2
      generalize nedN (plsOf ws) ws.length S = r at *
      have z3 : (0 : Int) ≤ (r : Int) := by omega
      have HC := Lib.hid hC; have HN14 := Lib.hid hN14; have HS2 := Lib.hid hS2; have HG1 := Lib.hid hg1; have HOK := Lib.hid hok; have HN := Lib.hid hN; clear hC hN14 hS2 hg1 hok hN
      clear hg2 hgs hms hS
      go_enter Tryd.func35, Tryd.ntmps35
      go_wp2
      go_ret
      exact ⟨rfl, HC.out, World.grownBy.refl _ _⟩
    · rw [hgs] at c2
      have hpl := pl22 hok
      have hS60 : S < 2 ^ 60 := by omega
      have hbe := bst_end (q := plsOf ws) hS2
      have HC := Lib.hid hC; have HN14 := Lib.hid hN14; have HS2 := Lib.hid hS2; have HG1 := Lib.hid hg1; have HOK := Lib.hid hok; have HN := Lib.hid hN; have HMS := Lib.hid hms; have HS := Lib.hid hS; have HPL := Lib.hid hpl; have HS60 := Lib.hid hS60; have HBE := Lib.hid hbe; clear hC hN14 hS2 hg1 hok hN hms hS hpl hS60 hbe
      clear hg2 hgs
      go_enter Tryd.func35, Tryd.ntmps35
      go_wp2
      clear c0 c1 c2 hXl z2
      go_loopw [5, 6, 7] (fun bv fv kv wr => ∃ k : Nat, kv = .int .i64 k ∧ k ≤ ws.length ∧ fv = .bool (fndB (plsOf ws) ws.length S k) ∧ bv = .int .i64 (bstN (plsOf ws) ws.length S k : Int) ∧ RnC wr X kb P N kc A c ws ∧ w.grownBy wr (some kb)) (fun _ _ kv _ => ws.length - (intOf kv).toNat)
      case atStart => exact ⟨0, rfl, Nat.zero_le _, rfl, rfl, HC.out, World.grownBy.refl _ _⟩
      case round =>
        obtain ⟨k, rfl, hk, rfl, rfl, hP, hgr⟩ := hrel
        obtain ⟨wx, rfl⟩ : ∃ wx : World, wx = wr := ⟨_, rfl⟩
        have d0 := hP.sr.wk
        have hXl := World.block_lt_of_cell? wx _ d0
        by_cases hkn : k < ws.length
        · have hmay := fun W h => rmay_ X P S k A c ws W HPL.out HS60.out hkn hn h
          cases hf : freeB (befT (plsOf ws)) S k with
          | false =>
            obtain ⟨n1, n2⟩ := fnd_no (n := ws.length) hf
            rw [hf] at hmay
            clear hf
            have HP := Lib.hid hP; have HGR := Lib.hid hgr; have N1 := Lib.hid n1; have N2 := Lib.hid n2; have HMAY := Lib.hid hmay; clear hP hgr n1 n2 hmay
            go_wp2_with (go_at_call 36; refine (HMAY.out _ HP.out.sr).mono ?_; rintro e w2 ⟨rfl, hb2⟩)
            go_roundw
            case rel => exact ⟨k + 1, by go_num, by omega, by rw [N1.out], by rw [N2.out], HP.out.later hb2, gtr HGR.out (gb_below hb2 _)⟩
            case measure => simp [intOf]; omega
          | true =>
            have hs2 : S ||| 2 ^ k < 2 ^ ws.length := Nat.or_lt_two_pow HS2.out (Nat.pow_lt_pow_right (by decide) hkn)
            have hs2N : S ||| 2 ^ k < N := by rw [HN.out]; exact hs2
            have hmi := miss_set hkn (freeB_bit hf)
            have hv24 := nedN_le24 (plsOf ws) ws.length _ (S ||| 2 ^ k) (Nat.le_refl _) hs2
            obtain ⟨n1, n2, n3⟩ := fnd_yes (n := ws.length) hf hv24
            have hh24 := hngS_le (plsOf ws) ws.length S k
            have hb24 := bst_le (plsOf ws) ws.length S k
            rw [hf] at hmay
            have hhang := fun W h => rhanging_ X P S k A c ws W HOK.out HS60.out hn h
            have hneed := fun W h => IH.out (miss ws.length (S ||| 2 ^ k)) (by have := HMS.out; omega) (S ||| 2 ^ k) W (Nat.le_refl _) hs2N h
            have e4 : IntKind.i64.wrap (2 ^ k) = 2 ^ k := by
              have h1 : 2 ^ k < 2 ^ 14 := Nat.pow_lt_pow_right (by decide) (by omega)
              rw [show (2 : Int) ^ k = ((2 ^ k : Nat) : Int) by simp]
              exact wraps62 _ (Int.natCast_nonneg _) (by omega)
            have e5 := bit_set .i64 62 (by decide) wraps62 S k (by have := HS60.out; omega) (by omega)
            have z3 : IntKind.u64.wrap (k : Int) = (k : Int) := wraps64 _ (by omega) (by omega)
            have z4 : (0 : Int) ≤ (k : Int) := by omega
            have z5 : (k : Int) < 64 := by omega
            generalize S ||| 2 ^ k = S2 at *
            generalize hngS (plsOf ws) ws.length S k = hv at *
            generalize nedN (plsOf ws) ws.length S2 = nv at *
            generalize bstN (plsOf ws) ws.length S k = bs at *
            clear hf hmi hs2 hs2N
            cases hfd : fndB (plsOf ws) ws.length S k with
            | false =>
              have n4 := n2 hfd
              clear n2 n3 hfd
              have HP := Lib.hid hP; have HGR := Lib.hid hgr; have N1 := Lib.hid n1; have N4 := Lib.hid n4; have HMAY := Lib.hid hmay; have HHANG := Lib.hid hhang; have HNEED := Lib.hid hneed; have HV24 := Lib.hid hv24; have HH24 := Lib.hid hh24; have HB24 := Lib.hid hb24; clear hP hgr n1 n4 hmay hhang hneed hv24 hh24 hb24
              go_wp2_with (first | (go_at_call 36; refine (HMAY.out _ HP.out.sr).mono ?_; rintro e w2 ⟨rfl, hb2⟩) | (go_at_call 37; refine (HHANG.out _ (HP.out.later hb2).sr).mono ?_; rintro e w3 ⟨rfl, hb3⟩) | (go_at_call 35; refine (HNEED.out _ ((HP.out.later hb2).later hb3)).mono ?_; rintro e w4 ⟨rfl, hP4, hg4⟩))
              have hres : (if hv < nv then (nv : Int) else (hv : Int)) = ((max hv nv : Nat) : Int) := by split <;> omega
              go_roundw
              case rel => exact ⟨k + 1, by go_num, by omega, by rw [N1.out], by rw [N4.out, ← hres], hP4, gtr (gtr (gtr HGR.out (gb_below hb2 _)) (gb_below hb3 _)) hg4⟩
              case measure => simp [intOf]; omega
            | true =>
              have n4 := n3 hfd
              clear n2 n3 hfd
              have HP := Lib.hid hP; have HGR := Lib.hid hgr; have N1 := Lib.hid n1; have N4 := Lib.hid n4; have HMAY := Lib.hid hmay; have HHANG := Lib.hid hhang; have HNEED := Lib.hid hneed; have HV24 := Lib.hid hv24; have HH24 := Lib.hid hh24; have HB24 := Lib.hid hb24; clear hP hgr n1 n4 hmay hhang hneed hv24 hh24 hb24
              go_wp2_with (first | (go_at_call 36; refine (HMAY.out _ HP.out.sr).mono ?_; rintro e w2 ⟨rfl, hb2⟩) | (go_at_call 37; refine (HHANG.out _ (HP.out.later hb2).sr).mono ?_; rintro e w3 ⟨rfl, hb3⟩) | (go_at_call 35; refine (HNEED.out _ ((HP.out.later hb2).later hb3)).mono ?_; rintro e w4 ⟨rfl, hP4, hg4⟩))
              all_goals refine ⟨⟨k + 1, by go_num, by omega, by rw [N1.out], ?_, hP4, gtr (gtr (gtr HGR.out (gb_below hb2 _)) (gb_below hb3 _)) hg4⟩, by simp [intOf]; omega⟩
              all_goals (rw [N4.out]; congr 1; omega)
        · obtain rfl : k = ws.length := by omega
          obtain ⟨gx, hgx1, hgx2⟩ := hP.bl
          have c1 := hP.kn
          have c2 := hgx1.at_ HS.out
          have f2 := hgx1.free S
          have z2 : (S : Int) < (N : Int) := by have := HS.out; omega
          obtain ⟨hst1, hst2⟩ := hP.store HS.out
          have hbe := HBE.out
          generalize hnd : nedN (plsOf ws) ws.length S = nd at *
          rw [hbe]
          clear hbe
          have HST1 := Lib.hid hst1; have HST2 := Lib.hid hst2; have HP := Lib.hid hP; have HGR := Lib.hid hgr; have HGX1 := Lib.hid hgx1; have HND := Lib.hid hnd; clear hst1 hst2 hP hgr hgx1 hnd
          clear hgx2 hk hkn
          go_wp2
          go_ret
          exact ⟨ret_int (by rw [HND.out]), HST1.out, gtr HGR.out HST2.out⟩
end Go.Proofs.YtnplcephmidjbaaDoor
/- Package pairs: Bound. -/
namespace Go.Proofs.YtnplcephmidjbaaDoor
open Go.RowKit

theorem UB.made2 (w : World) (o : Obj) (m : Nat) : UB ((w.alloc o).alloc (.cells (madeCells #[Value.int .u64 0] m) 46)) (w.heap.size + 1) m (fun _ => 0) := by
  have := UB.made (w.alloc o) m
  simpa using this
theorem pls22 {p : Int} {ws : List GW} (hok : errSheet p ws = 0) (i : Nat) : plsOf ws i ≤ 22 := by
  unfold plsOf
  by_cases h : i < ws.length
  · rw [List.getD_eq_getElem?_getD, List.getElem?_eq_getElem h]
    have := pl22 hok _ (List.getElem_mem h)
    simp only [Option.getD_some]
    omega
  · rw [List.getD_eq_getElem?_getD, List.getElem?_eq_none (by omega)]
    decide
theorem updF_upd (g : Nat → Nat) (i a b : Nat) : updF (updF g i a) i b = updF g i b := by
  funext p
  unfold updF
  by_cases h : p = i
  · rw [if_pos h, if_pos h]
  · rw [if_neg h, if_neg h, if_neg h]
theorem updF_at (g : Nat → Nat) (i a : Nat) : updF g i a i = a := if_pos rfl
theorem updF_ne (g : Nat → Nat) {i j : Nat} (a : Nat) (h : j ≠ i) : updF g i a j = g j := if_neg h
theorem dnG_next (q : Nat → Nat) {n i : Nat} (h : i < n) : dnG q n (n - i) = updF (dnG q n (n - (i + 1))) i (dnV (dnG q n (n - (i + 1))) q i (n - (i + 1))) := by
  rw [show n - i = (n - (i + 1)) + 1 by omega]
  show updF (dnG q n (n - (i + 1))) (n - 1 - (n - (i + 1))) (dnV (dnG q n (n - (i + 1))) q (n - 1 - (n - (i + 1))) (n - (i + 1))) = _
  rw [show n - 1 - (n - (i + 1)) = i by omega]
/-- How far the search for the best work is. -/
def BS (q : Nat → Nat) (n m x k : Nat) : Prop := (m = n ∧ x = 0 ∧ k = 0) ∨ (m < n ∧ IsBest (mrkC q n) m n k ∧ x = bothN q n k)
theorem BS.yes {q : Nat → Nat} {n i x k : Nat} (h : BS q n (i + 1) x k) (hi : i < n) (hc : cntP (fun p => x.testBit p) 24 ≤ mrkC q n i) : BS q n i (bothN q n i) i := by
  rcases h with ⟨h1, _, _⟩ | ⟨h1, h2, h3⟩
  · subst h1
    exact .inr ⟨hi, IsBest.one _ _, rfl⟩
  · have h4 := h2.down
    rw [if_pos (by unfold mrkC at hc ⊢; rw [← h3]; exact hc)] at h4
    exact .inr ⟨hi, h4, rfl⟩
theorem cnt_zero : cntP (fun p => (0 : Nat).testBit p) 24 = 0 := by
  have : ∀ m, cntP (fun p => (0 : Nat).testBit p) m = 0 := by
    intro m
    induction m with
    | zero => rfl
    | succ m ih => unfold cntP; rw [ih]; simp
  exact this 24
theorem BS.no {q : Nat → Nat} {n i x k : Nat} (h : BS q n (i + 1) x k) (hi : i < n) (hc : ¬ cntP (fun p => x.testBit p) 24 ≤ mrkC q n i) : BS q n i x k := by
  rcases h with ⟨_, h1, _⟩ | ⟨h1, h2, h3⟩
  · subst h1
    rw [cnt_zero] at hc
    omega
  · have h4 := h2.down
    rw [if_neg (by unfold mrkC at hc ⊢; rw [← h3]; exact hc)] at h4
    exact .inr ⟨hi, h4, h3⟩
theorem BS.done {q : Nat → Nat} {n x k : Nat} (h : BS q n 0 x k) (hn : 0 < n) : k = bstW (mrkC q n) n ∧ x = bothN q n k := by
  rcases h with ⟨h1, _, _⟩ | ⟨_, h2, h3⟩
  · omega
  · obtain ⟨m, rfl⟩ : ∃ m, n = m + 1 := ⟨n - 1, by omega⟩
    exact ⟨h2.same (bstW_is _ m), h3⟩

set_option maxRecDepth 100000 in
set_option maxHeartbeats 8000000 in
theorem pBound_ok (P : Nat) (A : Option Addr) (c : Nat) (ws : List GW) (w : World) (hok : errSheet P ws = 0) (hn0 : 0 < ws.length) (ha : RdW w A ws) (hT : Tz w) :
    Calls Tryd.prog 18 #[.agg #[.int .i64 (P : Int), .slice A ws.length c]] w (BndPost (plL (fun p => (bothN (plsOf ws) ws.length (bstW (mrkC (plsOf ws) ws.length) ws.length)).testBit p) 24) (bstW (mrkC (plsOf ws) ws.length) ws.length) 0 w) := by
  have hb2 : Below w.heap.size w ((w.alloc (.cells #[.int .i64 P, .slice A ws.length c] 24)).alloc (.cells #[.int .i64 0, .slice none 0 0] 37)) := ((Below.refl _ _).alloc (Nat.le_refl _) _).alloc (by simp) _
  have hP24 : P ≤ 24 := by have := (okAll hok).2.1; omega
  have hn4 := (okAll hok).2.2.1
  have hpl := pl22 hok
  have hq22 := pls22 hok
  have hl1 : ((ws.length : Int) == 0) = false := by
    rw [beq_eq_false_iff_ne]; omega
  have hqP : ∀ i, i < ws.length → plsOf ws i + 2 ≤ P := fun i h => by
    have h1 := (okAll hok).2.2.2 _ (List.getElem_mem h)
    have e : plsOf ws i = ws[i].pl.toNat := by unfold plsOf; simp [List.getD_eq_getElem?_getD, h]
    omega
  have hwq : ∀ i, (h : i < ws.length) → ws[i].pl = (plsOf ws i : Int) := fun i h => by
    have h1 := hpl _ (List.getElem_mem h)
    have e : plsOf ws i = ws[i].pl.toNat := by unfold plsOf; simp [List.getD_eq_getElem?_getD, h]
    omega
  have HA := Lib.hid ha; have HB2 := Lib.hid hb2; have HOK := Lib.hid hok; have HT := Lib.hid hT; have HPL := Lib.hid hpl; have HQ22 := Lib.hid hq22; have HQP := Lib.hid hqP; have HWQ := Lib.hid hwq; clear ha hb2 hok hT hpl hq22 hqP hwq
  go_enter Tryd.func18, Tryd.ntmps18
  go_wp2_with fail
  refine (sCheck_ _ _ _ _ _ (by omega) (by omega) (HA.out.later HB2.out (Nat.le_refl _))).mono ?_
  rw [HOK.out]
  rintro e w1 ⟨rfl, hb1⟩
  have a1 : w1.cell? ⟨w.heap.size, 1, none⟩ = some (.slice A ws.length c) := below_at hb1 (Nat.le_refl _) (by go_simp)
  have C0 : Hid (w1.cell? ⟨w.heap.size + 1, 0, none⟩ = some (.int .i64 0)) := below_at hb1 (Nat.le_refl _) (by go_simp)
  have C1 : Hid (w1.cell? ⟨w.heap.size + 1, 1, none⟩ = some (.slice none 0 0)) := below_at hb1 (Nat.le_refl _) (by go_simp)
  have F0 : Hid (w1.frozen? ⟨w.heap.size + 1, 0, none⟩ = false) := (hb1.frozen (p := ⟨w.heap.size + 1, 0, none⟩) (by simp)).trans (by go_simp)
  have F1 : Hid (w1.frozen? ⟨w.heap.size + 1, 1, none⟩ = false) := (hb1.frozen (p := ⟨w.heap.size + 1, 1, none⟩) (by simp)).trans (by go_simp)
  have hs1 : w.heap.size + 1 < w1.heap.size := by have := hb1.size; simp at this; omega
  have hs0 : w.heap.size < w1.heap.size := by omega
  have Y1 := Lib.hid (HB2.out.trans (hb1.mono (by simp; omega)))
  have A1 := Lib.hid a1
  clear hb1
  have hmk := run_make_row' (P := Tryd.prog) 62 46 (.int .u64 0) 8 Tryd.underlying62 info_uint_Tryd rfl .i64 .i64 ws.length (by omega) (by omega)
  go_upto_region 6 with fail
  go_cut [5, 6] (fun uv dv wx => ∃ U D : Nat, uv = .slice (some ⟨U, 0, none⟩) ws.length ws.length ∧ dv = .slice (some ⟨D, 0, none⟩) ws.length ws.length ∧ UB wx U ws.length (fun _ => 0) ∧ UB wx D ws.length (fun _ => 0) ∧ U ≠ D ∧ w1.heap.size ≤ U ∧ w1.heap.size ≤ D ∧ Below w1.heap.size w1 wx)
  case first =>
    go_region
    all_goals
      go_wp2_with fail
      go_meet
      first
      | exact ⟨w1.heap.size, w1.heap.size + 1, rfl, rfl, (UB.made w1 _).alloc _, UB.made2 w1 _ _, by omega, Nat.le_refl _, by omega, (((Below.refl _ _).alloc (Nat.le_refl _) _).alloc (by simp) _).drew⟩
      | exact ⟨w1.heap.size + 1, w1.heap.size, rfl, rfl, UB.made2 w1 _ _, (UB.made w1 _).alloc _, by omega, by omega, Nat.le_refl _, (((Below.refl _ _).alloc (Nat.le_refl _) _).alloc (by simp) _).drew⟩
  case rest =>
    obtain ⟨U, D, rfl, rfl, hU, hD, hne, hUl, hDl, hbc⟩ := hcut
    clear hmk a1
    have hsc := hbc.size
    have a2 : wc.cell? ⟨w.heap.size, 1, none⟩ = some (.slice A ws.length c) := below_at hbc (Nat.le_refl _) A1.out
    have hsc0 : w.heap.size < wc.heap.size := by omega
    have HU := Lib.hid hU; have HD := Lib.hid hD; have HBC := Lib.hid hbc; clear hU hD hbc
    go_wp2
    clear a2 hsc0
    go_loopw [40] (fun iv wr => ∃ i : Nat, iv = .int .i64 i ∧ i ≤ ws.length ∧ UB wr U ws.length (upG (plsOf ws) i) ∧ wc.grownBy wr (some U)) (fun iv _ => ws.length - (intOf iv).toNat)
    case atStart => exact ⟨0, rfl, Nat.zero_le _, HU.out, World.grownBy.refl _ _⟩
    case round =>
      obtain ⟨i, rfl, hi, hUi, hgr⟩ := hrel
      obtain ⟨wy, rfl⟩ : ∃ wy : World, wy = wr := ⟨_, rfl⟩
      have hbw := HBC.out.trans (GB.below hgr hUl hsc)
      have hby := Y1.out.trans (hbw.mono (by omega))
      have a2 : wy.cell? ⟨w.heap.size, 1, none⟩ = some (.slice A ws.length c) := below_at hbw (Nat.le_refl _) A1.out
      have hsy := hgr.size
      have hUl2 := hUi.lt
      have hsy0 : w.heap.size < wy.heap.size := by omega
      by_cases hin : i < ws.length
      · obtain ⟨b, off, hAe, hbA, h1, h2, h3⟩ := (HA.out.later hby (Nat.le_refl _)).at_ hin
        rw [HWQ.out i hin] at h2
        generalize ws[i].kind = kd at *
        generalize ws[i].word = wd0 at *
        have k0 := hUi.at_ hin
        have f0 := hUi.free i
        have e1 := own3_shl (plsOf ws i) (HQ22.out i)
        have z1 : (0 : Int) ≤ (i : Int) := by omega
        have z2 : (i : Int) < (ws.length : Int) := by omega
        have z3 : (0 : Int) ≤ (plsOf ws i : Int) := by omega
        have z4 : (plsOf ws i : Int) < 64 := by have := HQ22.out i; omega
        have hg24 := upG_lt HQ22.out i
        have hv24 := fun k => upV_lt (q := plsOf ws) (g := upG (plsOf ws) i) (i := i) (HQ22.out i) hg24 k
        have hsucc : upG (plsOf ws) (i + 1) = updF (upG (plsOf ws) i) i (upV (upG (plsOf ws) i) (plsOf ws) i i) := rfl
        have hv0 : upV (upG (plsOf ws) i) (plsOf ws) i 0 = own3 (plsOf ws i) := rfl
        have hvs : ∀ k, upV (upG (plsOf ws) i) (plsOf ws) i (k + 1) = if tP (plsOf ws i) (plsOf ws k) = true then upV (upG (plsOf ws) i) (plsOf ws) i k ||| upG (plsOf ws) i k else upV (upG (plsOf ws) i) (plsOf ws) i k := fun k => rfl
        have hcall := fun k hk W hs hr => touchP_ w.heap.size i k A c ws W HPL.out hin hk hs hr
        generalize hqi : plsOf ws i = qi at *
        generalize upV (upG (plsOf ws) i) (plsOf ws) i = vk at *
        generalize upG (plsOf ws) i = g at *
        have HUI := Lib.hid hUi; have HGR := Lib.hid hgr; have HBW := Lib.hid hbw; have HBY := Lib.hid hby; have HG24 := Lib.hid hg24; have HV24 := Lib.hid hv24; have HSUCC := Lib.hid hsucc; have HV0 := Lib.hid hv0; have HVS := Lib.hid hvs; have HCALL := Lib.hid hcall; have HQI := Lib.hid hqi; clear hUi hgr hbw hby hg24 hv24 hsucc hv0 hvs hcall hqi
        subst hAe
        go_wp2
        clear k0 f0 h1 h2 h3 a2 e1
        go_loopw [52] (fun kv wr => ∃ k : Nat, kv = .int .i64 k ∧ k ≤ i ∧ UB wr U ws.length (updF g i (vk k)) ∧ wc.grownBy wr (some U)) (fun kv _ => i - (intOf kv).toNat)
        case atStart => exact ⟨0, rfl, Nat.zero_le _, by rw [HV0.out]; exact (HUI.out.put i _).alloc _, GB.alloc (GB.setCell HGR.out (.inl rfl) _) _⟩
        case round =>
          obtain ⟨k, rfl, hk, hUk, hgk⟩ := hrel
          obtain ⟨wx, rfl⟩ : ∃ wx : World, wx = wr := ⟨_, rfl⟩
          have hbx := HBC.out.trans (GB.below hgk hUl hsc)
          have hbz := Y1.out.trans (hbx.mono (by omega))
          have a3 : wx.cell? ⟨w.heap.size, 1, none⟩ = some (.slice (some ⟨b, off, none⟩) ws.length c) := below_at hbx (Nat.le_refl _) A1.out
          by_cases hki : k < i
          · have hc2 := HCALL.out k (by omega) wx a3 (HA.out.later hbz (Nat.le_refl _))
            have hvs1 := HVS.out k
            clear a3
            cases htp : tP qi (plsOf ws k) with
            | false =>
              rw [htp] at hc2 hvs1
              rw [if_neg (by decide)] at hvs1
              clear htp
              have HUK := Lib.hid hUk; have HGK := Lib.hid hgk; have HBX := Lib.hid hbx; have HBZ := Lib.hid hbz; have HC2 := Lib.hid hc2; have HVS1 := Lib.hid hvs1; clear hUk hgk hbx hbz hc2 hvs1
              go_wp2_with (go_at_call 38; refine HC2.out.mono ?_; rintro e w2 ⟨rfl, hb2⟩)
              go_roundw
              case rel => exact ⟨k + 1, by go_num, by omega, by rw [HVS1.out]; exact HUK.out.later hb2, gtr HGK.out (gb_below hb2 _)⟩
              case measure => simp [intOf]; omega
            | true =>
              rw [htp] at hc2 hvs1
              rw [if_pos rfl] at hvs1
              clear htp
              have HUK := Lib.hid hUk; have HGK := Lib.hid hgk; have HBX := Lib.hid hbx; have HBZ := Lib.hid hbz; have HC2 := Lib.hid hc2; have HVS1 := Lib.hid hvs1; clear hUk hgk hbx hbz hc2 hvs1
              go_upto_region 16 with (go_at_call 38; refine HC2.out.mono ?_; rintro e w2 ⟨rfl, hb2⟩)
              have hU2 := HUK.out.later hb2
              have hg2 := gtr HGK.out (gb_below hb2 (some U))
              have k1 := hU2.at_ hin
              have k2 := hU2.at_ (show k < ws.length by omega)
              rw [updF_at] at k1
              rw [updF_ne _ _ (show k ≠ i by omega)] at k2
              have f1 := hU2.free i
              have hU3 := hU2.put i (vk k ||| g k)
              rw [updF_upd] at hU3
              have e5 := or_nat (vk k) (g k) (HV24.out k) (HG24.out k)
              have hg3 : wc.grownBy (w2.setCell ⟨U, i, none⟩ (.int .u64 ((vk k ||| g k : Nat) : Int))) (some U) := GB.setCell hg2 (.inl rfl) _
              have z5 : (0 : Int) ≤ (k : Int) := by omega
              have z6 : (k : Int) < (ws.length : Int) := by omega
              generalize hvv : vk k ||| g k = v2 at *
              generalize vk k = v1 at *
              generalize g k = g1 at *
              clear hb2
              have HU2 := Lib.hid hU2; have HG2 := Lib.hid hg2; have HU3 := Lib.hid hU3; have HG3 := Lib.hid hg3; have HVV := Lib.hid hvv; clear hU2 hg2 hU3 hg3 hvv
              go_region
              go_wp2
              go_roundw
              case rel => exact ⟨k + 1, by go_num, by omega, by rw [HVS1.out]; exact HU3.out, GB.drew HG3.out⟩
              case measure => simp [intOf]; omega
          · obtain rfl : k = i := by omega
            clear a3
            have HUK := Lib.hid hUk; have HGK := Lib.hid hgk; have HBX := Lib.hid hbx; have HBZ := Lib.hid hbz; clear hUk hgk hbx hbz
            go_wp2
            go_roundw
            case rel => exact ⟨k + 1, by go_num, by omega, by rw [HSUCC.out]; exact HUK.out, HGK.out⟩
            case measure => simp [intOf]; omega
      · obtain rfl : i = ws.length := by omega
        have hDy := HD.out.kept hgr (by simpa using hne.symm)
        have e1 : IntKind.i64.wrap ((ws.length : Int) - 1) = (ws.length : Int) - 1 := IntWalk.i64_in _ (by omega)
        obtain ⟨n, hn⟩ : ∃ n, n = ws.length := ⟨_, rfl⟩
        have HUI := Lib.hid hUi; have HGR := Lib.hid hgr; have HBW := Lib.hid hbw; have HBY := Lib.hid hby; have HDY := Lib.hid hDy; clear hUi hgr hbw hby hDy
        clear hi hin
        go_wp2
        clear a2 hUl2 hsy0 e1
        go_loopw [11, 12, 13] (fun bv wv iv wr => ∃ m x k : Nat, iv = .int .i64 ((m : Int) - 1) ∧ m ≤ ws.length ∧ bv = .int .u64 (x : Int) ∧ wv = .int .i64 (k : Int) ∧ x < 2 ^ 24 ∧ BS (plsOf ws) ws.length m x k ∧ UB wr D ws.length (dnG (plsOf ws) ws.length (ws.length - m)) ∧ wy.grownBy wr (some D)) (fun _ _ iv _ => (intOf iv + 1).toNat)
        case atStart => exact ⟨ws.length, 0, 0, rfl, Nat.le_refl _, rfl, rfl, by decide, .inl ⟨rfl, rfl, rfl⟩, by rw [Nat.sub_self]; exact HDY.out, World.grownBy.refl _ _⟩
        case round =>
          obtain ⟨m, x, kw, rfl, hm, rfl, rfl, hx24, hbs, hDi, hgd⟩ := hrel
          obtain ⟨wz, rfl⟩ : ∃ wz : World, wz = wr := ⟨_, rfl⟩
          have hbz := HBW.out.trans (GB.below hgd hDl (by have := HBW.out.size; omega))
          have hbz0 := Y1.out.trans (hbz.mono (by omega))
          have a2 : wz.cell? ⟨w.heap.size, 1, none⟩ = some (.slice A ws.length c) := below_at hbz (Nat.le_refl _) A1.out
          have hsz := hgd.size
          have hDl2 := hDi.lt
          have hsz0 : w.heap.size < wz.heap.size := by omega
          have hUz := HUI.out.kept hgd (by simpa using hne)
          rcases Nat.eq_zero_or_pos m with hm0 | hm0
          · subst hm0
            rw [show ((0 : Nat) : Int) - 1 = -1 from rfl]
            obtain ⟨hkw, hxb⟩ := hbs.done hn0
            have hf24 : ∀ p, 24 ≤ p → x.testBit p = false := fun p hp => Nat.testBit_lt_two_pow (Nat.lt_of_lt_of_le hx24 (Nat.pow_le_pow_right (by decide) hp))
            obtain ⟨f, hf⟩ : ∃ f : Nat → Bool, f = fun p => x.testBit p := ⟨_, rfl⟩
            have hff : (fun p => (bothN (plsOf ws) ws.length (bstW (mrkC (plsOf ws) ws.length) ws.length)).testBit p) = f := by rw [hf, ← hkw, ← hxb]
            have hx0 : ∀ i, x.testBit i = (decide (0 ≤ i) && f i) := fun i => by rw [hf]; simp
            have hf24' : ∀ p, 24 ≤ p → f p = false := fun p hp => by rw [hf]; exact hf24 p hp
            clear hf hf24
            have hO0 : (wz.alloc (.cells #[.int .i64 (kw : Int), .slice none 0 0] 37)).heap[wz.heap.size]? = some (.cells #[.int .i64 (kw : Int), .slice none 0 0] 37 (0, 0)) := heap_alloc_new _ _
            have hB0 : Below wz.heap.size wz (wz.alloc (.cells #[.int .i64 (kw : Int), .slice none 0 0] 37)) := (Below.refl _ _).alloc (Nat.le_refl _) _
            have hsw1 : w1.heap.size ≤ wz.heap.size := hbz.size
            have HDI := Lib.hid hDi; have HGD := Lib.hid hgd; have HBZ := Lib.hid hbz; have HBZ0 := Lib.hid hbz0; have HUZ := Lib.hid hUz; have HBS := Lib.hid hbs; have HX24 := Lib.hid hx24; have HKW := Lib.hid hkw; have HXB := Lib.hid hxb; have HFF := Lib.hid hff; have HX0 := Lib.hid hx0; have HF24p := Lib.hid hf24'; have HO0 := Lib.hid hO0; have HB0 := Lib.hid hB0; clear hDi hgd hbz hbz0 hUz hbs hx24 hkw hxb hff hx0 hf24' hO0 hB0
            go_wp2
            clear a2
            go_loopw [11] (fun bv wr => ∃ (k x : Nat) (v : Value), bv = .int .u64 (x : Int) ∧ (∀ i, x.testBit i = (decide (k ≤ i) && f i)) ∧ k ≤ 24 ∧ wr.heap[wz.heap.size]? = some (.cells #[.int .i64 (kw : Int), v] 37 (0, 0)) ∧ wr.ownsRow (wz.heap.size + 1) 3 1 v (plL f k).length (ints (plL f k)) ∧ Below wz.heap.size wz wr) (fun bv _ => (intOf bv).toNat)
            case atStart => exact ⟨0, x, _, rfl, HX0.out, by omega, HO0.out, World.ownsRow_nil _ _ _ _, HB0.out⟩
            case round =>
              obtain ⟨k, x, v, rfl, hxk, hk24, hO, hown, hbr⟩ := hrel
              obtain ⟨wx, rfl⟩ : ∃ wx : World, wx = wr := ⟨_, rfl⟩
              have hbx := HBZ.out.trans (hbr.mono hsw1)
              have hOl := lt_of_block hO
              have k0 := cell_of_row wx wz.heap.size 0 _ _ _ hO
              have k1 := cell_of_row wx wz.heap.size 1 _ _ _ hO
              have f1 := frozen_of_row wx wz.heap.size 1 _ _ hO
              simp only [List.getElem?_toArray, List.getElem?_cons_zero, List.getElem?_cons_succ] at k0 k1
              by_cases hx0 : x = 0
              · subst hx0
                have hfin : plL f 24 = plL f k := by
                  have := plL_more (f := f) (k := k) (24 - k) fun i h1 h2 => by
                    have h3 := hxk i
                    rw [Nat.zero_testBit, decide_eq_true h1, Bool.true_and] at h3
                    exact h3.symm
                  rwa [show k + (24 - k) = 24 by omega] at this
                obtain ⟨A3, c3, rfl⟩ := own_slice1 hown
                have c0 := below_at hbx (Nat.le_refl _) C0.out
                have c1 := below_at hbx (Nat.le_refl _) C1.out
                have g0 : wx.frozen? ⟨w.heap.size + 1, 0, none⟩ = false := (hbx.frozen (p := ⟨w.heap.size + 1, 0, none⟩) hs1).trans F0.out
                have g1 : wx.frozen? ⟨w.heap.size + 1, 1, none⟩ = false := (hbx.frozen (p := ⟨w.heap.size + 1, 1, none⟩) hs1).trans F1.out
                have hlen := plL_le f k
                have hsx1 : w.heap.size + 1 < wx.heap.size := by have := hbx.size; omega
                generalize plL f k = L at *
                have HO := Lib.hid hO; have HOWN := Lib.hid hown; have HBR := Lib.hid hbr; have HBX := Lib.hid hbx; have HFIN := Lib.hid hfin; have HXK := Lib.hid hxk; clear hO hown hbr hbx hfin hxk
                go_wp2
                refine bodyPost_ret (v := .tuple #[.agg #[.int .i64 (kw : Int), .slice A3 L.length c3], .int .i64 0]) (by simp [results, Tryd.results18, go_sem, c0, c1]) rfl ⟨.slice A3 L.length c3, by rw [← HKW.out], ?_, ?_⟩
                · rw [HFF.out, HFIN.out]
                  exact RdV.of_own (ownsRow_setCell_below (ownsRow_setCell_below HOWN.out (by show w.heap.size + 1 < wz.heap.size + 1; omega) _) (by show w.heap.size + 1 < wz.heap.size + 1; omega) _) (by omega)
                · exact ((Y1.out.trans (HBX.out.mono (by omega))).setCell (by show w.heap.size ≤ w.heap.size + 1; omega) _).setCell (by show w.heap.size ≤ w.heap.size + 1; omega) _
              · have hx1 : ((x : Int) != 0) = true := by simpa using hx0
                obtain ⟨wk, hwb, hwl, hwn⟩ := low_bit hx0
                have hkw2 : k ≤ wk ∧ f wk = true := by
                  have := hxk wk
                  rw [hwb] at this
                  simp only [Bool.true_eq, Bool.and_eq_true, decide_eq_true_eq] at this
                  exact this
                have hwk24 : wk < 24 := by
                  rcases Nat.lt_or_ge wk 24 with h | h
                  · exact h
                  · rw [HF24p.out wk h] at hkw2; exact absurd hkw2.2 (by decide)
                have hx64 : x < 2 ^ 64 := by
                  apply Nat.lt_pow_two_of_testBit
                  intro i hi
                  rw [hxk i, HF24p.out i (by omega), Bool.and_false]
                have htz := fun W h => tz_ x hx64 W h
                rw [ctz_iff hx64 hwb hwl] at htz
                have hpl2 : plL f (wk + 1) = plL f k ++ [(wk : Int)] := by
                  rw [plL_yes hkw2.2]
                  have := plL_more (f := f) (k := k) (wk - k) fun i h1 h2 => by
                    have h3 := hxk i
                    rw [hwl i (by omega), decide_eq_true h1, Bool.true_and] at h3
                    exact h3.symm
                  rw [show k + (wk - k) = wk by omega] at this
                  rw [this]
                have e1 : IntKind.u64.wrap ((x : Int) - 1) = ((x - 1 : Nat) : Int) := by
                  rw [show (x : Int) - 1 = ((x - 1 : Nat) : Int) by omega]
                  exact wraps64 _ (Int.natCast_nonneg _) (by omega)
                have e2 := and_nat x (x - 1) hx64 (by omega)
                have hdec : x &&& (x - 1) < x := by
                  have := Nat.and_le_right (n := x) (m := x - 1)
                  omega
                have hxk2 : ∀ i, (x &&& (x - 1)).testBit i = (decide (wk + 1 ≤ i) && f i) := fun i => by
                  rw [hwn i, hxk i]
                  by_cases hiw : i < wk
                  · have h3 := hwl i hiw
                    rw [hxk i] at h3
                    rw [h3, decide_eq_false (show ¬ wk + 1 ≤ i by omega)]
                    rfl
                  · by_cases he : i = wk
                    · subst he; rw [decide_eq_false (show ¬ i + 1 ≤ i by omega)]; simp
                    · rw [decide_eq_true (show k ≤ i by omega), decide_eq_true (show wk + 1 ≤ i by omega), decide_eq_false he]; simp
                have hTx := HT.out.later (Y1.out.trans (hbx.mono (by omega))) (Nat.le_refl _)
                have htz2 : Calls Tryd.prog 28 #[.int .u64 (x : Int)] wx.drew fun e w' => e = .returned (.int .i64 wk) ∧ wx.drew = w' := htz wx.drew hTx
                have hlen := plL_le f k
                have hvl := hown.lt
                have hN2 : Hid (some wz.heap.size ≠ v.ownBlock) := fun h => by have := (hvl _ h.symm).1; omega
                generalize plL f k = L at *
                generalize hx2 : x &&& (x - 1) = x2 at *
                generalize x - 1 = xm at *
                have HO := Lib.hid hO; have HOWN := Lib.hid hown; have HBR := Lib.hid hbr; have HBX := Lib.hid hbx; have HXK := Lib.hid hxk; have HKW2 := Lib.hid hkw2; have HWK24 := Lib.hid hwk24; have HX64 := Lib.hid hx64; have HTZ2 := Lib.hid htz2; have HPL2 := Lib.hid hpl2; have HDEC := Lib.hid hdec; have HXK2 := Lib.hid hxk2; have HTX := Lib.hid hTx; have HWB := Lib.hid hwb; have HWL := Lib.hid hwl; have HWN := Lib.hid hwn; have HX2 := Lib.hid hx2; have HVL := Lib.hid hvl; clear hO hown hbr hbx hxk hkw2 hwk24 hx64 htz2 hpl2 hdec hxk2 hTx hwb hwl hwn hx2 hvl
                clear htz hx0
                go_wp2
                go_region_law
                  (first | (refine step_app1_Tryd (by rfl) _ _ (by rfl) (wz.heap.size + 1) v L (by rfl) (by repeat (first | exact HOWN.out | refine World.ownsRow.alloc ?_ _ | exact (World.ownsRow.alloc HOWN.out _).drew)) wx.heap.size (wk : Int) (by rfl) (heap_alloc_new _ _) (by omega) (by simp; omega) ?_; intro g cap w3 hown3 hgrow hat3 hlt3; have q1 : w3.cell? ⟨wz.heap.size, 1, none⟩ = some v := (hgrow.cell_far ⟨wz.heap.size, 1, none⟩ (by simp; omega) hN2.out).trans (by go_simp); have q2 : w3.frozen? ⟨wz.heap.size, 1, none⟩ = false := (hgrow.frozen_far ⟨wz.heap.size, 1, none⟩ (by simp; omega) hN2.out).trans (by go_simp); have q3 : wz.heap.size < w3.heap.size := (by have := hgrow.size; simp at this; omega)) | (go_simp; go_at_call 28; refine HTZ2.out.mono ?_; rintro e w9 ⟨rfl, rfl⟩))
                all_goals
                  go_wp2
                  go_roundw
                  case rel =>
                    refine ⟨wk + 1, x2, _, rfl, HXK2.out, by have := HWK24.out; omega, ?_, by rw [HPL2.out]; exact ownsRow_setCell_below hown3 (by show wz.heap.size < wz.heap.size + 1; omega) _, ?_⟩
                    · exact heap_setCell_same _ _ 1 _ _ _ ((hgrow.block _ (by simp; omega) hN2.out).trans ((Below.heap_alloc wx _ _ hOl).trans HO.out))
                    · exact ((HBR.out.alloc HBR.out.size _).drew.grown hgrow (by simp; omega) (fun k' hk' => by have := (HVL.out k' hk').1; omega)).setCell (Nat.le_refl _) _
                  case measure =>
                    have := HDEC.out
                    simp [intOf]; omega
          · obtain ⟨i, rfl⟩ : ∃ i, m = i + 1 := ⟨m - 1, by omega⟩
            rw [show ((i + 1 : Nat) : Int) - 1 = (i : Int) by omega]
            have hin : i < ws.length := by omega
            obtain ⟨b, off, hAe, hbA, h1, h2, h3⟩ := (HA.out.later hbz0 (Nat.le_refl _)).at_ hin
            rw [HWQ.out i hin] at h2
            generalize ws[i].kind = kd at *
            generalize ws[i].word = wd0 at *
            have k0 := hDi.at_ hin
            have f0 := hDi.free i
            have e1 := own3_shl (plsOf ws i) (HQ22.out i)
            have z1 : (0 : Int) ≤ (i : Int) := by omega
            have z2 : (i : Int) < (ws.length : Int) := by omega
            have z3 : (0 : Int) ≤ (plsOf ws i : Int) := by omega
            have z4 : (plsOf ws i : Int) < 64 := by have := HQ22.out i; omega
            have z5 : IntKind.i64.wrap ((i : Int) + 1) = ((i + 1 : Nat) : Int) := IntWalk.i64_in _ (by omega)
            have hdn := dnG_next (plsOf ws) hin
            have hg24 := dnG_lt (q := plsOf ws) ws.length HQ22.out (ws.length - (i + 1))
            have hv24 := fun k => dnV_lt (q := plsOf ws) (g := dnG (plsOf ws) ws.length (ws.length - (i + 1))) (i := i) (HQ22.out i) hg24 k
            have hv0 : dnV (dnG (plsOf ws) ws.length (ws.length - (i + 1))) (plsOf ws) i 0 = own3 (plsOf ws i) := rfl
            have hvs : ∀ k, dnV (dnG (plsOf ws) ws.length (ws.length - (i + 1))) (plsOf ws) i (k + 1) = if tP (plsOf ws i) (plsOf ws (i + 1 + k)) = true then dnV (dnG (plsOf ws) ws.length (ws.length - (i + 1))) (plsOf ws) i k ||| dnG (plsOf ws) ws.length (ws.length - (i + 1)) (i + 1 + k) else dnV (dnG (plsOf ws) ws.length (ws.length - (i + 1))) (plsOf ws) i k := fun k => rfl
            have hcall := fun k hk W hs hr => touchP_ w.heap.size i k A c ws W HPL.out hin hk hs hr
            have hb24 : bothN (plsOf ws) ws.length i < 16777216 := Nat.lt_of_lt_of_le (bothN_lt HQP.out hin) (Nat.pow_le_pow_right (n := 2) (i := P) (j := 24) (by decide) hP24)
            have hbo : bothN (plsOf ws) ws.length i = upG (plsOf ws) ws.length i &&& dnG (plsOf ws) ws.length (ws.length - i) i := rfl
            rw [hdn, updF_at] at hbo
            have hu24 := upG_lt HQ22.out ws.length i
            have hbsy := hbs.yes hin
            have hbsn := hbs.no hin
            have hmc : mrkC (plsOf ws) ws.length i = cntP (fun p => (bothN (plsOf ws) ws.length i).testBit p) 24 := rfl
            have hho := fun W => ones_ (bothN (plsOf ws) ws.length i) hb24 W
            have hhx := fun W => ones_ x (by omega) W
            rw [← hmc] at hho
            generalize hqi : plsOf ws i = qi at *
            generalize dnV (dnG (plsOf ws) ws.length (ws.length - (i + 1))) (plsOf ws) i = vk at *
            generalize dnG (plsOf ws) ws.length (ws.length - (i + 1)) = g at *
            have HDI := Lib.hid hDi; have HGD := Lib.hid hgd; have HBZ := Lib.hid hbz; have HBZ0 := Lib.hid hbz0; have HG24 := Lib.hid hg24; have HV24 := Lib.hid hv24; have HDN := Lib.hid hdn; have HV0 := Lib.hid hv0; have HVS := Lib.hid hvs; have HCALL := Lib.hid hcall; have HQI := Lib.hid hqi; have HUZ := Lib.hid hUz; have HBS := Lib.hid hbs; have HBO := Lib.hid hbo; have HU24 := Lib.hid hu24; have HB24 := Lib.hid hb24; have HBSY := Lib.hid hbsy; have HBSN := Lib.hid hbsn; have HMC := Lib.hid hmc; have HHO := Lib.hid hho; have HHX := Lib.hid hhx; have HX24 := Lib.hid hx24; clear hDi hgd hbz hbz0 hg24 hv24 hdn hv0 hvs hcall hqi hUz hbs hbo hu24 hb24 hbsy hbsn hmc hho hhx hx24
            subst hAe
            go_wp2
            clear k0 f0 h1 h2 h3 a2 e1 z5
            go_loopw [14] (fun kv wr => ∃ m2 kk : Nat, kk = i + 1 + m2 ∧ kv = .int .i64 (kk : Int) ∧ kk ≤ ws.length ∧ UB wr D ws.length (updF g i (vk m2)) ∧ wy.grownBy wr (some D)) (fun kv _ => ws.length - (intOf kv).toNat)
            case atStart => exact ⟨0, i + 1, rfl, rfl, by omega, by rw [HV0.out]; exact HDI.out.put i _, GB.setCell HGD.out (.inl rfl) _⟩
            case round =>
              obtain ⟨m2, kk, hkk, rfl, hk, hDk, hgk⟩ := hrel
              obtain ⟨wx, rfl⟩ : ∃ wx : World, wx = wr := ⟨_, rfl⟩
              have hbx := HBW.out.trans (GB.below hgk hDl (by have := HBW.out.size; omega))
              have hbx0 := Y1.out.trans (hbx.mono (by omega))
              have a3 : wx.cell? ⟨w.heap.size, 1, none⟩ = some (.slice (some ⟨b, off, none⟩) ws.length c) := below_at hbx (Nat.le_refl _) A1.out
              have hsx0 : w.heap.size < wx.heap.size := by have := hgk.size; omega
              have hki : kk ≠ i := by omega
              by_cases hkn : kk < ws.length
              · have hc2 := HCALL.out kk hkn wx a3 (HA.out.later hbx0 (Nat.le_refl _))
                have hvs1 := HVS.out m2
                rw [← hkk] at hvs1
                have z6 : IntKind.i64.wrap ((kk : Int) + 1) = ((kk + 1 : Nat) : Int) := IntWalk.i64_in _ (by omega)
                have hkk2 : kk + 1 = i + 1 + (m2 + 1) := by omega
                cases htp : tP qi (plsOf ws kk) with
                | false =>
                  rw [htp] at hc2 hvs1
                  rw [if_neg (by decide)] at hvs1
                  clear htp
                  have HDK := Lib.hid hDk; have HGK := Lib.hid hgk; have HBX := Lib.hid hbx; have HBX0 := Lib.hid hbx0; have HC2 := Lib.hid hc2; have HVS1 := Lib.hid hvs1; have HKK := Lib.hid hkk; have HKK2 := Lib.hid hkk2; clear hDk hgk hbx hbx0 hc2 hvs1 hkk hkk2
                  go_wp2_with (go_at_call 38; refine HC2.out.mono ?_; rintro e w2 ⟨rfl, hb2⟩)
                  go_roundw
                  case rel => exact ⟨m2 + 1, kk + 1, HKK2.out, rfl, by omega, by rw [HVS1.out]; exact HDK.out.later hb2, gtr HGK.out (gb_below hb2 _)⟩
                  case measure => simp [intOf]; omega
                | true =>
                  rw [htp] at hc2 hvs1
                  rw [if_pos rfl] at hvs1
                  clear htp
                  have HDK := Lib.hid hDk; have HGK := Lib.hid hgk; have HBX := Lib.hid hbx; have HBX0 := Lib.hid hbx0; have HC2 := Lib.hid hc2; have HVS1 := Lib.hid hvs1; have HKK := Lib.hid hkk; have HKK2 := Lib.hid hkk2; clear hDk hgk hbx hbx0 hc2 hvs1 hkk hkk2
                  go_upto_region 28 with (go_at_call 38; refine HC2.out.mono ?_; rintro e w2 ⟨rfl, hb2⟩)
                  have hU2 := HDK.out.later hb2
                  have hg2 := gtr HGK.out (gb_below hb2 (some D))
                  have k1 := hU2.at_ hin
                  have k2 := hU2.at_ hkn
                  rw [updF_at] at k1
                  rw [updF_ne _ _ hki] at k2
                  have f1 := hU2.free i
                  have hU3 := hU2.put i (vk m2 ||| g kk)
                  rw [updF_upd] at hU3
                  have e5 := or_nat (vk m2) (g kk) (HV24.out m2) (HG24.out kk)
                  have hg3 : wy.grownBy (w2.setCell ⟨D, i, none⟩ (.int .u64 ((vk m2 ||| g kk : Nat) : Int))) (some D) := GB.setCell hg2 (.inl rfl) _
                  have z7 : (0 : Int) ≤ (kk : Int) := by omega
                  have z8 : (kk : Int) < (ws.length : Int) := by omega
                  generalize hvv : vk m2 ||| g kk = v2 at *
                  generalize vk m2 = v1 at *
                  generalize g kk = g1 at *
                  clear hb2 a3
                  have HU2 := Lib.hid hU2; have HG2 := Lib.hid hg2; have HU3 := Lib.hid hU3; have HG3 := Lib.hid hg3; have HVV := Lib.hid hvv; clear hU2 hg2 hU3 hg3 hvv
                  go_region
                  go_wp2
                  go_roundw
                  case rel => exact ⟨m2 + 1, kk + 1, HKK2.out, rfl, by omega, by rw [HVS1.out]; exact HU3.out, GB.drew HG3.out⟩
                  case measure => simp [intOf]; omega
              · obtain rfl : kk = ws.length := by omega
                have hm2 : m2 = ws.length - (i + 1) := by omega
                have hUx := HUI.out.kept hgk (by simpa using hne)
                have k1 := hUx.at_ hin
                have k2 := hDk.at_ hin
                rw [updF_at] at k2
                have e5 := and24_nat (upG (plsOf ws) ws.length i) (vk m2) HU24.out (HV24.out m2)
                have hbo2 := HBO.out
                rw [← hm2] at hbo2
                rw [← hbo2] at e5
                have z9 : IntKind.i64.wrap ((i : Int) - 1) = (i : Int) - 1 := IntWalk.i64_in _ (by omega)
                have hUl3 := hUx.lt
                have hDl3 := hDk.lt
                have hyes := HBSY.out
                have hno := HBSN.out
                have hh1 := HHO.out
                have hh2 := HHX.out
                have hdk2 := HDN.out
                rw [← hm2] at hdk2
                rw [← hdk2] at hDk
                have hbt24 : bothN (plsOf ws) ws.length i < 2 ^ 24 := HB24.out
                generalize bothN (plsOf ws) ws.length i = bt at *
                generalize mrkC (plsOf ws) ws.length i = ci at *
                generalize cntP (fun p => x.testBit p) 24 = cx at *
                generalize upG (plsOf ws) ws.length i = ui at *
                generalize vk m2 = vi at *
                cases hcc : decide (cx ≤ ci) with
                | true =>
                  have hb9 := hyes (of_decide_eq_true hcc)
                  have HDK := Lib.hid hDk; have HGK := Lib.hid hgk; have HBX := Lib.hid hbx; have HBX0 := Lib.hid hbx0; have HKK := Lib.hid hkk; have HM2 := Lib.hid hm2; have HUX := Lib.hid hUx; have HBO2 := Lib.hid hbo2; have HYES := Lib.hid hyes; have HNO := Lib.hid hno; have HH1 := Lib.hid hh1; have HH2 := Lib.hid hh2; have HDK2 := Lib.hid hdk2; have HB9 := Lib.hid hb9; have HBT24 := Lib.hid hbt24; clear hDk hgk hbx hbx0 hkk hm2 hUx hbo2 hyes hno hh1 hh2 hdk2 hb9 hbt24
                  go_wp2
                  clear a3
                  go_region
                  go_wp2_with (go_at_call 39; first | (with_reducible refine (HH1.out _).mono ?_; rintro e w9 ⟨rfl, rfl⟩) | (with_reducible refine (HH2.out _).mono ?_; rintro e w9 ⟨rfl, rfl⟩))
                  go_roundw
                  case rel => exact ⟨i, bt, i, rfl, by omega, rfl, rfl, HBT24.out, HB9.out, HDK.out, GB.drew HGK.out⟩
                  case measure => simp [intOf]
                | false =>
                  have hb9 := hno (of_decide_eq_false hcc)
                  have HDK := Lib.hid hDk; have HGK := Lib.hid hgk; have HBX := Lib.hid hbx; have HBX0 := Lib.hid hbx0; have HKK := Lib.hid hkk; have HM2 := Lib.hid hm2; have HUX := Lib.hid hUx; have HBO2 := Lib.hid hbo2; have HYES := Lib.hid hyes; have HNO := Lib.hid hno; have HH1 := Lib.hid hh1; have HH2 := Lib.hid hh2; have HDK2 := Lib.hid hdk2; have HB9 := Lib.hid hb9; have HBT24 := Lib.hid hbt24; clear hDk hgk hbx hbx0 hkk hm2 hUx hbo2 hyes hno hh1 hh2 hdk2 hb9 hbt24
                  go_wp2
                  clear a3
                  go_region
                  go_wp2_with (go_at_call 39; first | (with_reducible refine (HH1.out _).mono ?_; rintro e w9 ⟨rfl, rfl⟩) | (with_reducible refine (HH2.out _).mono ?_; rintro e w9 ⟨rfl, rfl⟩))
                  go_roundw
                  case rel => exact ⟨i, x, kw, rfl, by omega, rfl, rfl, HX24.out, HB9.out, HDK.out, GB.drew HGK.out⟩
                  case measure => simp [intOf]
theorem bndX_zero {p : Int} {ws : List GW} (h : bndX p ws = 0) : errSheet p ws = 0 ∧ 0 < ws.length := by
  unfold bndX at h
  by_cases he : errSheet p ws = 0
  · rw [if_pos he] at h
    refine ⟨he, ?_⟩
    by_cases hl : ws.length = 0
    · rw [if_pos hl] at h; exact absurd h (by decide)
    · omega
  · rw [if_neg he] at h; exact absurd h he
theorem pBound_ (p : Int) (A : Option Addr) (c : Nat) (ws : List GW) (w : World) (hsh : ShIn w p A ws) (hT : Tz w) :
    Calls Tryd.prog 18 #[.agg #[.int .i64 p, .slice A ws.length c]] w (BndPost (bndL p ws) (bndW p ws) (bndX p ws) w) := by
  by_cases hx : bndX p ws = 0
  · obtain ⟨he, hl⟩ := bndX_zero hx
    have hp2 := (okAll he).1
    obtain ⟨P, rfl⟩ := Int.eq_ofNat_of_zero_le (show 0 ≤ p by omega)
    unfold bndL bndW
    rw [if_pos hx, if_pos hx, hx]
    exact pBound_ok P A c ws w he hl hsh.rd hT
  · unfold bndL bndW
    rw [if_neg hx, if_neg hx]
    exact pBound_bad p A c ws w hsh hx
end Go.Proofs.YtnplcephmidjbaaDoor
/- Share in plain Lean: bobbins are below the need, and no two places have one at one time. -/
namespace Go.Proofs.YtnplcephmidjbaaDoor

theorem hld_cnt (u : Nat → Bool) (out : Nat → Int) : ∀ m, (hldL u out m).length = cntP (fun p => decide (0 ≤ out p) && u p) m
  | 0 => rfl
  | m + 1 => by
    have ih := hld_cnt u out m
    have e : cntP (fun p => decide (0 ≤ out p) && u p) (m + 1) = cntP (fun p => decide (0 ≤ out p) && u p) m + if (decide (0 ≤ out m) && u m) = true then 1 else 0 := rfl
    rw [e]
    unfold hldL
    by_cases hc : 0 ≤ out m ∧ u m = true
    · rw [if_pos hc, if_pos (by rw [decide_eq_true hc.1, hc.2]; rfl)]
      simp [ih]
    · rw [if_neg hc, if_neg (by simpa using hc), ih]
      rfl
theorem cntP_lt {f g : Nat → Bool} {p0 : Nat} (hf : f p0 = false) (hg : g p0 = true) : ∀ m, (∀ p, p < m → f p = true → g p = true) → p0 < m → cntP f m < cntP g m
  | 0, _, h0 => absurd h0 (by omega)
  | m + 1, h, h0 => by
    have e1 : cntP f (m + 1) = cntP f m + if f m = true then 1 else 0 := rfl
    have e2 : cntP g (m + 1) = cntP g m + if g m = true then 1 else 0 := rfl
    rw [e1, e2]
    by_cases hm : p0 = m
    · subst hm
      have := cntP_mono (f := f) (g := g) p0 fun p hp => h p (by omega)
      rw [hf, hg, if_neg (by decide), if_pos rfl]
      omega
    · have ih := cntP_lt hf hg m (fun p hp => h p (by omega)) (by omega)
      by_cases hc : f m = true
      · rw [if_pos hc, if_pos (h m (by omega) hc)]; omega
      · rw [if_neg hc]; omega
theorem fs_is {q : Nat → Nat} {n k p : Nat} (hk : k < n) (ht : tkB (q k) p = true) (hl : ∀ i, i < k → tkB (q i) p = false) : fsI q n p = k := by
  obtain ⟨h1, h2⟩ := (fsI_le q p k n).2 ⟨k, hk, Nat.le_refl _, ht⟩
  rcases Nat.eq_zero_or_pos k with h0 | h0
  · omega
  · have h3 : ¬ (0 ≤ fsI q n p ∧ fsI q n p ≤ ((k - 1 : Nat) : Int)) := fun h => by
      obtain ⟨i, _, hi, hti⟩ := (fsI_le q p (k - 1) n).1 h
      rw [hl i (by omega)] at hti; cases hti
    omega
/-- What holds of the bobbins within work k, behind j of its places. -/
structure ShI (n : Nat) (q : Nat → Nat) (k j : Nat) (out : Nat → Int) : Prop where
  rng : ∀ p, -1 ≤ out p
  beg : ∀ p, 0 ≤ out p ↔ (∃ i, i < k ∧ tkB (q i) p = true) ∨ ∃ i, i < j ∧ p = q k + i
  need : ∀ p, 0 ≤ out p → out p < needQ q n n
  dis : ∀ p r, p ≠ r → 0 ≤ out p → out p = out r → ¬ (fsI q n p ≤ laI q n r ∧ fsI q n r ≤ laI q n p)
theorem tk_own (c j : Nat) (hj : j < 2) : tkB c (c + j) = true := by
  unfold tkB
  obtain rfl | rfl : j = 0 ∨ j = 1 := by omega
  · simp
  · simp
theorem ShI.step {P n k j : Nat} {q : Nat → Nat} {out : Nat → Int} (h : ShI n q k j out) (hj : j < 2) (hk : k < n) (hq : ∀ i, i < n → q i + 2 ≤ P) (hP : P ≤ 24) : ShI n q k (j + 1) (shV P (shU q n k) out (q k + j)) := by
  have ht := tk_own (q k) j hj
  unfold shV
  by_cases h0 : 0 ≤ out (q k + j)
  · rw [if_pos h0]
    refine ⟨h.rng, fun p => ?_, h.need, h.dis⟩
    rw [h.beg p]
    constructor
    · rintro (hp | ⟨i, hi, hp⟩)
      · exact .inl hp
      · exact .inr ⟨i, by omega, hp⟩
    · rintro (hp | ⟨i, hi, hp⟩)
      · exact .inl hp
      · rcases Nat.lt_succ_iff_lt_or_eq.1 hi with hi | rfl
        · exact .inr ⟨i, hi, hp⟩
        · rw [hp]; exact (h.beg _).1 h0
  · rw [if_neg h0]
    have hno : ∀ i, i < k → tkB (q i) (q k + j) = false := fun i hi => by
      cases hti : tkB (q i) (q k + j) with
      | false => rfl
      | true => exact absurd ((h.beg _).2 (.inl ⟨i, hi, hti⟩)) h0
    have hfs := fs_is hk ht hno
    obtain ⟨g1, g2⟩ := leastL_mex (hldL (shU q n k) out P)
    have hlt : ∀ p, 0 ≤ out p → p < P := fun p hp => by
      rcases (h.beg p).1 hp with ⟨i, hi, hti⟩ | ⟨i, hi, rfl⟩
      · have := hq i (by omega)
        unfold tkB at hti
        simp at hti
        omega
      · have := hq k hk; omega
    have hla : ∀ p, out p = (leastL (hldL (shU q n k) out P) : Int) → laI q n p < k := fun p hp => by
      have hp0 : 0 ≤ out p := by omega
      rcases Int.lt_or_le (laI q n p) k with hh | hh
      · exact hh
      · refine absurd ((hldL_mem _ _ _ P).2 ⟨p, hlt p hp0, hp0, ?_, hp⟩) g1
        unfold shU; rw [decide_eq_true_eq]; exact hh
    have hcnt : (leastL (hldL (shU q n k) out P) : Int) < needQ q n n := by
      have h1 := leastL_le (hldL (shU q n k) out P)
      rw [hld_cnt] at h1
      have h2 : cntP (fun p => decide (0 ≤ out p) && shU q n k p) P < cntP (hgQ q n k) P := by
        refine cntP_lt (p0 := q k + j) ?_ ?_ P (fun p hp hf => ?_) (by have := hq k hk; omega)
        · rw [decide_eq_false h0]; rfl
        · rw [hgQ_iff]; exact ⟨⟨k, hk, Nat.le_refl _, ht⟩, k, hk, Nat.le_refl _, ht⟩
        · simp only [Bool.and_eq_true, decide_eq_true_eq] at hf
          rw [hgQ_iff]
          refine ⟨?_, ?_⟩
          · rcases (h.beg p).1 hf.1 with ⟨i, hi, hti⟩ | ⟨i, hi, rfl⟩
            · exact ⟨i, by omega, by omega, hti⟩
            · exact ⟨k, hk, Nat.le_refl _, tk_own _ _ (by omega)⟩
          · have h3 := hf.2
            unfold shU at h3
            rw [decide_eq_true_eq] at h3
            exact (laI_le q p k n).1 h3
      have h3 : cntP (hgQ q n k) P = hngN q n k := by
        unfold hngN
        have := cntP_more (f := hgQ q n k) (m := P) (24 - P) fun p h1 _ => hgQ_out hq k h1
        rw [show P + (24 - P) = 24 by omega] at this
        exact this.symm
      have h4 := needQ_ge q n n k hk
      omega
    refine ⟨fun p => ?_, fun p => ?_, fun p hp => ?_, fun p r hpr hp he => ?_⟩
    · unfold updF
      split
      · omega
      · exact h.rng p
    · unfold updF
      by_cases hp : p = q k + j
      · rw [if_pos hp]
        exact ⟨fun _ => .inr ⟨j, by omega, hp⟩, fun _ => Int.natCast_nonneg _⟩
      · rw [if_neg hp, h.beg p]
        constructor
        · rintro (hh | ⟨i, hi, hh⟩)
          · exact .inl hh
          · exact .inr ⟨i, by omega, hh⟩
        · rintro (hh | ⟨i, hi, hh⟩)
          · exact .inl hh
          · rcases Nat.lt_succ_iff_lt_or_eq.1 hi with hi | rfl
            · exact .inr ⟨i, hi, hh⟩
            · exact absurd hh hp
    · unfold updF at hp ⊢
      by_cases hpp : p = q k + j
      · rw [if_pos hpp]; exact hcnt
      · rw [if_neg hpp] at hp ⊢; exact h.need p hp
    · unfold updF at hp he
      by_cases hpp : p = q k + j
      · rw [if_pos hpp, if_neg (fun e => hpr (hpp.trans e.symm))] at he
        have := hla r he.symm
        rw [hpp, hfs]
        omega
      · rw [if_neg hpp] at hp he
        by_cases hrr : r = q k + j
        · rw [if_pos hrr] at he
          have := hla p he
          rw [hrr, hfs]
          omega
        · rw [if_neg hrr] at he
          exact h.dis p r hpr hp he
theorem ShI.all {P n : Nat} {q : Nat → Nat} (hq : ∀ i, i < n → q i + 2 ≤ P) (hP : P ≤ 24) : ∀ k, k ≤ n → ShI n q k 0 (shR P q (shU q n) k)
  | 0, _ => by
    refine ⟨fun p => ?_, fun p => ?_, fun p hp => ?_, fun p r _ hp _ => ?_⟩
    · unfold shR; omega
    · unfold shR
      constructor
      · intro h; omega
      · rintro (⟨i, hi, _⟩ | ⟨i, hi, _⟩) <;> omega
    · unfold shR at hp; omega
    · unfold shR at hp; omega
  | k + 1, hk => by
    have ih := ShI.all hq hP k (by omega)
    have h2 := (ih.step (by omega) (by omega) hq hP).step (by omega) (by omega) hq hP
    have e : shR P q (shU q n) (k + 1) = shV P (shU q n k) (shV P (shU q n k) (shR P q (shU q n) k) (q k + 0)) (q k + 1) := rfl
    rw [e]
    refine ⟨h2.rng, fun p => ?_, h2.need, h2.dis⟩
    rw [h2.beg p]
    constructor
    · rintro (⟨i, hi, ht⟩ | ⟨i, hi, rfl⟩)
      · exact .inl ⟨i, by omega, ht⟩
      · exact .inl ⟨k, by omega, tk_own _ _ hi⟩
    · rintro (⟨i, hi, ht⟩ | ⟨i, hi, _⟩)
      · rcases Nat.lt_succ_iff_lt_or_eq.1 hi with hi | rfl
        · exact .inl ⟨i, hi, ht⟩
        · refine .inr ⟨p - q i, ?_, ?_⟩
          · unfold tkB at ht; simp at ht; omega
          · unfold tkB at ht; simp at ht; omega
      · omega
/-- What the law asks of Share. -/
theorem share_ok {P n : Nat} {q : Nat → Nat} (hq : ∀ i, i < n → q i + 2 ≤ P) (hP : P ≤ 24) :
    (∀ p, -1 ≤ shareG P q n p ∧ (fsI q n p < 0 ↔ shareG P q n p = -1)) ∧ (∀ p, 0 ≤ shareG P q n p → shareG P q n p < needQ q n n) ∧
      ∀ p r, p ≠ r → 0 ≤ shareG P q n p → shareG P q n p = shareG P q n r → ¬ (fsI q n p ≤ laI q n r ∧ fsI q n r ≤ laI q n p) := by
  have h := ShI.all hq hP n (Nat.le_refl _)
  refine ⟨fun p => ⟨h.rng p, ?_⟩, h.need, h.dis⟩
  have h1 := h.rng p
  have h2 := h.beg p
  rw [fsI_neg]
  constructor
  · intro hn
    have : ¬ 0 ≤ shR P q (shU q n) n p := fun h0 => by
      rcases h2.1 h0 with ⟨i, hi, ht⟩ | ⟨i, hi, _⟩
      · rw [hn i hi] at ht; cases ht
      · omega
    show shR P q (shU q n) n p = -1
    omega
  · intro he i hi
    cases ht : tkB (q i) p with
    | false => rfl
    | true =>
      have h3 := h2.2 (.inl ⟨i, hi, ht⟩)
      have h4 : shR P q (shU q n) n p = -1 := he
      omega
end Go.Proofs.YtnplcephmidjbaaDoor
