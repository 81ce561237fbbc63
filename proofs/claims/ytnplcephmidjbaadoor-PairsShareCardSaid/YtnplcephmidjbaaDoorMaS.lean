/- Texts of this claim, laid together: PrNeed, PrFewP, PrPrep, PrRNeed, PrBound, PrRFew. -/
import Derived.Test.YtnplcephmidjbaaDoorMaA
import Derived.Test.YtnplcephmidjbaaDoorMaB
import Derived.Test.YtnplcephmidjbaaDoorMaF
import Derived.Test.YtnplcephmidjbaaDoorMaP
import Derived.BigRegion
import Derived.Deep.RegionLaw
/- Package pairs: the need of what is not done, as Fewest's function finds it, with what it knows. -/
namespace Go.Proofs.YtnplcephmidjbaaDoor
open Go.RowKit

/-- The need, of a sheet's places. -/
def nedN (q : Nat → Nat) (n S : Nat) : Nat := ndN n (befT q) (hngS q n) S
/-- The value of Fewest's function. -/
def needV (wa pa na : Nat) : Value := .func (.func 33) #[] #[.pointer (some ⟨wa, 0, none⟩), .pointer (some ⟨pa, 0, none⟩), .pointer (some ⟨na, 0, none⟩)]
/-- What Fewest's function sees: all works, the plan, itself. -/
structure PlanAt (w : World) (wa pa na R mb b cap : Nat) (A : Option Addr) (q : Nat → Nat) (n : Nat) : Prop where
  all : w.cell? ⟨wa, 0, none⟩ = some (.int .u64 ((2 ^ n - 1 : Nat) : Int))
  plan : w.cell? ⟨pa, 0, none⟩ = some (.pointer (some ⟨R, 0, none⟩))
  self : w.cell? ⟨na, 0, none⟩ = some (needV wa pa na)
  pl : PlB w R (.slice A n cap) (tkS q n) mb
  at_ : 0 < n → A = some ⟨b, 0, none⟩
  bef : ∀ i, i < n → w.cell? ⟨b, i, none⟩ = some (.int .u64 (befT q i : Int))
  good : MapOk w mb .u64 .i64 (fun z => (nedN q n z.toNat : Int))
  tz : Tz w
  ne : wa ≠ mb ∧ pa ≠ mb ∧ na ≠ mb ∧ R ≠ mb ∧ b ≠ mb ∧ 1 ≠ mb
theorem PlanAt.kept {w w' : World} {wa pa na R mb b cap n : Nat} {A : Option Addr} {q : Nat → Nat} (h : PlanAt w wa pa na R mb b cap A q n) (hg : w.grownBy w' (some mb)) (hm : MapOk w' mb .u64 .i64 (fun z => (nedN q n z.toNat : Int))) : PlanAt w' wa pa na R mb b cap A q n := by
  obtain ⟨n1, n2, n3, n4, n5, n6⟩ := h.ne
  exact ⟨GB.cell hg h.all n1, GB.cell hg h.plan n2, GB.cell hg h.self n3, h.pl.kept hg (by simpa using n4), h.at_, fun i hi => GB.cell hg (h.bef i hi) n5, hm, fun j hj => GB.cell hg (h.tz j hj) n6, h.ne⟩
theorem PlanAt.later {w w' : World} {wa pa na R mb b cap n : Nat} {A : Option Addr} {q : Nat → Nat} (h : PlanAt w wa pa na R mb b cap A q n) (hb : Below w.heap.size w w') : PlanAt w' wa pa na R mb b cap A q n :=
  ⟨below_at hb (Nat.le_refl _) h.all, below_at hb (Nat.le_refl _) h.plan, below_at hb (Nat.le_refl _) h.self, h.pl.later hb, h.at_, fun i hi => below_at hb (Nat.le_refl _) (h.bef i hi), h.good.later hb, h.tz.later hb (Nat.le_refl _), h.ne⟩
theorem PlanAt.drew {w : World} {wa pa na R mb b cap n : Nat} {A : Option Addr} {q : Nat → Nat} (h : PlanAt w wa pa na R mb b cap A q n) : PlanAt w.drew wa pa na R mb b cap A q n :=
  ⟨h.all, h.plan, h.self, h.pl, h.at_, h.bef, h.good, h.tz, h.ne⟩

theorem andNot_nat (a b : Nat) (ha : a < 2 ^ 64) (hb : b < 2 ^ 64) : ∃ x : Nat, bits .andNot .u64 (a : Int) (b : Int) = (x : Int) ∧ x < 2 ^ 64 ∧ ∀ i, x.testBit i = (a.testBit i && !b.testBit i) := by
  have h1 : (BitVec.ofInt 64 (a : Int)).toNat = a := by
    rw [BitVec.ofInt_natCast, BitVec.toNat_ofNat]; exact Nat.mod_eq_of_lt ha
  have h2 : (BitVec.ofInt 64 (b : Int)).toNat = b := by
    rw [BitVec.ofInt_natCast, BitVec.toNat_ofNat]; exact Nat.mod_eq_of_lt hb
  refine ⟨(BitVec.ofInt 64 (a : Int) &&& ~~~ BitVec.ofInt 64 (b : Int)).toNat, ?_, BitVec.isLt _, fun i => ?_⟩
  · show IntKind.u64.wrap ((BitVec.ofInt 64 (a : Int) &&& ~~~ BitVec.ofInt 64 (b : Int)).toNat : Int) = _
    exact wraps64 _ (Int.natCast_nonneg _) (by have := (BitVec.ofInt 64 (a : Int) &&& ~~~ BitVec.ofInt 64 (b : Int)).isLt; omega)
  · rw [BitVec.toNat_and, BitVec.toNat_not, h1, h2, Nat.testBit_and, Nat.sub_sub, Nat.add_comm 1 b, Nat.testBit_two_pow_sub_succ hb]
    by_cases hi : i < 64
    · rw [decide_eq_true hi, Bool.true_and]
    · rw [decide_eq_false hi, Nat.testBit_lt_two_pow (Nat.lt_of_lt_of_le ha (Nat.pow_le_pow_right (by decide) (by omega)))]
      rfl
theorem and_nat (a b : Nat) (ha : a < 2 ^ 64) (hb : b < 2 ^ 64) : bits .and .u64 (a : Int) (b : Int) = ((a &&& b : Nat) : Int) := (bits_nat .u64 64 (by decide) wraps64 a b ha hb).1

set_option maxRecDepth 100000 in
set_option maxHeartbeats 4000000 in
theorem need_ (wa pa na R mb b cap n : Nat) (A : Option Addr) (q : Nat → Nat) (hn : n ≤ 14) : ∀ (m S : Nat) (w : World), miss n S ≤ m → S < 2 ^ n → PlanAt w wa pa na R mb b cap A q n →
    Calls Tryd.prog 33 #[.int .u64 (S : Int), .pointer (some ⟨wa, 0, none⟩), .pointer (some ⟨pa, 0, none⟩), .pointer (some ⟨na, 0, none⟩)] w fun e w' => e = .returned (.int .i64 (nedN q n S : Int)) ∧ PlanAt w' wa pa na R mb b cap A q n ∧ w.grownBy w' (some mb) := by
  intro m
  induction m using Nat.strongRecOn with
  | _ m ih =>
    intro S w hms hS hC
    have IH := Lib.hid ih; clear ih
    have c0 := hC.all
    have c1 := hC.plan
    have c2 := hC.self
    have c3 := hC.pl.at25
    have hRl := hC.pl.lt
    have hwl := World.block_lt_of_cell? w _ c0
    have hpl := World.block_lt_of_cell? w _ c1
    have hnl := World.block_lt_of_cell? w _ c2
    have h2n : 2 ^ n ≤ 2 ^ 14 := Nat.pow_le_pow_right (by decide) hn
    have h2p := Nat.two_pow_pos n
    have hA64 : 2 ^ n - 1 < 2 ^ 64 := by omega
    have hS64 : S < 2 ^ 64 := by omega
    by_cases hfull : S = 2 ^ n - 1
    · have hb0 : ((S : Int) == ((2 ^ n - 1 : Nat) : Int)) = true := by rw [hfull]; simp
      have hr : nedN q n S = 0 := by unfold nedN; rw [hfull]; exact ndN_full _ _ _
      generalize 2 ^ n - 1 = al at *
      clear hfull
      have HR := Lib.hid hr; have HC := Lib.hid hC; have HA64 := Lib.hid hA64; have HS64 := Lib.hid hS64; have H2N := Lib.hid h2n; have H2P := Lib.hid h2p; have HS := Lib.hid hS; clear hr hC hA64 hS64 h2n h2p hS
      go_enter Tryd.func33, Tryd.ntmps33
      go_wp2
      go_ret
      exact ⟨ret_int (by rw [HR.out]; rfl), HC.out, World.grownBy.refl _ _⟩
    · have hb0 : ((S : Int) == ((2 ^ n - 1 : Nat) : Int)) = false := beq_eq_false_iff_ne.2 (by omega)
      have hz : (zeroValue 3).run Tryd.prog w = .ok (.int .i64 0) w := by kernel_rfl
      rcases hC.good.lookup Tryd.underlying64 Tryd.underlying46 hz (S : Int) with hl | hl
      · simp only [Int.toNat_natCast] at hl
        generalize 2 ^ n - 1 = al at *
        have HC := Lib.hid hC; have HA64 := Lib.hid hA64; have HS64 := Lib.hid hS64; have H2N := Lib.hid h2n; have H2P := Lib.hid h2p; have HS := Lib.hid hS; clear hC hA64 hS64 h2n h2p hS
        clear hfull hz
        go_enter Tryd.func33, Tryd.ntmps33
        go_wp2
        go_ret
        exact ⟨rfl, HC.out, World.grownBy.refl _ _⟩
      · have hn0 : 0 < n := by
          rcases Nat.eq_zero_or_pos n with h0 | h0
          · subst h0; simp at hS hfull; omega
          · exact h0
        obtain rfl := hC.at_ hn0
        obtain ⟨x0, hx0, hx64, hxb⟩ := andNot_nat (2 ^ n - 1) S hA64 hS64
        have hleft : LeftIs n S 0 x0 := fun i => by
          rw [hxb i, Nat.testBit_two_pow_sub_one]; simp
        have hst := ndN_step n (befT q) (hngS q n) S hfull
        generalize hal : 2 ^ n - 1 = al at *
        have HC := Lib.hid hC; have HA64 := Lib.hid hA64; have HS64 := Lib.hid hS64; have H2N := Lib.hid h2n; have H2P := Lib.hid h2p; have HS := Lib.hid hS; have HXB := Lib.hid hxb; have HX64 := Lib.hid hx64; have HLEFT := Lib.hid hleft; have HST := Lib.hid hst; have HAL := Lib.hid hal; clear hC hA64 hS64 h2n h2p hS hxb hx64 hleft hst hal
        clear hfull
        go_enter Tryd.func33, Tryd.ntmps33
        go_wp2
        clear c0 c1 c2 c3 hRl hwl hpl hnl hl hz hb0 hx0
        go_loopw [8, 9] (fun bv lv wr => ∃ k x : Nat, lv = .int .u64 (x : Int) ∧ k ≤ n ∧ LeftIs n S k x ∧ bv = .int .i64 (minF (nedN q n) (hngS q n) (befT q) S k : Int) ∧ PlanAt wr wa pa na R mb b cap (some ⟨b, 0, none⟩) q n ∧ w.grownBy wr (some mb)) (fun _ lv _ => (intOf lv).toNat)
        case atStart => exact ⟨0, x0, rfl, Nat.zero_le _, HLEFT.out, rfl, HC.out, World.grownBy.refl _ _⟩
        case round =>
          obtain ⟨k, x, rfl, hk, hlf, rfl, hP, hgr⟩ := hrel
          have d0 := hP.all
          have d1 := hP.plan
          have d2 := hP.self
          have d25 := hP.pl.at25
          have d3 := hP.pl.at0
          have hmin := minF_le (nedN q n) (hngS q n) (befT q) S k
          have hms := fun i => minF_succ (nedN q n) (hngS q n) (befT q) S i
          by_cases hx : x = 0
          · subst hx
            have hfin : nedN q n S = minF (nedN q n) (hngS q n) (befT q) S k := by
              have h1 := HST.out
              have h2 := minF_skip (g := nedN q n) (h := hngS q n) (bef := befT q) (S := S) (k := k) (n - k) fun i h1 h2 => hlf.zero rfl i h1 (by omega)
              rw [show k + (n - k) = n by omega] at h2
              unfold nedN at h2 ⊢
              rw [h1, ← h2]
            generalize minF (nedN q n) (hngS q n) (befT q) S k = mk at *
            clear d0 d2 hms
            have HFIN := Lib.hid hfin; have HLF := Lib.hid hlf; have HP := Lib.hid hP; have HGR := Lib.hid hgr; clear hfin hlf hP hgr
            go_wp2_with (at_mapUpdate; refine wpList_upd_ok _ rfl _ _ _ 64 rfl 46 3 Tryd.underlying64 Tryd.underlying46 mb rfl HP.out.good (S : Int) rfl (by show Value.int IntKind.i64 (mk : Int) = _; rw [Int.toNat_natCast, HFIN.out]) ?_; intro w3 hgood3 hgr3)
            go_ret
            exact ⟨ret_int (by rw [HFIN.out]), HP.out.kept hgr3 hgood3, gtr HGR.out hgr3⟩
          · have hx1 : ((x : Int) != 0) = true := by simpa using hx
            obtain ⟨wk, hwb, hwl, hwn⟩ := low_bit hx
            obtain ⟨g1, g2, g3, g4, g5⟩ := hlf.next hwb hwl hwn
            have hx64 : x < 2 ^ 64 := Nat.lt_of_lt_of_le hlf.lt (Nat.le_trans H2N.out (Nat.pow_le_pow_right (by decide) (by decide)))
            have htz := fun W h => tz_ x hx64 W h
            rw [ctz_iff hx64 hwb hwl] at htz
            have hskip := minF_skip (g := nedN q n) (h := hngS q n) (bef := befT q) (S := S) (k := k) (wk - k) fun i h1 h2 => g4 i h1 (by omega)
            rw [show k + (wk - k) = wk by omega] at hskip
            have hm1 := hms wk
            rw [hskip] at hm1
            have e1 : IntKind.u64.wrap ((x : Int) - 1) = ((x - 1 : Nat) : Int) := by
              rw [show (x : Int) - 1 = ((x - 1 : Nat) : Int) by omega]
              exact wraps64 _ (Int.natCast_nonneg _) (by omega)
            have e2 := and_nat x (x - 1) hx64 (by omega)
            have hdec : x &&& (x - 1) < x := by
              have := Nat.and_le_right (n := x) (m := x - 1)
              omega
            have hbf := hP.bef wk g2
            have hbl := World.block_lt_of_cell? wr _ hbf
            have z1 : (0 : Int) ≤ (wk : Int) := by omega
            have z2 : (wk : Int) < (n : Int) := by omega
            have z3 : (wk : Int) < 64 := by omega
            have hbf64 : befT q wk < 2 ^ 64 := Nat.lt_of_lt_of_le (befT_lt q wk) (Nat.pow_le_pow_right (by decide) (by omega))
            have e3 := bits_andnot .u64 64 (by decide) wraps64 (befT q wk) S hbf64 HS64.out
            have hfr : freeB (befT q) S wk = decide (befT q wk &&& S = befT q wk) := by unfold freeB; rw [g3]; rfl
            rw [hfr] at hm1
            have htz2 := htz wr hP.tz
            generalize hx2 : x &&& (x - 1) = x2 at *
            generalize x - 1 = xm at *
            generalize hmk : minF (nedN q n) (hngS q n) (befT q) S k = mk at *
            clear hms hskip htz hfr
            cases hd : decide (befT q wk &&& S = befT q wk) with
            | false =>
              rw [hd] at e3 hm1
              rw [if_neg (by decide)] at hm1
              generalize befT q wk = bw at *
              clear d0 d2 d25 z3 hd
              have HM1 := Lib.hid hm1; have HLF := Lib.hid hlf; have HP := Lib.hid hP; have HGR := Lib.hid hgr; have HWB := Lib.hid hwb; have HWL := Lib.hid hwl; have HWN := Lib.hid hwn; have G3 := Lib.hid g3; have G4 := Lib.hid g4; have G5 := Lib.hid g5; have HX64 := Lib.hid hx64; have HDEC := Lib.hid hdec; have HBF64 := Lib.hid hbf64; have HTZ2 := Lib.hid htz2; have HX2 := Lib.hid hx2; have HMK := Lib.hid hmk; clear hm1 hlf hP hgr hwb hwl hwn g3 g4 g5 hx64 hdec hbf64 htz2 hx2 hmk
              go_wp2_with (go_at_call 28; refine HTZ2.out.mono ?_; rintro e w9 ⟨rfl, rfl⟩)
              go_roundw
              case rel => exact ⟨wk + 1, x2, rfl, by omega, G5.out, by rw [HM1.out], HP.out, HGR.out⟩
              case measure =>
                have := HDEC.out
                simp [intOf]; omega
            | true =>
              rw [hd] at e3 hm1
              rw [if_pos rfl] at hm1
              have e4 := pow_wrap wk (by omega)
              have e5 := bit_set .u64 64 (by decide) wraps64 S wk HS64.out (by omega)
              have hs2 : S ||| 2 ^ wk < 2 ^ n := Nat.or_lt_two_pow HS.out (Nat.pow_lt_pow_right (by decide) g2)
              have hmiss := miss_set g2 g3
              have hhl := hngS_le q n S wk
              have hnl : nedN q n (S ||| 2 ^ wk) ≤ 25 := ndN_le _ _ _ _
              have hhang := fun v W h => hanging_ R mb S wk n q v W (by omega) HS.out g2 h
              have hneed := fun W h => IH.out (miss n (S ||| 2 ^ wk)) (by omega) (S ||| 2 ^ wk) W (Nat.le_refl _) hs2 h
              generalize S ||| 2 ^ wk = s2 at *
              generalize befT q wk = bw at *
              generalize hngS q n S wk = hv at *
              generalize nedN q n s2 = nv at *
              have d2' : wr.cell? ⟨na, 0, none⟩ = some (.func (.func 33) #[] #[.pointer (some ⟨wa, 0, none⟩), .pointer (some ⟨pa, 0, none⟩), .pointer (some ⟨na, 0, none⟩)]) := d2
              clear d0 d2 d25 hd
              have HM1 := Lib.hid hm1; have HLF := Lib.hid hlf; have HP := Lib.hid hP; have HGR := Lib.hid hgr; have HWB := Lib.hid hwb; have HWL := Lib.hid hwl; have HWN := Lib.hid hwn; have G3 := Lib.hid g3; have G4 := Lib.hid g4; have G5 := Lib.hid g5; have HX64 := Lib.hid hx64; have HDEC := Lib.hid hdec; have HBF64 := Lib.hid hbf64; have HTZ2 := Lib.hid htz2; have HX2 := Lib.hid hx2; have HMK := Lib.hid hmk; have HS2 := Lib.hid hs2; have HMISS := Lib.hid hmiss; have HHANG := Lib.hid hhang; have HNEED := Lib.hid hneed; clear hm1 hlf hP hgr hwb hwl hwn g3 g4 g5 hx64 hdec hbf64 htz2 hx2 hmk hs2 hmiss hhang hneed
              go_upto_region 12 with (go_at_call 28; refine HTZ2.out.mono ?_; rintro e w9 ⟨rfl, rfl⟩)
              go_region_held3 (fun wX => wX.cell? ⟨pa, 0, none⟩ = some (.pointer (some ⟨R, 0, none⟩)) ∧ wX.cell? ⟨na, 0, none⟩ = some (.func (.func 33) #[] #[.pointer (some ⟨wa, 0, none⟩), .pointer (some ⟨pa, 0, none⟩), .pointer (some ⟨na, 0, none⟩)]) ∧ PlanAt wX wa pa na R mb b cap (some ⟨b, 0, none⟩) q n ∧ wr.grownBy wX (some mb)) (first | exact ⟨d1, d2', HP.out.drew, GB.drew (World.grownBy.refl _ _)⟩ | exact ‹_ ∧ _ ∧ PlanAt _ wa pa na R mb b cap (some ⟨b, 0, none⟩) q n ∧ _› | exact ⟨hP2.plan, hP2.self, hP2, gtr (GB.drew (World.grownBy.refl _ _)) hg2⟩) (first | (go_at_call 34; refine (HHANG.out _ _ (by first | exact HP.out.drew.pl | exact hP2.pl)).mono ?_; rintro e w2 ⟨rfl, rfl⟩) | (go_at_call 33; refine (HNEED.out _ HP.out.drew).mono ?_; rintro e w2 ⟨rfl, hP2, hg2⟩))
              have hS3 : PlanAt w2 wa pa na R mb b cap (some ⟨b, 0, none⟩) q n ∧ wr.grownBy w2 (some mb) := ⟨hP2, gtr (GB.drew (World.grownBy.refl _ _)) hg2⟩
              have hres : (if (if hv < nv then (nv : Int) else (hv : Int)) < (mk : Int) then (if hv < nv then (nv : Int) else (hv : Int)) else (mk : Int)) = ((min mk (max hv nv) : Nat) : Int) := by
                split <;> split <;> omega
              rw [hres]
              clear hP2 hg2 hres
              have HS3 := Lib.hid hS3; clear hS3
              go_wp2
              go_roundw
              case rel => exact ⟨wk + 1, x2, rfl, by omega, G5.out, by rw [HM1.out], HS3.out.1, gtr HGR.out HS3.out.2⟩
              case measure =>
                have := HDEC.out
                simp [intOf]; omega
end Go.Proofs.YtnplcephmidjbaaDoor
/- Fewest of package pairs in plain Lean: the order that is found. -/
namespace Go.Proofs.YtnplcephmidjbaaDoor

theorem miss_above (n S k : Nat) (hk : n ≤ k) : miss n (S ||| 2 ^ k) = miss n S := by
  unfold miss
  refine List.countP_congr fun i hi => ?_
  have := List.mem_range.1 hi
  rw [testBit_set, decide_eq_false (by omega), Bool.or_false]
theorem miss_succ (n S : Nat) : miss (n + 1) S = miss n S + if S.testBit n = true then 0 else 1 := by
  unfold miss
  rw [List.range_succ, List.countP_append]
  cases h : S.testBit n <;> simp [h]
theorem miss_set1 {S k : Nat} (h : S.testBit k = false) : ∀ n, k < n → miss n (S ||| 2 ^ k) + 1 = miss n S
  | 0, hk => absurd hk (by omega)
  | n + 1, hk => by
    rw [miss_succ, miss_succ]
    by_cases hkn : k = n
    · subst hkn; rw [miss_above _ _ _ (Nat.le_refl _), testBit_set, h]; simp
    · have := miss_set1 h n (by omega)
      rw [testBit_set, decide_eq_false hkn, Bool.or_false]
      omega
theorem full_iff {n S : Nat} (hS : S < 2 ^ n) : S = 2 ^ n - 1 ↔ ∀ i, i < n → S.testBit i = true := by
  constructor
  · intro h i hi
    rw [h, Nat.testBit_two_pow_sub_one, decide_eq_true hi]
  · intro h
    apply Nat.eq_of_testBit_eq
    intro i
    rw [Nat.testBit_two_pow_sub_one]
    by_cases hi : i < n
    · rw [h i hi, decide_eq_true hi]
    · rw [decide_eq_false hi]
      exact Nat.testBit_lt_two_pow (Nat.lt_of_lt_of_le hS (Nat.pow_le_pow_right (by decide) (by omega)))
theorem miss_zero {n S : Nat} (hS : S < 2 ^ n) : miss n S = 0 ↔ S = 2 ^ n - 1 := by
  rw [full_iff hS]
  unfold miss
  rw [List.countP_eq_zero]
  constructor
  · intro h i hi
    have := h i (List.mem_range.2 hi)
    simpa using this
  · intro h i hi
    simp [h i (List.mem_range.1 hi)]
theorem miss_none (n : Nat) : miss n 0 = n := by
  induction n with
  | zero => rfl
  | succ n ih => rw [miss_succ, ih]; simp
/-- The least work that is not done. -/
theorem undone {n S : Nat} (hS : S < 2 ^ n) (hne : S ≠ 2 ^ n - 1) : ∃ k, k < n ∧ S.testBit k = false ∧ ∀ j, j < k → S.testBit j = true := by
  have key : ∀ m, m ≤ n → (∃ k, k < m ∧ S.testBit k = false ∧ ∀ j, j < k → S.testBit j = true) ∨ ∀ j, j < m → S.testBit j = true := by
    intro m
    induction m with
    | zero => exact fun _ => .inr fun j hj => absurd hj (by omega)
    | succ m ih =>
      intro hm
      rcases ih (by omega) with ⟨k, h1, h2⟩ | h
      · exact .inl ⟨k, by omega, h2⟩
      · cases hb : S.testBit m with
        | false => exact .inl ⟨m, by omega, hb, h⟩
        | true =>
          refine .inr fun j hj => ?_
          rcases Nat.lt_succ_iff_lt_or_eq.1 hj with hj | rfl
          · exact h j hj
          · exact hb
  rcases key n (Nat.le_refl _) with h | h
  · exact h
  · exact absurd ((full_iff hS).2 h) hne
theorem undone_free {q : Nat → Nat} {S k : Nat} (h : S.testBit k = false) (hl : ∀ j, j < k → S.testBit j = true) : freeB (befT q) S k = true := by
  unfold freeB
  rw [h, Bool.not_false, Bool.true_and, decide_eq_true_eq]
  apply Nat.eq_of_testBit_eq
  intro i
  rw [Nat.testBit_and, befT_bit]
  by_cases hi : i < k
  · rw [hl i hi, Bool.and_true]
  · rw [decide_eq_false hi]; rfl
theorem minF_le_iff {g : Nat → Nat} {h : Nat → Nat → Nat} {bef : Nat → Nat} {S v : Nat} (hv : v ≤ 24) : ∀ n, minF g h bef S n ≤ v ↔ ∃ k, k < n ∧ freeB bef S k = true ∧ h S k ≤ v ∧ g (S ||| 2 ^ k) ≤ v
  | 0 => by
    unfold minF
    constructor
    · intro h; omega
    · rintro ⟨k, hk, _⟩; omega
  | n + 1 => by
    have ih := minF_le_iff (g := g) (h := h) (bef := bef) (S := S) hv n
    rw [minF_succ]
    by_cases hf : freeB bef S n = true
    · rw [if_pos hf]
      constructor
      · intro hm
        by_cases hc : minF g h bef S n ≤ v
        · obtain ⟨k, h1, h2⟩ := ih.1 hc; exact ⟨k, by omega, h2⟩
        · exact ⟨n, by omega, hf, by omega, by omega⟩
      · rintro ⟨k, h1, h2, h3, h4⟩
        rcases Nat.lt_succ_iff_lt_or_eq.1 h1 with h1 | rfl
        · have := ih.2 ⟨k, h1, h2, h3, h4⟩; omega
        · omega
    · rw [if_neg hf, ih]
      constructor
      · rintro ⟨k, h1, h2⟩; exact ⟨k, by omega, h2⟩
      · rintro ⟨k, h1, h2, h3⟩
        rcases Nat.lt_succ_iff_lt_or_eq.1 h1 with h1 | rfl
        · exact ⟨k, h1, h2, h3⟩
        · exact absurd h2 hf
theorem nedN_le24 (q : Nat → Nat) (n : Nat) : ∀ m S, miss n S ≤ m → S < 2 ^ n → nedN q n S ≤ 24 := by
  intro m
  induction m with
  | zero =>
    intro S hm hS
    rw [(miss_zero hS).1 (by omega)]
    unfold nedN
    rw [ndN_full]
    omega
  | succ m ih =>
    intro S hm hS
    by_cases hf : S = 2 ^ n - 1
    · rw [hf]; unfold nedN; rw [ndN_full]; omega
    · obtain ⟨k, h1, h2, h3⟩ := undone hS hf
      have := miss_set1 h2 n h1
      have h4 := ih (S ||| 2 ^ k) (by omega) (Nat.or_lt_two_pow hS (Nat.pow_lt_pow_right (by decide) h1))
      unfold nedN at *
      rw [ndN_step _ _ _ _ hf]
      exact (minF_le_iff (Nat.le_refl _) n).2 ⟨k, h1, undone_free h2 h3, hngS_le _ _ _ _, h4⟩
/-- May a work be next on the way to the best need? -/
def okW (q : Nat → Nat) (n best S k : Nat) : Bool := freeB (befT q) S k && (decide (hngS q n S k ≤ best) && decide (nedN q n (S ||| 2 ^ k) ≤ best))
theorem okW_some {q : Nat → Nat} {n best S : Nat} (hb : best ≤ 24) (hne : S ≠ 2 ^ n - 1) (hn : nedN q n S ≤ best) : ∃ k, k < n ∧ okW q n best S k = true := by
  unfold nedN at hn
  rw [ndN_step _ _ _ _ hne] at hn
  obtain ⟨k, h1, h2, h3, h4⟩ := (minF_le_iff hb n).1 hn
  refine ⟨k, h1, ?_⟩
  unfold okW nedN
  rw [h2, decide_eq_true h3, decide_eq_true h4]
  rfl
theorem okW_ned {q : Nat → Nat} {n best S k : Nat} (h : okW q n best S k = true) : nedN q n (S ||| 2 ^ k) ≤ best := by
  unfold okW at h
  simp only [Bool.and_eq_true, decide_eq_true_eq] at h
  exact h.2.2
theorem okW_bit {q : Nat → Nat} {n best S k : Nat} (h : okW q n best S k = true) : S.testBit k = false := by
  unfold okW at h
  simp only [Bool.and_eq_true] at h
  exact freeB_bit h.1
/-- The order, from S on, of m works at most. -/
def fewF (q : Nat → Nat) (n best : Nat) : Nat → Nat → List Int
  | 0, _ => []
  | m + 1, S => match (List.range n).find? (okW q n best S) with
    | some k => (k : Int) :: fewF q n best m (S ||| 2 ^ k)
    | none => []
theorem find_range {p : Nat → Bool} {n k : Nat} (hk : k < n) (hp : p k = true) (hl : ∀ j, j < k → p j = false) : (List.range n).find? p = some k := by
  rw [List.find?_range_eq_some]
  exact ⟨hp, List.mem_range.2 hk, fun j hj => by rw [hl j hj]; rfl⟩
theorem fewF_step {q : Nat → Nat} {n best S k : Nat} (m : Nat) (hk : k < n) (hp : okW q n best S k = true) (hl : ∀ j, j < k → okW q n best S j = false) : fewF q n best (m + 1) S = (k : Int) :: fewF q n best m (S ||| 2 ^ k) := by
  show (match (List.range n).find? (okW q n best S) with | some k => (k : Int) :: fewF q n best m (S ||| 2 ^ k) | none => []) = _
  rw [find_range hk hp hl]
/-- What Fewest returns. -/
def fewX (p : Int) (ws : List GW) : Int := if errSheet p ws = 0 then (if 14 < ws.length then 3 else 0) else errSheet p ws
def fewN (p : Int) (ws : List GW) : Nat := if fewX p ws = 0 then nedN (plsOf ws) ws.length 0 else 0
def fewL (p : Int) (ws : List GW) : List Int := if fewX p ws = 0 then fewF (plsOf ws) ws.length (nedN (plsOf ws) ws.length 0) ws.length 0 else []
end Go.Proofs.YtnplcephmidjbaaDoor
/- Package pairs: prepared. -/
namespace Go.Proofs.YtnplcephmidjbaaDoor
open Go.RowKit

theorem zpl (mb : Nat) : (#[Value.slice none 0 0, .int .u64 0, .int .u64 0, .int .u64 0, .int .u64 0, .int .u64 0, .int .u64 0, .int .u64 0, .int .u64 0, .int .u64 0, .int .u64 0, .int .u64 0, .int .u64 0, .int .u64 0, .int .u64 0, .int .u64 0, .int .u64 0, .int .u64 0, .int .u64 0, .int .u64 0, .int .u64 0, .int .u64 0, .int .u64 0, .int .u64 0, .int .u64 0, .map (some mb)] : Array Value) = plCells (.slice none 0 0) (fun _ => 0) mb := rfl
/-- What stands before the first i works. -/
def befL (q : Nat → Nat) (i : Nat) : List Int := (List.range i).map fun j => (befT q j : Int)
theorem befL_length (q : Nat → Nat) (i : Nat) : (befL q i).length = i := by unfold befL; simp
theorem befL_succ (q : Nat → Nat) (i : Nat) : befL q (i + 1) = befL q i ++ [(befT q i : Int)] := by unfold befL; simp [List.range_succ]
def PrepPost (q : Nat → Nat) (n : Nat) (w : World) (e : Ending) (w' : World) : Prop :=
  ∃ R mb b A cap, e = .returned (.pointer (some ⟨R, 0, none⟩)) ∧ PlB w' R (.slice A n cap) (tkS q n) mb ∧ (0 < n → A = some ⟨b, 0, none⟩) ∧ (∀ i, i < n → w'.cell? ⟨b, i, none⟩ = some (.int .u64 (befT q i : Int))) ∧
    w'.heap[mb]? = some (.map #[] 0) ∧ w.heap.size ≤ mb ∧ w.heap.size ≤ R ∧ R ≠ mb ∧ b ≠ mb ∧ Below w.heap.size w w'
theorem bef_of {w : World} {base n mb : Nat} {v : Value} {q : Nat → Nat} (h : w.ownsRow base 46 1 v (befL q n).length (u64s (befL q n))) (hm : mb < base) :
    ∃ A cap b, v = .slice A n cap ∧ (0 < n → A = some ⟨b, 0, none⟩) ∧ (∀ i, i < n → w.cell? ⟨b, i, none⟩ = some (.int .u64 (befT q i : Int))) ∧ b ≠ mb := by
  rw [befL_length] at h
  rcases Nat.eq_zero_or_pos n with h0 | h0
  · rcases h.2 with ⟨rfl, _⟩ | ⟨g, cap, cur, rfl, _⟩
    · exact ⟨none, 0, mb + 1, by rw [h0], fun h => absurd h (by omega), fun i hi => absurd hi (by omega), by omega⟩
    · exact ⟨_, cap, mb + 1, rfl, fun h => absurd h (by omega), fun i hi => absurd hi (by omega), by omega⟩
  · obtain ⟨g, cap, rfl, hg, _⟩ := h.form h0
    refine ⟨_, cap, g, rfl, fun _ => rfl, fun i hi => ?_, by omega⟩
    rw [h.cellAt i (by omega)]
    simp [u64s, befL, hi]
theorem PlB.drewP {w : World} {R mb : Nat} {v : Value} {T : Nat → Nat} (h : PlB w R v T mb) : PlB w.drew R v T mb := h
/-- The takes within a work: its first j places are through. -/
theorem tkS_step (q : Nat → Nat) (i : Nat) : updF (updF (tkS q i) (q i) (tkS q i (q i) ||| 2 ^ i)) (q i + 1) (tkS q i (q i + 1) ||| 2 ^ i) = tkS q (i + 1) := by
  funext p
  unfold updF
  show _ = if tkB (q i) p = true then tkS q i p ||| 2 ^ i else tkS q i p
  unfold tkB
  by_cases h1 : p = q i + 1
  · subst h1; rw [if_pos rfl, if_pos (by simp)]
  · rw [if_neg h1]
    by_cases h2 : p = q i
    · subst h2; rw [if_pos rfl, if_pos (by simp)]
    · rw [if_neg h2, if_neg (by simp [h1, h2])]

set_option maxRecDepth 100000 in
set_option maxHeartbeats 4000000 in
theorem prepared_ (P : Nat) (A : Option Addr) (c : Nat) (ws : List GW) (w : World) (hn : ws.length ≤ 14) (hok : errSheet P ws = 0) (ha : RdW w A ws) :
    Calls Tryd.prog 32 #[.agg #[.int .i64 (P : Int), .slice A ws.length c]] w (PrepPost (plsOf ws) ws.length w) := by
  have hmm := @run_makeMap Tryd.prog
  have hpl : ∀ i, (h : i < ws.length) → ws[i].pl = (plsOf ws i : Int) ∧ plsOf ws i + 2 ≤ P ∧ P ≤ 24 := fun i h => by
    obtain ⟨_, h24, _, hall⟩ := okAll hok
    have h1 := hall _ (List.getElem_mem h)
    have e : plsOf ws i = ws[i].pl.toNat := by unfold plsOf; simp [List.getD_eq_getElem?_getD, h]
    omega
  have HA := Lib.hid ha; have HOK := Lib.hid hok; have HPL := Lib.hid hpl; clear ha hok hpl
  go_enter Tryd.func32, Tryd.ntmps32
  go_wp2
  rw [zpl]
  clear hmm
  obtain ⟨W3, hW⟩ : ∃ W3, W3 = ((w.alloc (.cells #[.int .i64 (P : Int), .slice A ws.length c] 24)).alloc (.map #[] 0)).alloc (.cells (plCells (.slice none 0 0) (fun _ => 0) (w.heap.size + 1)) 66) := ⟨_, rfl⟩
  have hB : Below w.heap.size w W3 := by rw [hW]; exact (((Below.refl _ _).alloc (Nat.le_refl _) _).alloc (by simp) _).alloc (by simp; omega) _
  have hs3 : W3.heap.size = w.heap.size + 3 := by rw [hW]; simp
  have q1 : PlB W3 (w.heap.size + 1 + 1) (.slice none 0 0) (tkS (plsOf ws) 0) (w.heap.size + 1) := by
    rw [show tkS (plsOf ws) 0 = fun _ => 0 by funext p; rfl]
    unfold PlB
    have := heap_alloc_new ((w.alloc (.cells #[.int .i64 (P : Int), .slice A ws.length c] 24)).alloc (.map #[] 0)) (.cells (plCells (.slice none 0 0) (fun _ => 0) (w.heap.size + 1)) 66)
    rw [hW]; simpa using this
  have q2 : W3.heap[w.heap.size + 1]? = some (.map #[] 0) := by
    have h1 : ((w.alloc (.cells #[.int .i64 (P : Int), .slice A ws.length c] 24)).alloc (.map #[] 0)).heap[w.heap.size + 1]? = some (.map #[] 0) := by
      have := heap_alloc_new (w.alloc (.cells #[.int .i64 (P : Int), .slice A ws.length c] 24)) (.map #[] 0)
      simpa using this
    have h2 := heap_alloc_old ((w.alloc (.cells #[.int .i64 (P : Int), .slice A ws.length c] 24)).alloc (.map #[] 0)) (.cells (plCells (.slice none 0 0) (fun _ => 0) (w.heap.size + 1)) 66) (lt_of_block h1)
    rw [hW, h2]; exact h1
  rw [← hW]
  clear hW
  obtain ⟨R, hR⟩ : ∃ R, R = w.heap.size + 1 + 1 := ⟨_, rfl⟩
  obtain ⟨mb, hmb⟩ : ∃ mb, mb = w.heap.size + 1 := ⟨_, rfl⟩
  rw [← hR, ← hmb] at q1
  rw [← hmb] at q2
  rw [← hR]
  have hRm : mb < R := by omega
  have hRw : w.heap.size ≤ mb := by omega
  have hRs : W3.heap.size = R + 1 := by omega
  clear hR hs3
  generalize plsOf ws = q at *
  have HB := Lib.hid hB; have Q1 := Lib.hid q1; have Q2 := Lib.hid q2; have HRS := Lib.hid hRs; have HMB := Lib.hid hmb; clear hB q1 q2 hRs hmb
  go_loopw [12] (fun iv wr => ∃ (i : Nat) (v : Value), iv = .int .i64 i ∧ i ≤ ws.length ∧ PlB wr R v (tkS q i) mb ∧ wr.ownsRow (R + 1) 46 1 v (befL q i).length (u64s (befL q i)) ∧ Below R W3 wr) (fun iv _ => ws.length - (intOf iv).toNat)
  case atStart => exact ⟨0, _, rfl, Nat.zero_le _, Q1.out, World.ownsRow_nil _ _ _ _, Below.refl _ _⟩
  case round =>
    obtain ⟨i, v, rfl, hi, hpl, hown, hbr⟩ := hrel
    obtain ⟨wy, rfl⟩ : ∃ wy : World, wy = wr := ⟨_, rfl⟩
    have hbw := HB.out.trans (hbr.mono (by omega))
    have hRl := hpl.lt
    by_cases hlt : i < ws.length
    · obtain ⟨b, off, rfl, hbA, h1, h2, h3⟩ := (HA.out.later hbw (Nat.le_refl _)).at_ hlt
      obtain ⟨g1, g2, g3⟩ := HPL.out i hlt
      rw [g1] at h2
      generalize ws[i].kind = kd at *
      generalize ws[i].word = wd0 at *
      have k0 := hpl.at0
      have f0 := hpl.free 0
      have k1 := hpl.at_ (p := q i) (by omega)
      have k2 := hpl.at_ (p := q i + 1) (by omega)
      have z1 : (0 : Int) ≤ (i : Int) := by omega
      have z2 : (i : Int) < (ws.length : Int) := by omega
      have z3 : (0 : Int) ≤ (q i : Int) := by omega
      have z4 : (q i : Int) < 24 := by omega
      have z5 : IntKind.i64.wrap ((q i : Int) + 1) = (q i : Int) + 1 := IntWalk.i64_in _ (by omega)
      have z6 : (0 : Int) ≤ (q i : Int) + 1 := by omega
      have z7 : (q i : Int) + 1 < 24 := by omega
      have z8 : ((q i : Int) + 1).toNat = q i + 1 := by omega
      have hT : ∀ p, tkS q i p < 2 ^ 64 := fun p => Nat.lt_of_lt_of_le (tkS_lt q p i) (Nat.pow_le_pow_right (by decide) (by omega))
      have e1 := (bits_nat .u64 64 (by decide) wraps64 (tkS q i (q i)) (tkS q i (q i + 1)) (hT _) (hT _)).2
      rw [show tkS q i (q i) ||| tkS q i (q i + 1) = befT q i from rfl] at e1
      have hlen := befL_length q i
      have hbs := befL_succ q i
      generalize befT q i = bf at *
      generalize befL q i = bl at *
      have hlo := hown.lt
      have HN1 : Hid (some R ≠ v.ownBlock) := fun h => by have := (hlo _ h.symm).1; omega
      have HN2 : Hid (some wy.heap.size ≠ v.ownBlock) := fun h => by have := (hlo _ h.symm).2; omega
      generalize tkS q i (q i) = ta at *
      generalize tkS q i (q i + 1) = tb at *
      have HPL := Lib.hid hpl; have HOWN := Lib.hid hown; have HBR := Lib.hid hbr; have HBW := Lib.hid hbw; have G1 := Lib.hid g1; have HT := Lib.hid hT; have HLEN := Lib.hid hlen; have HBS := Lib.hid hbs; have HLO := Lib.hid hlo; clear hpl hown hbr hbw g1 hT hlen hbs hlo
      go_upto_region 5 with fail
      go_cut [] (fun wx => ∃ v2 : Value, PlB wx R v2 (tkS q i) mb ∧ wx.ownsRow (R + 1) 46 1 v2 (bl ++ [(bf : Int)]).length (u64s (bl ++ [(bf : Int)])) ∧ Below R W3 wx ∧ wx.cell? ⟨wy.heap.size, 1, none⟩ = some (.int .i64 (q i : Int)) ∧ wy.heap.size < wx.heap.size)
      case first =>
        have hWn : ((wy.alloc (.cells #[.int .i64 kd, .int .i64 (q i : Int), .string wd0] 44)).alloc (.cells #[.int .u64 (bf : Int)] 46)).drew.heap[wy.heap.size + 1]? = some (.cells #[.int .u64 (bf : Int)] 46 (0, 0)) := heap_alloc2_new _ _ _
        obtain ⟨g, cap, w6, hap, hown6, hgrow, hat6, hlt6⟩ := run_appU_Tryd ((wy.alloc (.cells #[.int .i64 kd, .int .i64 (q i : Int), .string wd0] 44)).alloc (.cells #[.int .u64 (bf : Int)] 46)).drew (R + 1) v bl ((HOWN.out.alloc _).alloc _).drew (wy.heap.size + 1) (bf : Int) hWn (by have := HLEN.out; omega) (by simp; omega) 62
        have r0 : w6.cell? ⟨wy.heap.size, 1, none⟩ = some (.int .i64 (q i : Int)) := (hgrow.cell_far ⟨wy.heap.size, 1, none⟩ (by simp; omega) HN2.out).trans (by go_simp)
        have r1 : w6.cell? ⟨R, 0, none⟩ = some v := (hgrow.cell_far ⟨R, 0, none⟩ (by simp; omega) HN1.out).trans (by go_simp)
        have r2 : w6.frozen? ⟨R, 0, none⟩ = false := (hgrow.frozen_far ⟨R, 0, none⟩ (by simp; omega) HN1.out).trans (by go_simp)
        have r3 : R < w6.heap.size := (by have := hgrow.size; simp at this; omega)
        clear hWn
        simp [go_sem] at hap
        have HOWN6 := Lib.hid hown6; have HGROW := Lib.hid hgrow; clear hown6 hgrow
        go_region
        all_goals
          go_wp2_with fail
          have hown6 := HOWN6.out
          have hgrow := HGROW.out
          go_meet
          have hp6 : PlB w6 R v (tkS q i) mb := PlB.kept (PlB.drewP ((HPL.out.alloc _).alloc _)) hgrow HN1.out
          refine ⟨_, hp6.put0 _, ownsRow_setCell_below (by simpa using hown6) (by show R < R + 1; omega) _, ((((HBR.out.alloc (Nat.le_of_lt hRl) _).alloc (by simp; omega) _).drew.grown hgrow (by simp; omega) (fun j hj => by have := (HLO.out j hj).1; omega)).setCell (Nat.le_refl _) _), ?_, ?_⟩
          · rw [World.cell?_of_block (heap_setCell_other _ _ _ _ (by simp; omega))]; exact r0
          · have := hgrow.size; simp at this ⊢; omega
      case rest =>
        obtain ⟨v2, hpx, hox, hbx, hcx, hsx⟩ := hcut
        have hRx := hpx.lt
        have k3 := hpx.at_ (p := q i) (by omega)
        have f3 := hpx.free (1 + q i)
        have e2 := pow_wrap i (by omega)
        have hTa := HT.out (q i)
        have hTb := HT.out (q i + 1)
        have e3 := bit_set .u64 64 (by decide) wraps64 (tkS q i (q i)) i hTa (by omega)
        have e4 := bit_set .u64 64 (by decide) wraps64 (tkS q i (q i + 1)) i hTb (by omega)
        have z9 : (i : Int) < 64 := by omega
        have hp1 := hpx.put (p := q i) (by omega) (tkS q i (q i) ||| 2 ^ i)
        have k4 := hp1.at_ (p := q i + 1) (by omega)
        rw [show updF (tkS q i) (q i) (tkS q i (q i) ||| 2 ^ i) (q i + 1) = tkS q i (q i + 1) from if_neg (by omega)] at k4
        have hp2 := hp1.put (p := q i + 1) (by omega) (tkS q i (q i + 1) ||| 2 ^ i)
        rw [tkS_step] at hp2
        have f4 := hp1.free (1 + (q i + 1))
        clear k0 f0 k1 k2 hTa hTb e1
        generalize tkS q i (q i) ||| 2 ^ i = ta2 at *
        generalize tkS q i (q i + 1) ||| 2 ^ i = tb2 at *
        generalize tkS q i (q i) = ta at *
        generalize tkS q i (q i + 1) = tb at *
        have hbl2 : wy.heap.size ≠ R := by omega
        have k5 : (wc.setCell ⟨R, 1 + q i, none⟩ (.int .u64 (ta2 : Int))).cell? ⟨wy.heap.size, 1, none⟩ = some (.int .i64 (q i : Int)) := by
          rw [World.cell?_of_block (heap_setCell_other _ _ _ _ (by simp; omega))]; exact hcx
        have HPX := Lib.hid hpx; have HOX := Lib.hid hox; have HBX := Lib.hid hbx; have HP1 := Lib.hid hp1; have HP2 := Lib.hid hp2; clear hpx hox hbx hp1 hp2
        go_wp2
        go_region
        go_wp2
        go_region
        go_wp2
        go_roundw
        case rel => exact ⟨i + 1, v2, by go_num, by omega, HP2.out, by rw [HBS.out]; exact ((ownsRow_setCell_below (ownsRow_setCell_below HOX.out (by show R < R + 1; omega) _) (by show R < R + 1; omega) _).drew).drew, ((HBX.out.setCell (Nat.le_refl _) _).setCell (Nat.le_refl _) _).drew.drew⟩
        case measure => simp [intOf]; omega
    · obtain rfl : i = ws.length := by omega
      obtain ⟨A2, cap, b, rfl, hA2, hbc, hbm⟩ := bef_of hown (mb := mb) (by omega)
      have hmm : wy.heap[mb]? = some (.map #[] 0) := (hbr.block _ hRm).trans Q2.out
      have HPL2 := Lib.hid hpl; clear hpl
      have HOWN := Lib.hid hown; have HBR := Lib.hid hbr; have HBW := Lib.hid hbw; have HBC := Lib.hid hbc; have HMM := Lib.hid hmm; clear hown hbr hbw hbc hmm
      go_wp2
      go_ret
      exact ⟨R, mb, b, A2, cap, rfl, HPL2.out, hA2, HBC.out, HMM.out, hRw, by omega, by omega, hbm, HBW.out⟩
end Go.Proofs.YtnplcephmidjbaaDoor
/- The reference of package pairs: need, with what it knows. -/
namespace Go.Proofs.YtnplcephmidjbaaDoor
open Go.RowKit

theorem gb_below {w w' : World} (h : Below w.heap.size w w') (row : Option Nat) : w.grownBy w' row := ⟨h.os, h.tape, h.output, h.size, fun i hi _ => h.block i hi⟩
/-- Was a work found among the first k; the best so far. -/
def fndB (q : Nat → Nat) (n S k : Nat) : Bool := decide (minF (nedN q n) (hngS q n) (befT q) S k ≤ 24)
def bstN (q : Nat → Nat) (n S k : Nat) : Nat := if fndB q n S k = true then minF (nedN q n) (hngS q n) (befT q) S k else 0
theorem fnd_no {q : Nat → Nat} {n S k : Nat} (h : freeB (befT q) S k = false) : fndB q n S (k + 1) = fndB q n S k ∧ bstN q n S (k + 1) = bstN q n S k := by
  have e := minF_succ (nedN q n) (hngS q n) (befT q) S k
  rw [if_neg (by rw [h]; decide)] at e
  unfold bstN fndB
  rw [e]
  exact ⟨rfl, rfl⟩
theorem fnd_yes {q : Nat → Nat} {n S k : Nat} (h : freeB (befT q) S k = true) (hv : nedN q n (S ||| 2 ^ k) ≤ 24) :
    fndB q n S (k + 1) = true ∧ (fndB q n S k = false → bstN q n S (k + 1) = max (hngS q n S k) (nedN q n (S ||| 2 ^ k))) ∧
      (fndB q n S k = true → bstN q n S (k + 1) = min (bstN q n S k) (max (hngS q n S k) (nedN q n (S ||| 2 ^ k)))) := by
  have e := minF_succ (nedN q n) (hngS q n) (befT q) S k
  rw [if_pos h] at e
  have h1 := hngS_le q n S k
  have h2 := minF_le (nedN q n) (hngS q n) (befT q) S k
  have hf : fndB q n S (k + 1) = true := by unfold fndB; rw [e, decide_eq_true_eq]; omega
  refine ⟨hf, fun h0 => ?_, fun h0 => ?_⟩
  · unfold bstN
    rw [if_pos hf, e]
    have : ¬ minF (nedN q n) (hngS q n) (befT q) S k ≤ 24 := by unfold fndB at h0; simpa using h0
    omega
  · unfold bstN
    rw [if_pos hf, if_pos h0, e]
theorem bst_zero (q : Nat → Nat) (n S : Nat) : fndB q n S 0 = false ∧ bstN q n S 0 = 0 := ⟨rfl, rfl⟩
theorem bst_end {q : Nat → Nat} {n S : Nat} (hS : S < 2 ^ n) : bstN q n S n = nedN q n S := by
  by_cases hf : S = 2 ^ n - 1
  · have h0 : ∀ k, k ≤ n → minF (nedN q n) (hngS q n) (befT q) S k = 25 := by
      intro k
      induction k with
      | zero => exact fun _ => rfl
      | succ k ih =>
        intro hk
        have hb := (full_iff hS).1 hf k (by omega)
        rw [minF_succ, if_neg (by unfold freeB; rw [hb]; simp)]
        exact ih (by omega)
    unfold bstN fndB
    rw [h0 n (Nat.le_refl _), hf]
    unfold nedN
    rw [ndN_full]
    rfl
  · have h1 := nedN_le24 q n _ S (Nat.le_refl _) hS
    have h2 : nedN q n S = minF (nedN q n) (hngS q n) (befT q) S n := ndN_step _ _ _ _ hf
    unfold bstN fndB
    rw [← h2, decide_eq_true h1, if_pos rfl]
theorem bst_le (q : Nat → Nat) (n S k : Nat) : bstN q n S k ≤ 24 := by
  unfold bstN
  split
  · rename_i h; unfold fndB at h; simpa using h
  · omega
/-- What the reference's need sees: its sheet, and a row of what is known. -/
structure RnC (w : World) (X kb P N kc : Nat) (A : Option Addr) (c : Nat) (ws : List GW) : Prop where
  sr : SrC w X P A c ws
  kn : w.cell? ⟨X, 2, none⟩ = some (.slice (some ⟨kb, 0, none⟩) N kc)
  bl : ∃ g, IdB w kb N g ∧ ∀ S, S < N → g S = -1 ∨ g S = (nedN (plsOf ws) ws.length S : Int)
  nX : X ≠ kb
  nA : ∀ b off, A = some ⟨b, off, none⟩ → 0 < ws.length → b ≠ kb
theorem RnC.later {w w' : World} {X kb P N kc c : Nat} {A : Option Addr} {ws : List GW} (h : RnC w X kb P N kc A c ws) (hb : Below w.heap.size w w') : RnC w' X kb P N kc A c ws := by
  obtain ⟨g, h1, h2⟩ := h.bl
  exact ⟨h.sr.later hb, below_at hb (Nat.le_refl _) h.kn, ⟨g, (hb.block kb (lt_of_block h1)).trans h1, h2⟩, h.nX, h.nA⟩
theorem RdW.grb {w w' : World} {A : Option Addr} {ws : List GW} {kb : Nat} (h : RdW w A ws) (hg : w.grownBy w' (some kb)) (hne : ∀ b off, A = some ⟨b, off, none⟩ → 0 < ws.length → b ≠ kb) : RdW w' A ws := by
  refine ⟨h.1, h.2.1, fun h0 => ?_⟩
  obtain ⟨b, off, e, hlt, hc⟩ := h.2.2 h0
  exact ⟨b, off, e, Nat.lt_of_lt_of_le hlt hg.size, fun j hj => GB.cell hg (hc j hj) (hne b off e (by omega))⟩
theorem RnC.store {w : World} {X kb P N kc c S : Nat} {A : Option Addr} {ws : List GW} (h : RnC w X kb P N kc A c ws) (hS : S < N) :
    RnC (w.setCell ⟨kb, S, none⟩ (.int .i64 (nedN (plsOf ws) ws.length S : Int))) X kb P N kc A c ws ∧ w.grownBy (w.setCell ⟨kb, S, none⟩ (.int .i64 (nedN (plsOf ws) ws.length S : Int))) (some kb) := by
  obtain ⟨g, h1, h2⟩ := h.bl
  have hg : w.grownBy (w.setCell ⟨kb, S, none⟩ (.int .i64 (nedN (plsOf ws) ws.length S : Int))) (some kb) := GB.setCell (World.grownBy.refl _ _) (.inl rfl) _
  refine ⟨⟨⟨GB.cell hg h.sr.ps h.nX, GB.cell hg h.sr.wk h.nX, h.sr.rd.grb hg h.nA⟩, GB.cell hg h.kn h.nX, ⟨_, h1.put S _, fun T hT => ?_⟩, h.nX, h.nA⟩, hg⟩
  unfold updF
  by_cases e : T = S
  · subst e; rw [if_pos rfl]; exact .inr rfl
  · rw [if_neg e]; exact h2 T hT

set_option maxRecDepth 100000 in
set_option maxHeartbeats 4000000 in
theorem rneed_ (X kb P N kc : Nat) (A : Option Addr) (c : Nat) (ws : List GW) (hok : errSheet P ws = 0) (hn : ws.length ≤ 14) (hN : N = 2 ^ ws.length) : ∀ (m S : Nat) (w : World), miss ws.length S ≤ m → S < N → RnC w X kb P N kc A c ws →
    Calls Tryd.prog 35 #[.pointer (some ⟨X, 0, none⟩), .int .i64 (S : Int)] w fun e w' => e = .returned (.int .i64 (nedN (plsOf ws) ws.length S : Int)) ∧ RnC w' X kb P N kc A c ws ∧ w.grownBy w' (some kb) := by
  intro m
  induction m using Nat.strongRecOn with
  | _ m ih =>
    intro S w hms hS hC
    have IH := Lib.hid ih; clear ih
    have hN14 : N ≤ 2 ^ 14 := by rw [hN]; exact Nat.pow_le_pow_right (by decide) hn
    have hS2 : S < 2 ^ ws.length := by rw [← hN]; exact hS
    obtain ⟨g, hg1, hg2⟩ := hC.bl
    have c0 := hC.sr.wk
    have c1 := hC.kn
    have c2 := hg1.at_ hS
    have hXl := World.block_lt_of_cell? w _ c0
    have z1 : (0 : Int) ≤ (S : Int) := by omega
    have z2 : (S : Int) < (N : Int) := by omega
    rcases hg2 S hS with hgs | hgs
    rotate_left
    · rw [hgs] at c2
      generalize nedN (plsOf ws) ws.length S = r at *
      have z3 : (0 : Int) ≤ (r : Int) := by omega
      have HC := Lib.hid hC; have HN14 := Lib.hid hN14; have HS2 := Lib.hid hS2; have HG1 := Lib.hid hg1; have HOK := Lib.hid hok; have HN := Lib.hid hN; clear hC hN14 hS2 hg1 hok hN
      clear hg2 hgs hms hS
      go_enter Tryd.func35, Tryd.ntmps35
      go_wp2
      go_ret
      exact ⟨rfl, HC.out, World.grownBy.refl _ _⟩
    · rw [hgs] at c2
      have hpl := pl22 hok
      have hS60 : S < 2 ^ 60 := by omega
      have hbe := bst_end (q := plsOf ws) hS2
      have HC := Lib.hid hC; have HN14 := Lib.hid hN14; have HS2 := Lib.hid hS2; have HG1 := Lib.hid hg1; have HOK := Lib.hid hok; have HN := Lib.hid hN; have HMS := Lib.hid hms; have HS := Lib.hid hS; have HPL := Lib.hid hpl; have HS60 := Lib.hid hS60; have HBE := Lib.hid hbe; clear hC hN14 hS2 hg1 hok hN hms hS hpl hS60 hbe
      clear hg2 hgs
      go_enter Tryd.func35, Tryd.ntmps35
      go_wp2
      clear c0 c1 c2 hXl z2
      go_loopw [5, 6, 7] (fun bv fv kv wr => ∃ k : Nat, kv = .int .i64 k ∧ k ≤ ws.length ∧ fv = .bool (fndB (plsOf ws) ws.length S k) ∧ bv = .int .i64 (bstN (plsOf ws) ws.length S k : Int) ∧ RnC wr X kb P N kc A c ws ∧ w.grownBy wr (some kb)) (fun _ _ kv _ => ws.length - (intOf kv).toNat)
      case atStart => exact ⟨0, rfl, Nat.zero_le _, rfl, rfl, HC.out, World.grownBy.refl _ _⟩
      case round =>
        obtain ⟨k, rfl, hk, rfl, rfl, hP, hgr⟩ := hrel
        obtain ⟨wx, rfl⟩ : ∃ wx : World, wx = wr := ⟨_, rfl⟩
        have d0 := hP.sr.wk
        have hXl := World.block_lt_of_cell? wx _ d0
        by_cases hkn : k < ws.length
        · have hmay := fun W h => rmay_ X P S k A c ws W HPL.out HS60.out hkn hn h
          cases hf : freeB (befT (plsOf ws)) S k with
          | false =>
            obtain ⟨n1, n2⟩ := fnd_no (n := ws.length) hf
            rw [hf] at hmay
            clear hf
            have HP := Lib.hid hP; have HGR := Lib.hid hgr; have N1 := Lib.hid n1; have N2 := Lib.hid n2; have HMAY := Lib.hid hmay; clear hP hgr n1 n2 hmay
            go_wp2_with (go_at_call 36; refine (HMAY.out _ HP.out.sr).mono ?_; rintro e w2 ⟨rfl, hb2⟩)
            go_roundw
            case rel => exact ⟨k + 1, by go_num, by omega, by rw [N1.out], by rw [N2.out], HP.out.later hb2, gtr HGR.out (gb_below hb2 _)⟩
            case measure => simp [intOf]; omega
          | true =>
            have hs2 : S ||| 2 ^ k < 2 ^ ws.length := Nat.or_lt_two_pow HS2.out (Nat.pow_lt_pow_right (by decide) hkn)
            have hs2N : S ||| 2 ^ k < N := by rw [HN.out]; exact hs2
            have hmi := miss_set hkn (freeB_bit hf)
            have hv24 := nedN_le24 (plsOf ws) ws.length _ (S ||| 2 ^ k) (Nat.le_refl _) hs2
            obtain ⟨n1, n2, n3⟩ := fnd_yes (n := ws.length) hf hv24
            have hh24 := hngS_le (plsOf ws) ws.length S k
            have hb24 := bst_le (plsOf ws) ws.length S k
            rw [hf] at hmay
            have hhang := fun W h => rhanging_ X P S k A c ws W HOK.out HS60.out hn h
            have hneed := fun W h => IH.out (miss ws.length (S ||| 2 ^ k)) (by have := HMS.out; omega) (S ||| 2 ^ k) W (Nat.le_refl _) hs2N h
            have e4 : IntKind.i64.wrap (2 ^ k) = 2 ^ k := by
              have h1 : 2 ^ k < 2 ^ 14 := Nat.pow_lt_pow_right (by decide) (by omega)
              rw [show (2 : Int) ^ k = ((2 ^ k : Nat) : Int) by simp]
              exact wraps62 _ (Int.natCast_nonneg _) (by omega)
            have e5 := bit_set .i64 62 (by decide) wraps62 S k (by have := HS60.out; omega) (by omega)
            have z3 : IntKind.u64.wrap (k : Int) = (k : Int) := wraps64 _ (by omega) (by omega)
            have z4 : (0 : Int) ≤ (k : Int) := by omega
            have z5 : (k : Int) < 64 := by omega
            generalize S ||| 2 ^ k = S2 at *
            generalize hngS (plsOf ws) ws.length S k = hv at *
            generalize nedN (plsOf ws) ws.length S2 = nv at *
            generalize bstN (plsOf ws) ws.length S k = bs at *
            clear hf hmi hs2 hs2N
            cases hfd : fndB (plsOf ws) ws.length S k with
            | false =>
              have n4 := n2 hfd
              clear n2 n3 hfd
              have HP := Lib.hid hP; have HGR := Lib.hid hgr; have N1 := Lib.hid n1; have N4 := Lib.hid n4; have HMAY := Lib.hid hmay; have HHANG := Lib.hid hhang; have HNEED := Lib.hid hneed; have HV24 := Lib.hid hv24; have HH24 := Lib.hid hh24; have HB24 := Lib.hid hb24; clear hP hgr n1 n4 hmay hhang hneed hv24 hh24 hb24
              go_wp2_with (first | (go_at_call 36; refine (HMAY.out _ HP.out.sr).mono ?_; rintro e w2 ⟨rfl, hb2⟩) | (go_at_call 37; refine (HHANG.out _ (HP.out.later hb2).sr).mono ?_; rintro e w3 ⟨rfl, hb3⟩) | (go_at_call 35; refine (HNEED.out _ ((HP.out.later hb2).later hb3)).mono ?_; rintro e w4 ⟨rfl, hP4, hg4⟩))
              have hres : (if hv < nv then (nv : Int) else (hv : Int)) = ((max hv nv : Nat) : Int) := by split <;> omega
              go_roundw
              case rel => exact ⟨k + 1, by go_num, by omega, by rw [N1.out], by rw [N4.out, ← hres], hP4, gtr (gtr (gtr HGR.out (gb_below hb2 _)) (gb_below hb3 _)) hg4⟩
              case measure => simp [intOf]; omega
            | true =>
              have n4 := n3 hfd
              clear n2 n3 hfd
              have HP := Lib.hid hP; have HGR := Lib.hid hgr; have N1 := Lib.hid n1; have N4 := Lib.hid n4; have HMAY := Lib.hid hmay; have HHANG := Lib.hid hhang; have HNEED := Lib.hid hneed; have HV24 := Lib.hid hv24; have HH24 := Lib.hid hh24; have HB24 := Lib.hid hb24; clear hP hgr n1 n4 hmay hhang hneed hv24 hh24 hb24
              go_wp2_with (first | (go_at_call 36; refine (HMAY.out _ HP.out.sr).mono ?_; rintro e w2 ⟨rfl, hb2⟩) | (go_at_call 37; refine (HHANG.out _ (HP.out.later hb2).sr).mono ?_; rintro e w3 ⟨rfl, hb3⟩) | (go_at_call 35; refine (HNEED.out _ ((HP.out.later hb2).later hb3)).mono ?_; rintro e w4 ⟨rfl, hP4, hg4⟩))
              all_goals refine ⟨⟨k + 1, by go_num, by omega, by rw [N1.out], ?_, hP4, gtr (gtr (gtr HGR.out (gb_below hb2 _)) (gb_below hb3 _)) hg4⟩, by simp [intOf]; omega⟩
              all_goals (rw [N4.out]; congr 1; omega)
        · obtain rfl : k = ws.length := by omega
          obtain ⟨gx, hgx1, hgx2⟩ := hP.bl
          have c1 := hP.kn
          have c2 := hgx1.at_ HS.out
          have f2 := hgx1.free S
          have z2 : (S : Int) < (N : Int) := by have := HS.out; omega
          obtain ⟨hst1, hst2⟩ := hP.store HS.out
          have hbe := HBE.out
          generalize hnd : nedN (plsOf ws) ws.length S = nd at *
          rw [hbe]
          clear hbe
          have HST1 := Lib.hid hst1; have HST2 := Lib.hid hst2; have HP := Lib.hid hP; have HGR := Lib.hid hgr; have HGX1 := Lib.hid hgx1; have HND := Lib.hid hnd; clear hst1 hst2 hP hgr hgx1 hnd
          clear hgx2 hk hkn
          go_wp2
          go_ret
          exact ⟨ret_int (by rw [HND.out]), HST1.out, gtr HGR.out HST2.out⟩
end Go.Proofs.YtnplcephmidjbaaDoor
/- Package pairs: Bound. -/
namespace Go.Proofs.YtnplcephmidjbaaDoor
open Go.RowKit

theorem UB.made2 (w : World) (o : Obj) (m : Nat) : UB ((w.alloc o).alloc (.cells (madeCells #[Value.int .u64 0] m) 46)) (w.heap.size + 1) m (fun _ => 0) := by
  have := UB.made (w.alloc o) m
  simpa using this
theorem pls22 {p : Int} {ws : List GW} (hok : errSheet p ws = 0) (i : Nat) : plsOf ws i ≤ 22 := by
  unfold plsOf
  by_cases h : i < ws.length
  · rw [List.getD_eq_getElem?_getD, List.getElem?_eq_getElem h]
    have := pl22 hok _ (List.getElem_mem h)
    simp only [Option.getD_some]
    omega
  · rw [List.getD_eq_getElem?_getD, List.getElem?_eq_none (by omega)]
    decide
theorem updF_upd (g : Nat → Nat) (i a b : Nat) : updF (updF g i a) i b = updF g i b := by
  funext p
  unfold updF
  by_cases h : p = i
  · rw [if_pos h, if_pos h]
  · rw [if_neg h, if_neg h, if_neg h]
theorem updF_at (g : Nat → Nat) (i a : Nat) : updF g i a i = a := if_pos rfl
theorem updF_ne (g : Nat → Nat) {i j : Nat} (a : Nat) (h : j ≠ i) : updF g i a j = g j := if_neg h
theorem dnG_next (q : Nat → Nat) {n i : Nat} (h : i < n) : dnG q n (n - i) = updF (dnG q n (n - (i + 1))) i (dnV (dnG q n (n - (i + 1))) q i (n - (i + 1))) := by
  rw [show n - i = (n - (i + 1)) + 1 by omega]
  show updF (dnG q n (n - (i + 1))) (n - 1 - (n - (i + 1))) (dnV (dnG q n (n - (i + 1))) q (n - 1 - (n - (i + 1))) (n - (i + 1))) = _
  rw [show n - 1 - (n - (i + 1)) = i by omega]
/-- How far the search for the best work is. -/
def BS (q : Nat → Nat) (n m x k : Nat) : Prop := (m = n ∧ x = 0 ∧ k = 0) ∨ (m < n ∧ IsBest (mrkC q n) m n k ∧ x = bothN q n k)
theorem BS.yes {q : Nat → Nat} {n i x k : Nat} (h : BS q n (i + 1) x k) (hi : i < n) (hc : cntP (fun p => x.testBit p) 24 ≤ mrkC q n i) : BS q n i (bothN q n i) i := by
  rcases h with ⟨h1, _, _⟩ | ⟨h1, h2, h3⟩
  · subst h1
    exact .inr ⟨hi, IsBest.one _ _, rfl⟩
  · have h4 := h2.down
    rw [if_pos (by unfold mrkC at hc ⊢; rw [← h3]; exact hc)] at h4
    exact .inr ⟨hi, h4, rfl⟩
theorem cnt_zero : cntP (fun p => (0 : Nat).testBit p) 24 = 0 := by
  have : ∀ m, cntP (fun p => (0 : Nat).testBit p) m = 0 := by
    intro m
    induction m with
    | zero => rfl
    | succ m ih => unfold cntP; rw [ih]; simp
  exact this 24
theorem BS.no {q : Nat → Nat} {n i x k : Nat} (h : BS q n (i + 1) x k) (hi : i < n) (hc : ¬ cntP (fun p => x.testBit p) 24 ≤ mrkC q n i) : BS q n i x k := by
  rcases h with ⟨_, h1, _⟩ | ⟨h1, h2, h3⟩
  · subst h1
    rw [cnt_zero] at hc
    omega
  · have h4 := h2.down
    rw [if_neg (by unfold mrkC at hc ⊢; rw [← h3]; exact hc)] at h4
    exact .inr ⟨hi, h4, h3⟩
theorem BS.done {q : Nat → Nat} {n x k : Nat} (h : BS q n 0 x k) (hn : 0 < n) : k = bstW (mrkC q n) n ∧ x = bothN q n k := by
  rcases h with ⟨h1, _, _⟩ | ⟨_, h2, h3⟩
  · omega
  · obtain ⟨m, rfl⟩ : ∃ m, n = m + 1 := ⟨n - 1, by omega⟩
    exact ⟨h2.same (bstW_is _ m), h3⟩

set_option maxRecDepth 100000 in
set_option maxHeartbeats 8000000 in
theorem pBound_ok (P : Nat) (A : Option Addr) (c : Nat) (ws : List GW) (w : World) (hok : errSheet P ws = 0) (hn0 : 0 < ws.length) (ha : RdW w A ws) (hT : Tz w) :
    Calls Tryd.prog 18 #[.agg #[.int .i64 (P : Int), .slice A ws.length c]] w (BndPost (plL (fun p => (bothN (plsOf ws) ws.length (bstW (mrkC (plsOf ws) ws.length) ws.length)).testBit p) 24) (bstW (mrkC (plsOf ws) ws.length) ws.length) 0 w) := by
  have hb2 : Below w.heap.size w ((w.alloc (.cells #[.int .i64 P, .slice A ws.length c] 24)).alloc (.cells #[.int .i64 0, .slice none 0 0] 37)) := ((Below.refl _ _).alloc (Nat.le_refl _) _).alloc (by simp) _
  have hP24 : P ≤ 24 := by have := (okAll hok).2.1; omega
  have hn4 := (okAll hok).2.2.1
  have hpl := pl22 hok
  have hq22 := pls22 hok
  have hl1 : ((ws.length : Int) == 0) = false := by
    rw [beq_eq_false_iff_ne]; omega
  have hqP : ∀ i, i < ws.length → plsOf ws i + 2 ≤ P := fun i h => by
    have h1 := (okAll hok).2.2.2 _ (List.getElem_mem h)
    have e : plsOf ws i = ws[i].pl.toNat := by unfold plsOf; simp [List.getD_eq_getElem?_getD, h]
    omega
  have hwq : ∀ i, (h : i < ws.length) → ws[i].pl = (plsOf ws i : Int) := fun i h => by
    have h1 := hpl _ (List.getElem_mem h)
    have e : plsOf ws i = ws[i].pl.toNat := by unfold plsOf; simp [List.getD_eq_getElem?_getD, h]
    omega
  have HA := Lib.hid ha; have HB2 := Lib.hid hb2; have HOK := Lib.hid hok; have HT := Lib.hid hT; have HPL := Lib.hid hpl; have HQ22 := Lib.hid hq22; have HQP := Lib.hid hqP; have HWQ := Lib.hid hwq; clear ha hb2 hok hT hpl hq22 hqP hwq
  go_enter Tryd.func18, Tryd.ntmps18
  go_wp2_with fail
  refine (sCheck_ _ _ _ _ _ (by omega) (by omega) (HA.out.later HB2.out (Nat.le_refl _))).mono ?_
  rw [HOK.out]
  rintro e w1 ⟨rfl, hb1⟩
  have a1 : w1.cell? ⟨w.heap.size, 1, none⟩ = some (.slice A ws.length c) := below_at hb1 (Nat.le_refl _) (by go_simp)
  have C0 : Hid (w1.cell? ⟨w.heap.size + 1, 0, none⟩ = some (.int .i64 0)) := below_at hb1 (Nat.le_refl _) (by go_simp)
  have C1 : Hid (w1.cell? ⟨w.heap.size + 1, 1, none⟩ = some (.slice none 0 0)) := below_at hb1 (Nat.le_refl _) (by go_simp)
  have F0 : Hid (w1.frozen? ⟨w.heap.size + 1, 0, none⟩ = false) := (hb1.frozen (p := ⟨w.heap.size + 1, 0, none⟩) (by simp)).trans (by go_simp)
  have F1 : Hid (w1.frozen? ⟨w.heap.size + 1, 1, none⟩ = false) := (hb1.frozen (p := ⟨w.heap.size + 1, 1, none⟩) (by simp)).trans (by go_simp)
  have hs1 : w.heap.size + 1 < w1.heap.size := by have := hb1.size; simp at this; omega
  have hs0 : w.heap.size < w1.heap.size := by omega
  have Y1 := Lib.hid (HB2.out.trans (hb1.mono (by simp; omega)))
  have A1 := Lib.hid a1
  clear hb1
  have hmk := run_make_row' (P := Tryd.prog) 62 46 (.int .u64 0) 8 Tryd.underlying62 info_uint_Tryd rfl .i64 .i64 ws.length (by omega) (by omega)
  go_upto_region 6 with fail
  go_cut [5, 6] (fun uv dv wx => ∃ U D : Nat, uv = .slice (some ⟨U, 0, none⟩) ws.length ws.length ∧ dv = .slice (some ⟨D, 0, none⟩) ws.length ws.length ∧ UB wx U ws.length (fun _ => 0) ∧ UB wx D ws.length (fun _ => 0) ∧ U ≠ D ∧ w1.heap.size ≤ U ∧ w1.heap.size ≤ D ∧ Below w1.heap.size w1 wx)
  case first =>
    go_region
    all_goals
      go_wp2_with fail
      go_meet
      first
      | exact ⟨w1.heap.size, w1.heap.size + 1, rfl, rfl, (UB.made w1 _).alloc _, UB.made2 w1 _ _, by omega, Nat.le_refl _, by omega, (((Below.refl _ _).alloc (Nat.le_refl _) _).alloc (by simp) _).drew⟩
      | exact ⟨w1.heap.size + 1, w1.heap.size, rfl, rfl, UB.made2 w1 _ _, (UB.made w1 _).alloc _, by omega, by omega, Nat.le_refl _, (((Below.refl _ _).alloc (Nat.le_refl _) _).alloc (by simp) _).drew⟩
  case rest =>
    obtain ⟨U, D, rfl, rfl, hU, hD, hne, hUl, hDl, hbc⟩ := hcut
    clear hmk a1
    have hsc := hbc.size
    have a2 : wc.cell? ⟨w.heap.size, 1, none⟩ = some (.slice A ws.length c) := below_at hbc (Nat.le_refl _) A1.out
    have hsc0 : w.heap.size < wc.heap.size := by omega
    have HU := Lib.hid hU; have HD := Lib.hid hD; have HBC := Lib.hid hbc; clear hU hD hbc
    go_wp2
    clear a2 hsc0
    go_loopw [40] (fun iv wr => ∃ i : Nat, iv = .int .i64 i ∧ i ≤ ws.length ∧ UB wr U ws.length (upG (plsOf ws) i) ∧ wc.grownBy wr (some U)) (fun iv _ => ws.length - (intOf iv).toNat)
    case atStart => exact ⟨0, rfl, Nat.zero_le _, HU.out, World.grownBy.refl _ _⟩
    case round =>
      obtain ⟨i, rfl, hi, hUi, hgr⟩ := hrel
      obtain ⟨wy, rfl⟩ : ∃ wy : World, wy = wr := ⟨_, rfl⟩
      have hbw := HBC.out.trans (GB.below hgr hUl hsc)
      have hby := Y1.out.trans (hbw.mono (by omega))
      have a2 : wy.cell? ⟨w.heap.size, 1, none⟩ = some (.slice A ws.length c) := below_at hbw (Nat.le_refl _) A1.out
      have hsy := hgr.size
      have hUl2 := hUi.lt
      have hsy0 : w.heap.size < wy.heap.size := by omega
      by_cases hin : i < ws.length
      · obtain ⟨b, off, hAe, hbA, h1, h2, h3⟩ := (HA.out.later hby (Nat.le_refl _)).at_ hin
        rw [HWQ.out i hin] at h2
        generalize ws[i].kind = kd at *
        generalize ws[i].word = wd0 at *
        have k0 := hUi.at_ hin
        have f0 := hUi.free i
        have e1 := own3_shl (plsOf ws i) (HQ22.out i)
        have z1 : (0 : Int) ≤ (i : Int) := by omega
        have z2 : (i : Int) < (ws.length : Int) := by omega
        have z3 : (0 : Int) ≤ (plsOf ws i : Int) := by omega
        have z4 : (plsOf ws i : Int) < 64 := by have := HQ22.out i; omega
        have hg24 := upG_lt HQ22.out i
        have hv24 := fun k => upV_lt (q := plsOf ws) (g := upG (plsOf ws) i) (i := i) (HQ22.out i) hg24 k
        have hsucc : upG (plsOf ws) (i + 1) = updF (upG (plsOf ws) i) i (upV (upG (plsOf ws) i) (plsOf ws) i i) := rfl
        have hv0 : upV (upG (plsOf ws) i) (plsOf ws) i 0 = own3 (plsOf ws i) := rfl
        have hvs : ∀ k, upV (upG (plsOf ws) i) (plsOf ws) i (k + 1) = if tP (plsOf ws i) (plsOf ws k) = true then upV (upG (plsOf ws) i) (plsOf ws) i k ||| upG (plsOf ws) i k else upV (upG (plsOf ws) i) (plsOf ws) i k := fun k => rfl
        have hcall := fun k hk W hs hr => touchP_ w.heap.size i k A c ws W HPL.out hin hk hs hr
        generalize hqi : plsOf ws i = qi at *
        generalize upV (upG (plsOf ws) i) (plsOf ws) i = vk at *
        generalize upG (plsOf ws) i = g at *
        have HUI := Lib.hid hUi; have HGR := Lib.hid hgr; have HBW := Lib.hid hbw; have HBY := Lib.hid hby; have HG24 := Lib.hid hg24; have HV24 := Lib.hid hv24; have HSUCC := Lib.hid hsucc; have HV0 := Lib.hid hv0; have HVS := Lib.hid hvs; have HCALL := Lib.hid hcall; have HQI := Lib.hid hqi; clear hUi hgr hbw hby hg24 hv24 hsucc hv0 hvs hcall hqi
        subst hAe
        go_wp2
        clear k0 f0 h1 h2 h3 a2 e1
        go_loopw [52] (fun kv wr => ∃ k : Nat, kv = .int .i64 k ∧ k ≤ i ∧ UB wr U ws.length (updF g i (vk k)) ∧ wc.grownBy wr (some U)) (fun kv _ => i - (intOf kv).toNat)
        case atStart => exact ⟨0, rfl, Nat.zero_le _, by rw [HV0.out]; exact (HUI.out.put i _).alloc _, GB.alloc (GB.setCell HGR.out (.inl rfl) _) _⟩
        case round =>
          obtain ⟨k, rfl, hk, hUk, hgk⟩ := hrel
          obtain ⟨wx, rfl⟩ : ∃ wx : World, wx = wr := ⟨_, rfl⟩
          have hbx := HBC.out.trans (GB.below hgk hUl hsc)
          have hbz := Y1.out.trans (hbx.mono (by omega))
          have a3 : wx.cell? ⟨w.heap.size, 1, none⟩ = some (.slice (some ⟨b, off, none⟩) ws.length c) := below_at hbx (Nat.le_refl _) A1.out
          by_cases hki : k < i
          · have hc2 := HCALL.out k (by omega) wx a3 (HA.out.later hbz (Nat.le_refl _))
            have hvs1 := HVS.out k
            clear a3
            cases htp : tP qi (plsOf ws k) with
            | false =>
              rw [htp] at hc2 hvs1
              rw [if_neg (by decide)] at hvs1
              clear htp
              have HUK := Lib.hid hUk; have HGK := Lib.hid hgk; have HBX := Lib.hid hbx; have HBZ := Lib.hid hbz; have HC2 := Lib.hid hc2; have HVS1 := Lib.hid hvs1; clear hUk hgk hbx hbz hc2 hvs1
              go_wp2_with (go_at_call 38; refine HC2.out.mono ?_; rintro e w2 ⟨rfl, hb2⟩)
              go_roundw
              case rel => exact ⟨k + 1, by go_num, by omega, by rw [HVS1.out]; exact HUK.out.later hb2, gtr HGK.out (gb_below hb2 _)⟩
              case measure => simp [intOf]; omega
            | true =>
              rw [htp] at hc2 hvs1
              rw [if_pos rfl] at hvs1
              clear htp
              have HUK := Lib.hid hUk; have HGK := Lib.hid hgk; have HBX := Lib.hid hbx; have HBZ := Lib.hid hbz; have HC2 := Lib.hid hc2; have HVS1 := Lib.hid hvs1; clear hUk hgk hbx hbz hc2 hvs1
              go_upto_region 16 with (go_at_call 38; refine HC2.out.mono ?_; rintro e w2 ⟨rfl, hb2⟩)
              have hU2 := HUK.out.later hb2
              have hg2 := gtr HGK.out (gb_below hb2 (some U))
              have k1 := hU2.at_ hin
              have k2 := hU2.at_ (show k < ws.length by omega)
              rw [updF_at] at k1
              rw [updF_ne _ _ (show k ≠ i by omega)] at k2
              have f1 := hU2.free i
              have hU3 := hU2.put i (vk k ||| g k)
              rw [updF_upd] at hU3
              have e5 := or_nat (vk k) (g k) (HV24.out k) (HG24.out k)
              have hg3 : wc.grownBy (w2.setCell ⟨U, i, none⟩ (.int .u64 ((vk k ||| g k : Nat) : Int))) (some U) := GB.setCell hg2 (.inl rfl) _
              have z5 : (0 : Int) ≤ (k : Int) := by omega
              have z6 : (k : Int) < (ws.length : Int) := by omega
              generalize hvv : vk k ||| g k = v2 at *
              generalize vk k = v1 at *
              generalize g k = g1 at *
              clear hb2
              have HU2 := Lib.hid hU2; have HG2 := Lib.hid hg2; have HU3 := Lib.hid hU3; have HG3 := Lib.hid hg3; have HVV := Lib.hid hvv; clear hU2 hg2 hU3 hg3 hvv
              go_region
              go_wp2
              go_roundw
              case rel => exact ⟨k + 1, by go_num, by omega, by rw [HVS1.out]; exact HU3.out, GB.drew HG3.out⟩
              case measure => simp [intOf]; omega
          · obtain rfl : k = i := by omega
            clear a3
            have HUK := Lib.hid hUk; have HGK := Lib.hid hgk; have HBX := Lib.hid hbx; have HBZ := Lib.hid hbz; clear hUk hgk hbx hbz
            go_wp2
            go_roundw
            case rel => exact ⟨k + 1, by go_num, by omega, by rw [HSUCC.out]; exact HUK.out, HGK.out⟩
            case measure => simp [intOf]; omega
      · obtain rfl : i = ws.length := by omega
        have hDy := HD.out.kept hgr (by simpa using hne.symm)
        have e1 : IntKind.i64.wrap ((ws.length : Int) - 1) = (ws.length : Int) - 1 := IntWalk.i64_in _ (by omega)
        obtain ⟨n, hn⟩ : ∃ n, n = ws.length := ⟨_, rfl⟩
        have HUI := Lib.hid hUi; have HGR := Lib.hid hgr; have HBW := Lib.hid hbw; have HBY := Lib.hid hby; have HDY := Lib.hid hDy; clear hUi hgr hbw hby hDy
        clear hi hin
        go_wp2
        clear a2 hUl2 hsy0 e1
        go_loopw [11, 12, 13] (fun bv wv iv wr => ∃ m x k : Nat, iv = .int .i64 ((m : Int) - 1) ∧ m ≤ ws.length ∧ bv = .int .u64 (x : Int) ∧ wv = .int .i64 (k : Int) ∧ x < 2 ^ 24 ∧ BS (plsOf ws) ws.length m x k ∧ UB wr D ws.length (dnG (plsOf ws) ws.length (ws.length - m)) ∧ wy.grownBy wr (some D)) (fun _ _ iv _ => (intOf iv + 1).toNat)
        case atStart => exact ⟨ws.length, 0, 0, rfl, Nat.le_refl _, rfl, rfl, by decide, .inl ⟨rfl, rfl, rfl⟩, by rw [Nat.sub_self]; exact HDY.out, World.grownBy.refl _ _⟩
        case round =>
          obtain ⟨m, x, kw, rfl, hm, rfl, rfl, hx24, hbs, hDi, hgd⟩ := hrel
          obtain ⟨wz, rfl⟩ : ∃ wz : World, wz = wr := ⟨_, rfl⟩
          have hbz := HBW.out.trans (GB.below hgd hDl (by have := HBW.out.size; omega))
          have hbz0 := Y1.out.trans (hbz.mono (by omega))
          have a2 : wz.cell? ⟨w.heap.size, 1, none⟩ = some (.slice A ws.length c) := below_at hbz (Nat.le_refl _) A1.out
          have hsz := hgd.size
          have hDl2 := hDi.lt
          have hsz0 : w.heap.size < wz.heap.size := by omega
          have hUz := HUI.out.kept hgd (by simpa using hne)
          rcases Nat.eq_zero_or_pos m with hm0 | hm0
          · subst hm0
            rw [show ((0 : Nat) : Int) - 1 = -1 from rfl]
            obtain ⟨hkw, hxb⟩ := hbs.done hn0
            have hf24 : ∀ p, 24 ≤ p → x.testBit p = false := fun p hp => Nat.testBit_lt_two_pow (Nat.lt_of_lt_of_le hx24 (Nat.pow_le_pow_right (by decide) hp))
            obtain ⟨f, hf⟩ : ∃ f : Nat → Bool, f = fun p => x.testBit p := ⟨_, rfl⟩
            have hff : (fun p => (bothN (plsOf ws) ws.length (bstW (mrkC (plsOf ws) ws.length) ws.length)).testBit p) = f := by rw [hf, ← hkw, ← hxb]
            have hx0 : ∀ i, x.testBit i = (decide (0 ≤ i) && f i) := fun i => by rw [hf]; simp
            have hf24' : ∀ p, 24 ≤ p → f p = false := fun p hp => by rw [hf]; exact hf24 p hp
            clear hf hf24
            have hO0 : (wz.alloc (.cells #[.int .i64 (kw : Int), .slice none 0 0] 37)).heap[wz.heap.size]? = some (.cells #[.int .i64 (kw : Int), .slice none 0 0] 37 (0, 0)) := heap_alloc_new _ _
            have hB0 : Below wz.heap.size wz (wz.alloc (.cells #[.int .i64 (kw : Int), .slice none 0 0] 37)) := (Below.refl _ _).alloc (Nat.le_refl _) _
            have hsw1 : w1.heap.size ≤ wz.heap.size := hbz.size
            have HDI := Lib.hid hDi; have HGD := Lib.hid hgd; have HBZ := Lib.hid hbz; have HBZ0 := Lib.hid hbz0; have HUZ := Lib.hid hUz; have HBS := Lib.hid hbs; have HX24 := Lib.hid hx24; have HKW := Lib.hid hkw; have HXB := Lib.hid hxb; have HFF := Lib.hid hff; have HX0 := Lib.hid hx0; have HF24p := Lib.hid hf24'; have HO0 := Lib.hid hO0; have HB0 := Lib.hid hB0; clear hDi hgd hbz hbz0 hUz hbs hx24 hkw hxb hff hx0 hf24' hO0 hB0
            go_wp2
            clear a2
            go_loopw [11] (fun bv wr => ∃ (k x : Nat) (v : Value), bv = .int .u64 (x : Int) ∧ (∀ i, x.testBit i = (decide (k ≤ i) && f i)) ∧ k ≤ 24 ∧ wr.heap[wz.heap.size]? = some (.cells #[.int .i64 (kw : Int), v] 37 (0, 0)) ∧ wr.ownsRow (wz.heap.size + 1) 3 1 v (plL f k).length (ints (plL f k)) ∧ Below wz.heap.size wz wr) (fun bv _ => (intOf bv).toNat)
            case atStart => exact ⟨0, x, _, rfl, HX0.out, by omega, HO0.out, World.ownsRow_nil _ _ _ _, HB0.out⟩
            case round =>
              obtain ⟨k, x, v, rfl, hxk, hk24, hO, hown, hbr⟩ := hrel
              obtain ⟨wx, rfl⟩ : ∃ wx : World, wx = wr := ⟨_, rfl⟩
              have hbx := HBZ.out.trans (hbr.mono hsw1)
              have hOl := lt_of_block hO
              have k0 := cell_of_row wx wz.heap.size 0 _ _ _ hO
              have k1 := cell_of_row wx wz.heap.size 1 _ _ _ hO
              have f1 := frozen_of_row wx wz.heap.size 1 _ _ hO
              simp only [List.getElem?_toArray, List.getElem?_cons_zero, List.getElem?_cons_succ] at k0 k1
              by_cases hx0 : x = 0
              · subst hx0
                have hfin : plL f 24 = plL f k := by
                  have := plL_more (f := f) (k := k) (24 - k) fun i h1 h2 => by
                    have h3 := hxk i
                    rw [Nat.zero_testBit, decide_eq_true h1, Bool.true_and] at h3
                    exact h3.symm
                  rwa [show k + (24 - k) = 24 by omega] at this
                obtain ⟨A3, c3, rfl⟩ := own_slice1 hown
                have c0 := below_at hbx (Nat.le_refl _) C0.out
                have c1 := below_at hbx (Nat.le_refl _) C1.out
                have g0 : wx.frozen? ⟨w.heap.size + 1, 0, none⟩ = false := (hbx.frozen (p := ⟨w.heap.size + 1, 0, none⟩) hs1).trans F0.out
                have g1 : wx.frozen? ⟨w.heap.size + 1, 1, none⟩ = false := (hbx.frozen (p := ⟨w.heap.size + 1, 1, none⟩) hs1).trans F1.out
                have hlen := plL_le f k
                have hsx1 : w.heap.size + 1 < wx.heap.size := by have := hbx.size; omega
                generalize plL f k = L at *
                have HO := Lib.hid hO; have HOWN := Lib.hid hown; have HBR := Lib.hid hbr; have HBX := Lib.hid hbx; have HFIN := Lib.hid hfin; have HXK := Lib.hid hxk; clear hO hown hbr hbx hfin hxk
                go_wp2
                refine bodyPost_ret (v := .tuple #[.agg #[.int .i64 (kw : Int), .slice A3 L.length c3], .int .i64 0]) (by simp [results, Tryd.results18, go_sem, c0, c1]) rfl ⟨.slice A3 L.length c3, by rw [← HKW.out], ?_, ?_⟩
                · rw [HFF.out, HFIN.out]
                  exact RdV.of_own (ownsRow_setCell_below (ownsRow_setCell_below HOWN.out (by show w.heap.size + 1 < wz.heap.size + 1; omega) _) (by show w.heap.size + 1 < wz.heap.size + 1; omega) _) (by omega)
                · exact ((Y1.out.trans (HBX.out.mono (by omega))).setCell (by show w.heap.size ≤ w.heap.size + 1; omega) _).setCell (by show w.heap.size ≤ w.heap.size + 1; omega) _
              · have hx1 : ((x : Int) != 0) = true := by simpa using hx0
                obtain ⟨wk, hwb, hwl, hwn⟩ := low_bit hx0
                have hkw2 : k ≤ wk ∧ f wk = true := by
                  have := hxk wk
                  rw [hwb] at this
                  simp only [Bool.true_eq, Bool.and_eq_true, decide_eq_true_eq] at this
                  exact this
                have hwk24 : wk < 24 := by
                  rcases Nat.lt_or_ge wk 24 with h | h
                  · exact h
                  · rw [HF24p.out wk h] at hkw2; exact absurd hkw2.2 (by decide)
                have hx64 : x < 2 ^ 64 := by
                  apply Nat.lt_pow_two_of_testBit
                  intro i hi
                  rw [hxk i, HF24p.out i (by omega), Bool.and_false]
                have htz := fun W h => tz_ x hx64 W h
                rw [ctz_iff hx64 hwb hwl] at htz
                have hpl2 : plL f (wk + 1) = plL f k ++ [(wk : Int)] := by
                  rw [plL_yes hkw2.2]
                  have := plL_more (f := f) (k := k) (wk - k) fun i h1 h2 => by
                    have h3 := hxk i
                    rw [hwl i (by omega), decide_eq_true h1, Bool.true_and] at h3
                    exact h3.symm
                  rw [show k + (wk - k) = wk by omega] at this
                  rw [this]
                have e1 : IntKind.u64.wrap ((x : Int) - 1) = ((x - 1 : Nat) : Int) := by
                  rw [show (x : Int) - 1 = ((x - 1 : Nat) : Int) by omega]
                  exact wraps64 _ (Int.natCast_nonneg _) (by omega)
                have e2 := and_nat x (x - 1) hx64 (by omega)
                have hdec : x &&& (x - 1) < x := by
                  have := Nat.and_le_right (n := x) (m := x - 1)
                  omega
                have hxk2 : ∀ i, (x &&& (x - 1)).testBit i = (decide (wk + 1 ≤ i) && f i) := fun i => by
                  rw [hwn i, hxk i]
                  by_cases hiw : i < wk
                  · have h3 := hwl i hiw
                    rw [hxk i] at h3
                    rw [h3, decide_eq_false (show ¬ wk + 1 ≤ i by omega)]
                    rfl
                  · by_cases he : i = wk
                    · subst he; rw [decide_eq_false (show ¬ i + 1 ≤ i by omega)]; simp
                    · rw [decide_eq_true (show k ≤ i by omega), decide_eq_true (show wk + 1 ≤ i by omega), decide_eq_false he]; simp
                have hTx := HT.out.later (Y1.out.trans (hbx.mono (by omega))) (Nat.le_refl _)
                have htz2 : Calls Tryd.prog 28 #[.int .u64 (x : Int)] wx.drew fun e w' => e = .returned (.int .i64 wk) ∧ wx.drew = w' := htz wx.drew hTx
                have hlen := plL_le f k
                have hvl := hown.lt
                have hN2 : Hid (some wz.heap.size ≠ v.ownBlock) := fun h => by have := (hvl _ h.symm).1; omega
                generalize plL f k = L at *
                generalize hx2 : x &&& (x - 1) = x2 at *
                generalize x - 1 = xm at *
                have HO := Lib.hid hO; have HOWN := Lib.hid hown; have HBR := Lib.hid hbr; have HBX := Lib.hid hbx; have HXK := Lib.hid hxk; have HKW2 := Lib.hid hkw2; have HWK24 := Lib.hid hwk24; have HX64 := Lib.hid hx64; have HTZ2 := Lib.hid htz2; have HPL2 := Lib.hid hpl2; have HDEC := Lib.hid hdec; have HXK2 := Lib.hid hxk2; have HTX := Lib.hid hTx; have HWB := Lib.hid hwb; have HWL := Lib.hid hwl; have HWN := Lib.hid hwn; have HX2 := Lib.hid hx2; have HVL := Lib.hid hvl; clear hO hown hbr hbx hxk hkw2 hwk24 hx64 htz2 hpl2 hdec hxk2 hTx hwb hwl hwn hx2 hvl
                clear htz hx0
                go_wp2
                go_region_law
                  (first | (refine step_app1_Tryd (by rfl) _ _ (by rfl) (wz.heap.size + 1) v L (by rfl) (by repeat (first | exact HOWN.out | refine World.ownsRow.alloc ?_ _ | exact (World.ownsRow.alloc HOWN.out _).drew)) wx.heap.size (wk : Int) (by rfl) (heap_alloc_new _ _) (by omega) (by simp; omega) ?_; intro g cap w3 hown3 hgrow hat3 hlt3; have q1 : w3.cell? ⟨wz.heap.size, 1, none⟩ = some v := (hgrow.cell_far ⟨wz.heap.size, 1, none⟩ (by simp; omega) hN2.out).trans (by go_simp); have q2 : w3.frozen? ⟨wz.heap.size, 1, none⟩ = false := (hgrow.frozen_far ⟨wz.heap.size, 1, none⟩ (by simp; omega) hN2.out).trans (by go_simp); have q3 : wz.heap.size < w3.heap.size := (by have := hgrow.size; simp at this; omega)) | (go_simp; go_at_call 28; refine HTZ2.out.mono ?_; rintro e w9 ⟨rfl, rfl⟩))
                all_goals
                  go_wp2
                  go_roundw
                  case rel =>
                    refine ⟨wk + 1, x2, _, rfl, HXK2.out, by have := HWK24.out; omega, ?_, by rw [HPL2.out]; exact ownsRow_setCell_below hown3 (by show wz.heap.size < wz.heap.size + 1; omega) _, ?_⟩
                    · exact heap_setCell_same _ _ 1 _ _ _ ((hgrow.block _ (by simp; omega) hN2.out).trans ((Below.heap_alloc wx _ _ hOl).trans HO.out))
                    · exact ((HBR.out.alloc HBR.out.size _).drew.grown hgrow (by simp; omega) (fun k' hk' => by have := (HVL.out k' hk').1; omega)).setCell (Nat.le_refl _) _
                  case measure =>
                    have := HDEC.out
                    simp [intOf]; omega
          · obtain ⟨i, rfl⟩ : ∃ i, m = i + 1 := ⟨m - 1, by omega⟩
            rw [show ((i + 1 : Nat) : Int) - 1 = (i : Int) by omega]
            have hin : i < ws.length := by omega
            obtain ⟨b, off, hAe, hbA, h1, h2, h3⟩ := (HA.out.later hbz0 (Nat.le_refl _)).at_ hin
            rw [HWQ.out i hin] at h2
            generalize ws[i].kind = kd at *
            generalize ws[i].word = wd0 at *
            have k0 := hDi.at_ hin
            have f0 := hDi.free i
            have e1 := own3_shl (plsOf ws i) (HQ22.out i)
            have z1 : (0 : Int) ≤ (i : Int) := by omega
            have z2 : (i : Int) < (ws.length : Int) := by omega
            have z3 : (0 : Int) ≤ (plsOf ws i : Int) := by omega
            have z4 : (plsOf ws i : Int) < 64 := by have := HQ22.out i; omega
            have z5 : IntKind.i64.wrap ((i : Int) + 1) = ((i + 1 : Nat) : Int) := IntWalk.i64_in _ (by omega)
            have hdn := dnG_next (plsOf ws) hin
            have hg24 := dnG_lt (q := plsOf ws) ws.length HQ22.out (ws.length - (i + 1))
            have hv24 := fun k => dnV_lt (q := plsOf ws) (g := dnG (plsOf ws) ws.length (ws.length - (i + 1))) (i := i) (HQ22.out i) hg24 k
            have hv0 : dnV (dnG (plsOf ws) ws.length (ws.length - (i + 1))) (plsOf ws) i 0 = own3 (plsOf ws i) := rfl
            have hvs : ∀ k, dnV (dnG (plsOf ws) ws.length (ws.length - (i + 1))) (plsOf ws) i (k + 1) = if tP (plsOf ws i) (plsOf ws (i + 1 + k)) = true then dnV (dnG (plsOf ws) ws.length (ws.length - (i + 1))) (plsOf ws) i k ||| dnG (plsOf ws) ws.length (ws.length - (i + 1)) (i + 1 + k) else dnV (dnG (plsOf ws) ws.length (ws.length - (i + 1))) (plsOf ws) i k := fun k => rfl
            have hcall := fun k hk W hs hr => touchP_ w.heap.size i k A c ws W HPL.out hin hk hs hr
            have hb24 : bothN (plsOf ws) ws.length i < 16777216 := Nat.lt_of_lt_of_le (bothN_lt HQP.out hin) (Nat.pow_le_pow_right (n := 2) (i := P) (j := 24) (by decide) hP24)
            have hbo : bothN (plsOf ws) ws.length i = upG (plsOf ws) ws.length i &&& dnG (plsOf ws) ws.length (ws.length - i) i := rfl
            rw [hdn, updF_at] at hbo
            have hu24 := upG_lt HQ22.out ws.length i
            have hbsy := hbs.yes hin
            have hbsn := hbs.no hin
            have hmc : mrkC (plsOf ws) ws.length i = cntP (fun p => (bothN (plsOf ws) ws.length i).testBit p) 24 := rfl
            have hho := fun W => ones_ (bothN (plsOf ws) ws.length i) hb24 W
            have hhx := fun W => ones_ x (by omega) W
            rw [← hmc] at hho
            generalize hqi : plsOf ws i = qi at *
            generalize dnV (dnG (plsOf ws) ws.length (ws.length - (i + 1))) (plsOf ws) i = vk at *
            generalize dnG (plsOf ws) ws.length (ws.length - (i + 1)) = g at *
            have HDI := Lib.hid hDi; have HGD := Lib.hid hgd; have HBZ := Lib.hid hbz; have HBZ0 := Lib.hid hbz0; have HG24 := Lib.hid hg24; have HV24 := Lib.hid hv24; have HDN := Lib.hid hdn; have HV0 := Lib.hid hv0; have HVS := Lib.hid hvs; have HCALL := Lib.hid hcall; have HQI := Lib.hid hqi; have HUZ := Lib.hid hUz; have HBS := Lib.hid hbs; have HBO := Lib.hid hbo; have HU24 := Lib.hid hu24; have HB24 := Lib.hid hb24; have HBSY := Lib.hid hbsy; have HBSN := Lib.hid hbsn; have HMC := Lib.hid hmc; have HHO := Lib.hid hho; have HHX := Lib.hid hhx; have HX24 := Lib.hid hx24; clear hDi hgd hbz hbz0 hg24 hv24 hdn hv0 hvs hcall hqi hUz hbs hbo hu24 hb24 hbsy hbsn hmc hho hhx hx24
            subst hAe
            go_wp2
            clear k0 f0 h1 h2 h3 a2 e1 z5
            go_loopw [14] (fun kv wr => ∃ m2 kk : Nat, kk = i + 1 + m2 ∧ kv = .int .i64 (kk : Int) ∧ kk ≤ ws.length ∧ UB wr D ws.length (updF g i (vk m2)) ∧ wy.grownBy wr (some D)) (fun kv _ => ws.length - (intOf kv).toNat)
            case atStart => exact ⟨0, i + 1, rfl, rfl, by omega, by rw [HV0.out]; exact HDI.out.put i _, GB.setCell HGD.out (.inl rfl) _⟩
            case round =>
              obtain ⟨m2, kk, hkk, rfl, hk, hDk, hgk⟩ := hrel
              obtain ⟨wx, rfl⟩ : ∃ wx : World, wx = wr := ⟨_, rfl⟩
              have hbx := HBW.out.trans (GB.below hgk hDl (by have := HBW.out.size; omega))
              have hbx0 := Y1.out.trans (hbx.mono (by omega))
              have a3 : wx.cell? ⟨w.heap.size, 1, none⟩ = some (.slice (some ⟨b, off, none⟩) ws.length c) := below_at hbx (Nat.le_refl _) A1.out
              have hsx0 : w.heap.size < wx.heap.size := by have := hgk.size; omega
              have hki : kk ≠ i := by omega
              by_cases hkn : kk < ws.length
              · have hc2 := HCALL.out kk hkn wx a3 (HA.out.later hbx0 (Nat.le_refl _))
                have hvs1 := HVS.out m2
                rw [← hkk] at hvs1
                have z6 : IntKind.i64.wrap ((kk : Int) + 1) = ((kk + 1 : Nat) : Int) := IntWalk.i64_in _ (by omega)
                have hkk2 : kk + 1 = i + 1 + (m2 + 1) := by omega
                cases htp : tP qi (plsOf ws kk) with
                | false =>
                  rw [htp] at hc2 hvs1
                  rw [if_neg (by decide)] at hvs1
                  clear htp
                  have HDK := Lib.hid hDk; have HGK := Lib.hid hgk; have HBX := Lib.hid hbx; have HBX0 := Lib.hid hbx0; have HC2 := Lib.hid hc2; have HVS1 := Lib.hid hvs1; have HKK := Lib.hid hkk; have HKK2 := Lib.hid hkk2; clear hDk hgk hbx hbx0 hc2 hvs1 hkk hkk2
                  go_wp2_with (go_at_call 38; refine HC2.out.mono ?_; rintro e w2 ⟨rfl, hb2⟩)
                  go_roundw
                  case rel => exact ⟨m2 + 1, kk + 1, HKK2.out, rfl, by omega, by rw [HVS1.out]; exact HDK.out.later hb2, gtr HGK.out (gb_below hb2 _)⟩
                  case measure => simp [intOf]; omega
                | true =>
                  rw [htp] at hc2 hvs1
                  rw [if_pos rfl] at hvs1
                  clear htp
                  have HDK := Lib.hid hDk; have HGK := Lib.hid hgk; have HBX := Lib.hid hbx; have HBX0 := Lib.hid hbx0; have HC2 := Lib.hid hc2; have HVS1 := Lib.hid hvs1; have HKK := Lib.hid hkk; have HKK2 := Lib.hid hkk2; clear hDk hgk hbx hbx0 hc2 hvs1 hkk hkk2
                  go_upto_region 28 with (go_at_call 38; refine HC2.out.mono ?_; rintro e w2 ⟨rfl, hb2⟩)
                  have hU2 := HDK.out.later hb2
                  have hg2 := gtr HGK.out (gb_below hb2 (some D))
                  have k1 := hU2.at_ hin
                  have k2 := hU2.at_ hkn
                  rw [updF_at] at k1
                  rw [updF_ne _ _ hki] at k2
                  have f1 := hU2.free i
                  have hU3 := hU2.put i (vk m2 ||| g kk)
                  rw [updF_upd] at hU3
                  have e5 := or_nat (vk m2) (g kk) (HV24.out m2) (HG24.out kk)
                  have hg3 : wy.grownBy (w2.setCell ⟨D, i, none⟩ (.int .u64 ((vk m2 ||| g kk : Nat) : Int))) (some D) := GB.setCell hg2 (.inl rfl) _
                  have z7 : (0 : Int) ≤ (kk : Int) := by omega
                  have z8 : (kk : Int) < (ws.length : Int) := by omega
                  generalize hvv : vk m2 ||| g kk = v2 at *
                  generalize vk m2 = v1 at *
                  generalize g kk = g1 at *
                  clear hb2 a3
                  have HU2 := Lib.hid hU2; have HG2 := Lib.hid hg2; have HU3 := Lib.hid hU3; have HG3 := Lib.hid hg3; have HVV := Lib.hid hvv; clear hU2 hg2 hU3 hg3 hvv
                  go_region
                  go_wp2
                  go_roundw
                  case rel => exact ⟨m2 + 1, kk + 1, HKK2.out, rfl, by omega, by rw [HVS1.out]; exact HU3.out, GB.drew HG3.out⟩
                  case measure => simp [intOf]; omega
              · obtain rfl : kk = ws.length := by omega
                have hm2 : m2 = ws.length - (i + 1) := by omega
                have hUx := HUI.out.kept hgk (by simpa using hne)
                have k1 := hUx.at_ hin
                have k2 := hDk.at_ hin
                rw [updF_at] at k2
                have e5 := and24_nat (upG (plsOf ws) ws.length i) (vk m2) HU24.out (HV24.out m2)
                have hbo2 := HBO.out
                rw [← hm2] at hbo2
                rw [← hbo2] at e5
                have z9 : IntKind.i64.wrap ((i : Int) - 1) = (i : Int) - 1 := IntWalk.i64_in _ (by omega)
                have hUl3 := hUx.lt
                have hDl3 := hDk.lt
                have hyes := HBSY.out
                have hno := HBSN.out
                have hh1 := HHO.out
                have hh2 := HHX.out
                have hdk2 := HDN.out
                rw [← hm2] at hdk2
                rw [← hdk2] at hDk
                have hbt24 : bothN (plsOf ws) ws.length i < 2 ^ 24 := HB24.out
                generalize bothN (plsOf ws) ws.length i = bt at *
                generalize mrkC (plsOf ws) ws.length i = ci at *
                generalize cntP (fun p => x.testBit p) 24 = cx at *
                generalize upG (plsOf ws) ws.length i = ui at *
                generalize vk m2 = vi at *
                cases hcc : decide (cx ≤ ci) with
                | true =>
                  have hb9 := hyes (of_decide_eq_true hcc)
                  have HDK := Lib.hid hDk; have HGK := Lib.hid hgk; have HBX := Lib.hid hbx; have HBX0 := Lib.hid hbx0; have HKK := Lib.hid hkk; have HM2 := Lib.hid hm2; have HUX := Lib.hid hUx; have HBO2 := Lib.hid hbo2; have HYES := Lib.hid hyes; have HNO := Lib.hid hno; have HH1 := Lib.hid hh1; have HH2 := Lib.hid hh2; have HDK2 := Lib.hid hdk2; have HB9 := Lib.hid hb9; have HBT24 := Lib.hid hbt24; clear hDk hgk hbx hbx0 hkk hm2 hUx hbo2 hyes hno hh1 hh2 hdk2 hb9 hbt24
                  go_wp2
                  clear a3
                  go_region
                  go_wp2_with (go_at_call 39; first | (with_reducible refine (HH1.out _).mono ?_; rintro e w9 ⟨rfl, rfl⟩) | (with_reducible refine (HH2.out _).mono ?_; rintro e w9 ⟨rfl, rfl⟩))
                  go_roundw
                  case rel => exact ⟨i, bt, i, rfl, by omega, rfl, rfl, HBT24.out, HB9.out, HDK.out, GB.drew HGK.out⟩
                  case measure => simp [intOf]
                | false =>
                  have hb9 := hno (of_decide_eq_false hcc)
                  have HDK := Lib.hid hDk; have HGK := Lib.hid hgk; have HBX := Lib.hid hbx; have HBX0 := Lib.hid hbx0; have HKK := Lib.hid hkk; have HM2 := Lib.hid hm2; have HUX := Lib.hid hUx; have HBO2 := Lib.hid hbo2; have HYES := Lib.hid hyes; have HNO := Lib.hid hno; have HH1 := Lib.hid hh1; have HH2 := Lib.hid hh2; have HDK2 := Lib.hid hdk2; have HB9 := Lib.hid hb9; have HBT24 := Lib.hid hbt24; clear hDk hgk hbx hbx0 hkk hm2 hUx hbo2 hyes hno hh1 hh2 hdk2 hb9 hbt24
                  go_wp2
                  clear a3
                  go_region
                  go_wp2_with (go_at_call 39; first | (with_reducible refine (HH1.out _).mono ?_; rintro e w9 ⟨rfl, rfl⟩) | (with_reducible refine (HH2.out _).mono ?_; rintro e w9 ⟨rfl, rfl⟩))
                  go_roundw
                  case rel => exact ⟨i, x, kw, rfl, by omega, rfl, rfl, HX24.out, HB9.out, HDK.out, GB.drew HGK.out⟩
                  case measure => simp [intOf]
theorem bndX_zero {p : Int} {ws : List GW} (h : bndX p ws = 0) : errSheet p ws = 0 ∧ 0 < ws.length := by
  unfold bndX at h
  by_cases he : errSheet p ws = 0
  · rw [if_pos he] at h
    refine ⟨he, ?_⟩
    by_cases hl : ws.length = 0
    · rw [if_pos hl] at h; exact absurd h (by decide)
    · omega
  · rw [if_neg he] at h; exact absurd h he
theorem pBound_ (p : Int) (A : Option Addr) (c : Nat) (ws : List GW) (w : World) (hsh : ShIn w p A ws) (hT : Tz w) :
    Calls Tryd.prog 18 #[.agg #[.int .i64 p, .slice A ws.length c]] w (BndPost (bndL p ws) (bndW p ws) (bndX p ws) w) := by
  by_cases hx : bndX p ws = 0
  · obtain ⟨he, hl⟩ := bndX_zero hx
    have hp2 := (okAll he).1
    obtain ⟨P, rfl⟩ := Int.eq_ofNat_of_zero_le (show 0 ≤ p by omega)
    unfold bndL bndW
    rw [if_pos hx, if_pos hx, hx]
    exact pBound_ok P A c ws w he hl hsh.rd hT
  · unfold bndL bndW
    rw [if_neg hx, if_neg hx]
    exact pBound_bad p A c ws w hsh hx
end Go.Proofs.YtnplcephmidjbaaDoor
/- The reference of package pairs: Fewest. -/
namespace Go.Proofs.YtnplcephmidjbaaDoor
open Go.RowKit

set_option maxRecDepth 100000 in
set_option maxHeartbeats 1000000 in
theorem rFewest_bad (p : Int) (A : Option Addr) (c : Nat) (ws : List GW) (w : World) (hsh : ShIn w p A ws) (hx : fewX p ws ≠ 0) :
    Calls Tryd.prog 17 #[.agg #[.int .i64 p, .slice A ws.length c]] w (HangPost [] 0 (fewX p ws) w) := by
  have hb2 : Below w.heap.size w (w.alloc (.cells #[.int .i64 p, .slice A ws.length c] 24)) := (Below.refl _ _).alloc (Nat.le_refl _) _
  have X0 := Lib.hid (Box1.made w p A c ws.length 24)
  obtain ⟨hp1, hp2, ha⟩ := hsh
  by_cases he : errSheet p ws = 0
  · have hr : fewX p ws = 3 ∧ 14 < ws.length := by
      unfold fewX at hx ⊢
      rw [if_pos he] at hx ⊢
      by_cases h : 14 < ws.length
      · rw [if_pos h]; exact ⟨rfl, h⟩
      · rw [if_neg h] at hx; exact absurd rfl hx
    obtain ⟨hr, hl14⟩ := hr
    have HA := Lib.hid ha; have HB2 := Lib.hid hb2; have HE := Lib.hid he; have HR := Lib.hid hr; clear ha hb2 he hr
    clear hx
    go_enter Tryd.func17, Tryd.ntmps17
    go_wp2_with fail
    refine (rCheck_ _ _ _ _ _ hp1 hp2 (HA.out.later HB2.out (Nat.le_refl _))).mono ?_
    rw [HE.out]
    rintro e w1 ⟨rfl, hb1⟩
    have Y1 := Lib.hid (HB2.out.trans (hb1.mono (by simp)))
    have X1 := Lib.hid (X0.out.later hb1)
    obtain ⟨c1, c2, s1⟩ := X1.out
    clear hb1
    go_wp2
    go_ret3
    exact ⟨.slice none 0 0, by rw [HR.out]; rfl, RdV.nil _, Y1.out⟩
  · have hr : fewX p ws = errSheet p ws := by unfold fewX; rw [if_neg he]
    have HA := Lib.hid ha; have HB2 := Lib.hid hb2; have HR := Lib.hid hr; clear ha hb2 hr
    clear hx
    go_enter Tryd.func17, Tryd.ntmps17
    go_wp2_with fail
    refine (rCheck_ _ _ _ _ _ hp1 hp2 (HA.out.later HB2.out (Nat.le_refl _))).mono ?_
    rintro e w1 ⟨rfl, hb1⟩
    have Y1 := Lib.hid (HB2.out.trans (hb1.mono (by simp)))
    have X1 := Lib.hid (X0.out.later hb1)
    obtain ⟨c1, c2, s1⟩ := X1.out
    clear hb1
    generalize hge : errSheet p ws = E at *
    have HGE := Lib.hid hge; clear hge
    go_wp2
    go_ret3
    exact ⟨.slice none 0 0, by rw [HR.out]; rfl, RdV.nil _, Y1.out⟩


theorem RnC.low {w w' : World} {X kb P N kc c B : Nat} {A : Option Addr} {ws : List GW} (h : RnC w X kb P N kc A c ws) (hb : Below B w w') (hX : X < B) (hk : kb < B) (ha : RdW w' A ws) : RnC w' X kb P N kc A c ws := by
  obtain ⟨g, h1, h2⟩ := h.bl
  exact ⟨⟨(hb.cell (p := ⟨X, 0, none⟩) hX).trans h.sr.ps, (hb.cell (p := ⟨X, 1, none⟩) hX).trans h.sr.wk, ha⟩, (hb.cell (p := ⟨X, 2, none⟩) hX).trans h.kn, ⟨g, (hb.block kb hk).trans h1, h2⟩, h.nX, h.nA⟩

set_option maxRecDepth 100000 in
set_option maxHeartbeats 4000000 in
theorem rFewest_ok (P : Nat) (A : Option Addr) (c : Nat) (ws : List GW) (w : World) (hok : errSheet P ws = 0) (hn : ws.length ≤ 14) (ha : RdW w A ws) :
    Calls Tryd.prog 17 #[.agg #[.int .i64 (P : Int), .slice A ws.length c]] w (HangPost (fewF (plsOf ws) ws.length (nedN (plsOf ws) ws.length 0) ws.length 0) (nedN (plsOf ws) ws.length 0) 0 w) := by
  have hb2 : Below w.heap.size w (w.alloc (.cells #[.int .i64 P, .slice A ws.length c] 24)) := (Below.refl _ _).alloc (Nat.le_refl _) _
  have X0 := Lib.hid (Box1.made w P A c ws.length 24)
  have hP24 : P ≤ 24 := by have := (okAll hok).2.1; omega
  have HA := Lib.hid ha; have HB2 := Lib.hid hb2; have HOK := Lib.hid hok; clear ha hb2 hok
  go_enter Tryd.func17, Tryd.ntmps17
  go_wp2_with fail
  refine (rCheck_ _ _ _ _ _ (by omega) (by omega) (HA.out.later HB2.out (Nat.le_refl _))).mono ?_
  rw [HOK.out]
  rintro e w1 ⟨rfl, hb1⟩
  have Y1 := Lib.hid (HB2.out.trans (hb1.mono (by simp)))
  have X1 := Lib.hid (X0.out.later hb1)
  obtain ⟨c1, c2, s1⟩ := X1.out
  clear hb1
  have hp2 := Nat.two_pow_pos ws.length
  have hp3 : 2 ^ ws.length ≤ 2 ^ 14 := Nat.pow_le_pow_right (by decide) hn
  obtain ⟨N, hN⟩ : ∃ N : Nat, N = 2 ^ ws.length := ⟨_, rfl⟩
  rw [← hN] at hp2 hp3
  have e1 : IntKind.i64.wrap (2 ^ ws.length) = (N : Int) := by
    rw [hN, show (2 : Int) ^ ws.length = ((2 ^ ws.length : Nat) : Int) by simp, ← hN]
    exact wraps62 _ (Int.natCast_nonneg _) (by omega)
  have e2 : IntKind.u64.wrap (ws.length : Int) = (ws.length : Int) := wraps64 _ (by omega) (by omega)
  have z0 : (0 : Int) ≤ (ws.length : Int) := by omega
  have z1 : (ws.length : Int) < 64 := by omega
  have hmk := run_make_row' (P := Tryd.prog) 25 3 (.int .i64 0) 8 Tryd.underlying25 infoI_Tryd rfl .i64 .i64 N (by omega) (by omega)
  have C2 := Lib.hid c2
  have HP2 := Lib.hid hp2; have HP3 := Lib.hid hp3; have HN := Lib.hid hN; clear hp2 hp3 hN
  go_wp2
  go_region
  obtain ⟨kb, hkb⟩ : ∃ kb, kb = w1.heap.size := ⟨_, rfl⟩
  obtain ⟨X, hX⟩ : ∃ X, X = w1.heap.size + 1 := ⟨_, rfl⟩
  obtain ⟨W3, hW3⟩ : ∃ W3, W3 = ((w1.alloc (.cells (madeCells #[.int .i64 0] N) 3)).alloc (.cells #[.int .i64 (P : Int), .slice A ws.length c, .slice (some ⟨w1.heap.size, 0, none⟩) N N] 70)).drew := ⟨_, rfl⟩
  rw [← hW3]
  have hB3 : Below w1.heap.size w1 W3 := by rw [hW3]; exact (((Below.refl _ _).alloc (Nat.le_refl _) _).alloc (by simp) _).drew
  have hs3 : W3.heap.size = w1.heap.size + 1 + 1 := by rw [hW3]; simp
  have hm0 : IdB W3 kb N (fun p => if p < 0 then -1 else 0) := by
    have h1 : IdB (w1.alloc (.cells (madeCells #[.int .i64 0] N) 3)) kb N (fun p => if p < 0 then -1 else 0) := by
      rw [hkb]
      unfold IdB
      rw [heap_alloc_new, idCells_zero]
      simp
    rw [hW3]
    exact idB_alloc h1 _
  have k0 : W3.cell? ⟨X, 0, none⟩ = some (.int .i64 (P : Int)) := by rw [hW3, hX]; go_simp
  have k1 : W3.cell? ⟨X, 1, none⟩ = some (.slice A ws.length c) := by rw [hW3, hX]; go_simp
  have k2 : W3.cell? ⟨X, 2, none⟩ = some (.slice (some ⟨kb, 0, none⟩) N N) := by rw [hW3, hX, hkb]; go_simp
  have Y3 := Lib.hid (Y1.out.trans (hB3.mono Y1.out.size))
  have Z3 := Lib.hid (hB3.mono (show w.heap.size + 1 ≤ w1.heap.size by omega))
  have hA3 := HA.out.later Y3.out (Nat.le_refl _)
  have hnA : ∀ b off, A = some ⟨b, off, none⟩ → 0 < ws.length → b ≠ kb := fun b off e h0 => by
    have := rdW_lt HA.out h0 b off e
    omega
  rw [← hX, ← hkb]
  have hkl : w.heap.size + 1 ≤ kb := by omega
  have hXl : kb < X ∧ X < W3.heap.size := by omega
  clear hmk hkb hX hW3 hB3 c1 c2 s1
  have hNb : N ≤ 16384 := by have := HP3.out; omega
  have HM0 := Lib.hid hm0; have K0 := Lib.hid k0; have K1 := Lib.hid k1; have K2 := Lib.hid k2; have HA3 := Lib.hid hA3; have HNA := Lib.hid hnA; clear hm0 k0 k1 k2 hA3 hnA
  go_wp2
  go_loopw [7] (fun iv wr => ∃ i : Nat, iv = .int .i64 i ∧ i ≤ N ∧ IdB wr kb N (fun p => if p < i then -1 else 0) ∧ wr.cell? ⟨X, 2, none⟩ = some (.slice (some ⟨kb, 0, none⟩) N N) ∧ W3.grownBy wr (some kb)) (fun iv _ => N - (intOf iv).toNat)
  case atStart => exact ⟨0, rfl, Nat.zero_le _, HM0.out, K2.out, World.grownBy.refl _ _⟩
  case round =>
    obtain ⟨i, rfl, hi, hid, hk2, hgr⟩ := hrel
    have hsr := hgr.size
    have hkl2 := lt_of_block hid
    have hXl2 := World.block_lt_of_cell? wr _ hk2
    by_cases hiN : i < N
    · have d0 : wr.cell? ⟨kb, i, none⟩ = some (.int .i64 0) := by rw [hid.at_ hiN]; simp
      have f0 := hid.free i
      have z2 : (0 : Int) ≤ (i : Int) := by omega
      have z3 : (i : Int) < (N : Int) := by omega
      have hid2 : IdB (wr.setCell ⟨kb, i, none⟩ (.int .i64 (-1))) kb N (fun p => if p < i + 1 then -1 else 0) := (hid.put i (-1)).congr fun p _ => by
        unfold updF
        by_cases h1 : p = i
        · rw [if_pos h1, if_pos (by omega)]
        · rw [if_neg h1]
          show (if p < i then (-1 : Int) else 0) = _
          by_cases h2 : p < i
          · rw [if_pos h2, if_pos (by omega)]
          · rw [if_neg h2, if_neg (by omega)]
      have hg2 : W3.grownBy (wr.setCell ⟨kb, i, none⟩ (.int .i64 (-1))) (some kb) := GB.setCell hgr (.inl rfl) _
      have hk3 : (wr.setCell ⟨kb, i, none⟩ (.int .i64 (-1))).cell? ⟨X, 2, none⟩ = some (.slice (some ⟨kb, 0, none⟩) N N) := GB.cell hg2 K2.out (by simp; omega)
      have HID := Lib.hid hid; have HGR := Lib.hid hgr; have HID2 := Lib.hid hid2; have HG2 := Lib.hid hg2; have HK3 := Lib.hid hk3; clear hid hgr hid2 hg2 hk3
      go_wp2
      go_roundw
      case rel => exact ⟨i + 1, by go_num, by omega, HID2.out, HK3.out, HG2.out⟩
      case measure => simp [intOf]; omega
    · obtain rfl : i = N := by omega
      have hbA := HA3.out.grb hgr HNA.out
      have hC : RnC wr X kb P i i A c ws := ⟨⟨GB.cell hgr K0.out (by simp; omega), GB.cell hgr K1.out (by simp; omega), hbA⟩, hk2, ⟨_, hid, fun S hS => .inl (by simp [hS])⟩, by omega, HNA.out⟩
      have hbe := nedN_le24 (plsOf ws) ws.length _ 0 (Nat.le_refl _) (by have := HP2.out; rw [← HN.out]; omega)
      have hneed0 := rneed_ X kb P i i A c ws HOK.out hn HN.out _ 0 wr (Nat.le_refl _) HP2.out hC
      rw [show ((0 : Nat) : Int) = 0 from rfl] at hneed0
      have hZr := Z3.out.trans (GB.below hgr hkl (by omega))
      have HID := Lib.hid hid; have HGR := Lib.hid hgr; have HZR := Lib.hid hZr; have HNEED0 := Lib.hid hneed0; have HC := Lib.hid hC; clear hid hgr hZr hneed0 hC
      clear hkl2 hbA hi hiN
      go_wp2_with fail
      clear hk2 hXl2
      refine HNEED0.out.mono ?_
      rintro e w4 ⟨rfl, hP4, hg4⟩
      have hs34 := hg4.size
      have Z4 := Lib.hid (HZR.out.trans (GB.below hg4 hkl (by omega)))
      have hlowX : X < w4.heap.size := by omega
      have hlowk : kb < w4.heap.size := by omega
      obtain ⟨BB, hBB⟩ : ∃ BB, BB = w4.heap.size := ⟨_, rfl⟩
      rw [← hBB] at hlowX hlowk
      have hm0 := miss_none ws.length
      obtain ⟨FL, hFL⟩ : ∃ FL, FL = fewF (plsOf ws) ws.length (nedN (plsOf ws) ws.length 0) ws.length 0 := ⟨_, rfl⟩
      have hFLl : [] ++ fewF (plsOf ws) ws.length (nedN (plsOf ws) ws.length 0) (miss ws.length 0) 0 = FL := by rw [hm0, hFL]; rfl
      clear hg4 hs34 hsr
      generalize hbt : nedN (plsOf ws) ws.length 0 = best at *
      have HBT := Lib.hid hbt; have HP4 := Lib.hid hP4; have HBB := Lib.hid hBB; have HFLL := Lib.hid hFLl; have HFL := Lib.hid hFL; clear hbt hP4 hBB hFLl hFL
      clear HNEED0 HZR HC HGR HID Z3 Y3 HM0 K0 K1 K2 HA3 HNA
      go_wp2
      go_loopw [9, 10] (fun ov dv wr => ∃ (vo : Value) (S : Nat) (l : List Int), vo = ov ∧ dv = .int .i64 S ∧ S < 2 ^ ws.length ∧ nedN (plsOf ws) ws.length S ≤ best ∧ wr.ownsRow BB 3 1 vo l.length (ints l) ∧ l ++ fewF (plsOf ws) ws.length best (miss ws.length S) S = FL ∧ l.length + miss ws.length S = ws.length ∧ RnC wr X kb P i i A c ws ∧ Below (w.heap.size + 1) w1 wr ∧ BB ≤ wr.heap.size) (fun _ dv _ => miss ws.length (intOf dv).toNat)
      case atStart => exact ⟨_, 0, [], rfl, rfl, by have := HP2.out; rw [← HN.out]; omega, by rw [HBT.out]; exact Nat.le_refl _, World.ownsRow_nil _ _ _ _, HFLL.out, by simp [hm0], HP4.out, Z4.out, by rw [HBB.out]; omega⟩
      case round =>
        obtain ⟨vo, S, l, rfl, rfl, hS, hnS, hown, hfl3, hll, hP, hbr, hsz⟩ := hrel
        obtain ⟨wy, rfl⟩ : ∃ wy : World, wy = wr := ⟨_, rfl⟩
        have d1 : wy.cell? ⟨w.heap.size, 1, none⟩ = some (.slice A ws.length c) := (hbr.cell (p := ⟨w.heap.size, 1, none⟩) (by simp)).trans C2.out
        have hbl1 := World.block_lt_of_cell? wy _ d1
        obtain ⟨A3, c3, rfl⟩ := own_slice1 hown
        obtain ⟨vq, hvq⟩ : ∃ vq : Value, vq = .slice A3 l.length c3 := ⟨_, rfl⟩
        by_cases hfull : S = 2 ^ ws.length - 1
        · have hz : miss ws.length S = 0 := (miss_zero hS).2 hfull
          have hfl2 : l = FL := by rw [hz] at hfl3; rw [← hfl3]; show l = l ++ []; simp
          have hlen : l.length ≤ 281474976710656 := by omega
          have hll3 : ws.length ≤ l.length := by omega
          have HOWN := Lib.hid hown; have HFL2 := Lib.hid hfl2; have HP := Lib.hid hP; have HBR := Lib.hid hbr; have HFULL := Lib.hid hfull; have HS := Lib.hid hS; have HNS := Lib.hid hnS; have HFL3 := Lib.hid hfl3; clear hown hfl2 hP hbr hfull hS hnS hfl3
          clear hz hll
          go_wp2
          go_ret3
          exact ⟨.slice A3 l.length c3, rfl, by rw [← HFL.out, ← HFL2.out]; exact RdV.of_own HOWN.out hlen, Y1.out.trans (HBR.out.mono (by omega))⟩
        · have hex := okW_some (q := plsOf ws) (n := ws.length) (best := best) (S := S) hbe hfull hnS
          have hmz : miss ws.length S ≠ 0 := fun h => hfull ((miss_zero hS).1 h)
          have hll3 : l.length < ws.length := by omega
          have hSN : S < i := by rw [HN.out]; exact hS
          have hS60 : S < 2 ^ 60 := by have := HP3.out; omega
          have HOWN := Lib.hid hown; have HFL3 := Lib.hid hfl3; have HP := Lib.hid hP; have HBR := Lib.hid hbr; have HNS := Lib.hid hnS; have HS := Lib.hid hS; have HEX := Lib.hid hex; have HS60 := Lib.hid hS60; have HFULL := Lib.hid hfull; have HLL := Lib.hid hll; have HMZ := Lib.hid hmz; have HVQ := Lib.hid hvq; have HSN := Lib.hid hSN; clear hown hfl3 hP hbr hnS hS hex hS60 hfull hll hmz hvq hSN
          go_wp2
          clear d1 hbl1
          go_loopw [9, 10, 11] (fun ov2 dv2 iv wr => ∃ k : Nat, ov2 = .slice A3 l.length c3 ∧ dv2 = .int .i64 S ∧ iv = .int .i64 k ∧ k ≤ ws.length ∧ (∀ j, j < k → okW (plsOf ws) ws.length best S j = false) ∧ RnC wr X kb P i i A c ws ∧ wy.grownBy wr (some kb)) (fun _ _ iv _ => ws.length - (intOf iv).toNat)
          case atStart => exact ⟨0, rfl, rfl, rfl, Nat.zero_le _, fun j h => absurd h (by omega), HP.out, World.grownBy.refl _ _⟩
          case round =>
            obtain ⟨k, rfl, rfl, rfl, hk, hno, hPx, hgx⟩ := hrel
            obtain ⟨wx, rfl⟩ : ∃ wx : World, wx = wr := ⟨_, rfl⟩
            have hbx := HBR.out.trans (GB.below hgx (by omega) (by have := HBR.out.size; omega) : Below (w.heap.size + 1) wy wx)
            have d1 : wx.cell? ⟨w.heap.size, 1, none⟩ = some (.slice A ws.length c) := (hbx.cell (p := ⟨w.heap.size, 1, none⟩) (by simp)).trans C2.out
            have hbl1 := World.block_lt_of_cell? wx _ d1
            by_cases hkn : k < ws.length
            rotate_left
            · obtain ⟨j, hj1, hj2⟩ := HEX.out
              rw [hno j (by omega)] at hj2
              cases hj2
            · have hmay := fun W h => rmay_ X P S k A c ws W (pl22 HOK.out) HS60.out hkn hn h
              have hhang := fun W h => rhanging_ X P S k A c ws W HOK.out HS60.out hn h
              have hok : okW (plsOf ws) ws.length best S k = (freeB (befT (plsOf ws)) S k && (decide (hngS (plsOf ws) ws.length S k ≤ best) && decide (nedN (plsOf ws) ws.length (S ||| 2 ^ k) ≤ best))) := rfl
              have hno2 : okW (plsOf ws) ws.length best S k = false → ∀ j, j < k + 1 → okW (plsOf ws) ws.length best S j = false := fun h j hj => by
                rcases Nat.lt_succ_iff_lt_or_eq.1 hj with hj | rfl
                · exact hno j hj
                · exact h
              cases hf : freeB (befT (plsOf ws)) S k with
              | false =>
                rw [hf] at hmay hok
                have hff := hno2 (by rw [hok]; rfl)
                clear hok hno2 hf
                have HMAY := Lib.hid hmay; have HHANG := Lib.hid hhang; have HPX := Lib.hid hPx; have HGX := Lib.hid hgx; have HNO := Lib.hid hno; have HFF := Lib.hid hff; have HBX := Lib.hid hbx; clear hmay hhang hPx hgx hno hff hbx
                go_wp2_with (go_at_call 36; refine (HMAY.out _ HPX.out.sr).mono ?_; rintro e w2 ⟨rfl, hb2⟩)
                go_roundw
                case rel => exact ⟨k + 1, rfl, rfl, by go_num, by omega, HFF.out, HPX.out.later hb2, gtr HGX.out (gb_below hb2 _)⟩
                case measure => simp [intOf]; omega
              | true =>
                rw [hf] at hmay hok
                simp only [Bool.true_and] at hok
                cases c3b : decide (hngS (plsOf ws) ws.length S k ≤ best) with
                | false =>
                  rw [c3b] at hok
                  have hff := hno2 (by rw [hok]; rfl)
                  clear hok hno2 hf
                  generalize hngS (plsOf ws) ws.length S k = hv at *
                  have HMAY := Lib.hid hmay; have HHANG := Lib.hid hhang; have HPX := Lib.hid hPx; have HGX := Lib.hid hgx; have HNO := Lib.hid hno; have HFF := Lib.hid hff; have HBX := Lib.hid hbx; clear hmay hhang hPx hgx hno hff hbx
                  go_wp2_with (first | (go_at_call 36; refine (HMAY.out _ HPX.out.sr).mono ?_; rintro e w2 ⟨rfl, hb2⟩) | (go_at_call 37; refine (HHANG.out _ (HPX.out.later hb2).sr).mono ?_; rintro e w3 ⟨rfl, hb3⟩))
                  go_roundw
                  case rel => exact ⟨k + 1, rfl, rfl, by go_num, by omega, HFF.out, (HPX.out.later hb2).later hb3, gtr (gtr HGX.out (gb_below hb2 _)) (gb_below hb3 _)⟩
                  case measure => simp [intOf]; omega
                | true =>
                  rw [c3b] at hok
                  simp only [Bool.true_and] at hok
                  have c1 := freeB_bit hf
                  have e4 : IntKind.i64.wrap (2 ^ k) = 2 ^ k := by
                    have h1 : 2 ^ k < 2 ^ 14 := Nat.pow_lt_pow_right (by decide) (by omega)
                    rw [show (2 : Int) ^ k = ((2 ^ k : Nat) : Int) by simp]
                    exact wraps62 _ (Int.natCast_nonneg _) (by omega)
                  have e5 := bit_set .i64 62 (by decide) wraps62 S k (by have := HS60.out; omega) (by omega)
                  have e6 : IntKind.u64.wrap (k : Int) = (k : Int) := wraps64 _ (by omega) (by omega)
                  have z4 : (0 : Int) ≤ (k : Int) := by omega
                  have z5 : (k : Int) < 64 := by omega
                  have hs2 : S ||| 2 ^ k < 2 ^ ws.length := Nat.or_lt_two_pow HS.out (Nat.pow_lt_pow_right (by decide) hkn)
                  have hs2N : S ||| 2 ^ k < i := by rw [HN.out]; exact hs2
                  have hm1 := miss_set1 c1 ws.length hkn
                  have hneed := fun W h => rneed_ X kb P i i A c ws HOK.out hn HN.out _ (S ||| 2 ^ k) W (Nat.le_refl _) hs2N h
                  have hfs := fewF_step (q := plsOf ws) (n := ws.length) (best := best) (S := S) (k := k) (miss ws.length (S ||| 2 ^ k)) hkn
                  have hnd := okW_ned (q := plsOf ws) (n := ws.length) (best := best) (S := S) (k := k)
                  cases c4 : decide (nedN (plsOf ws) ws.length (S ||| 2 ^ k) ≤ best) with
                  | false =>
                    rw [c4] at hok
                    have hff := hno2 hok
                    clear hok hno2 hf hfs hnd hm1 c1
                    generalize S ||| 2 ^ k = S2 at *
                    generalize nedN (plsOf ws) ws.length S2 = nv at *
                    generalize hngS (plsOf ws) ws.length S k = hv at *
                    have HMAY := Lib.hid hmay; have HHANG := Lib.hid hhang; have HNEED := Lib.hid hneed; have HPX := Lib.hid hPx; have HGX := Lib.hid hgx; have HNO := Lib.hid hno; have HFF := Lib.hid hff; have HBX := Lib.hid hbx; have HS2 := Lib.hid hs2; have HS2N := Lib.hid hs2N; clear hmay hhang hneed hPx hgx hno hff hbx hs2 hs2N
                    go_wp2_with (first | (go_at_call 36; refine (HMAY.out _ HPX.out.sr).mono ?_; rintro e w2 ⟨rfl, hb2⟩) | (go_at_call 37; refine (HHANG.out _ (HPX.out.later hb2).sr).mono ?_; rintro e w3 ⟨rfl, hb3⟩) | (go_at_call 35; refine (HNEED.out _ ((HPX.out.later hb2).later hb3)).mono ?_; rintro e w5 ⟨rfl, hP5, hg5⟩))
                    go_roundw
                    case rel => exact ⟨k + 1, rfl, rfl, by go_num, by omega, HFF.out, hP5, gtr (gtr (gtr HGX.out (gb_below hb2 _)) (gb_below hb3 _)) hg5⟩
                    case measure => simp [intOf]; omega
                  | true =>
                    rw [c4] at hok
                    have hfs2 := hfs hok hno
                    rw [hm1] at hfs2
                    have hnd2 := hnd hok
                    clear hok hno2 hf hfs hnd c1
                    generalize S ||| 2 ^ k = S2 at *
                    generalize hnv : nedN (plsOf ws) ws.length S2 = nv at *
                    generalize hngS (plsOf ws) ws.length S k = hv at *
                    have hll4 := HLL.out
                    have HN3 : Hid (∀ w0 : World, wx.grownBy w0 (some kb) → w0.ownsRow BB 3 1 (.slice A3 l.length c3) l.length (ints l)) := fun w0 hg0 => HOWN.out.kept (gtr hgx hg0) (by
                      rcases hv0 : (Value.slice A3 l.length c3).ownBlock with _ | g
                      · exact .inl rfl
                      · refine .inr fun e => ?_
                        have := (HOWN.out.lt g hv0).1
                        have : g = kb := Option.some.inj e
                        omega)
                    have hszx := hgx.size
                    have HMAY := Lib.hid hmay; have HHANG := Lib.hid hhang; have HNEED := Lib.hid hneed; have HPX := Lib.hid hPx; have HGX := Lib.hid hgx; have HNO := Lib.hid hno; have HBX := Lib.hid hbx; have HS2 := Lib.hid hs2; have HS2N := Lib.hid hs2N; have HM1 := Lib.hid hm1; have HFS2 := Lib.hid hfs2; have HND2 := Lib.hid hnd2; have HNV := Lib.hid hnv; clear hmay hhang hneed hPx hgx hno hbx hs2 hs2N hm1 hfs2 hnd2 hnv
                    go_upto_region 19 with (first | (go_at_call 36; refine (HMAY.out _ HPX.out.sr).mono ?_; rintro e w2 ⟨rfl, hb2⟩) | (go_at_call 37; refine (HHANG.out _ (HPX.out.later hb2).sr).mono ?_; rintro e w3 ⟨rfl, hb3⟩) | (go_at_call 35; refine (HNEED.out _ ((HPX.out.later hb2).later hb3)).mono ?_; rintro e w5 ⟨rfl, hP5, hg5⟩))
                    have hg6 : wx.grownBy w5 (some kb) := gtr (gtr (gb_below hb2 _) (gb_below hb3 _)) hg5
                    have hownB := HN3.out _ hg6
                    have hs6a := hg6.size
                    clear hb2 hb3 hg5
                    have HOWNB := Lib.hid hownB; have HG6 := Lib.hid hg6; have HP5 := Lib.hid hP5; clear hownB hg6 hP5
                    go_wp2_with (at_builtin; go_must (refine wpList_app1_Tryd rfl _ _ rfl BB (.slice A3 l.length c3) l rfl (HOWNB.out.alloc _) _ (k : Int) rfl (heap_alloc_new _ _) (by omega) (by simp; omega) ?_); intro g cap2 w6 hown6 hgrow hat6 hlt6)
                    have hbel6 : Below BB w5 w6 := ((Below.refl _ _).alloc (by omega) _).grown hgrow (by simp; omega) (fun j hj => by have := (HOWNB.out.lt j hj).1; omega)
                    have hbr6 := (HBX.out.trans (GB.below HG6.out (by omega) (by have := HBX.out.size; omega))).trans (hbel6.mono (by omega))
                    have hP6 := HP5.out.low hbel6 hlowX hlowk (HA.out.later (Y1.out.trans (hbr6.mono (by omega))) (Nat.le_refl _))
                    have hs6 := hbel6.size
                    have HOWN6 := Lib.hid hown6; have HGROW := Lib.hid hgrow; have HBEL6 := Lib.hid hbel6; have HP6 := Lib.hid hP6; have HBR6 := Lib.hid hbr6; clear hown6 hgrow hbel6 hP6 hbr6
                    go_roundw
                    case rel => exact ⟨_, S2, l ++ [(k : Int)], rfl, rfl, HS2.out, by rw [HNV.out]; exact HND2.out, by simpa using HOWN6.out, by rw [← HFL3.out, HFS2.out]; simp, by have := HM1.out; simp; omega, HP6.out, HBR6.out, by omega⟩
                    case measure =>
                      have := HM1.out
                      simp [intOf]
                      omega
theorem rFewest_ (p : Int) (A : Option Addr) (c : Nat) (ws : List GW) (w : World) (hsh : ShIn w p A ws) :
    Calls Tryd.prog 17 #[.agg #[.int .i64 p, .slice A ws.length c]] w (HangPost (fewL p ws) (fewN p ws) (fewX p ws) w) := by
  by_cases hx : fewX p ws = 0
  · have hel : errSheet p ws = 0 ∧ ws.length ≤ 14 := by
      have h := hx
      unfold fewX at h
      by_cases he : errSheet p ws = 0
      · rw [if_pos he] at h
        refine ⟨he, ?_⟩
        by_cases hl : 14 < ws.length
        · rw [if_pos hl] at h; exact absurd h (by decide)
        · omega
      · rw [if_neg he] at h; exact absurd h he
    obtain ⟨he, hl⟩ := hel
    have hp2 := (okAll he).1
    obtain ⟨P, rfl⟩ := Int.eq_ofNat_of_zero_le (show 0 ≤ p by omega)
    unfold fewL fewN
    rw [if_pos hx, if_pos hx, hx]
    exact rFewest_ok P A c ws w he hl hsh.rd
  · unfold fewL fewN
    rw [if_neg hx, if_neg hx]
    exact rFewest_bad p A c ws w hsh hx
end Go.Proofs.YtnplcephmidjbaaDoor
