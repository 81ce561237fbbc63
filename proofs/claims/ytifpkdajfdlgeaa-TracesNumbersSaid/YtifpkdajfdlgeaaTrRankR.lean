/- The reference's Rank. -/
import Derived.Test.YtifpkdajfdlgeaaTrNthR
import Derived.Test.YtifpkdajfdlgeaaTrReo
namespace Go.Proofs.Ytifpkdajfdlgeaa
open Go.RowKit

def rankX (p : Int) (ws : List GW) (l : List Int) : Int := if cntdErr p ws ≠ 0 then cntdErr p ws else if ordB ws l = true then 0 else 4
def rankO (ws : List GW) (l : List Int) : Option Int := rkRun (cntN ws.length (befW ws)) (befW ws) 0 l
def rankN (p : Int) (ws : List GW) (l : List Int) : Int := if rankX p ws l = 0 then (rankO ws l).getD 0 else 0
theorem ordB_parts {ws : List GW} {l : List Int} (h : ordB ws l = true) : l.length = ws.length ∧ (∀ x ∈ l, 0 ≤ x ∧ x < ws.length) ∧ (rankO ws l).isSome = true := by
  unfold ordB at h
  rw [Bool.and_eq_true, decide_eq_true_eq] at h
  obtain ⟨h1, h2⟩ := h
  have h3 := ord_range h2
  refine ⟨h1, h3, ?_⟩
  rw [h1] at h2
  unfold rankO
  rw [rk_ord (SameD.zero ws.length) h3]
  exact h2

/-- Some of an order is done: the set of it, and what has been added. -/
structure RI (ws : List GW) (l : List Int) (k s : Nat) (sum : Int) : Prop where
  lt : s < 2 ^ ws.length
  lo : 0 ≤ sum
  hi : sum ≤ k * 17000000000
  run : rankO ws l = (rkRun (cntN ws.length (befW ws)) (befW ws) s (l.drop k)).map (sum + ·)
theorem RI.init (ws : List GW) (l : List Int) : RI ws l 0 0 0 := ⟨Nat.two_pow_pos _, by omega, by omega, by rw [List.drop_zero]; unfold rankO; cases rkRun (cntN ws.length (befW ws)) (befW ws) 0 l <;> simp⟩
theorem RI.step {ws : List GW} {l : List Int} {k s : Nat} {sum : Int} (h : RI ws l k s sum) (hn : ws.length ≤ 16) (hs : (rankO ws l).isSome = true) (hk : k < l.length) {i : Nat} (hi : l[k] = i) (hil : i < ws.length) :
    freeB (befW ws) s i = true ∧ RI ws l (k + 1) (s ||| 2 ^ i) (sum + lowK (cntN ws.length (befW ws)) (befW ws) s i) := by
  have hr := h.run
  have hd : l.drop k = (i : Int) :: l.drop (k + 1) := by rw [List.drop_eq_getElem_cons hk, hi]
  rw [hd, rkRun, Int.toNat_natCast] at hr
  by_cases hf : freeB (befW ws) s i = true
  · rw [if_pos hf, Option.map_map] at hr
    have hb := lowK_bd (g := cntN ws.length (befW ws)) (bef := befW ws) (s := s) (cntN_bounds ws.length (befW ws)) i
    have h1 := h.lo
    have h2 := h.hi
    refine ⟨hf, Nat.or_lt_two_pow h.lt (Nat.pow_lt_pow_right (by decide) hil), by omega, by omega, ?_⟩
    rw [hr]
    congr 1
    funext z
    simp only [Function.comp]
    omega
  · rw [if_neg hf] at hr
    rw [hr] at hs
    cases hs
theorem RI.done {ws : List GW} {l : List Int} {k s : Nat} {sum : Int} (h : RI ws l k s sum) (hk : ¬ k < l.length) : rankO ws l = some sum := by
  rw [h.run, List.drop_of_length_le (by omega)]
  simp [rkRun]

set_option maxRecDepth 100000 in
set_option maxHeartbeats 2000000 in
theorem rRank_ (p : Int) (A L : Option Addr) (c lc : Nat) (ws : List GW) (l : List Int) (w : World) (ha : ShIn w p A ws) (hne : 0 < ws.length → ∀ b off, A = some ⟨b, off, none⟩ → b < w.heap.size) (hl : RdI w L l) :
    Calls Try.prog 38 #[.agg #[.int .i64 p, .slice A ws.length c], .slice L l.length lc] w fun e w' => e = .returned (.tuple #[.int .i64 (rankN p ws l), .int .i64 (rankX p ws l)]) ∧ Below w.heap.size w w' := by
  have hb2 : Below w.heap.size w (w.alloc (.cells #[.int .i64 p, .slice A ws.length c] 24)) := (Below.refl _ _).alloc (Nat.le_refl _) _
  have hln := hl.1
  by_cases he : cntdErr p ws = 0
  rotate_left
  · have hx : rankX p ws l = cntdErr p ws := by unfold rankX; rw [if_pos he]
    have hnn : rankN p ws l = 0 := by unfold rankN; rw [if_neg (by rw [hx]; exact he)]
    have heb : (cntdErr p ws != 0) = true := by simpa using he
    rw [hnn, hx]
    have HA := Lib.hid ha; have HB2 := Lib.hid hb2; have HE := Lib.hid he; have HX := Lib.hid hx; have HNN := Lib.hid hnn; have HNE := Lib.hid hne; have HL := Lib.hid hl; clear ha hb2 he hx hnn hne hl
    go_enter Try.func38, Try.ntmps38
    go_wp2_with fail
    refine (rcounted_ p A c ws _ (HA.out.later HB2.out (Nat.le_refl _)) (fun h0 b off hA => Nat.lt_of_lt_of_le (HNE.out h0 b off hA) HB2.out.size)).mono ?_
    rintro e w1 ⟨v, rfl, hb1, _⟩
    go_wp2
    go_ret2
    exact ⟨rfl, HB2.out.trans (hb1.mono (by simp))⟩
  · obtain ⟨hes, hn16, hle, hnum⟩ := cntd_ok he
    have hok : OkS p ws := hes
    obtain ⟨_, hp24, hlen, hall⟩ := hok.all
    have hwsd : ∀ x ∈ ws, 0 ≤ x.pl ∧ x.pl ≤ 22 := fun x hx => by
      obtain ⟨_, h1, h2, _⟩ := hall x hx
      exact ⟨h1, by omega⟩
    by_cases ho : ordB ws l = true
    rotate_left
    · have hx : rankX p ws l = 4 := by unfold rankX; rw [if_neg (by rw [he]; simp), if_neg ho]
      have hnn : rankN p ws l = 0 := by unfold rankN; rw [if_neg (by rw [hx]; simp)]
      have hro : reoX p ws l = 4 := by unfold reoX; rw [if_pos hes, if_neg ho]
      have hrp : reoP p ws l = 0 := by unfold reoP; rw [if_neg (by rw [hro]; simp)]
      have hrv : reoV p ws l = [] := by unfold reoV; rw [if_neg (by rw [hro]; simp)]
      rw [hnn, hx]
      have HA := Lib.hid ha; have HB2 := Lib.hid hb2; have HE := Lib.hid he; have HX := Lib.hid hx; have HNN := Lib.hid hnn; have HNE := Lib.hid hne; have HL := Lib.hid hl; have HOK := Lib.hid hok; have HALL := Lib.hid hall; have HWSD := Lib.hid hwsd; have HES := Lib.hid hes; have HLE := Lib.hid hle; have HNUM := Lib.hid hnum; have HO := Lib.hid ho; clear ha hb2 he hx hnn hne hl hok hall hwsd hes hle hnum ho
      go_enter Try.func38, Try.ntmps38
      go_wp2_with fail
      refine (rcounted_ok p A c ws _ (HA.out.later HB2.out (Nat.le_refl _)) (fun h0 b off hA => Nat.lt_of_lt_of_le (HNE.out h0 b off hA) HB2.out.size) HE.out).mono ?_
      rintro e w1 ⟨cb, D, rfl, hb1, _⟩
      have a0 : w1.cell? ⟨w.heap.size, 0, none⟩ = some (.int .i64 p) := below_at hb1 (Nat.le_refl _) (by go_simp)
      have a1 : w1.cell? ⟨w.heap.size, 1, none⟩ = some (.slice A ws.length c) := below_at hb1 (Nat.le_refl _) (by go_simp)
      have hs1 : w.heap.size < w1.heap.size := by have := hb1.size; simp at this; omega
      have Y1 := Lib.hid (HB2.out.trans (hb1.mono (by simp))); clear hb1
      have hre := rReorder_ p A L c lc ws l w1 (HA.out.later Y1.out (Nat.le_refl _)) (HL.out.later Y1.out (Nat.le_refl _))
      rw [hro, hrp, hrv] at hre
      clear hro hrp hrv
      have HRE := Lib.hid hre; clear hre
      go_wp2_with fail
      refine HRE.out.mono ?_
      rintro e w2 ⟨B, d, rfl, _, hb1, _⟩
      go_wp2
      go_ret2
      exact ⟨rfl, ((Y1.out.trans (hb1.mono Y1.out.size)).alloc (Nat.le_trans Y1.out.size hb1.size) _)⟩
    · have hx : rankX p ws l = 0 := by unfold rankX; rw [if_neg (by rw [he]; simp), if_pos ho]
      have hnn : rankN p ws l = (rankO ws l).getD 0 := by unfold rankN; rw [if_pos hx]
      have hro : reoX p ws l = 0 := by unfold reoX; rw [if_pos hes, if_pos ho]
      have hrp : reoP p ws l = p := by unfold reoP; rw [if_pos hro]
      have hrv : reoV p ws l = reoL ws l := by unfold reoV; rw [if_pos hro]
      obtain ⟨hlw, hrng, hsome⟩ := ordB_parts ho
      have hRI := RI.init ws l
      have hl16 : l.length ≤ 16 := by omega
      rw [hnn, hx]
      have HA := Lib.hid ha; have HB2 := Lib.hid hb2; have HE := Lib.hid he; have HX := Lib.hid hx; have HNN := Lib.hid hnn; have HNE := Lib.hid hne; have HL := Lib.hid hl; have HOK := Lib.hid hok; have HALL := Lib.hid hall; have HWSD := Lib.hid hwsd; have HES := Lib.hid hes; have HLE := Lib.hid hle; have HNUM := Lib.hid hnum; have HO := Lib.hid ho; have HLW := Lib.hid hlw; have HRNG := Lib.hid hrng; have HSOME := Lib.hid hsome; have HRI := Lib.hid hRI; clear ha hb2 he hx hnn hne hl hok hall hwsd hes hle hnum ho hlw hrng hsome hRI
      go_enter Try.func38, Try.ntmps38
      go_wp2_with fail
      refine (rcounted_ok p A c ws _ (HA.out.later HB2.out (Nat.le_refl _)) (fun h0 b off hA => Nat.lt_of_lt_of_le (HNE.out h0 b off hA) HB2.out.size) HE.out).mono ?_
      rintro e w1 ⟨cb, D, rfl, hb1, hC, hD⟩
      have a0 : w1.cell? ⟨w.heap.size, 0, none⟩ = some (.int .i64 p) := below_at hb1 (Nat.le_refl _) (by go_simp)
      have a1 : w1.cell? ⟨w.heap.size, 1, none⟩ = some (.slice A ws.length c) := below_at hb1 (Nat.le_refl _) (by go_simp)
      have hs1 : w.heap.size < w1.heap.size := by have := hb1.size; simp at this; omega
      have hD2 : w.heap.size + 1 ≤ D := by simpa using hD
      have Y1 := Lib.hid (HB2.out.trans (hb1.mono (by simp))); clear hb1 hD
      have hre := rReorder_ p A L c lc ws l w1 (HA.out.later Y1.out (Nat.le_refl _)) (HL.out.later Y1.out (Nat.le_refl _))
      rw [hro, hrp, hrv] at hre
      clear hro hrp hrv
      have HRE := Lib.hid hre; have HC := Lib.hid hC; clear hre hC
      go_wp2_with fail
      refine HRE.out.mono ?_
      rintro e w2 ⟨B, d, rfl, _, hb1, _⟩
      generalize (reoL ws l).length = rl at *
      have hC2 := (HC.out.later hb1).later ((Below.refl _ _).alloc (Nat.le_refl _) (.cells #[.int .i64 p, .slice B rl d] 24))
      have Y2 := Lib.hid ((Y1.out.trans (hb1.mono Y1.out.size)).alloc (Nat.le_trans Y1.out.size hb1.size) (.cells #[.int .i64 p, .slice B rl d] 24)); clear hb1 a0 a1
      obtain ⟨w3, hw3⟩ : ∃ w3, w3 = w2.alloc (.cells #[.int .i64 p, .slice B rl d] 24) := ⟨_, rfl⟩
      rw [← hw3] at hC2
      have Y3 : Hid (Below w.heap.size w w3) := by rw [hw3]; exact Y2
      have HC2 := Lib.hid hC2; clear hC2
      clear HRE
      go_wp2
      rw [← hw3]
      clear hw3 Y2
      go_loopw [11, 12, 13] (fun uv sv kv wr => ∃ (k s : Nat) (sum : Int), kv = .int .i64 k ∧ k ≤ l.length ∧ sv = .int .i64 s ∧ uv = .int .i64 sum ∧ RI ws l k s sum ∧ RC wr cb D p A c ws ∧ w3.grownBy wr (some D)) (fun _ _ kv _ => l.length - (intOf kv).toNat)
      case atStart => exact ⟨0, 0, 0, rfl, Nat.zero_le _, rfl, rfl, HRI.out, HC2.out, World.grownBy.refl _ _⟩
      case round =>
        obtain ⟨k, s, sum, rfl, hk, rfl, rfl, hRI, hCr, hgr⟩ := hrel
        obtain ⟨wo, rfl⟩ : ∃ wo : World, wo = wr := ⟨_, rfl⟩
        by_cases hlt : k < l.length
        · have hbo := GB.below hgr (show w.heap.size ≤ D by omega) Y3.out.size
          obtain ⟨bl, ol, hLA, hbl, l1⟩ := (HL.out.later (Y3.out.trans hbo) (Nat.le_refl _)).at_ hlt
          subst hLA
          obtain ⟨r1, r2⟩ := HRNG.out l[k] (List.getElem_mem hlt)
          obtain ⟨i, hi⟩ := Int.eq_ofNat_of_zero_le r1
          rw [hi] at l1
          have hil : i < ws.length := by omega
          obtain ⟨hfi, hRI2⟩ := hRI.step hn16 HSOME.out hlt hi hil
          have hslt := hRI.lt
          have hs16 : s < 65536 := Nat.lt_of_lt_of_le hslt (Nat.pow_le_pow_right (by decide) hn16)
          have hu0 := hRI.lo
          have hu1 : sum ≤ 1000000000000 := by have := hRI.hi; omega
          have x1 : (0 : Int) ≤ (k : Int) := by omega
          have x2 : (k : Int) < (l.length : Int) := by omega
          have hblw : bl < w.heap.size := by
            obtain ⟨b9, o9, h9, h10, _⟩ := HL.out.at_ hlt
            injection h9 with h9
            injection h9 with h9
            omega
          have hbD : bl ≠ D := by omega
          clear r1 r2
          have HRI := Lib.hid hRI; have HCR := Lib.hid hCr; have HGR := Lib.hid hgr; have HFI := Lib.hid hfi; have HRI2 := Lib.hid hRI2; have HSLT := Lib.hid hslt; have HS16 := Lib.hid hs16; have HI := Lib.hid hi; have HBO := Lib.hid hbo; have HBL := Lib.hid hbl; clear hRI hCr hgr hfi hRI2 hslt hs16 hi hbo hbl
          go_wp2
          go_loopw [11, 14] (fun uv iv wr => ∃ j : Nat, iv = .int .i64 j ∧ j ≤ i ∧ uv = .int .i64 (sum + lowK (cntN ws.length (befW ws)) (befW ws) s j) ∧ RC wr cb D p A c ws ∧ wo.grownBy wr (some D)) (fun _ iv _ => i - (intOf iv).toNat)
          case atStart => exact ⟨0, rfl, Nat.zero_le _, by simp [lowK], HCR.out, World.grownBy.refl _ _⟩
          case round =>
            obtain ⟨j, rfl, hj, rfl, hCx, hgx⟩ := hrel
            have l2 : wr.cell? ⟨bl, ol + k, none⟩ = some (.int .i64 i) := GB.cell hgx l1 hbD
            have hblr : bl < wr.heap.size := Nat.lt_of_lt_of_le HBL.out hgx.size
            have hlb := lowK_bd (g := cntN ws.length (befW ws)) (bef := befW ws) (s := s) (cntN_bounds ws.length (befW ws)) j
            have hls : lowK (cntN ws.length (befW ws)) (befW ws) s (j + 1) = if freeB (befW ws) s j = true then lowK (cntN ws.length (befW ws)) (befW ws) s j + cntN ws.length (befW ws) (s ||| 2 ^ j) else lowK (cntN ws.length (befW ws)) (befW ws) s j := rfl
            have HLS := Lib.hid hls; clear hls
            obtain ⟨hlb1, hlb2⟩ := hlb
            have hj16 : (j : Int) ≤ 16 := by omega
            have hlb3 : sum + lowK (cntN ws.length (befW ws)) (befW ws) s j ≤ 2000000000000 := by omega
            have hlb4 : 0 ≤ sum + lowK (cntN ws.length (befW ws)) (befW ws) s j := by omega
            by_cases hji : j < i
            · by_cases hf : freeB (befW ws) s j = true
              · have hcb2 := cntN_bounds ws.length (befW ws) (s ||| 2 ^ j)
                have hor : (s : Int) + 2 ^ j = ((s ||| 2 ^ j : Nat) : Int) := by rw [pw_cast, ← add_set (freeB_bit hf)]; simp
                have hs2' : s ||| 2 ^ j < 2 ^ ws.length := Nat.or_lt_two_pow HSLT.out (Nat.pow_lt_pow_right (by decide) (by omega))
                have hp1 : (0 : Int) ≤ 2 ^ j := by rw [pw_cast]; exact Int.natCast_nonneg _
                have hp2 : (2 : Int) ^ j ≤ 65536 := by
                  have h1 : 2 ^ j ≤ 2 ^ 16 := Nat.pow_le_pow_right (by decide) (by omega)
                  rw [pw_cast]; omega
                have hsi : (s : Int) ≤ 65536 := by have := HS16.out; omega
                have hj64 : (j : Int) < 64 := by omega
                have hml := miss_le ws.length (s ||| 2 ^ j)
                obtain ⟨hcb3, hcb4⟩ := hcb2
                have hnew : sum + lowK (cntN ws.length (befW ws)) (befW ws) s (j + 1) = sum + lowK (cntN ws.length (befW ws)) (befW ws) s j + cntN ws.length (befW ws) (s ||| 2 ^ j) := by rw [HLS.out, if_pos hf]; omega
                clear hlb1 hlb2
                generalize sum + lowK (cntN ws.length (befW ws)) (befW ws) s j = u at *
                generalize hg : s ||| 2 ^ j = s2 at *
                generalize hcn : cntN ws.length (befW ws) s2 = cn at *
                have HS2p := Lib.hid hs2'; have HF := Lib.hid hf; have HG := Lib.hid hg; have HCN := Lib.hid hcn; have HCX := Lib.hid hCx; have HGX := Lib.hid hgx; have HML := Lib.hid hml; have HNEW := Lib.hid hnew; have HBLR := Lib.hid hblr; clear hs2' hf hg hcn hCx hgx hml hnew hblr
                go_wp2_with fail
                refine (rfree_ cb D p A c s j ws _ HCX.out hn16 HS16.out (by omega) HWSD.out).mono ?_
                rw [HF.out]
                rintro e w4 ⟨rfl, hb1⟩
                have hC1 := HCX.out.later hb1
                have HC1 := Lib.hid hC1; have HB1 := Lib.hid hb1; clear hC1 hb1
                go_wp2_with fail
                refine (rorders_ cb D p A c ws hn16 HWSD.out ws.length s2 _ HML.out HS2p.out HC1.out).mono ?_
                rw [HCN.out]
                rintro e w5 ⟨rfl, hC5, hg2⟩
                have HC5 := Lib.hid hC5; have HG2 := Lib.hid hg2; clear hC5 hg2
                go_wp2
                go_roundw
                case rel => exact ⟨j + 1, by go_num, by omega, by rw [HNEW.out], HC5.out, gb_trans (gb_trans HGX.out (gb_none HB1.out _)) HG2.out⟩
                case measure => simp [intOf]; omega
              · have hf' : freeB (befW ws) s j = false := by simpa using hf
                clear hf
                have hnew : sum + lowK (cntN ws.length (befW ws)) (befW ws) s (j + 1) = sum + lowK (cntN ws.length (befW ws)) (befW ws) s j := by rw [HLS.out, if_neg (by rw [hf']; simp)]
                clear hlb1 hlb2
                generalize sum + lowK (cntN ws.length (befW ws)) (befW ws) s j = u at *
                have HFp := Lib.hid hf'; have HCX := Lib.hid hCx; have HGX := Lib.hid hgx; have HNEW := Lib.hid hnew; have HBLR := Lib.hid hblr; clear hf' hCx hgx hnew hblr
                go_wp2_with fail
                refine (rfree_ cb D p A c s j ws _ HCX.out hn16 HS16.out (by omega) HWSD.out).mono ?_
                rw [HFp.out]
                rintro e w4 ⟨rfl, hb1⟩
                have hC1 := HCX.out.later hb1
                have HC1 := Lib.hid hC1; have HB1 := Lib.hid hb1; clear hC1 hb1
                go_wp2
                go_roundw
                case rel => exact ⟨j + 1, by go_num, by omega, by rw [HNEW.out], HC1.out, gb_trans HGX.out (gb_none HB1.out _)⟩
                case measure => simp [intOf]; omega
            · obtain rfl : j = i := by omega
              have hor : (s : Int) + 2 ^ j = ((s ||| 2 ^ j : Nat) : Int) := by rw [pw_cast, ← add_set (freeB_bit HFI.out)]; simp
              have hp1 : (0 : Int) ≤ 2 ^ j := by rw [pw_cast]; exact Int.natCast_nonneg _
              have hp2 : (2 : Int) ^ j ≤ 65536 := by
                have h1 : 2 ^ j ≤ 2 ^ 16 := Nat.pow_le_pow_right (by decide) (by omega)
                rw [pw_cast]; omega
              have hsi : (s : Int) ≤ 65536 := by have := HS16.out; omega
              have hj64 : (j : Int) < 64 := by omega
              clear hlb1 hlb2
              generalize sum + lowK (cntN ws.length (befW ws)) (befW ws) s j = u at *
              generalize s ||| 2 ^ j = s2 at *
              have HCX := Lib.hid hCx; have HGX := Lib.hid hgx; clear hCx hgx
              go_wp2
              go_roundw
              case rel => exact ⟨k + 1, s2, u, by go_num, by omega, by first | rfl | go_num, rfl, HRI2.out, HCX.out, gb_trans HGR.out HGX.out⟩
              case measure => simp [intOf]; omega
        · have hfin := hRI.done hlt
          have HFIN := Lib.hid hfin; have HRI := Lib.hid hRI; have HGR := Lib.hid hgr; have HCR := Lib.hid hCr; clear hfin hRI hgr hCr
          go_wp2
          go_ret2
          exact ⟨by rw [HFIN.out]; rfl, Y3.out.trans (GB.below HGR.out (by omega) Y3.out.size)⟩
end Go.Proofs.Ytifpkdajfdlgeaa
