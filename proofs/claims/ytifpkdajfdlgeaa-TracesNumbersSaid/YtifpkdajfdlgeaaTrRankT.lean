/- Package traces: Rank. -/
import Derived.Test.YtifpkdajfdlgeaaTrNthT
import Derived.Test.YtifpkdajfdlgeaaTrRankR
namespace Go.Proofs.Ytifpkdajfdlgeaa
open Go.RowKit

def badI (n : Nat) (x : Int) : Bool := decide (x < 0 ∨ (n : Int) ≤ x)
theorem tRank1_ (x : Int) (ob n lc : Nat) (L : Option Addr) (w : World) (hc : w.cell? ⟨ob, 0, none⟩ = some (.slice L n lc)) :
    Calls Try.prog 60 #[.int .i64 x, .pointer (some ⟨ob, 0, none⟩)] w fun e w' => e = .returned (.bool (badI n x)) ∧ w = w' := by
  by_cases h1 : x < 0
  · have hr : badI n x = true := by unfold badI; simp [h1]
    have HR := Lib.hid hr; clear hr
    go_enter Try.func60, Try.ntmps60
    go_wp2
    go_ret
    exact ⟨ret_bool HR.out.symm, rfl⟩
  · by_cases h2 : (n : Int) ≤ x
    · have hr : badI n x = true := by unfold badI; simp [h2]
      have HR := Lib.hid hr; clear hr
      go_enter Try.func60, Try.ntmps60
      go_wp2
      go_ret
      exact ⟨ret_bool HR.out.symm, rfl⟩
    · have hr : badI n x = false := by unfold badI; simp; omega
      have HR := Lib.hid hr; clear hr
      go_enter Try.func60, Try.ntmps60
      go_wp2
      go_ret
      exact ⟨ret_bool HR.out.symm, rfl⟩

def IdxPost (b : Bool) (w : World) (e : Ending) (w' : World) : Prop := ∃ r : Int, e = .returned (.int .i64 r) ∧ decide (0 ≤ r) = b ∧ w = w'
set_option maxHeartbeats 1000000 in
theorem indI_ (ob n lc lc2 : Nat) (L L2 : Option Addr) (l : List Int) (w : World) (hc : w.cell? ⟨ob, 0, none⟩ = some (.slice L2 n lc2)) (hl : RdI w L l) :
    Calls Try.prog 67 #[.slice L l.length lc, .func (.func 60) #[] #[.pointer (some ⟨ob, 0, none⟩)]] w (IdxPost (l.any (badI n)) w) := by
  have hln := hl.1
  have HL := Lib.hid hl; have HC := Lib.hid hc; clear hl hc
  go_enter Try.func67, Try.ntmps67
  go_wp2
  go_loop [8] (fun iv => ∃ k : Nat, iv = .int .i64 k ∧ k ≤ l.length ∧ (l.take k).any (badI n) = false) (fun iv => l.length - (intOf iv).toNat)
  case atStart => exact ⟨0, rfl, Nat.zero_le _, rfl⟩
  case round =>
    obtain ⟨k, rfl, hk, hno⟩ := hrel
    by_cases hlt : k < l.length
    · obtain ⟨bl, ol, hL, hbl, l1⟩ := HL.out.at_ hlt
      subst hL
      have hts := any_take_succ l (badI n) k hlt
      have hhit : badI n l[k] = true → l.any (badI n) = true := fun h => any_hit hlt h
      generalize l[k] = x at *
      have x1 : (0 : Int) ≤ (k : Int) := by omega
      have x2 : (k : Int) < (l.length : Int) := by omega
      by_cases hb : badI n x = true
      · have hres := hhit hb
        clear hhit
        have HNO := Lib.hid hno; have HTS := Lib.hid hts; have HRES := Lib.hid hres; clear hno hts hres
        go_wp2_with fail
        refine (tRank1_ x ob n lc2 L2 _ HC.out).mono ?_
        rw [hb]
        rintro e w1 ⟨rfl, rfl⟩
        clear hb
        go_wp2
        go_ret
        exact ⟨k, rfl, by rw [HRES.out]; simp, rfl⟩
      · have hb' : badI n x = false := by simpa using hb
        clear hb hhit
        have hno2 : (l.take (k + 1)).any (badI n) = false := by rw [hts, hno, hb']; rfl
        have HNO := Lib.hid hno; have HTS := Lib.hid hts; have HNO2 := Lib.hid hno2; clear hno hts hno2
        go_wp2_with fail
        refine (tRank1_ x ob n lc2 L2 _ HC.out).mono ?_
        rw [hb']
        rintro e w1 ⟨rfl, rfl⟩
        clear hb'
        go_wp2
        go_round
        case rel => exact ⟨k + 1, by go_num, by omega, HNO2.out⟩
        case measure => simp [intOf]; omega
    · have hres : l.any (badI n) = false := any_end hlt hno
      have HNO := Lib.hid hno; have HRES := Lib.hid hres; clear hno hres
      go_wp2
      go_ret
      exact ⟨-1, rfl, by rw [HRES.out]; simp, rfl⟩

set_option maxHeartbeats 1000000 in
theorem contI_ (ob n lc lc2 : Nat) (L L2 : Option Addr) (l : List Int) (w : World) (hc : w.cell? ⟨ob, 0, none⟩ = some (.slice L2 n lc2)) (hl : RdI w L l) :
    Calls Try.prog 59 #[.slice L l.length lc, .func (.func 60) #[] #[.pointer (some ⟨ob, 0, none⟩)]] w fun e w' => e = .returned (.bool (l.any (badI n))) ∧ w = w' := by
  have HL := Lib.hid hl; have HC := Lib.hid hc; clear hl hc
  go_enter Try.func59, Try.ntmps59
  go_wp2_with fail
  refine (indI_ ob n lc lc2 L L2 l _ HC.out HL.out).mono ?_
  rintro e w1 ⟨r, rfl, hr, rfl⟩
  have HR := Lib.hid hr; clear hr
  go_wp2
  go_ret
  exact ⟨ret_bool HR.out, rfl⟩

theorem bad_range {n : Nat} {l : List Int} : l.any (badI n) = false ↔ ∀ x ∈ l, 0 ≤ x ∧ x < n := by
  rw [List.any_eq_false]
  refine forall_congr' fun x => imp_congr_right fun _ => ?_
  unfold badI
  simp only [decide_eq_true_eq]
  omega
/-- If the ranges are right: an order is one where each work is free in its turn. -/
theorem rank_ord {ws : List GW} {l : List Int} (h1 : l.length = ws.length) (h2 : ∀ x ∈ l, 0 ≤ x ∧ x < ws.length) : ordB ws l = (rankO ws l).isSome := by
  unfold ordB rankO
  rw [decide_eq_true h1, Bool.true_and, h1, rk_ord (SameD.zero ws.length) h2]
theorem RI.stuck {ws : List GW} {l : List Int} {k s : Nat} {sum : Int} (h : RI ws l k s sum) (hk : k < l.length) {i : Nat} (hi : l[k] = i) (hf : freeB (befW ws) s i = false) : rankO ws l = none := by
  have hr := h.run
  rw [show l.drop k = (i : Int) :: l.drop (k + 1) by rw [List.drop_eq_getElem_cons hk, hi], rkRun, Int.toNat_natCast, if_neg (by rw [hf]; simp)] at hr
  rw [hr]; rfl
theorem RI.go {ws : List GW} {l : List Int} {k s : Nat} {sum : Int} (h : RI ws l k s sum) (hn : ws.length ≤ 16) (hk : k < l.length) {i : Nat} (hi : l[k] = i) (hil : i < ws.length) (hf : freeB (befW ws) s i = true) :
    RI ws l (k + 1) (s ||| 2 ^ i) (sum + lowK (cntN ws.length (befW ws)) (befW ws) s i) := by
  have hr := h.run
  rw [show l.drop k = (i : Int) :: l.drop (k + 1) by rw [List.drop_eq_getElem_cons hk, hi], rkRun, Int.toNat_natCast, if_pos hf, Option.map_map] at hr
  have hb := lowK_bd (g := cntN ws.length (befW ws)) (bef := befW ws) (s := s) (cntN_bounds ws.length (befW ws)) i
  have h1 := h.lo
  have h2 := h.hi
  refine ⟨Nat.or_lt_two_pow h.lt (Nat.pow_lt_pow_right (by decide) hil), by omega, by omega, ?_⟩
  rw [hr]
  congr 1
  funext z
  simp only [Function.comp]
  omega

set_option maxRecDepth 100000 in
set_option maxHeartbeats 2000000 in
theorem tRank_ (p : Int) (A L : Option Addr) (c lc : Nat) (ws : List GW) (l : List Int) (w : World) (ha : ShIn w p A ws) (hcap : ws.length ≤ c) (hl : RdI w L l) :
    Calls Try.prog 37 #[.agg #[.int .i64 p, .slice A ws.length c], .slice L l.length lc] w fun e w' => e = .returned (.tuple #[.int .i64 (rankN p ws l), .int .i64 (rankX p ws l)]) ∧ Below w.heap.size w w' := by
  have hb2 : Below w.heap.size w ((w.alloc (.cells #[.int .i64 p, .slice A ws.length c] 24)).alloc (.cells #[.slice L l.length lc] 30)) := ((Below.refl _ _).alloc (Nat.le_refl _) _).alloc (by simp) _
  have hln := hl.1
  by_cases he : cntdErr p ws = 0
  rotate_left
  · have hx : rankX p ws l = cntdErr p ws := by unfold rankX; rw [if_pos he]
    have hnn : rankN p ws l = 0 := by unfold rankN; rw [if_neg (by rw [hx]; exact he)]
    have heb : (cntdErr p ws != 0) = true := by simpa using he
    rw [hnn, hx]
    have HA := Lib.hid ha; have HB2 := Lib.hid hb2; have HE := Lib.hid he; have HX := Lib.hid hx; have HNN := Lib.hid hnn; have HL := Lib.hid hl; clear ha hb2 he hx hnn hl
    go_enter Try.func37, Try.ntmps37
    go_wp2_with fail
    refine (tcounted_ _ p A c ws _ (HA.out.later HB2.out (Nat.le_refl _)) hcap (by go_simp) (by go_simp)).mono ?_
    rintro e w1 ⟨v, rfl, hb1, _⟩
    go_wp2
    go_ret2
    exact ⟨rfl, HB2.out.trans (hb1.mono (by simp; omega))⟩
  · obtain ⟨hes, hn16, hle, hnum⟩ := cntd_ok he
    have hneL : rankX p ws l = if ordB ws l = true then 0 else 4 := by unfold rankX; rw [if_neg (by rw [he]; simp)]
    by_cases hlw : l.length = ws.length
    rotate_left
    · have ho : ordB ws l = false := by unfold ordB; rw [decide_eq_false hlw]; rfl
      have hx : rankX p ws l = 4 := by rw [hneL, ho]; rfl
      have hnn : rankN p ws l = 0 := by unfold rankN; rw [if_neg (by rw [hx]; simp)]
      have hnb : ((l.length : Int) != (ws.length : Int)) = true := by simp; omega
      rw [hnn, hx]
      have HA := Lib.hid ha; have HB2 := Lib.hid hb2; have HE := Lib.hid he; have HX := Lib.hid hx; have HNN := Lib.hid hnn; have HL := Lib.hid hl; have HES := Lib.hid hes; have HLE := Lib.hid hle; have HNUM := Lib.hid hnum; have HO := Lib.hid ho; have HNEL := Lib.hid hneL; have HLW := Lib.hid hlw; clear ha hb2 he hx hnn hl hes hle hnum ho hneL hlw
      go_enter Try.func37, Try.ntmps37
      go_wp2_with fail
      refine (tcounted_ok _ p A c ws _ (HA.out.later HB2.out (Nat.le_refl _)) hcap (by go_simp) (by go_simp) HE.out).mono ?_
      rintro e w1 ⟨cb, b, mb, rfl, hb1, _⟩
      have a1 : w1.cell? ⟨w.heap.size, 1, none⟩ = some (.slice A ws.length c) := below_at hb1 (Nat.le_refl _) (by go_simp)
      have o1 : w1.cell? ⟨w.heap.size + 1, 0, none⟩ = some (.slice L l.length lc) := below_at hb1 (Nat.le_refl _) (by go_simp)
      have hs1 : w.heap.size + 1 < w1.heap.size := by have := hb1.size; simp at this; omega
      have hs0 : w.heap.size < w1.heap.size := by omega
      go_wp2
      go_ret2
      exact ⟨rfl, HB2.out.trans (hb1.mono (by simp; omega))⟩
    have hnb : ((l.length : Int) != (ws.length : Int)) = false := by simp; omega
    by_cases hbad : l.any (badI l.length) = true
    · have ho : ordB ws l = false := by
        cases hb : ordB ws l with
        | false => rfl
        | true =>
          have h1 := (ordB_parts hb).2.1
          rw [← hlw] at h1
          rw [bad_range.2 h1] at hbad; cases hbad
      have hx : rankX p ws l = 4 := by rw [hneL, ho]; rfl
      have hnn : rankN p ws l = 0 := by unfold rankN; rw [if_neg (by rw [hx]; simp)]
      rw [hnn, hx]
      have HA := Lib.hid ha; have HB2 := Lib.hid hb2; have HE := Lib.hid he; have HX := Lib.hid hx; have HNN := Lib.hid hnn; have HL := Lib.hid hl; have HES := Lib.hid hes; have HLE := Lib.hid hle; have HNUM := Lib.hid hnum; have HO := Lib.hid ho; have HNEL := Lib.hid hneL; have HLW := Lib.hid hlw; clear ha hb2 he hx hnn hl hes hle hnum ho hneL hlw
      go_enter Try.func37, Try.ntmps37
      go_wp2_with fail
      refine (tcounted_ok _ p A c ws _ (HA.out.later HB2.out (Nat.le_refl _)) hcap (by go_simp) (by go_simp) HE.out).mono ?_
      rintro e w1 ⟨cb, b, mb, rfl, hb1, _⟩
      have a1 : w1.cell? ⟨w.heap.size, 1, none⟩ = some (.slice A ws.length c) := below_at hb1 (Nat.le_refl _) (by go_simp)
      have o1 : w1.cell? ⟨w.heap.size + 1, 0, none⟩ = some (.slice L l.length lc) := below_at hb1 (Nat.le_refl _) (by go_simp)
      have hs1 : w.heap.size + 1 < w1.heap.size := by have := hb1.size; simp at this; omega
      have hs0 : w.heap.size < w1.heap.size := by omega
      have Y1 := Lib.hid (HB2.out.trans (hb1.mono (by simp; omega))); clear hb1
      go_wp2_with fail
      refine (contI_ (w.heap.size + 1) l.length lc lc L L l _ o1 (HL.out.later Y1.out (Nat.le_refl _))).mono ?_
      rw [hbad]
      rintro e w2 ⟨rfl, rfl⟩
      clear hbad
      go_wp2
      go_ret2
      exact ⟨rfl, Y1.out⟩
    · have hbad' : l.any (badI l.length) = false := by simpa using hbad
      have hrng := bad_range.1 hbad'
      have hrk := rank_ord hlw (fun x hx => by have := hrng x hx; rw [hlw] at this; exact this)
      have hRI := RI.init ws l
      have hl16 : l.length ≤ 16 := by omega
      have hnn : rankN p ws l = if (rankO ws l).isSome = true then (rankO ws l).getD 0 else 0 := by
        unfold rankN
        rw [hneL, hrk]
        cases rankO ws l <;> simp
      have hneL2 : rankX p ws l = if (rankO ws l).isSome = true then 0 else 4 := by rw [hneL, hrk]
      clear hbad hneL
      generalize hXe : rankX p ws l = X at *
      generalize hNe : rankN p ws l = NN at *
      clear hXe hNe
      have hr2 : ∀ x ∈ l, 0 ≤ x ∧ x < ws.length := fun x hx => by have := hrng x hx; rw [hlw] at this; exact this
      have HA := Lib.hid ha; have HB2 := Lib.hid hb2; have HE := Lib.hid he; have HNN := Lib.hid hnn; have HL := Lib.hid hl; have HES := Lib.hid hes; have HLE := Lib.hid hle; have HNUM := Lib.hid hnum; have HNEL2 := Lib.hid hneL2; have HLW := Lib.hid hlw; have HRNG := Lib.hid hrng; have HRK := Lib.hid hrk; have HRI := Lib.hid hRI; have HR2 := Lib.hid hr2; clear ha hb2 he hnn hl hes hle hnum hneL2 hlw hrng hrk hRI hr2
      go_enter Try.func37, Try.ntmps37
      go_wp2_with fail
      refine (tcounted_ok _ p A c ws _ (HA.out.later HB2.out (Nat.le_refl _)) hcap (by go_simp) (by go_simp) HE.out).mono ?_
      rintro e w1 ⟨cb, b, mb, rfl, hb1, hC, hmb⟩
      have a1 : w1.cell? ⟨w.heap.size, 1, none⟩ = some (.slice A ws.length c) := below_at hb1 (Nat.le_refl _) (by go_simp)
      have o1 : w1.cell? ⟨w.heap.size + 1, 0, none⟩ = some (.slice L l.length lc) := below_at hb1 (Nat.le_refl _) (by go_simp)
      have hs1 : w.heap.size + 1 < w1.heap.size := by have := hb1.size; simp at this; omega
      have hs0 : w.heap.size < w1.heap.size := by omega
      have hmb2 : w.heap.size + 2 ≤ mb := by simpa using hmb
      have Y1 := Lib.hid (HB2.out.trans (hb1.mono (by simp; omega))); clear hb1 hmb
      have HC := Lib.hid hC; clear hC
      go_wp2_with fail
      refine (contI_ (w.heap.size + 1) l.length lc lc L L l _ o1 (HL.out.later Y1.out (Nat.le_refl _))).mono ?_
      rw [hbad']
      rintro e w2 ⟨rfl, rfl⟩
      clear hbad'
      go_wp2
      go_loopw [9, 10, 35] (fun uv sv kv wr => ∃ (k s : Nat) (sum : Int), kv = .int .i64 k ∧ k ≤ l.length ∧ sv = .int .u32 s ∧ uv = .int .i64 sum ∧ RI ws l k s sum ∧ CtrAt wr cb b mb ws.length (befW ws) ∧ w1.grownBy wr (some mb)) (fun _ _ kv _ => l.length - (intOf kv).toNat)
      case atStart => exact ⟨0, 0, 0, rfl, Nat.zero_le _, rfl, rfl, HRI.out, HC.out, World.grownBy.refl _ _⟩
      case round =>
        obtain ⟨k, s, sum, rfl, hk, rfl, rfl, hRI, hCr, hgr⟩ := hrel
        obtain ⟨wo, rfl⟩ : ∃ wo : World, wo = wr := ⟨_, rfl⟩
        have hbo := GB.below hgr (show w.heap.size ≤ mb by omega) Y1.out.size
        by_cases hlt : k < l.length
        · obtain ⟨bl, ol, hLA, hbl, l1⟩ := (HL.out.later (Y1.out.trans hbo) (Nat.le_refl _)).at_ hlt
          subst hLA
          obtain ⟨r1, r2⟩ := HR2.out l[k] (List.getElem_mem hlt)
          obtain ⟨i, hi⟩ := Int.eq_ofNat_of_zero_le r1
          rw [hi] at l1
          have hil : i < ws.length := by omega
          have hslt := hRI.lt
          have hs16 : s < 65536 := Nat.lt_of_lt_of_le hslt (Nat.pow_le_pow_right (by decide) hn16)
          have hu0 := hRI.lo
          have hu1 : sum ≤ 1000000000000 := by have := hRI.hi; omega
          have x1 : (0 : Int) ≤ (k : Int) := by omega
          have x2 : (k : Int) < (l.length : Int) := by omega
          obtain ⟨A1, cap1, hcb1, hA1⟩ := hCr.cells
          have hA1' := hA1 (by omega)
          subst hA1'
          have c0 : wo.cell? ⟨cb, 0, none⟩ = some (.slice (some ⟨b, 0, none⟩) ws.length cap1) := cell_of_row wo cb 0 _ _ _ hcb1
          obtain ⟨hbf, hbc⟩ := hCr.befs i hil
          clear r1 r2
          by_cases hf : freeB (befW ws) s i = true
          rotate_left
          · have hf' : freeB (befW ws) s i = false := by simpa using hf
            have hff : freeOf (befW ws i) s i = false := hf'
            have hnone := hRI.stuck hlt hi hf'
            have hx4 : X = 4 := by rw [HNEL2.out, hnone]; rfl
            have hn0 : NN = 0 := by rw [HNN.out, hnone]; rfl
            clear hf
            have HRI := Lib.hid hRI; have HCR := Lib.hid hCr; have HGR := Lib.hid hgr; have HSLT := Lib.hid hslt; have HS16 := Lib.hid hs16; have HI := Lib.hid hi; have HBO := Lib.hid hbo; have HCB1 := Lib.hid hcb1; have HA1 := Lib.hid hA1; have HFp := Lib.hid hf'; have HNONE := Lib.hid hnone; have HX4 := Lib.hid hx4; have HN0 := Lib.hid hn0; clear hRI hCr hgr hslt hs16 hi hbo hcb1 hA1 hf' hnone hx4 hn0
            go_wp2_with fail
            refine (tfree_ cb b 0 cap1 ws.length s i (befW ws i) _ hil hn16 HS16.out hbf c0 (by simpa using hbc)).mono ?_
            rw [hff]
            rintro e w4 ⟨rfl, rfl⟩
            clear hff
            go_wp2
            go_ret2
            exact ⟨by rw [HX4.out, HN0.out]; rfl, Y1.out.trans HBO.out⟩
          · have hff : freeOf (befW ws i) s i = true := hf
            have hRI2 := hRI.go hn16 hlt hi hil hf
            have HRI := Lib.hid hRI; have HCR := Lib.hid hCr; have HGR := Lib.hid hgr; have HSLT := Lib.hid hslt; have HS16 := Lib.hid hs16; have HI := Lib.hid hi; have HBO := Lib.hid hbo; have HCB1 := Lib.hid hcb1; have HA1 := Lib.hid hA1; have HF := Lib.hid hf; have HRI2 := Lib.hid hRI2; have HBL := Lib.hid hbl; clear hRI hCr hgr hslt hs16 hi hbo hcb1 hA1 hf hRI2 hbl
            go_wp2_with fail
            refine (tfree_ cb b 0 cap1 ws.length s i (befW ws i) _ hil hn16 HS16.out hbf c0 (by simpa using hbc)).mono ?_
            rw [hff]
            rintro e w4 ⟨rfl, rfl⟩
            clear hff c0 hbf hbc
            go_wp2
            go_loopw [9, 45] (fun uv iv wr => ∃ j : Nat, iv = .int .i64 j ∧ j ≤ i ∧ uv = .int .i64 (sum + lowK (cntN ws.length (befW ws)) (befW ws) s j) ∧ CtrAt wr cb b mb ws.length (befW ws) ∧ wo.grownBy wr (some mb)) (fun _ iv _ => i - (intOf iv).toNat)
            case atStart => exact ⟨0, rfl, Nat.zero_le _, by simp [lowK], HCR.out, World.grownBy.refl _ _⟩
            case round =>
              obtain ⟨j, rfl, hj, rfl, hCx, hgx⟩ := hrel
              have hlb := lowK_bd (g := cntN ws.length (befW ws)) (bef := befW ws) (s := s) (cntN_bounds ws.length (befW ws)) j
              have hls : lowK (cntN ws.length (befW ws)) (befW ws) s (j + 1) = if freeB (befW ws) s j = true then lowK (cntN ws.length (befW ws)) (befW ws) s j + cntN ws.length (befW ws) (s ||| 2 ^ j) else lowK (cntN ws.length (befW ws)) (befW ws) s j := rfl
              have HLS := Lib.hid hls; clear hls
              obtain ⟨hlb1, hlb2⟩ := hlb
              have hj16 : (j : Int) ≤ 16 := by omega
              have hlb3 : sum + lowK (cntN ws.length (befW ws)) (befW ws) s j ≤ 2000000000000 := by omega
              have hlb4 : 0 ≤ sum + lowK (cntN ws.length (befW ws)) (befW ws) s j := by omega
              by_cases hji : j < i
              · obtain ⟨A2, cap2, hcb2', hA2⟩ := hCx.cells
                have hA2' := hA2 (by omega)
                subst hA2'
                have c0 : wr.cell? ⟨cb, 0, none⟩ = some (.slice (some ⟨b, 0, none⟩) ws.length cap2) := cell_of_row wr cb 0 _ _ _ hcb2'
                obtain ⟨hbf, hbc⟩ := hCx.befs j (by omega)
                by_cases hf : freeB (befW ws) s j = true
                · have hff : freeOf (befW ws j) s j = true := hf
                  have hcb2 := cntN_bounds ws.length (befW ws) (s ||| 2 ^ j)
                  have hor := bit_set .u32 16 (by decide) (fun n h h' => wraps_u32 n h (by omega)) s j HS16.out (by omega)
                  have hk16 : (2 : Int) ^ j % 4294967296 = 2 ^ j := by
                    have h1 : 2 ^ j < 2 ^ 16 := Nat.pow_lt_pow_right (by decide) (by omega)
                    have h2 : (2 : Int) ^ j = ((2 ^ j : Nat) : Int) := by simp
                    rw [h2]; exact Int.emod_eq_of_lt (Int.natCast_nonneg _) (by omega)
                  rw [← hk16] at hor
                  clear hk16
                  have hs2' : s ||| 2 ^ j < 2 ^ ws.length := Nat.or_lt_two_pow HSLT.out (Nat.pow_lt_pow_right (by decide) (by omega))
                  have hj32 : (j : Int) < 32 := by omega
                  have hj0 : (0 : Int) ≤ (j : Int) := by omega
                  have hml := miss_le ws.length (s ||| 2 ^ j)
                  obtain ⟨hcb3, hcb4⟩ := hcb2
                  have hnew : sum + lowK (cntN ws.length (befW ws)) (befW ws) s (j + 1) = sum + lowK (cntN ws.length (befW ws)) (befW ws) s j + cntN ws.length (befW ws) (s ||| 2 ^ j) := by rw [HLS.out, if_pos hf]; omega
                  clear hlb1 hlb2
                  generalize sum + lowK (cntN ws.length (befW ws)) (befW ws) s j = u at *
                  generalize hg : s ||| 2 ^ j = s2 at *
                  generalize hcn : cntN ws.length (befW ws) s2 = cn at *
                  have hCx2 := hCx
                  have HS2p := Lib.hid hs2'; have HF := Lib.hid hf; have HG := Lib.hid hg; have HCN := Lib.hid hcn; have HCX2 := Lib.hid hCx2; have HGX := Lib.hid hgx; have HML := Lib.hid hml; have HNEW := Lib.hid hnew; have HCB2p := Lib.hid hcb2'; have HA2 := Lib.hid hA2; clear hs2' hf hg hcn hCx2 hgx hml hnew hcb2' hA2
                  go_wp2_with fail
                  refine (tfree_ cb b 0 cap2 ws.length s j (befW ws j) _ (by omega) hn16 HS16.out hbf c0 (by simpa using hbc)).mono ?_
                  rw [hff]
                  rintro e w4 ⟨rfl, rfl⟩
                  have HCX := Lib.hid hCx; clear hCx hbf hbc hff
                  go_wp2_with fail
                  refine (tcount_ cb b mb ws.length (befW ws) hn16 ws.length s2 _ HML.out HS2p.out HCX.out).mono ?_
                  rw [HCN.out]
                  rintro e w5 ⟨rfl, hC5, hg2⟩
                  have HC5 := Lib.hid hC5; have HG2 := Lib.hid hg2; clear hC5 hg2
                  go_wp2
                  go_roundw
                  case rel => exact ⟨j + 1, by go_num, by omega, by rw [HNEW.out], HC5.out, gb_trans HGX.out HG2.out⟩
                  case measure => simp [intOf]; omega
                · have hf' : freeB (befW ws) s j = false := by simpa using hf
                  have hff : freeOf (befW ws j) s j = false := hf'
                  clear hf
                  have hnew : sum + lowK (cntN ws.length (befW ws)) (befW ws) s (j + 1) = sum + lowK (cntN ws.length (befW ws)) (befW ws) s j := by rw [HLS.out, if_neg (by rw [hf']; simp)]
                  clear hlb1 hlb2
                  generalize sum + lowK (cntN ws.length (befW ws)) (befW ws) s j = u at *
                  have HFp := Lib.hid hf'; have HGX := Lib.hid hgx; have HNEW := Lib.hid hnew; have HCB2p := Lib.hid hcb2'; have HA2 := Lib.hid hA2; clear hf' hgx hnew hcb2' hA2
                  go_wp2_with fail
                  refine (tfree_ cb b 0 cap2 ws.length s j (befW ws j) _ (by omega) hn16 HS16.out hbf c0 (by simpa using hbc)).mono ?_
                  rw [hff]
                  rintro e w4 ⟨rfl, rfl⟩
                  have HCX := Lib.hid hCx; clear hCx hbf hbc hff
                  go_wp2
                  go_roundw
                  case rel => exact ⟨j + 1, by go_num, by omega, by rw [HNEW.out], HCX.out, HGX.out⟩
                  case measure => simp [intOf]; omega
              · obtain rfl : j = i := by omega
                have hor := bit_set .u32 16 (by decide) (fun n h h' => wraps_u32 n h (by omega)) s j HS16.out (by omega)
                have hk16 : (2 : Int) ^ j % 4294967296 = 2 ^ j := by
                  have h1 : 2 ^ j < 2 ^ 16 := Nat.pow_lt_pow_right (by decide) (by omega)
                  have h2 : (2 : Int) ^ j = ((2 ^ j : Nat) : Int) := by simp
                  rw [h2]; exact Int.emod_eq_of_lt (Int.natCast_nonneg _) (by omega)
                rw [← hk16] at hor
                clear hk16
                have hj32 : (j : Int) < 32 := by omega
                have hj0 : (0 : Int) ≤ (j : Int) := by omega
                clear hlb1 hlb2
                generalize sum + lowK (cntN ws.length (befW ws)) (befW ws) s j = u at *
                generalize s ||| 2 ^ j = s2 at *
                have HCX := Lib.hid hCx; have HGX := Lib.hid hgx; clear hCx hgx
                go_wp2
                go_roundw
                case rel => exact ⟨k + 1, s2, u, by go_num, by omega, by first | rfl | go_num, rfl, HRI2.out, HCX.out, gb_trans HGR.out HGX.out⟩
                case measure => simp [intOf]; omega
        · have hfin := hRI.done hlt
          have hx0 : X = 0 := by rw [HNEL2.out, hfin]; rfl
          have hn0 : NN = sum := by rw [HNN.out, hfin]; rfl
          have HFIN := Lib.hid hfin; have HRI := Lib.hid hRI; have HGR := Lib.hid hgr; have HCR := Lib.hid hCr; have HX0 := Lib.hid hx0; have HN0 := Lib.hid hn0; have HBO := Lib.hid hbo; clear hfin hRI hgr hCr hx0 hn0 hbo
          go_wp2
          go_ret2
          exact ⟨by rw [HX0.out, HN0.out]; rfl, Y1.out.trans HBO.out⟩
end Go.Proofs.Ytifpkdajfdlgeaa
