/- Texts of this claim, laid together: BoLWd, BoLCap. -/
import Derived.Test.YtdimaapiloojeaaMaJ
/- The law's helpers: long, many, wound. -/
namespace Go.Proofs.Ytdimaapiloojeaa
open Go.RowKit

/-- More places than are looked at. -/
def lgB (ps : List Int) (most : Int) : Bool := (decide (most < (ps.length : Int)) && decide ((ps.length : Int) ≤ 200)) || decide ((220 : Int) < (ps.length : Int))
set_option maxRecDepth 100000 in
set_option maxHeartbeats 4000000 in
theorem lLong20_ (need most : Int) (A : Option Addr) (c : Nat) (ps : List Int) (w : World) : Calls Try.prog 16 #[.agg #[.int .i64 need, .slice A ps.length c], .int .i64 most] w (BoolPost (lgB ps most) w) := by
  obtain ⟨R, hR⟩ : ∃ R, R = lgB ps most := ⟨_, rfl⟩
  rw [← hR]
  unfold lgB at hR
  have hb : Below w.heap.size w (w.alloc (.cells #[.int .i64 need, .slice A ps.length c] 43)) := (Below.refl _ _).alloc (Nat.le_refl _) _
  by_cases h1 : most < (ps.length : Int)
  · have d1 : decide (most < (ps.length : Int)) = true := decide_eq_true h1
    by_cases h2 : (ps.length : Int) ≤ 200
    · have d2 : decide ((ps.length : Int) ≤ 200) = true := decide_eq_true h2
      have d3 : decide (ps.length ≤ 200) = true := decide_eq_true (by omega)
      rw [d1, d2, Bool.true_and, Bool.true_or] at hR
      subst hR
      have HB := Lib.hid hb; clear hb
      go_enter Try.func16, Try.ntmps16
      go_wp2
      go_ret
      exact ⟨rfl, HB.out⟩
    · have d2 : decide ((ps.length : Int) ≤ 200) = false := decide_eq_false h2
      have d3 : decide (ps.length ≤ 200) = false := decide_eq_false (by omega)
      rw [d1, d2, Bool.true_and, Bool.false_or] at hR
      by_cases h3 : (220 : Int) < (ps.length : Int)
      · have d4 : decide ((220 : Int) < (ps.length : Int)) = true := decide_eq_true h3
        have d5 : decide (220 < ps.length) = true := decide_eq_true (by omega)
        rw [d4] at hR
        subst hR
        have HB := Lib.hid hb; clear hb
        go_enter Try.func16, Try.ntmps16
        go_wp2
        go_ret
        exact ⟨rfl, HB.out⟩
      · have d4 : decide ((220 : Int) < (ps.length : Int)) = false := decide_eq_false h3
        have d5 : decide (220 < ps.length) = false := decide_eq_false (by omega)
        rw [d4] at hR
        subst hR
        have HB := Lib.hid hb; clear hb
        go_enter Try.func16, Try.ntmps16
        go_wp2
        go_ret
        exact ⟨rfl, HB.out⟩
  · have d1 : decide (most < (ps.length : Int)) = false := decide_eq_false h1
    rw [d1, Bool.false_and, Bool.false_or] at hR
    by_cases h3 : (220 : Int) < (ps.length : Int)
    · have d4 : decide ((220 : Int) < (ps.length : Int)) = true := decide_eq_true h3
      have d5 : decide (220 < ps.length) = true := decide_eq_true (by omega)
      rw [d4] at hR
      subst hR
      have HB := Lib.hid hb; clear hb
      go_enter Try.func16, Try.ntmps16
      go_wp2
      go_ret
      exact ⟨rfl, HB.out⟩
    · have d4 : decide ((220 : Int) < (ps.length : Int)) = false := decide_eq_false h3
      have d5 : decide (220 < ps.length) = false := decide_eq_false (by omega)
      rw [d4] at hR
      subst hR
      have HB := Lib.hid hb; clear hb
      go_enter Try.func16, Try.ntmps16
      go_wp2
      go_ret
      exact ⟨rfl, HB.out⟩
def lgT (t : Int × List Int) : Bool := lgB t.2 20
/-- More threads than are looked at. -/
def mnB (l : List (Int × List Int)) (most : Int) : Bool := ((decide (most < (l.length : Int)) && decide ((l.length : Int) ≤ 48)) || decide ((60 : Int) < (l.length : Int))) || l.any lgT
set_option maxRecDepth 100000 in
set_option maxHeartbeats 4000000 in
theorem lMany20_ (A : Option Addr) (c : Nat) (l : List (Int × List Int)) (most : Int) (w : World) (hr : RdTh w A l) : Calls Try.prog 22 #[.slice A l.length c, .int .i64 most] w (BoolPost (mnB l most) w) := by
  have hln := hr.1
  obtain ⟨R, hR⟩ : ∃ R, R = mnB l most := ⟨_, rfl⟩
  rw [← hR]
  unfold mnB at hR
  have hb := Below.refl w.heap.size w
  have hcase : (R = true ∧ ∃ b1 b2 b3 : Bool, decide (most < (l.length : Int)) = b1 ∧ decide ((l.length : Int) ≤ 48) = b2 ∧ decide (l.length ≤ 48) = b2 ∧ decide ((60 : Int) < (l.length : Int)) = b3 ∧ decide (60 < l.length) = b3 ∧ ((b1 = true ∧ b2 = true) ∨ (b1 = true ∧ b2 = false ∧ b3 = true) ∨ (b1 = false ∧ b3 = true))) ∨ (R = l.any lgT ∧ ∃ b1 b2 : Bool, decide (most < (l.length : Int)) = b1 ∧ decide ((l.length : Int) ≤ 48) = b2 ∧ decide (l.length ≤ 48) = b2 ∧ decide ((60 : Int) < (l.length : Int)) = false ∧ decide (60 < l.length) = false ∧ ((b1 = true ∧ b2 = false) ∨ b1 = false)) := by
    have e2 : decide (l.length ≤ 48) = decide ((l.length : Int) ≤ 48) := by rw [decide_eq_decide]; omega
    have e3 : decide (60 < l.length) = decide ((60 : Int) < (l.length : Int)) := by rw [decide_eq_decide]; omega
    rw [e2, e3]
    generalize decide (most < (l.length : Int)) = b1 at *
    generalize decide ((l.length : Int) ≤ 48) = b2 at *
    generalize decide ((60 : Int) < (l.length : Int)) = b3 at *
    cases b1 <;> cases b2 <;> cases b3 <;> simp_all
  rcases hcase with ⟨rfl, b1, b2, b3, d1, d2, d3, d4, d5, hc⟩ | ⟨hRl, b1, b2, d1, d2, d3, d4, d5, hc⟩
  · rcases hc with ⟨rfl, rfl⟩ | ⟨rfl, rfl, rfl⟩ | ⟨rfl, rfl⟩
    · have HR := Lib.hid hr; have HB := Lib.hid hb; have HR := Lib.hid hR; clear hr hb hR
      clear d4 d5
      go_enter Try.func22, Try.ntmps22
      go_wp2
      go_ret
      exact ⟨rfl, HB.out⟩
    · have HR := Lib.hid hr; have HB := Lib.hid hb; have HR := Lib.hid hR; clear hr hb hR
      go_enter Try.func22, Try.ntmps22
      go_wp2
      go_ret
      exact ⟨rfl, HB.out⟩
    · have HR := Lib.hid hr; have HB := Lib.hid hb; have HR := Lib.hid hR; clear hr hb hR
      clear d2 d3
      go_enter Try.func22, Try.ntmps22
      go_wp2
      go_ret
      exact ⟨rfl, HB.out⟩
  · clear hR
    have hwalk : ∀ {b1 b2 : Bool}, decide (most < (l.length : Int)) = b1 → decide ((l.length : Int) ≤ 48) = b2 → decide (l.length ≤ 48) = b2 → ((b1 = true ∧ b2 = false) ∨ b1 = false) → Calls Try.prog 22 #[.slice A l.length c, .int .i64 most] w (BoolPost R w) := by
      clear d1 d2 d3 hc
      intro b1 b2 d1 d2 d3 hc
      have HR := Lib.hid hr; have HB := Lib.hid hb; have HRL := Lib.hid hRl; clear hr hb hRl
      rcases hc with ⟨rfl, rfl⟩ | rfl
      rotate_left
      clear d2 d3
      all_goals
        go_enter Try.func22, Try.ntmps22
        go_wp2
        try clear d1 d2 d3
        try clear d1
        clear d4 d5
        go_loopw [5] (fun iv wr => ∃ k : Nat, iv = .int .i64 (k : Int) ∧ k ≤ l.length ∧ (l.take k).any lgT = false ∧ Below w.heap.size w wr) (fun iv _ => l.length - (intOf iv).toNat)
        case atStart => exact ⟨0, rfl, Nat.zero_le _, rfl, HB.out⟩
        case round =>
          obtain ⟨k, rfl, hk, hno, hbw⟩ := hrel
          by_cases hlt : k < l.length
          · obtain ⟨bl, ol, rfl, hbl, l1, PA, pc, l2, hrp⟩ := (HR.out.later hbw (Nat.le_refl _)).at_ hlt
            have hts : (l.take (k + 1)).any lgT = ((l.take k).any lgT || lgT l[k]) := by rw [List.take_succ_eq_append_getElem hlt, List.any_append]; simp
            have hhit : lgT l[k] = true → l.any lgT = true := fun h => List.any_eq_true.2 ⟨_, List.getElem_mem hlt, h⟩
            have x1 : (0 : Int) ≤ (k : Int) := by omega
            have x2 : (k : Int) < (l.length : Int) := by omega
            generalize l[k] = t at *
            obtain ⟨need, ps⟩ := t
            simp only at l1 l2 hrp
            have hcall := fun W => lLong20_ need 20 PA pc ps W
            obtain ⟨g, hg⟩ : ∃ g, g = lgT (need, ps) := ⟨_, rfl⟩
            have hg2 : lgB ps 20 = g := by rw [hg]; rfl
            rw [hg2] at hcall
            rw [← hg] at hts hhit
            cases g with
            | true =>
              have hres : R = true := by rw [HRL.out, hhit rfl]
              clear hhit
              have HNO := Lib.hid hno; have HBW := Lib.hid hbw; have HTS := Lib.hid hts; have HCALL := Lib.hid hcall; have HG := Lib.hid hg; have HG2 := Lib.hid hg2; have HRP := Lib.hid hrp; have HRES := Lib.hid hres; clear hno hbw hts hcall hg hg2 hrp hres
              go_wp2_with fail
              refine (HCALL.out _).mono ?_
              rintro e w1 ⟨rfl, b1⟩
              have hb1 := HBW.out.trans (b1.mono HBW.out.size)
              clear b1
              have HB1 := Lib.hid hb1; clear hb1
              go_wp2
              go_ret
              exact ⟨by rw [HRES.out]; rfl, HB1.out⟩
            | false =>
              have hno2 : (l.take (k + 1)).any lgT = false := by rw [hts, hno]; rfl
              clear hhit
              have HNO := Lib.hid hno; have HBW := Lib.hid hbw; have HTS := Lib.hid hts; have HCALL := Lib.hid hcall; have HG := Lib.hid hg; have HG2 := Lib.hid hg2; have HRP := Lib.hid hrp; have HNO2 := Lib.hid hno2; clear hno hbw hts hcall hg hg2 hrp hno2
              go_wp2_with fail
              refine (HCALL.out _).mono ?_
              rintro e w1 ⟨rfl, b1⟩
              have hb1 := HBW.out.trans (b1.mono HBW.out.size)
              clear b1
              have HB1 := Lib.hid hb1; clear hb1
              go_wp2
              go_roundw
              case rel => exact ⟨k + 1, by go_num, by omega, HNO2.out, HB1.out⟩
              case measure => simp [intOf]; omega
          · have hres : R = false := by
              rw [List.take_of_length_le (by omega)] at hno
              rw [HRL.out, hno]
            have x3 : ¬ (k : Int) < (l.length : Int) := by omega
            have HNO := Lib.hid hno; have HBW := Lib.hid hbw; have HRES := Lib.hid hres; clear hno hbw hres
            go_wp2
            go_ret
            exact ⟨by rw [HRES.out]; rfl, HBW.out⟩
    exact hwalk d1 d2 d3 hc
set_option maxRecDepth 100000 in
set_option maxHeartbeats 4000000 in
theorem lWound20_ (A : Option Addr) (c : Nat) (l : List (Int × List Int)) (most knots : Int) (w : World) (hr : RdTh w A l) : Calls Try.prog 31 #[.slice A l.length c, .int .i64 most, .int .i64 knots] w (BoolPost (enB l knots most) w) := by
  obtain ⟨R, hR⟩ : ∃ R, R = enB l knots most := ⟨_, rfl⟩
  rw [← hR]
  unfold enB at hR
  have hcall := bWindAll_ A c l most w hr
  have hlt := wlL_tot l most
  have hle := @wlE_ths l most
  have hln := @thsE_len l
  have hwl := wlL_len l most
  have hl9 := hr.1
  have HR := Lib.hid hr; have HR := Lib.hid hR; have HCALL := Lib.hid hcall; have HLT := Lib.hid hlt; have HLE := Lib.hid hle; have HLN := Lib.hid hln; have HWL := Lib.hid hwl; clear hr hR hcall hlt hle hln hwl
  go_enter Try.func31, Try.ntmps31
  go_wp2_with fail
  refine HCALL.out.mono ?_
  rintro e w1 ⟨v, rfl, hv, hb1⟩
  obtain ⟨vs, hov, _⟩ := id hv
  obtain ⟨VA, vc, rfl⟩ := own_slice1 hov
  clear hov
  obtain ⟨E, hE⟩ : ∃ E, E = wlE l most := ⟨_, rfl⟩
  rw [← hE] at HR ⊢
  have hE0 : (E = 0 ∧ (wlL l most).length = l.length ∧ totL (wlL l most) ≤ 9648) ∨ (E ≠ 0 ∧ wlL l most = []) := by
    by_cases h : E = 0
    · have h2 := HLE.out (by rw [← hE]; exact h)
      have h3 := HLT.out h2
      have h4 := HLN.out h2
      exact .inl ⟨h, HWL.out (by rw [← hE]; exact h), by omega⟩
    · refine .inr ⟨h, ?_⟩
      unfold wlL
      rw [← hE, if_neg h]
  obtain ⟨ls, hls⟩ : ∃ ls, ls = wlL l most := ⟨_, rfl⟩
  rw [← hls] at hv hE0 HR ⊢
  have htb : totL ls ≤ 9648 := by
    rcases hE0 with ⟨_, _, h⟩ | ⟨_, rfl⟩
    · exact h
    · simp [totL]
  have hlb : ls.length ≤ 281474976710656 := by
    rcases hE0 with ⟨_, h, _⟩ | ⟨_, rfl⟩
    · omega
    · simp
  have hlk : ∀ k, k < ls.length → (ls.getD k []).length ≤ 9648 := fun k hk => by
    have h1 := totL_take ls hk
    have h2 := totL_le ls (k + 1)
    omega
  clear hls
  have HB1 := Lib.hid hb1; have HV := Lib.hid hv; have HE := Lib.hid hE; have HE0 := Lib.hid hE0; have HLK := Lib.hid hlk; clear hb1 hv hE hE0 hlk
  go_wp2
  go_loopw [9, 10] (fun sv iv wr => ∃ k : Nat, iv = .int .i64 (k : Int) ∧ k ≤ ls.length ∧ sv = .int .i64 (totL (ls.take k) : Int) ∧ Below w1.heap.size w1 wr) (fun _ iv _ => ls.length - (intOf iv).toNat)
  case atStart => exact ⟨0, rfl, Nat.zero_le _, rfl, Below.refl _ _⟩
  case round =>
    obtain ⟨k, rfl, hk, rfl, hbw⟩ := hrel
    have ht := totL_take ls (k := k)
    have htl := totL_le ls k
    have htl2 := totL_le ls (k + 1)
    by_cases hlt : k < ls.length
    · obtain ⟨bl, rfl, hbl, WA, wc9, l1, hrv⟩ := (HV.out.later hbw).at_ hlt (Nat.le_trans (HLK.out k hlt) (by omega))
      have ht := ht hlt
      rw [outI_len] at l1
      obtain ⟨q, hq⟩ : ∃ q, q = (ls.getD k []).length := ⟨_, rfl⟩
      obtain ⟨s, hs⟩ : ∃ s, s = totL (ls.take k) := ⟨_, rfl⟩
      rw [← hq] at l1 ht
      rw [← hs] at ht htl ⊢
      have hw : IntKind.i64.wrap ((s : Int) + (q : Int)) = (s : Int) + (q : Int) := IntWalk.i64_in _ (by omega)
      have x1 : (0 : Int) ≤ (k : Int) := by omega
      have x2 : (k : Int) < (ls.length : Int) := by omega
      have HRV := Lib.hid hrv; have HQ := Lib.hid hq; have HS := Lib.hid hs; have HT := Lib.hid ht; have HTL := Lib.hid htl; have HTL2 := Lib.hid htl2; have HBW := Lib.hid hbw; clear hrv hq hs ht htl htl2 hbw
      go_wp2
      go_roundw
      case rel => exact ⟨k + 1, by go_num, by omega, by rw [HT.out]; simp, HBW.out⟩
      case measure => simp [intOf]; omega
    · have hkl : totL (ls.take k) = totL ls := by rw [List.take_of_length_le (by omega)]
      rw [hkl]
      have hbX := HB1.out.trans (hbw.mono HB1.out.size)
      obtain ⟨N, hN⟩ : ∃ N, N = totL ls := ⟨_, rfl⟩
      have HR2 := HR.out
      rw [← hN] at HR2 ⊢
      have x3 : ¬ (k : Int) < (ls.length : Int) := by omega
      clear ht htl htl2 htb
      rcases HE0.out with ⟨h0, h1, _⟩ | ⟨h0, h1⟩
      · have e1 : (E == 0) = true := by rw [h0]; rfl
        have e2 : (ls.length == l.length) = true := by rw [h1]; simp
        have e3 : ((ls.length : Int) == (l.length : Int)) = true := by rw [h1]; simp
        rw [decide_eq_true h0, Bool.true_and] at HR2
        by_cases h2 : (N : Int) ≤ knots
        · have d1 : decide ((N : Int) ≤ knots) = true := decide_eq_true h2
          rw [d1] at HR2
          have HKL := Lib.hid hkl; have HBX := Lib.hid hbX; have HN := Lib.hid hN; have HBW := Lib.hid hbw; have H0 := Lib.hid h0; have H1 := Lib.hid h1; have H2 := Lib.hid h2; clear hkl hbX hN hbw h0 h1 h2
          subst HR2
          go_wp2
          go_ret
          exact ⟨rfl, HBX.out⟩
        · have d1 : decide ((N : Int) ≤ knots) = false := decide_eq_false h2
          rw [d1] at HR2
          have HKL := Lib.hid hkl; have HBX := Lib.hid hbX; have HN := Lib.hid hN; have HBW := Lib.hid hbw; have H0 := Lib.hid h0; have H1 := Lib.hid h1; have H2 := Lib.hid h2; clear hkl hbX hN hbw h0 h1 h2
          subst HR2
          go_wp2
          go_ret
          exact ⟨rfl, HBX.out⟩
      · have e1 : (E == 0) = false := by rw [beq_eq_false_iff_ne]; exact h0
        rw [decide_eq_false h0, Bool.false_and] at HR2
        have HKL := Lib.hid hkl; have HBX := Lib.hid hbX; have HN := Lib.hid hN; have HBW := Lib.hid hbw; have H0 := Lib.hid h0; have H1 := Lib.hid h1; clear hkl hbX hN hbw h0 h1
        subst HR2
        go_wp2
        go_ret
        exact ⟨rfl, HBX.out⟩
theorem en_max {l : List (Int × List Int)} {knots : Int} (h : cpE l knots = 0) : enB l knots 1000000000000 = true := by
  unfold cpE at h
  by_cases hz : thsE l = 0
  rotate_left
  · rw [if_pos hz] at h; exact absurd h hz
  rw [if_neg (fun h => h hz)] at h
  have hk : 0 ≤ knots := by
    rcases Int.lt_or_le knots 0 with h1 | h1
    · rw [if_pos (.inl h1)] at h; cases h
    · exact h1
  have hkn : ∀ t, t ∈ l → knM 1000000000000 t = some [] := fun t ht => by
    obtain ⟨k, hk, rfl⟩ := List.mem_iff_getElem.1 ht
    obtain ⟨h1, h2, h3⟩ := thrE_ok (thsE_ok hz k hk)
    have hw : WdP (alF l[k].1 l[k].2) (l[k].2.length + 2) 1000000000000 0 [] := by
      unfold WdP
      rw [alF_0, show l[k].2.length + 2 - 1 = l[k].2.length + 1 by omega, alF_end]
      omega
    obtain ⟨q, hq⟩ := best_ex (by decide) (by omega) (by omega) (alF_mono h1) ⟨_, hw⟩
    have hl := (hq.2 _ hw).1
    have : q = [] := List.eq_nil_of_length_eq_zero (by simpa using hl)
    subst this
    exact knO_some.2 hq
  have hE : wlE l 1000000000000 = 0 := by
    unfold wlE
    rw [if_neg (fun h => h hz), if_neg (by decide), if_neg]
    intro hm
    obtain ⟨t, ht, h2⟩ := List.mem_map.1 hm
    rw [hkn t ht] at h2
    cases h2
  have hT : totL (wlL l 1000000000000) = 0 := by
    unfold wlL
    rw [if_pos hE]
    have : ∀ m : List (Int × List Int), (∀ t, t ∈ m → knM 1000000000000 t = some []) → totL (m.map fun t => (knM 1000000000000 t).getD []) = 0 := by
      intro m
      induction m with
      | nil => exact fun _ => rfl
      | cons t m ih =>
        intro hm
        rw [List.map_cons, totL, hm t (by simp), ih fun t ht => hm t (by simp [ht])]
        rfl
    exact this l hkn
  unfold enB
  rw [hE, hT, decide_eq_true (show ((0 : Nat) : Int) ≤ knots by omega)]
  rfl
end Go.Proofs.Ytdimaapiloojeaa
/- The law BobbinsCapacity. -/
namespace Go.Proofs.Ytdimaapiloojeaa
open Go.RowKit

set_option maxRecDepth 100000 in
set_option maxHeartbeats 4000000 in
theorem lawCapacity_ (A : Option Addr) (c : Nat) (l : List (Int × List Int)) (knots : Int) (w : World) (hr : RdTh w A l) : Calls Try.prog 9 #[.slice A l.length c, .int .i64 knots] w (BoolPost true w) := by
  have hmany := lMany20_ A c l 20 w hr
  have haw := fun W => awake20_ W
  have hmax := @en_max l knots
  obtain ⟨mb, hmb⟩ : ∃ mb, mb = mnB l 20 := ⟨_, rfl⟩
  rw [← hmb] at hmany
  cases mb with
  | true =>
    have HR := Lib.hid hr; have HMANY := Lib.hid hmany; have HAW := Lib.hid haw; have HMB := Lib.hid hmb; have HMAX := Lib.hid hmax; clear hr hmany haw hmb hmax
    go_enter Try.func9, Try.ntmps9
    go_wp2_with fail
    refine HMANY.out.mono ?_
    rintro e w1 ⟨rfl, b1⟩
    have B1 := Lib.hid b1; clear b1
    go_wp2_with fail
    refine (HAW.out _).mono ?_
    rintro e w2 ⟨rfl, b2⟩
    have hb2 := B1.out.trans (b2.mono B1.out.size)
    clear b2
    have HB2 := Lib.hid hb2; clear hb2
    go_wp2
    go_ret
    exact ⟨rfl, HB2.out⟩
  | false =>
    have HR := Lib.hid hr; have HMANY := Lib.hid hmany; have HAW := Lib.hid haw; have HMB := Lib.hid hmb; have HMAX := Lib.hid hmax; clear hr hmany haw hmb hmax
    go_enter Try.func9, Try.ntmps9
    go_wp2_with fail
    refine HMANY.out.mono ?_
    rintro e w1 ⟨rfl, b1⟩
    have hr1 := HR.out.later b1 (Nat.le_refl _)
    have hcap := bCapacity_ A c l knots w1 hr1
    have B1 := Lib.hid b1; have HR1 := Lib.hid hr1; have HCAP := Lib.hid hcap; clear b1 hr1 hcap
    go_wp2_with fail
    refine HCAP.out.mono ?_
    rintro e w2 ⟨r, rfl, hr0, hrr, b2⟩
    have hb2 := B1.out.trans (b2.mono B1.out.size)
    have hr2 := HR1.out.later b2 (Nat.le_refl _)
    clear b2
    obtain ⟨E, hE⟩ : ∃ E, E = cpE l knots := ⟨_, rfl⟩
    rw [← hE] at hr0 hrr HMAX ⊢
    by_cases he : E = 0
    rotate_left
    · obtain rfl := hr0 he
      have e1 : (E == 0) = false := by rw [beq_eq_false_iff_ne]; exact he
      have e2 : (E != 0) = true := by simp [he]
      clear hr0 hrr
      have HB2 := Lib.hid hb2; have HR2 := Lib.hid hr2; have HE := Lib.hid he; clear hb2 hr2 he
      have HEE := Lib.hid hE
      clear hE
      go_wp2_with fail
      refine (HAW.out _).mono ?_
      rintro e w3 ⟨rfl, b3⟩
      have hb3 := HB2.out.trans (b3.mono HB2.out.size)
      clear b3
      have HB3 := Lib.hid hb3; clear hb3
      go_wp2
      go_ret
      exact ⟨rfl, HB3.out⟩
    · obtain ⟨k1, k2, k3, k4⟩ := hrr he
      have hen : enB l knots r = true := by
        rcases Int.lt_or_eq_of_le k2 with h | h
        · exact k4 h
        · rw [h]; exact HMAX.out he
      have hw1 := fun W (hW : Below w2.heap.size w2 W) => lWound20_ A c l r knots W (hr2.later hW (Nat.le_refl _))
      have hw2 := fun W (hW : Below w2.heap.size w2 W) => lWound20_ A c l (r - 1) knots W (hr2.later hW (Nat.le_refl _))
      rw [hen] at hw1
      have d1 : decide (r < 1) = false := decide_eq_false (by omega)
      have d2 : decide (1000000000000 < r) = false := decide_eq_false (by omega)
      have hwr : IntKind.i64.wrap (r - 1) = r - 1 := IntWalk.i64_in _ (by omega)
      subst he
      clear hr0 hrr k4
      by_cases h1 : r = 1
      · subst h1
        have HB2 := Lib.hid hb2; have HR2 := Lib.hid hr2; have HEN := Lib.hid hen; have HW1 := Lib.hid hw1; have HW2 := Lib.hid hw2; have HE := Lib.hid hE; have K1 := Lib.hid k1; have K2 := Lib.hid k2; have K3 := Lib.hid k3; clear hb2 hr2 hen hw1 hw2 hE k1 k2 k3
        go_wp2_with fail
        refine (HW1.out _ (Below.refl _ _)).mono ?_
        rintro e w3 ⟨rfl, b3⟩
        have hb3 := HB2.out.trans (b3.mono HB2.out.size)
        clear b3
        have HB3 := Lib.hid hb3; clear hb3
        go_wp2_with fail
        refine (HAW.out _).mono ?_
        rintro e w4 ⟨rfl, b4⟩
        have hb4 := HB3.out.trans (b4.mono HB3.out.size)
        clear b4
        have HB4 := Lib.hid hb4; clear hb4
        go_wp2
        go_ret
        exact ⟨rfl, HB4.out⟩
      · have d3 : (r == 1) = false := by rw [beq_eq_false_iff_ne]; exact h1
        rw [k3 (by omega)] at hw2
        obtain ⟨r1, hr1e⟩ : ∃ r1, r1 = r - 1 := ⟨_, rfl⟩
        rw [← hr1e] at hw2
        have hwr2 : IntKind.i64.wrap (r - 1) = r1 := by rw [hwr, hr1e]
        clear hwr
        have HB2 := Lib.hid hb2; have HR2 := Lib.hid hr2; have HEN := Lib.hid hen; have HW1 := Lib.hid hw1; have HW2 := Lib.hid hw2; have HE := Lib.hid hE; have K1 := Lib.hid k1; have K2 := Lib.hid k2; have K3 := Lib.hid k3; have H1 := Lib.hid h1; have HR1E := Lib.hid hr1e; clear hb2 hr2 hen hw1 hw2 hE k1 k2 k3 h1 hr1e
        go_wp2_with fail
        refine (HW1.out _ (Below.refl _ _)).mono ?_
        rintro e w3 ⟨rfl, b3⟩
        have hb3 := HB2.out.trans (b3.mono HB2.out.size)
        have HB3 := Lib.hid hb3; have B3 := Lib.hid b3; clear hb3 b3
        go_wp2_with fail
        refine (HW2.out _ B3.out).mono ?_
        rintro e w4 ⟨rfl, b4⟩
        have hb4 := HB3.out.trans (b4.mono HB3.out.size)
        clear b4
        have HB4 := Lib.hid hb4; clear hb4
        go_wp2_with fail
        refine (HAW.out _).mono ?_
        rintro e w5 ⟨rfl, b5⟩
        have hb5 := HB4.out.trans (b5.mono HB4.out.size)
        clear b5
        have HB5 := Lib.hid hb5; clear hb5
        go_wp2
        go_ret
        exact ⟨rfl, HB5.out⟩
end Go.Proofs.Ytdimaapiloojeaa
