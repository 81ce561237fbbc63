/- Texts of this claim, laid together: BoRWn, BoLWi. -/
import Derived.Test.YtdimaapiloojeaaMaN
import Derived.Test.YtdimaapiloojeaaMaQ
/- The reference's Wind and Capacity. -/
namespace Go.Proofs.Ytdimaapiloojeaa
open Go.RowKit

set_option maxRecDepth 100000 in
set_option maxHeartbeats 4000000 in
theorem rall20_ (A : Option Addr) (c : Nat) (l : List (Int × List Int)) (w : World) (hr : RdTh w A l) : Calls Try.prog 47 #[.slice A l.length c] w (IntPost (thsE l) w) := by
  have hln := hr.1
  have hb := Below.refl w.heap.size w
  by_cases h48 : 48 < l.length
  · have hres : thsE l = 3 := by unfold thsE; rw [if_pos h48]
    have f1 : decide ((48 : Int) < (l.length : Int)) = true := decide_eq_true (by omega)
    have HR := Lib.hid hr; have HB := Lib.hid hb; have HRES := Lib.hid hres; clear hr hb hres
    go_enter Try.func47, Try.ntmps47
    go_wp2
    go_ret
    exact ⟨by rw [HRES.out]; rfl, HB.out⟩
  have f1 : decide ((48 : Int) < (l.length : Int)) = false := decide_eq_false (by omega)
  have hres : thsE l = thsE1 l := by unfold thsE; rw [if_neg h48]
  have HR := Lib.hid hr; have HB := Lib.hid hb; have HRES := Lib.hid hres; clear hr hb hres
  go_enter Try.func47, Try.ntmps47
  go_wp2
  clear f1
  go_loopw [3, 4] (fun iv _ wr => ∃ k : Nat, iv = .int .i64 (k : Int) ∧ k ≤ l.length ∧ thsE1 (l.take k) = 0 ∧ Below w.heap.size w wr) (fun iv _ _ => l.length - (intOf iv).toNat)
  case atStart => exact ⟨0, rfl, Nat.zero_le _, rfl, HB.out⟩
  case round =>
    obtain ⟨k, rfl, hk, h0, hbw⟩ := hrel
    by_cases hlt : k < l.length
    · obtain ⟨bl, ol, rfl, hbl, l1, PA, pc, l2, hrp⟩ := (HR.out.later hbw (Nat.le_refl _)).at_ hlt
      obtain ⟨ha1, ha2⟩ := thsE1_at l hlt h0
      have x1 : (0 : Int) ≤ (k : Int) := by omega
      have x2 : (k : Int) < (l.length : Int) := by omega
      generalize l[k] = t at *
      obtain ⟨need, ps⟩ := t
      simp only at l1 l2 hrp ha1 ha2
      have hcall := rCheck20_ need PA pc ps wr hrp
      obtain ⟨E, hE⟩ : ∃ E, E = thrE need ps := ⟨_, rfl⟩
      rw [← hE] at ha1 ha2 hcall
      by_cases h : E = 0
      · have e1 : (E == 0) = true := by rw [h]; rfl
        have e2 : (E != 0) = false := by rw [h]; rfl
        have H0 := Lib.hid h0; have HBW := Lib.hid hbw; have HA1 := Lib.hid ha1; have HA2 := Lib.hid ha2; have HCALL := Lib.hid hcall; have HRP := Lib.hid hrp; have HE := Lib.hid hE; clear h0 hbw ha1 ha2 hcall hrp hE
        go_wp2_with fail
        refine HCALL.out.mono ?_
        rintro e w1 ⟨rfl, b1⟩
        have hb2 := HBW.out.trans (b1.mono HBW.out.size)
        clear b1
        have HB2 := Lib.hid hb2; clear hb2
        go_wp2
        go_roundw
        case rel => exact ⟨k + 1, by go_num, by omega, by rw [HA1.out, h], HB2.out⟩
        case measure => simp [intOf]; omega
      · have e1 : (E == 0) = false := by rw [beq_eq_false_iff_ne]; exact h
        have e2 : (E != 0) = true := by simp [h]
        have hres2 : thsE l = E := by rw [HRES.out, ha2 h]
        have H0 := Lib.hid h0; have HBW := Lib.hid hbw; have HA1 := Lib.hid ha1; have HA2 := Lib.hid ha2; have HCALL := Lib.hid hcall; have HRP := Lib.hid hrp; have HE := Lib.hid hE; have H := Lib.hid h; have HRES2 := Lib.hid hres2; clear h0 hbw ha1 ha2 hcall hrp hE h hres2
        go_wp2_with fail
        refine HCALL.out.mono ?_
        rintro e w1 ⟨rfl, b1⟩
        have hb2 := HBW.out.trans (b1.mono HBW.out.size)
        clear b1
        have HB2 := Lib.hid hb2; clear hb2
        go_wp2
        go_ret
        exact ⟨by rw [HRES2.out]; rfl, HB2.out⟩
    · have hres2 : thsE l = 0 := by
        rw [List.take_of_length_le (by omega)] at h0
        rw [HRES.out, h0]
      have x3 : ¬ (k : Int) < (l.length : Int) := by omega
      have H0 := Lib.hid h0; have HBW := Lib.hid hbw; have HRES2 := Lib.hid hres2; clear h0 hbw hres2
      go_wp2
      go_ret
      exact ⟨by rw [HRES2.out]; rfl, HBW.out⟩
set_option maxRecDepth 100000 in
set_option maxHeartbeats 4000000 in
theorem rWind20_ (A : Option Addr) (c : Nat) (l : List (Int × List Int)) (most : Int) (w : World) (hr : RdTh w A l) :
    Calls Try.prog 24 #[.slice A l.length c, .int .i64 most] w (LLPost (wlL l most) (wlE l most) w) := by
  have hln := hr.1
  obtain ⟨E, hE⟩ : ∃ E, E = wlE l most := ⟨_, rfl⟩
  obtain ⟨L, hL⟩ : ∃ L, L = wlL l most := ⟨_, rfl⟩
  have HEQ := Lib.hid hE
  have HLQ := Lib.hid hL
  unfold wlL at hL
  rw [← hE] at hL
  unfold wlE at hE
  have HR := Lib.hid hr; clear hr
  go_enter Try.func24, Try.ntmps24
  go_wp2_with fail
  refine (rall20_ A c l _ HR.out).mono ?_
  rintro e w1 ⟨rfl, hb1⟩
  have hoks := @thsE_ok l
  by_cases hz0 : thsE l = 0
  rotate_left
  · rw [if_pos hz0] at hE
    generalize thsE l = E0 at *
    have e1 : (E0 == 0) = false := by rw [beq_eq_false_iff_ne]; exact hz0
    have e2 : (E0 != 0) = true := by simp [hz0]
    rw [if_neg (by omega)] at hL
    have hn := LLV.nil w1 w.heap.size
    have HB1 := Lib.hid hb1; have HE := Lib.hid hE; have HL := Lib.hid hL; have HZ0 := Lib.hid hz0; have HOKS := Lib.hid hoks; have HN := Lib.hid hn; clear hb1 hE hL hz0 hoks hn
    go_wp2
    go_loopw [6, 7, 8, 9, 10] (fun ev ov iv _ _ wr => ev = .int .i64 E0 ∧ ov = .slice none 0 0 ∧ iv = .int .i64 0 ∧ wr = w1) (fun _ _ _ _ _ _ => 0)
    case atStart => exact ⟨rfl, rfl, rfl, rfl⟩
    case round =>
      obtain ⟨rfl, rfl, rfl, rfl⟩ := hrel
      by_cases hp0 : 0 < l.length
      · have d1 : decide (0 < l.length) = true := decide_eq_true hp0
        have d2 : decide ((0 : Int) < (l.length : Int)) = true := decide_eq_true (by omega)
        have HP0 := Lib.hid hp0; clear hp0
        go_wp2
        go_ret2
        rw [← HLQ.out, ← HEQ.out, HL.out, HE.out]
        exact ⟨_, rfl, HN.out, HB1.out⟩
      · have d1 : decide (0 < l.length) = false := decide_eq_false hp0
        have d2 : decide ((0 : Int) < (l.length : Int)) = false := decide_eq_false (by omega)
        have HP0 := Lib.hid hp0; clear hp0
        go_wp2
        go_ret2
        rw [← HLQ.out, ← HEQ.out, HL.out, HE.out]
        exact ⟨_, rfl, HN.out, HB1.out⟩
  rw [if_neg (fun h => h hz0)] at hE
  have hok := hoks hz0
  clear hoks
  rw [hz0]
  have h48 := thsE_len hz0
  obtain ⟨om, hom⟩ : ∃ om, om = outR most 1 1000000000000 := ⟨_, rfl⟩
  have hco := fun W => rFrom20_ most 1 1000000000000 W
  rw [← hom] at hE hco
  cases om with
  | true =>
    rw [if_pos rfl] at hE
    rw [if_neg (by omega)] at hL
    have HB1 := Lib.hid hb1; have HE := Lib.hid hE; have HL := Lib.hid hL; have HZ0 := Lib.hid hz0; have HOK := Lib.hid hok; have HCO := Lib.hid hco; have HOM := Lib.hid hom; clear hb1 hE hL hz0 hok hco hom
    go_wp2_with fail
    refine (HCO.out _).mono ?_
    rintro e w2 ⟨rfl, b1⟩
    have hb2 := HB1.out.trans (b1.mono HB1.out.size)
    clear b1
    have hn := LLV.nil w2 w.heap.size
    have HB2 := Lib.hid hb2; have HN := Lib.hid hn; clear hb2 hn
    go_wp2
    go_loopw [6, 7, 8, 9, 10] (fun ev ov iv _ _ wr => ev = .int .i64 2 ∧ ov = .slice none 0 0 ∧ iv = .int .i64 0 ∧ wr = w2) (fun _ _ _ _ _ _ => 0)
    case atStart => exact ⟨rfl, rfl, rfl, rfl⟩
    case round =>
      obtain ⟨rfl, rfl, rfl, rfl⟩ := hrel
      by_cases hp0 : 0 < l.length
      · have d1 : decide (0 < l.length) = true := decide_eq_true hp0
        have d2 : decide ((0 : Int) < (l.length : Int)) = true := decide_eq_true (by omega)
        have HP0 := Lib.hid hp0; clear hp0
        go_wp2
        go_ret2
        rw [← HLQ.out, ← HEQ.out, HL.out, HE.out]
        exact ⟨_, rfl, HN.out, HB2.out⟩
      · have d1 : decide (0 < l.length) = false := decide_eq_false hp0
        have d2 : decide ((0 : Int) < (l.length : Int)) = false := decide_eq_false (by omega)
        have HP0 := Lib.hid hp0; clear hp0
        go_wp2
        go_ret2
        rw [← HLQ.out, ← HEQ.out, HL.out, HE.out]
        exact ⟨_, rfl, HN.out, HB2.out⟩
  | false =>
    rw [if_neg (by decide)] at hE
    have hm0 : 0 ≤ most ∧ most ≤ 1000000000000 := by have := outR_no hom.symm; omega
    have HB1 := Lib.hid hb1; have HE := Lib.hid hE; have HL := Lib.hid hL; have HZ0 := Lib.hid hz0; have HOK := Lib.hid hok; have HCO := Lib.hid hco; have HOM := Lib.hid hom; have HM0 := Lib.hid hm0; clear hb1 hE hL hz0 hok hco hom hm0
    go_wp2_with fail
    refine (HCO.out _).mono ?_
    rintro e w2 ⟨rfl, b1⟩
    have hb2 := HB1.out.trans (b1.mono HB1.out.size)
    clear b1
    have HB2 := Lib.hid hb2; clear hb2
    go_wp2
    go_loopw [6, 7, 8, 9, 10] (fun ev ov iv _ _ wr => ∃ (k : Nat) (e : Int) (vs : List Value) (ls : List (List Nat)), ev = .int .i64 e ∧ iv = .int .i64 (k : Int) ∧ k ≤ l.length ∧ vs.length = k ∧ wr.ownsRow w.heap.size 23 1 ov vs.length vs ∧ ((e = 0 ∧ (l.take k).map (knM most) = ls.map some ∧ VsI wr w.heap.size vs ls) ∨ (e = 4 ∧ none ∈ l.map (knM most))) ∧ Below w.heap.size w wr) (fun _ _ iv _ _ _ => l.length - (intOf iv).toNat)
    case atStart => exact ⟨0, 0, [], [], rfl, rfl, Nat.zero_le _, rfl, ⟨rfl, .inl ⟨rfl, rfl⟩⟩, .inl ⟨rfl, rfl, VsI.nil _ _⟩, HB2.out⟩
    case round =>
      obtain ⟨k, e, vs, ls, rfl, rfl, hk, hvk, hown, hor, hbw⟩ := hrel
      obtain ⟨OA, oc, rfl⟩ := own_slice1 hown
      rcases hor with ⟨rfl, hls, hvs⟩ | ⟨rfl, hnone⟩
      rotate_left
      · have hE2 : E = 4 := by rw [HE.out, if_pos hnone]
        have hL2 : L = [] := by rw [HL.out, if_neg (by rw [hE2]; decide)]
        have hn := LLV.nil wr w.heap.size
        by_cases hlt : k < l.length
        · have d1 : decide (k < l.length) = true := decide_eq_true hlt
          have d2 : decide ((k : Int) < (l.length : Int)) = true := decide_eq_true (by omega)
          have HOWN := Lib.hid hown; have HBW := Lib.hid hbw; have HE2 := Lib.hid hE2; have HL2 := Lib.hid hL2; have HN := Lib.hid hn; have HNONE := Lib.hid hnone; have HVK := Lib.hid hvk; clear hown hbw hE2 hL2 hn hnone hvk
          go_wp2
          go_ret2
          rw [← HLQ.out, ← HEQ.out, HL2.out, HE2.out]
          exact ⟨_, rfl, HN.out, HBW.out⟩
        · have d1 : decide (k < l.length) = false := decide_eq_false hlt
          have d2 : decide ((k : Int) < (l.length : Int)) = false := decide_eq_false (by omega)
          have HOWN := Lib.hid hown; have HBW := Lib.hid hbw; have HE2 := Lib.hid hE2; have HL2 := Lib.hid hL2; have HN := Lib.hid hn; have HNONE := Lib.hid hnone; have HVK := Lib.hid hvk; clear hown hbw hE2 hL2 hn hnone hvk
          go_wp2
          go_ret2
          rw [← HLQ.out, ← HEQ.out, HL2.out, HE2.out]
          exact ⟨_, rfl, HN.out, HBW.out⟩
      by_cases hlt : k < l.length
      · have d1 : decide (k < l.length) = true := decide_eq_true hlt
        have d2 : decide ((k : Int) < (l.length : Int)) = true := decide_eq_true (by omega)
        obtain ⟨bl, ol, rfl, hbl, l1, PA, pc, l2, hrp⟩ := (HR.out.later hbw (Nat.le_refl _)).at_ hlt
        obtain ⟨ho1, ho2, ho3⟩ := thrE_ok (HOK.out k hlt)
        have hmem : l[k] ∈ l := List.getElem_mem hlt
        have htk : (l.take (k + 1)).map (knM most) = (l.take k).map (knM most) ++ [knM most l[k]] := by rw [List.take_succ_eq_append_getElem hlt, List.map_append]; rfl
        have x1 : (0 : Int) ≤ (k : Int) := by omega
        have x2 : (k : Int) < (l.length : Int) := by omega
        generalize l[k] = t at *
        obtain ⟨need, ps⟩ := t
        simp only at l1 l2 hrp ho1 ho2 ho3
        have hcall := rknots20_ need most PA pc ps wr hrp ho2 ho1 ho3 HM0.out
        have HLS := Lib.hid hls; have HOWN := Lib.hid hown; have HVS := Lib.hid hvs; have HBW := Lib.hid hbw; have HCALL := Lib.hid hcall; have HRP := Lib.hid hrp; have HO1 := Lib.hid ho1; have HO2 := Lib.hid ho2; have HO3 := Lib.hid ho3; have HTK := Lib.hid htk; have HMEM := Lib.hid hmem; have HVK := Lib.hid hvk; clear hls hown hvs hbw hcall hrp ho1 ho2 ho3 htk hmem hvk
        go_wp2_with fail
        refine HCALL.out.mono ?_
        rintro e w4 ⟨v, b, rfl, hbr, hv⟩
        have hb4 := HBW.out.trans (hbr.mono HBW.out.size)
        have hsz2 := HBW.out.size
        cases hkn : knM most (need, ps) with
        | none =>
          have hkn9 : knO need ps most = none := hkn
          rw [hkn9] at hv
          obtain ⟨rfl, rfl⟩ := hv
          have hnone : none ∈ l.map (knM most) := List.mem_map.2 ⟨_, HMEM.out, hkn⟩
          have hown4 := own_below3 HOWN.out hbr
          have hs4 := hb4.size
          have hvl : vs.length = k := HVK.out
          have HB4 := Lib.hid hb4; have HBR := Lib.hid hbr; have HKN := Lib.hid hkn; have HKN9 := Lib.hid hkn9; have HOWN4 := Lib.hid hown4; have HNONE := Lib.hid hnone; have HVL := Lib.hid hvl; clear hb4 hbr hkn hkn9 hown4 hnone hvl
          go_wp2_with (
            at_builtin
            go_must (refine wpList_appI2_Try (by rfl) _ _ (by rfl) w.heap.size (.slice OA vs.length oc) vs (by rfl) (HOWN4.out.alloc _) w4.heap.size none 0 0 (by rfl) (heap_alloc_new _ _) (by have := HVL.out; omega) (by simp; omega) ?_)
            intro g cap w5 hown5 hg5 hat5 hlt5
            have ho9 := HOWN4.out.alloc (.cells #[Value.slice none 0 0] 23)
            have hb5 := (HB4.out.alloc hs4 (.cells #[Value.slice none 0 0] 23)).grown hg5 (by simp; omega) (fun k hk => (ho9.lt k hk).1)
            clear ho9 hg5 hat5 hlt5
            have HOWN5 := Lib.hid hown5; have HB5 := Lib.hid hb5; clear hown5 hb5
            skip)
          go_roundw
          case rel => exact ⟨k + 1, 4, vs ++ [Value.slice none 0 0], ls, rfl, by go_num, by omega, by simp; exact HVL.out, HOWN5.out, .inr ⟨rfl, HNONE.out⟩, HB5.out⟩
          case measure => simp [intOf]; omega
        | some q =>
          have hkn9 : knO need ps most = some q := hkn
          rw [hkn9] at hv
          obtain ⟨rfl, hv2⟩ := hv
          obtain ⟨VA, vc, rfl⟩ := own_slice1 hv2
          have hv3 := own_base (base' := w.heap.size) hv2 (by omega)
          have hown4 := own_below3 HOWN.out hbr
          have hvs4 := HVS.out.later hbr
          have hls4 : (l.take (k + 1)).map (knM most) = (ls ++ [q]).map some := by rw [HTK.out, HLS.out, hkn]; simp
          have hs4 := hb4.size
          have hvl : vs.length = k := HVK.out
          clear hv2
          have HB4 := Lib.hid hb4; have HBR := Lib.hid hbr; have HKN := Lib.hid hkn; have HKN9 := Lib.hid hkn9; have HV3 := Lib.hid hv3; have HOWN4 := Lib.hid hown4; have HVS4 := Lib.hid hvs4; have HLS4 := Lib.hid hls4; have HVL := Lib.hid hvl; clear hb4 hbr hkn hkn9 hv3 hown4 hvs4 hls4 hvl
          go_wp2_with (
            at_builtin
            go_must (refine wpList_appI2_Try (by rfl) _ _ (by rfl) w.heap.size (.slice OA vs.length oc) vs (by rfl) (HOWN4.out.alloc _) w4.heap.size VA (outI q).length vc (by rfl) (heap_alloc_new _ _) (by have := HVL.out; omega) (by simp; omega) ?_)
            intro g cap w5 hown5 hg5 hat5 hlt5
            have ho9 := HOWN4.out.alloc (.cells #[Value.slice VA (outI q).length vc] 23)
            have hb5 := (HB4.out.alloc hs4 (.cells #[Value.slice VA (outI q).length vc] 23)).grown hg5 (by simp; omega) (fun k hk => (ho9.lt k hk).1)
            have hvs5 : VsI w5 w.heap.size vs ls := ⟨HVS4.out.1, fun j u hj => own_kept_type ((HVS4.out.2 j u hj).alloc _) ho9 (by decide) hg5⟩
            have hv5 := own_kept_type (HV3.out.alloc (.cells #[Value.slice VA (outI q).length vc] 23)) ho9 (by decide) hg5
            have hvs6 := hvs5.snoc hv5
            clear ho9 hg5 hat5 hlt5 hvs5 hv5
            have HOWN5 := Lib.hid hown5; have HB5 := Lib.hid hb5; have HVS6 := Lib.hid hvs6; clear hown5 hb5 hvs6
            skip)
          go_roundw
          case rel => exact ⟨k + 1, 0, vs ++ [Value.slice VA (outI q).length vc], ls ++ [q], rfl, by go_num, by omega, by simp; exact HVL.out, HOWN5.out, .inl ⟨rfl, HLS4.out, HVS6.out⟩, HB5.out⟩
          case measure => simp [intOf]; omega
      · have hkl : k = l.length := by omega
        have d1 : decide (k < l.length) = false := decide_eq_false hlt
        have d2 : decide ((k : Int) < (l.length : Int)) = false := decide_eq_false (by omega)
        rw [hkl, List.take_length] at hls
        have hE2 : E = 0 := by
          rw [HE.out, if_neg]
          rw [hls]; simp
        have hL2 : L = ls := by
          rw [HL.out, if_pos hE2]
          have h1 : l.map (fun t => (knM most t).getD []) = (l.map (knM most)).map (fun o => o.getD []) := by rw [List.map_map]; rfl
          rw [h1, hls, List.map_map]
          exact (List.map_congr_left (g := id) (fun a _ => rfl)).trans (List.map_id _)
        have hll : LLV wr w.heap.size (.slice OA vs.length oc) ls := ⟨vs, by rw [← hvs.1]; exact hown, hvs⟩
        have HLS := Lib.hid hls; have HOWN := Lib.hid hown; have HVS := Lib.hid hvs; have HBW := Lib.hid hbw; have HE2 := Lib.hid hE2; have HL2 := Lib.hid hL2; have HLL := Lib.hid hll; have HVK := Lib.hid hvk; have HKL := Lib.hid hkl; clear hls hown hvs hbw hE2 hL2 hll hvk hkl
        go_wp2
        go_ret2
        rw [← HLQ.out, ← HEQ.out, HL2.out, HE2.out]
        exact ⟨_, rfl, HLL.out, HBW.out⟩
end Go.Proofs.Ytdimaapiloojeaa
/- The reference's Enough and Capacity; the law BobbinsWinds. -/
namespace Go.Proofs.Ytdimaapiloojeaa
open Go.RowKit

theorem en_of {l : List (Int × List Int)} {m k : Int} (hz : thsE l = 0) (ho : outR m 1 1000000000000 = false) :
    (none ∈ l.map (knM m) → enB l k m = false) ∧ ∀ ls : List (List Nat), l.map (knM m) = ls.map some → enB l k m = decide ((totL ls : Int) ≤ k) := by
  have hE : wlE l m = if none ∈ l.map (knM m) then 4 else 0 := by
    unfold wlE
    rw [if_neg (fun h => h hz), ho, if_neg (by simp)]
  refine ⟨fun h => ?_, fun ls h => ?_⟩
  · unfold enB
    rw [hE, if_pos h]
    rfl
  · have hE2 : wlE l m = 0 := by rw [hE, if_neg (by rw [h]; simp)]
    have hL2 : wlL l m = ls := by
      unfold wlL
      rw [if_pos hE2]
      have h1 : l.map (fun t => (knM m t).getD []) = (l.map (knM m)).map (fun o => o.getD []) := by rw [List.map_map]; rfl
      rw [h1, h, List.map_map]
      exact (List.map_congr_left (g := id) (fun a _ => rfl)).trans (List.map_id _)
    unfold enB
    rw [hE2, hL2]
    rfl
theorem en_mono {l : List (Int × List Int)} {m m' k : Int} (hz : thsE l = 0) (h1 : 1 ≤ m) (h2 : m ≤ m') (h3 : m' ≤ 1000000000000) (h : enB l k m = true) : enB l k m' = true := by
  have ho : outR m 1 1000000000000 = false := by unfold outR; simp; omega
  have ho' : outR m' 1 1000000000000 = false := by unfold outR; simp; omega
  have hno : none ∉ l.map (knM m) := fun hn => by rw [(en_of hz ho).1 hn] at h; cases h
  have hex : ∀ x : List (Int × List Int), (∀ t, t ∈ x → thrE t.1 t.2 = 0) → none ∉ x.map (knM m) → ∃ ls ls' : List (List Nat), x.map (knM m) = ls.map some ∧ x.map (knM m') = ls'.map some ∧ totL ls' ≤ totL ls := by
    intro x
    induction x with
    | nil => exact fun _ _ => ⟨[], [], rfl, rfl, Nat.le_refl _⟩
    | cons t x ih =>
      intro hx hn
      obtain ⟨ls, ls', q1, q2, q3⟩ := ih (fun t ht => hx t (by simp [ht])) (fun hn' => hn (by rw [List.map_cons]; exact List.mem_cons.2 (.inr hn')))
      obtain ⟨a1, a2, a3⟩ := thrE_ok (hx t (by simp))
      cases hk : knM m t with
      | none => exact absurd (by rw [List.map_cons, hk]; simp) hn
      | some q =>
        have hb := knO_some.1 hk
        have hw := WdP.more h2 hb.1
        obtain ⟨q', hq'⟩ := best_ex (by omega) (by omega) (by omega) (alF_mono a1) ⟨q, hw⟩
        have hk' : knM m' t = some q' := knO_some.2 hq'
        have hle := (hq'.2 q hw).1
        refine ⟨q :: ls, q' :: ls', by simp [hk, q1], by simp [hk', q2], ?_⟩
        rw [totL, totL]
        omega
  obtain ⟨ls, ls', q1, q2, q3⟩ := hex l (fun t ht => by
    obtain ⟨j, hj, rfl⟩ := List.mem_iff_getElem.1 ht
    exact thsE_ok hz j hj) hno
  rw [(en_of hz ho).2 ls q1] at h
  rw [(en_of hz ho').2 ls' q2]
  simp at h ⊢
  omega
theorem cap_uniq {l : List (Int × List Int)} {k r s : Int} (hz : thsE l = 0) (hr : 1 ≤ r ∧ r ≤ 1000000000000 ∧ (1 < r → enB l k (r - 1) = false) ∧ (r < 1000000000000 → enB l k r = true)) (hs : 1 ≤ s ∧ s ≤ 1000000000000 ∧ (1 < s → enB l k (s - 1) = false) ∧ (s < 1000000000000 → enB l k s = true)) : r = s := by
  have key : ∀ {r s : Int}, 1 ≤ r → s ≤ 1000000000000 → (1 < s → enB l k (s - 1) = false) → (r < 1000000000000 → enB l k r = true) → ¬ r < s := fun {r s} a b c d h => by
    have h1 := en_mono hz a (show r ≤ s - 1 by omega) (by omega) (d (by omega))
    rw [c (by omega)] at h1
    cases h1
  have h1 := key hr.1 hs.2.1 hs.2.2.1 hr.2.2.2
  have h2 := key hs.1 hr.2.1 hr.2.2.1 hs.2.2.2
  omega
set_option maxRecDepth 100000 in
set_option maxHeartbeats 4000000 in
theorem rEnough20_ (A : Option Addr) (c : Nat) (l : List (Int × List Int)) (most lim : Int) (w : World) (hr : RdTh w A l) (hz : thsE l = 0) (ho : outR most 1 1000000000000 = false) :
    Calls Try.prog 51 #[.slice A l.length c, .int .i64 most, .int .i64 lim] w (BoolPost (enB l lim most) w) := by
  have h48 := thsE_len hz
  have hb := Below.refl w.heap.size w
  obtain ⟨R, hRq⟩ : ∃ R, R = enB l lim most := ⟨_, rfl⟩
  have hen := en_of (l := l) (m := most) (k := lim) hz ho
  rw [← hRq] at hen ⊢
  have hok := thsE_ok hz
  have hm0 : 0 ≤ most ∧ most ≤ 1000000000000 := by have := outR_no ho; omega
  have HR := Lib.hid hr; have HZ := Lib.hid hz; have HO := Lib.hid ho; have HB := Lib.hid hb; have HRQ := Lib.hid hRq; have HEN := Lib.hid hen; have HOK := Lib.hid hok; have HM0 := Lib.hid hm0; clear hr hz ho hb hRq hen hok hm0
  go_enter Try.func51, Try.ntmps51
  go_wp2
  go_loopw [7, 8, 9, 10] (fun nv iv _ _ wr => ∃ (k : Nat) (ls : List (List Nat)), iv = .int .i64 (k : Int) ∧ k ≤ l.length ∧ nv = .int .i64 (totL ls : Int) ∧ (l.take k).map (knM most) = ls.map some ∧ totL ls ≤ 201 * k ∧ Below w.heap.size w wr) (fun _ iv _ _ _ => l.length - (intOf iv).toNat)
  case atStart => exact ⟨0, [], rfl, Nat.zero_le _, rfl, rfl, by simp [totL], HB.out⟩
  case round =>
    obtain ⟨k, ls, rfl, hk, rfl, hls, htt, hbw⟩ := hrel
    by_cases hlt : k < l.length
    · obtain ⟨bl, ol, rfl, hbl, l1, PA, pc, l2, hrp⟩ := (HR.out.later hbw (Nat.le_refl _)).at_ hlt
      obtain ⟨ho1, ho2, ho3⟩ := thrE_ok (HOK.out k hlt)
      have hmem : l[k] ∈ l := List.getElem_mem hlt
      have htk : (l.take (k + 1)).map (knM most) = (l.take k).map (knM most) ++ [knM most l[k]] := by rw [List.take_succ_eq_append_getElem hlt, List.map_append]; rfl
      have x1 : (0 : Int) ≤ (k : Int) := by omega
      have x2 : (k : Int) < (l.length : Int) := by omega
      generalize l[k] = t at *
      obtain ⟨need, ps⟩ := t
      simp only at l1 l2 hrp ho1 ho2 ho3
      have hcall := rknots20_ need most PA pc ps wr hrp ho2 ho1 ho3 HM0.out
      obtain ⟨s, hs⟩ : ∃ s, s = totL ls := ⟨_, rfl⟩
      rw [← hs] at htt ⊢
      have HLS := Lib.hid hls; have HBW := Lib.hid hbw; have HCALL := Lib.hid hcall; have HRP := Lib.hid hrp; have HO1 := Lib.hid ho1; have HO2 := Lib.hid ho2; have HO3 := Lib.hid ho3; have HTK := Lib.hid htk; have HMEM := Lib.hid hmem; have HS := Lib.hid hs; clear hls hbw hcall hrp ho1 ho2 ho3 htk hmem hs
      go_wp2_with fail
      refine HCALL.out.mono ?_
      rintro e w4 ⟨v, b, rfl, hbr, hv⟩
      have hb4 := HBW.out.trans (hbr.mono HBW.out.size)
      cases hkn : knM most (need, ps) with
      | none =>
        have hkn9 : knO need ps most = none := hkn
        rw [hkn9] at hv
        obtain ⟨rfl, rfl⟩ := hv
        have hres : R = false := HEN.out.1 (List.mem_map.2 ⟨_, HMEM.out, hkn⟩)
        have HB4 := Lib.hid hb4; have HBR := Lib.hid hbr; have HKN := Lib.hid hkn; have HKN9 := Lib.hid hkn9; have HRES := Lib.hid hres; clear hb4 hbr hkn hkn9 hres
        go_wp2
        go_ret
        exact ⟨by rw [HRES.out]; rfl, HB4.out⟩
      | some q =>
        have hkn9 : knO need ps most = some q := hkn
        rw [hkn9] at hv
        obtain ⟨rfl, hv2⟩ := hv
        obtain ⟨VA, vc, rfl⟩ := own_slice1 hv2
        rw [outI_len]
        have hls4 : (l.take (k + 1)).map (knM most) = (ls ++ [q]).map some := by rw [HTK.out, HLS.out, hkn]; simp
        have hql := knO_len hkn9
        have hps2 := HO2.out
        have htq : totL (ls ++ [q]) = s + q.length := by rw [totL_app, totL, totL, HS.out]; omega
        have hw9 : IntKind.i64.wrap ((s : Int) + (q.length : Int)) = (s : Int) + (q.length : Int) := IntWalk.i64_in _ (by omega)
        clear hv2
        have hq2 : q.length ≤ 201 := by omega
        clear hql hps2
        have HB4 := Lib.hid hb4; have HBR := Lib.hid hbr; have HKN := Lib.hid hkn; have HKN9 := Lib.hid hkn9; have HLS4 := Lib.hid hls4; have HTQ := Lib.hid htq; clear hb4 hbr hkn hkn9 hls4 htq
        go_wp2
        go_roundw
        case rel => exact ⟨k + 1, ls ++ [q], by go_num, by omega, by rw [HTQ.out]; simp, HLS4.out, by rw [HTQ.out]; omega, HB4.out⟩
        case measure => simp [intOf]; omega
    · rw [List.take_of_length_le (by omega)] at hls
      have hres := HEN.out.2 ls hls
      obtain ⟨s, hs⟩ : ∃ s, s = totL ls := ⟨_, rfl⟩
      rw [← hs] at hres htt ⊢
      have x3 : ¬ (k : Int) < (l.length : Int) := by omega
      by_cases h1 : (s : Int) ≤ lim
      · have d1 : decide ((s : Int) ≤ lim) = true := decide_eq_true h1
        rw [d1] at hres
        have HLS := Lib.hid hls; have HBW := Lib.hid hbw; have HRES := Lib.hid hres; have HS := Lib.hid hs; have H1 := Lib.hid h1; clear hls hbw hres hs h1
        go_wp2
        go_ret
        exact ⟨by rw [HRES.out]; rfl, HBW.out⟩
      · have d1 : decide ((s : Int) ≤ lim) = false := decide_eq_false h1
        rw [d1] at hres
        have HLS := Lib.hid hls; have HBW := Lib.hid hbw; have HRES := Lib.hid hres; have HS := Lib.hid hs; have H1 := Lib.hid h1; clear hls hbw hres hs h1
        go_wp2
        go_ret
        exact ⟨by rw [HRES.out]; rfl, HBW.out⟩
set_option maxRecDepth 100000 in
set_option maxHeartbeats 4000000 in
theorem rCapacity20_ (A : Option Addr) (c : Nat) (l : List (Int × List Int)) (knots : Int) (w : World) (hr : RdTh w A l) :
    Calls Try.prog 26 #[.slice A l.length c, .int .i64 knots] w (CapPost l knots w) := by
  obtain ⟨E, hE⟩ : ∃ E, E = cpE l knots := ⟨_, rfl⟩
  have HEQ := Lib.hid hE
  unfold cpE at hE
  have HR := Lib.hid hr; clear hr
  go_enter Try.func26, Try.ntmps26
  go_wp2_with fail
  refine (rall20_ A c l _ HR.out).mono ?_
  rintro e w3 ⟨rfl, hb3⟩
  by_cases hz : thsE l = 0
  rotate_left
  · rw [if_pos hz] at hE
    generalize thsE l = E0 at *
    have e1 : (E0 == 0) = false := by rw [beq_eq_false_iff_ne]; exact hz
    have e2 : (E0 != 0) = true := by simp [hz]
    have HB3 := Lib.hid hb3; have HE := Lib.hid hE; have HZ := Lib.hid hz; clear hb3 hE hz
    go_wp2
    go_ret2
    refine ⟨0, ?_, fun _ => rfl, fun h => ?_, HB3.out⟩
    · rw [← HEQ.out, HE.out]; rfl
    · rw [← HEQ.out, HE.out] at h; exact absurd h HZ.out
  rw [if_neg (fun h => h hz)] at hE
  rw [hz]
  by_cases hk : knots < 0
  · have d1 : decide (knots < 0) = true := decide_eq_true hk
    rw [if_pos (.inl hk)] at hE
    have HB3 := Lib.hid hb3; have HE := Lib.hid hE; have HZ := Lib.hid hz; have HK := Lib.hid hk; clear hb3 hE hz hk
    go_wp2
    go_ret2
    refine ⟨0, ?_, fun _ => rfl, fun h => ?_, HB3.out⟩
    · rw [← HEQ.out, HE.out]; rfl
    · rw [← HEQ.out, HE.out] at h; cases h
  have d1 : decide (knots < 0) = false := decide_eq_false hk
  by_cases hk2 : 10000 < knots
  · have d2 : decide (10000 < knots) = true := decide_eq_true hk2
    rw [if_pos (.inr hk2)] at hE
    have HB3 := Lib.hid hb3; have HE := Lib.hid hE; have HZ := Lib.hid hz; have HK := Lib.hid hk; clear hb3 hE hz hk
    go_wp2
    go_ret2
    refine ⟨0, ?_, fun _ => rfl, fun h => ?_, HB3.out⟩
    · rw [← HEQ.out, HE.out]; rfl
    · rw [← HEQ.out, HE.out] at h; cases h
  have d2 : decide (10000 < knots) = false := decide_eq_false hk2
  rw [if_neg (by omega)] at hE
  have HB3 := Lib.hid hb3; have HE := Lib.hid hE; have HZ := Lib.hid hz; have HK := Lib.hid hk; have HK2 := Lib.hid hk2; clear hb3 hE hz hk hk2
  go_wp2
  clear d1 d2
  go_loopw [7, 8, 9] (fun lv hv _ wr => ∃ lo hi : Int, lv = .int .i64 lo ∧ hv = .int .i64 hi ∧ (0 ≤ lo ∧ lo < hi ∧ hi ≤ 1000000000000) ∧ (0 < lo → enB l knots lo = false) ∧ (hi < 1000000000000 → enB l knots hi = true) ∧ Below w.heap.size w wr) (fun lv hv _ _ => (intOf hv - intOf lv).toNat)
  case atStart => exact ⟨0, 1000000000000, rfl, rfl, by omega, fun h => absurd h (by omega), fun h => absurd h (by omega), HB3.out⟩
  case round =>
    obtain ⟨lo, hi, rfl, rfl, hrg, hlo, hhi, hbw⟩ := hrel
    obtain ⟨s, hs⟩ : ∃ s, s = lo + hi := ⟨_, rfl⟩
    obtain ⟨m, hm⟩ : ∃ m, m = s / 2 := ⟨_, rfl⟩
    obtain ⟨df, hdf⟩ : ∃ df, df = hi - lo := ⟨_, rfl⟩
    have hw1 : IntKind.i64.wrap (lo + hi) = s := (IntWalk.i64_in _ (by omega)).trans hs.symm
    have hw2 : IntKind.i64.wrap (hi - lo) = df := (IntWalk.i64_in _ (by omega)).trans hdf.symm
    have hq : s.tdiv 2 = m := by rw [Int.tdiv_eq_ediv_of_nonneg (by omega), hm]
    have hwm : IntKind.i64.wrap m = m := IntWalk.i64_in _ (by omega)
    by_cases hlt : 1 < df
    · have d3 : decide (1 < df) = true := decide_eq_true hlt
      have hom : outR m 1 1000000000000 = false := by unfold outR; simp; omega
      have hcall := rEnough20_ A c l m knots wr (HR.out.later hbw (Nat.le_refl _)) HZ.out hom
      have hmr : lo < m ∧ m < hi := by omega
      obtain ⟨p, hp⟩ : ∃ p, p = enB l knots m := ⟨_, rfl⟩
      rw [← hp] at hcall
      cases p with
      | true =>
        have HRG := Lib.hid hrg; have HLO := Lib.hid hlo; have HHI := Lib.hid hhi; have HBW := Lib.hid hbw; have HS := Lib.hid hs; have HM := Lib.hid hm; have HDF := Lib.hid hdf; have HLT := Lib.hid hlt; have HOM := Lib.hid hom; have HCALL := Lib.hid hcall; have HMR := Lib.hid hmr; have HP := Lib.hid hp; clear hrg hlo hhi hbw hs hm hdf hlt hom hcall hmr hp
        go_wp2_with fail
        refine HCALL.out.mono ?_
        rintro e w4 ⟨rfl, b4⟩
        have hb4 := HBW.out.trans (b4.mono HBW.out.size)
        clear b4
        have HB4 := Lib.hid hb4; clear hb4
        go_wp2
        go_roundw
        case rel => exact ⟨lo, m, rfl, rfl, by have := HRG.out; have := HMR.out; omega, HLO.out, fun _ => HP.out.symm, HB4.out⟩
        case measure => have := HRG.out; have := HMR.out; simp [intOf]; omega
      | false =>
        have HRG := Lib.hid hrg; have HLO := Lib.hid hlo; have HHI := Lib.hid hhi; have HBW := Lib.hid hbw; have HS := Lib.hid hs; have HM := Lib.hid hm; have HDF := Lib.hid hdf; have HLT := Lib.hid hlt; have HOM := Lib.hid hom; have HCALL := Lib.hid hcall; have HMR := Lib.hid hmr; have HP := Lib.hid hp; clear hrg hlo hhi hbw hs hm hdf hlt hom hcall hmr hp
        go_wp2_with fail
        refine HCALL.out.mono ?_
        rintro e w4 ⟨rfl, b4⟩
        have hb4 := HBW.out.trans (b4.mono HBW.out.size)
        clear b4
        have HB4 := Lib.hid hb4; clear hb4
        go_wp2
        go_roundw
        case rel => exact ⟨m, hi, rfl, rfl, by have := HRG.out; have := HMR.out; omega, fun _ => HP.out.symm, HHI.out, HB4.out⟩
        case measure => have := HRG.out; have := HMR.out; simp [intOf]; omega
    · have d3 : decide (1 < df) = false := decide_eq_false hlt
      have hfin : 1 ≤ hi ∧ hi ≤ 1000000000000 ∧ (1 < hi → enB l knots (hi - 1) = false) ∧ (hi < 1000000000000 → enB l knots hi = true) := ⟨by omega, hrg.2.2, fun h => by
        have e : hi - 1 = lo := by omega
        rw [e]
        exact hlo (by omega), hhi⟩
      have HRG := Lib.hid hrg; have HLO := Lib.hid hlo; have HHI := Lib.hid hhi; have HBW := Lib.hid hbw; have HS := Lib.hid hs; have HM := Lib.hid hm; have HDF := Lib.hid hdf; have HLT := Lib.hid hlt; have HFIN := Lib.hid hfin; clear hrg hlo hhi hbw hs hm hdf hlt hfin
      go_wp2
      go_ret2
      refine ⟨hi, ?_, fun h => ?_, fun _ => HFIN.out, HBW.out⟩
      · rw [← HEQ.out, HE.out]; rfl
      · rw [← HEQ.out, HE.out] at h; exact absurd rfl h
set_option maxRecDepth 100000 in
set_option maxHeartbeats 8000000 in
theorem lawWinds_ (A : Option Addr) (c : Nat) (l : List (Int × List Int)) (most knots : Int) (w : World) (hr : RdTh w A l) : Calls Try.prog 6 #[.slice A l.length c, .int .i64 most, .int .i64 knots] w (BoolPost true w) := by
  have hmany := lMany20_ A c l 6 w hr
  have haw := fun W => awake20_ W
  obtain ⟨mb, hmb⟩ : ∃ mb, mb = mnB l 6 := ⟨_, rfl⟩
  rw [← hmb] at hmany
  have hlt9 := wlL_tot l most
  have hle9 := @wlE_ths l most
  have hln9 := @thsE_len l
  have hwl9 := wlL_len l most
  cases mb with
  | true =>
    have HR := Lib.hid hr; have HMANY := Lib.hid hmany; have HAW := Lib.hid haw; have HMB := Lib.hid hmb; have HLT9 := Lib.hid hlt9; have HLE9 := Lib.hid hle9; have HLN9 := Lib.hid hln9; have HWL9 := Lib.hid hwl9; clear hr hmany haw hmb hlt9 hle9 hln9 hwl9
    go_enter Try.func6, Try.ntmps6
    go_wp2_with fail
    refine HMANY.out.mono ?_
    rintro e w1 ⟨rfl, b1⟩
    have B1 := Lib.hid b1; clear b1
    go_wp2_with fail
    refine (HAW.out _).mono ?_
    rintro e w2 ⟨rfl, b2⟩
    have hb2 := B1.out.trans (b2.mono B1.out.size)
    clear b2
    have HB2 := Lib.hid hb2; clear hb2
    go_wp2
    go_ret
    exact ⟨rfl, HB2.out⟩
  | false =>
    have h1 := fun (W : World) (hW : Below w.heap.size w W) => bWindAll_ A c l most W (hr.later hW (Nat.le_refl _))
    have h2 := fun (W : World) (hW : Below w.heap.size w W) => rWind20_ A c l most W (hr.later hW (Nat.le_refl _))
    have h3 := fun (W : World) (hW : Below w.heap.size w W) => bCapacity_ A c l knots W (hr.later hW (Nat.le_refl _))
    have h4 := fun (W : World) (hW : Below w.heap.size w W) => rCapacity20_ A c l knots W (hr.later hW (Nat.le_refl _))
    obtain ⟨E, hE⟩ : ∃ E, E = wlE l most := ⟨_, rfl⟩
    obtain ⟨ls, hls⟩ : ∃ ls, ls = wlL l most := ⟨_, rfl⟩
    have hbnd : ls.length ≤ 48 ∧ totL ls ≤ 9648 := by
      rw [hls]
      by_cases h : wlE l most = 0
      · have q2 := hle9 h
        have q3 := hlt9 q2
        have q4 := hln9 q2
        have q5 := hwl9 h
        omega
      · unfold wlL
        rw [if_neg h]
        simp [totL]
    have hlk : ∀ k, k < ls.length → (ls.getD k []).length ≤ 9648 := fun k hk => by
      have q1 := totL_take ls hk
      have q2 := totL_le ls (k + 1)
      omega
    have hls48 := hbnd.1
    rw [← hE, ← hls] at h1 h2
    have eE : (E == E) = true := by simp
    have eE2 : (E != E) = false := by simp
    obtain ⟨G, hG⟩ : ∃ G, G = cpE l knots := ⟨_, rfl⟩
    have hths : G = 0 → thsE l = 0 := fun h => by
      rw [hG] at h
      unfold cpE at h
      by_cases hz : thsE l = 0
      · exact hz
      · rw [if_pos hz] at h; exact absurd h hz
    have eG : (G == G) = true := by simp
    have eG2 : (G != G) = false := by simp
    have HR := Lib.hid hr; have HMANY := Lib.hid hmany; have HAW := Lib.hid haw; have HMB := Lib.hid hmb; have HLT9 := Lib.hid hlt9; have HLE9 := Lib.hid hle9; have HLN9 := Lib.hid hln9; have HWL9 := Lib.hid hwl9; have H1 := Lib.hid h1; have H2 := Lib.hid h2; have H3 := Lib.hid h3; have H4 := Lib.hid h4; have HE := Lib.hid hE; have HLS := Lib.hid hls; have HLK := Lib.hid hlk; have HBND := Lib.hid hbnd; have HG := Lib.hid hG; have HTHS := Lib.hid hths; clear hr hmany haw hmb hlt9 hle9 hln9 hwl9 h1 h2 h3 h4 hE hls hlk hbnd hG hths
    go_enter Try.func6, Try.ntmps6
    go_wp2_with fail
    refine HMANY.out.mono ?_
    rintro e w1 ⟨rfl, b1⟩
    have B1 := Lib.hid b1; clear b1
    go_wp2_with fail
    refine (H1.out w1 B1.out).mono ?_
    rintro e w2 ⟨v, rfl, hv2, b2⟩
    obtain ⟨vs, hov, _⟩ := id hv2
    obtain ⟨VA, vc, rfl⟩ := own_slice1 hov
    have hb2 := B1.out.trans (b2.mono B1.out.size)
    clear b2 hov
    have HB2 := Lib.hid hb2; have HV2 := Lib.hid hv2; clear hb2 hv2
    go_wp2_with fail
    refine (H2.out w2 HB2.out).mono ?_
    rintro e w3 ⟨v, rfl, hv3, b3⟩
    obtain ⟨ws, hov, _⟩ := id hv3
    obtain ⟨WA, wc9, rfl⟩ := own_slice1 hov
    have hb3 := HB2.out.trans (b3.mono HB2.out.size)
    have hq3 := HV2.out.later b3
    clear b3 hov
    have HB3 := Lib.hid hb3; have HV3 := Lib.hid hv3; have HQ3 := Lib.hid hq3; clear hb3 hv3 hq3
    go_wp2_with fail
    refine (H3.out w3 HB3.out).mono ?_
    rintro e w4 ⟨r, rfl, ra, rb, b4⟩
    have hb4 := HB3.out.trans (b4.mono HB3.out.size)
    have hq4 := HQ3.out.later b4
    have hv4 := HV3.out.later b4
    clear b4
    rw [← HG.out] at ra rb ⊢
    have HB4 := Lib.hid hb4; have HV4 := Lib.hid hv4; have HQ4 := Lib.hid hq4; have RA := Lib.hid ra; have RB := Lib.hid rb; clear hb4 hv4 hq4 ra rb
    go_wp2_with fail
    refine (H4.out w4 HB4.out).mono ?_
    rintro e w5 ⟨s, rfl, sa, sb, b5⟩
    have hb5 := HB4.out.trans (b5.mono HB4.out.size)
    have hq5 := HQ4.out.later b5
    have hv5 := HV4.out.later b5
    clear b5
    rw [← HG.out] at sa sb ⊢
    have hrs : r = s := by
      by_cases h : G = 0
      · exact cap_uniq (HTHS.out h) (RB.out h) (sb h)
      · rw [RA.out h, sa h]
    subst hrs
    have er : (r == r) = true := by simp
    have er2 : (r != r) = false := by simp
    clear sa sb
    have HB5 := Lib.hid hb5; have HQ5 := Lib.hid hq5; have HV5 := Lib.hid hv5; clear hb5 hq5 hv5
    go_wp2
    clear eE eE2 eG eG2 er er2
    go_loopw [15] (fun iv wr => ∃ k : Nat, iv = .int .i64 (k : Int) ∧ k ≤ ls.length ∧ Below w5.heap.size w5 wr) (fun iv _ => ls.length - (intOf iv).toNat)
    case atStart => exact ⟨0, rfl, Nat.zero_le _, Below.refl _ _⟩
    case round =>
      obtain ⟨k, rfl, hk, hbw⟩ := hrel
      have hbX := HB5.out.trans (hbw.mono HB5.out.size)
      by_cases hlt : k < ls.length
      · obtain ⟨ba, rfl, hba, XA, xc, l1, hxa⟩ := (HQ5.out.later hbw).at_ hlt (Nat.le_trans (HLK.out k hlt) (by omega))
        obtain ⟨bb, rfl, hbb, YA, yc, l2, hya⟩ := (HV5.out.later hbw).at_ hlt (Nat.le_trans (HLK.out k hlt) (by omega))
        obtain ⟨xs, hxs⟩ : ∃ xs, xs = outI (ls.getD k []) := ⟨_, rfl⟩
        rw [← hxs] at l1 l2 hxa hya
        have hints := fun (W : World) (hW : Below wr.heap.size wr W) => (show Calls Try.prog 21 #[.slice XA xs.length xc, .slice YA xs.length yc] W (BoolPost true W) by
          have h := lInts20_ XA YA xc yc xs xs W (hxa.later hW (Nat.le_refl _)) (hya.later hW (Nat.le_refl _))
          rw [decide_eq_true rfl] at h
          exact h)
        have x1 : (0 : Int) ≤ (k : Int) := by omega
        have x2 : (k : Int) < (ls.length : Int) := by omega
        have HBW := Lib.hid hbw; have HBX := Lib.hid hbX; have HXS := Lib.hid hxs; have HXA := Lib.hid hxa; have HYA := Lib.hid hya; have HINTS := Lib.hid hints; clear hbw hbX hxs hxa hya hints
        go_upto_region 12 with fail
        have hbelc : ∀ (u : Bel wr.heap.size wr) b o, b < wr.heap.size → u.wd.cell? ⟨b, o, none⟩ = wr.cell? ⟨b, o, none⟩ := fun u b o h => u.h.cell (p := ⟨b, o, none⟩) h
        have hbeln : Nonempty (Bel wr.heap.size wr) := ⟨⟨wr, Below.refl _ _⟩⟩
        refine wp_region_bel wr.heap.size (by kernel_rfl) (by kernel_rfl) ?_
        repeat (go_big_quiet_step ((go_at_call 21; exact quiet_bel (Nat.le_refl _) (HINTS.out _ (Bel.h _)))))
        refine wpQuiet_nil ?_
        intro wB hB0; obtain ⟨uB, hu⟩ := hB0; have hbB0 := uB.h; rw [← hu] at hbB0; clear hu uB hbelc hbeln
        obtain ⟨hbB, hcB, hsB⟩ := bcell2 hbB0; clear hbB0
        have hbY := HBW.out.trans (hbB.mono HBW.out.size)
        clear hbB hcB hsB l1 l2
        have HBY := Lib.hid hbY; clear hbY
        go_wp2
        go_roundw
        case rel => exact ⟨k + 1, by go_num, by omega, HBY.out⟩
        case measure => simp [intOf]; omega
      · have x3 : ¬ (k : Int) < (ls.length : Int) := by omega
        have HBW := Lib.hid hbw; have HBX := Lib.hid hbX; clear hbw hbX
        go_wp2_with fail
        refine (HAW.out _).mono ?_
        rintro e w8 ⟨rfl, b8⟩
        have hb8 := HBX.out.trans (b8.mono HBX.out.size)
        clear b8
        have HB8 := Lib.hid hb8; clear hb8
        go_wp2
        go_ret
        exact ⟨rfl, HB8.out⟩
end Go.Proofs.Ytdimaapiloojeaa
