/- The program's Swaps. -/
import Derived.Test.YtifpkdajfdlgeaaTrSwapR
namespace Go.Proofs.Ytifpkdajfdlgeaa
open Go.RowKit

theorem own_slice {w : World} {base e n : Nat} {v : Value} {xs : List Value} (h : w.ownsRow base e 1 v n xs) : ∃ A c, v = .slice A n c := by
  rcases h.2 with ⟨rfl, h0⟩ | ⟨g, cap, cur, rfl, _⟩
  · exact ⟨none, 0, by rw [h0]⟩
  · exact ⟨_, cap, rfl⟩

set_option maxRecDepth 100000 in
set_option maxHeartbeats 4000000 in
theorem tSwaps_ (p q : Int) (A B : Option Addr) (c d : Nat) (ws vs : List GW) (w : World) (ha : ShIn w p A ws) (hb : ShIn w q B vs) :
    Calls Try.prog 24 #[.agg #[.int .i64 p, .slice A ws.length c], .agg #[.int .i64 q, .slice B vs.length d]] w (ListPost (swapsL (matchErr p ws q vs) (matchL p ws q vs)) (swapsX (matchErr p ws q vs) (matchL p ws q vs)) w) := by
  obtain ⟨hperm, hl400⟩ := matchL_perm p ws q vs
  have hb2 : Below w.heap.size w ((w.alloc (.cells #[.int .i64 p, .slice A ws.length c] 24)).alloc (.cells #[.int .i64 q, .slice B vs.length d] 24)) := ((Below.refl _ _).alloc (Nat.le_refl _) _).alloc (by simp) _
  have HA := Lib.hid ha; have HB := Lib.hid hb; have HB2 := Lib.hid hb2; have HPERM := Lib.hid hperm; clear ha hb hb2 hperm
  by_cases he : matchErr p ws q vs = 0
  rotate_left
  · have hx : swapsX (matchErr p ws q vs) (matchL p ws q vs) = matchErr p ws q vs := by unfold swapsX; rw [if_neg he]
    have hl : swapsL (matchErr p ws q vs) (matchL p ws q vs) = [] := by unfold swapsL; rw [if_neg he]
    rw [hx, hl]
    have heb : (matchErr p ws q vs != 0) = true := by simpa using he
    clear hx hl he
    go_enter Try.func24, Try.ntmps24
    go_wp2_with fail
    refine (tMatchU_ p q A B c d ws vs _ (HA.out.later HB2.out (Nat.le_refl _)) (HB.out.later HB2.out (Nat.le_refl _))).mono ?_; rintro e w1 ⟨_, rfl, ⟨L, k1, rfl, hL⟩, hb1⟩
    go_wp2
    go_ret2
    exact ⟨.slice none 0 0, rfl, RdV.nil _, HB2.out.trans (hb1.mono (by simp; omega))⟩
  · have hl : swapsL (matchErr p ws q vs) (matchL p ws q vs) = (swapsO (matchL p ws q vs)).getD [] := by unfold swapsL; rw [if_pos he]
    have hx : swapsX (matchErr p ws q vs) (matchL p ws q vs) = if (swapsO (matchL p ws q vs)).isSome = true then 0 else 5 := by unfold swapsX; rw [if_pos he]
    have HX := Lib.hid hx; have HLS := Lib.hid hl
    clear hx hl
    generalize hXe : swapsX (matchErr p ws q vs) (matchL p ws q vs) = X at *
    generalize hYe : swapsL (matchErr p ws q vs) (matchL p ws q vs) = Y at *
    clear hXe hYe
    have hme := he
    have HE := Lib.hid he; clear he
    go_enter Try.func24, Try.ntmps24
    go_wp2_with fail
    refine (tMatchU_ p q A B c d ws vs _ (HA.out.later HB2.out (Nat.le_refl _)) (HB.out.later HB2.out (Nat.le_refl _))).mono ?_
    rw [hme]
    rintro e w1 ⟨_, rfl, ⟨L, k1, rfl, hL⟩, hb1⟩
    have Y1 := Lib.hid (HB2.out.trans (hb1.mono (by simp; omega))); clear hb1 hme
    generalize matchL p ws q vs = l at *
    have HLR := Lib.hid hL; clear hL
    have hmk := run_make_row' (P := Try.prog) 30 3 (.int .i64 0) 8 Try.underlying30 info_int_Try rfl .i64 .i64 l.length (by omega) (by omega)
    go_wp2
    clear hmk
    have hw1 : w.heap.size ≤ w1.heap.size := Y1.out.size
    have hm0 : IntsB (w1.alloc (.cells (madeCells #[.int .i64 0] l.length) 3)) w1.heap.size (toK l 0) := IntsB.made _ _
    have hb12 : Below w1.heap.size w1 (w1.alloc (.cells (madeCells #[.int .i64 0] l.length) 3)) := (Below.refl _ _).alloc (Nat.le_refl _) _
    have HB12 := Lib.hid hb12; have HM0 := Lib.hid hm0; clear hb12 hm0
    go_loopw [27] (fun iv wr => ∃ k : Nat, iv = .int .i64 k ∧ k ≤ l.length ∧ IntsB wr w1.heap.size (toK l k) ∧ Below w1.heap.size w1 wr) (fun iv _ => l.length - (intOf iv).toNat)
    case atStart => exact ⟨0, rfl, Nat.zero_le _, HM0.out, HB12.out⟩
    case round =>
      obtain ⟨k, rfl, hk, hT, hbw⟩ := hrel
      by_cases hlt : k < l.length
      · obtain ⟨b, off, rfl, hbL, h1⟩ := (HLR.out.later hbw (Nat.le_refl _)).at_ hlt
        obtain ⟨i, hi, hil⟩ := HPERM.out.at_ hlt
        rw [hi] at h1
        have hgd : l.getD k 0 = i := by simp [List.getD_eq_getElem?_getD, hlt, hi]
        have HGD := Lib.hid hgd; clear hgd hi
        have hc := hT.cell (j := i) (by rw [toK_length]; exact hil)
        have hf := hT.free i
        have hTl := hT.lt
        have HT := Lib.hid hT; have HBW := Lib.hid hbw; clear hT hbw
        have x1 : (0 : Int) ≤ (i : Int) := by omega
        have x2 : (i : Int) < (l.length : Int) := by omega
        generalize (toK l k).getD i 0 = old at *
        go_wp2
        go_roundw
        case rel => exact ⟨k + 1, by go_num, by omega, by have := HT.out.set i k; rw [toK, HGD.out]; exact this, HBW.out.setCell (Nat.le_refl _) _⟩
        case measure => simp [intOf]; omega
      · obtain rfl : k = l.length := by omega
        have HT := Lib.hid hT; have HBW := Lib.hid hbw; clear hT hbw
        obtain ⟨wq, rfl⟩ : ∃ wq : World, wq = wr := ⟨_, rfl⟩
        have hln : (toK l l.length).length = l.length := toK_length _ _
        have HLN := Lib.hid hln; clear hln
        go_wp2
        go_loopw [11, 12] (fun o pv wr => ∃ (pp : Nat) (t out : List Int), pv = .int .i64 pp ∧ pp ≤ l.length ∧ InjL t ∧ t.length = l.length ∧ (∀ k, k < pp → invB t k = false) ∧ IntsB wr w1.heap.size t ∧
          wr.ownsRow (w1.heap.size + 1) 3 1 o out.length (ints out) ∧ out.length ≤ 5000 ∧ swapsO l = (bub (5000 - out.length) t).map (out ++ ·) ∧ Below w1.heap.size w1 wr) (fun o pv _ => (5001 - sLen o) * (l.length + 1) + (l.length - (intOf pv).toNat))
        case atStart =>
          refine ⟨0, toK l l.length, [], rfl, Nat.zero_le _, toK_inj HPERM.out, HLN.out, fun k hk => absurd hk (by omega), HT.out, World.ownsRow_nil _ _ _ _, by simp, ?_, HBW.out⟩
          unfold swapsO; simp
        case round =>
          obtain ⟨pp, t, out, rfl, hpp, hinj, htl, hfst, hT, hown, ho5, hrun, hbw⟩ := hrel
          have HINJ := Lib.hid hinj; have HTL := Lib.hid htl; have HFST := Lib.hid hfst; have HOWN := Lib.hid hown; have HRUN := Lib.hid hrun; have HBX := Lib.hid hbw
          obtain ⟨OA, oc, rfl⟩ := own_slice hown
          have hsl := own_len hown
          have HSL := Lib.hid hsl
          have w1e : IntKind.i64.wrap ((pp : Int) + 1) = (pp : Int) + 1 := IntWalk.i64_in _ (by omega)
          by_cases hlt : pp + 1 < l.length
          · have hlt' : (pp : Int) + 1 < (l.length : Int) := by omega
            have c1 := hT.cell (j := pp) (by omega)
            have c2 := hT.cell (j := pp + 1) (by omega)
            have f1 := hT.free pp
            have f2 := hT.free (pp + 1)
            have hTl := hT.lt
            obtain ⟨hi1, hi2⟩ := hinj.lt (p := pp) (by omega)
            have HT2 := Lib.hid hT; have HI1 := Lib.hid hi1; have HI2 := Lib.hid hi2
            clear hT hown hrun hbw hinj htl hfst hi1 hi2 hsl
            generalize hga : t.getD pp 0 = a at *
            generalize hgb : t.getD (pp + 1) 0 = b at *
            have HGA := Lib.hid hga; have HGB := Lib.hid hgb; clear hga hgb
            have x1 : (0 : Int) ≤ (pp : Int) := by omega
            have x2 : (pp : Int) < (l.length : Int) := by omega
            have x3 : (0 : Int) ≤ (pp : Int) + 1 := by omega
            have w2e : ((pp : Int) + 1).toNat = pp + 1 := by omega
            by_cases hin : a < b
            rotate_left
            · have hinv : invB t pp = true := by
                have h := HI2.out
                cases hv : invB t pp with
                | true => rfl
                | false => exact absurd (h.1 hv) hin
              have hoN : Hid (some w1.heap.size ≠ (Value.slice OA out.length oc).ownBlock) := fun h => by have := (HOWN.out.lt _ h.symm).1; omega
              have hset : ∀ n, IntsB (((wr.drewN n).setCell ⟨w1.heap.size, pp, none⟩ (.int .i64 b)).setCell ⟨w1.heap.size, pp + 1, none⟩ (.int .i64 a)) w1.heap.size (sw t pp) := fun n => by
                have h := (IntsB.set (w := wr.drewN n) (D := w1.heap.size) (xs := t) HT2.out pp b).set (pp + 1) a
                unfold sw; rw [HGA.out, HGB.out]; exact h
              have hbelow : ∀ n, Below w1.heap.size w1 (((wr.drewN n).setCell ⟨w1.heap.size, pp, none⟩ (.int .i64 b)).setCell ⟨w1.heap.size, pp + 1, none⟩ (.int .i64 a)) := fun n => ((below_drewN HBX.out n).setCell (Nat.le_refl _) _).setCell (Nat.le_refl _) _
              by_cases hfull : out.length = 5000
              · have hnone : swapsO l = none := by
                  rw [HRUN.out, hfull, Nat.sub_self, bub_full hinv HFST.out]; rfl
                have hb5 : ((out.length : Int) == 5000) = true := by simp; omega
                have HNONE := Lib.hid hnone; have HFULL := Lib.hid hfull; have HSET := Lib.hid hset; have HBELOW := Lib.hid hbelow; have HINV := Lib.hid hinv; clear hnone hfull hset hbelow hinv
                go_wp2
                go_quiet (fail)
                go_wp2
                go_ret2
                rw [HX.out, HLS.out, HNONE.out]
                exact ⟨_, rfl, RdV.nil _, Y1.out.trans ((below_drewN HBX.out _).mono hw1)⟩
              · have hrun2 : swapsO l = (bub (5000 - (out ++ [(pp : Int)]).length) (sw t pp)).map ((out ++ [(pp : Int)]) ++ ·) := by
                  rw [HRUN.out, show 5000 - out.length = 5000 - (out ++ [(pp : Int)]).length + 1 by simp; omega, bub_step _ hinv HFST.out, Option.map_map]
                  congr 1
                  funext l
                  simp
                have hb5 : ((out.length : Int) == 5000) = false := by simp; omega
                have hb6 : out.length < 5000 := by omega
                have hinj2 := HINJ.out.sw (p := pp) (by rw [HTL.out]; omega)
                have hfst2 := sw_first (t := t) (p := pp) (by rw [HTL.out]; omega) HFST.out
                have HRUN2 := Lib.hid hrun2; have HFULL := Lib.hid hfull; have HSET := Lib.hid hset; have HBELOW := Lib.hid hbelow; have HINV := Lib.hid hinv; have HINJ2 := Lib.hid hinj2; have HFST2 := Lib.hid hfst2; clear hrun2 hfull hset hbelow hinv hinj2 hfst2
                go_wp2
                go_quiet (fail)
                go_wp2
                go_region
                clear w1e w2e
                · go_wp2_with (at_builtin; go_must (refine wpList_app1_Try rfl _ _ rfl (w1.heap.size + 1) (.slice OA out.length oc) out rfl (by refine World.ownsRow.alloc ?_ _; exact ownsRow_setCell_below (ownsRow_setCell_below (own_drewN HOWN.out _) (by show w1.heap.size < w1.heap.size + 1; omega) _) (by show w1.heap.size < w1.heap.size + 1; omega) _) wr.heap.size pp rfl (heap_new_at _ _ _ (by simp)) (by omega) (by simp; omega) ?_); intro g cap w2 hown2 hgrow hat hlt2)
                  go_roundw
                  case rel =>
                    refine ⟨pp - 1, sw t pp, out ++ [(pp : Int)], by refine congrArg (Value.int .i64) ?_; split <;> omega, by omega, HINJ2.out, by rw [sw_length]; exact HTL.out, HFST2.out, ?_, hown2, by simp; omega, HRUN2.out, ?_⟩
                    · exact ((HSET.out _).kept (World.grownBy_alloc _ _ none) (by simp)).kept hgrow hoN.out
                    · exact (((HBELOW.out _).alloc (by simp; omega) _).grown hgrow (by simp; omega) (fun k' hk' => by have := (HOWN.out.lt k' hk').1; omega))
                  case measure =>
                    rw [HSL.out]
                    simp only [sLen, intOf]
                    have e1 : 5001 - out.length = 5001 - (out.length + 1) + 1 := by omega
                    rw [e1, Nat.add_mul]
                    generalize (5001 - (out.length + 1)) * (l.length + 1) = z
                    simp
                    omega
            · go_wp2
              go_quiet (fail)
              go_wp2
              clear w1e
              go_roundw
              case rel =>
                refine ⟨pp + 1, t, out, by go_num, by omega, HINJ.out, HTL.out, fun k hk => ?_, HT2.out, HOWN.out, ho5, HRUN.out, below_drewN HBX.out _⟩
                rcases Nat.lt_or_ge k pp with h | h
                · exact HFST.out k h
                · obtain rfl : k = pp := by omega
                  exact HI2.out.2 hin
              case measure => simp [intOf]; omega
          · have hlt' : ¬ (pp : Int) + 1 < (l.length : Int) := by omega
            clear hT hown hrun hbw hinj htl hfst hsl
            have hdone : swapsO l = some out := by
              rw [HRUN.out, bub_done _ fun k hk => ?_]
              · simp
              · rcases Nat.lt_or_ge k pp with h | h
                · exact HFST.out k h
                · unfold invB; rw [HTL.out]; simp; omega
            have HD := Lib.hid hdone; clear hdone
            go_wp2
            go_ret2
            rw [HX.out, HLS.out, HD.out]
            exact ⟨_, rfl, RdV.of_own HOWN.out (by show out.length ≤ _; omega), Y1.out.trans (HBX.out.mono Y1.out.size)⟩
end Go.Proofs.Ytifpkdajfdlgeaa
