/- The reference's Levels. -/
import Derived.Test.YtifpkdajfdlgeaaTrLevT
namespace Go.Proofs.Ytifpkdajfdlgeaa
open Go.RowKit

theorem bcell2 {w0 w1 : World} (h : Below w0.heap.size w0 w1) : Below w0.heap.size w0 w1 ∧ (∀ b o, b < w0.heap.size → w1.cell? ⟨b, o, none⟩ = w0.cell? ⟨b, o, none⟩) ∧ w0.heap.size ≤ w1.heap.size :=
  ⟨h, fun b o hb => h.cell (p := ⟨b, o, none⟩) hb, h.size⟩
theorem RdI.of_own {w : World} {base e n c : Nat} {A : Option Addr} {xs : List Int} (h : w.ownsRow base e 1 (.slice A n c) n (ints xs)) (hl : xs.length ≤ 281474976710656) : RdI w A xs := ⟨hl, own_rd h⟩
theorem gb_none {w w' : World} (h : Below w.heap.size w w') (row : Option Nat) : w.grownBy w' row := ⟨h.os, h.tape, h.output, h.size, fun i hi _ => h.block i hi⟩
theorem own_below {w w' : World} {base e n : Nat} {v : Value} {xs : List Value} (h : w.ownsRow base e 1 v n xs) (hb : Below w.heap.size w w') : w'.ownsRow base e 1 v n xs := h.kept (gb_none hb none) (by cases v.ownBlock <;> simp)

set_option maxRecDepth 100000 in
set_option maxHeartbeats 4000000 in
theorem rLevels_ (p : Int) (A : Option Addr) (c : Nat) (ws : List GW) (w : World) (ha : ShIn w p A ws) :
    Calls Try.prog 32 #[.agg #[.int .i64 p, .slice A ws.length c]] w (ListPost (levsL p ws) (errSheet p ws) w) := by
  have hb2 : Below w.heap.size w (w.alloc (.cells #[.int .i64 p, .slice A ws.length c] 24)) := (Below.refl _ _).alloc (Nat.le_refl _) _
  by_cases he : errSheet p ws = 0
  rotate_left
  · have hl : levsL p ws = [] := by unfold levsL; rw [if_neg he]
    have heb : (errSheet p ws != 0) = true := by simpa using he
    rw [hl]
    have HA := Lib.hid ha; have HB2 := Lib.hid hb2; have HE := Lib.hid he; have HL := Lib.hid hl; clear ha hb2 he hl
    go_enter Try.func32, Try.ntmps32
    go_wp2_with fail
    refine (rCheck_ _ _ _ _ _ HA.out.lo HA.out.hi (HA.out.rd.later HB2.out (Nat.le_refl _))).mono ?_; rintro e w1 ⟨rfl, hb1⟩
    go_wp2
    go_ret2
    exact ⟨.slice none 0 0, rfl, RdV.nil _, HB2.out.trans (hb1.mono (by simp))⟩
  · have hl : levsL p ws = levL ws ws.length := by unfold levsL; rw [if_pos he]
    rw [hl, he]
    have hok : OkS p ws := he
    obtain ⟨_, hp24, hlen, hall⟩ := hok.all
    have hec := he
    have HA := Lib.hid ha; have HB2 := Lib.hid hb2; have HE := Lib.hid he; have HL := Lib.hid hl; have HOK := Lib.hid hok; have HALL := Lib.hid hall; clear ha hb2 he hl hok hall
    go_enter Try.func32, Try.ntmps32
    go_wp2_with fail
    refine (rCheck_ _ _ _ _ _ HA.out.lo HA.out.hi (HA.out.rd.later HB2.out (Nat.le_refl _))).mono ?_
    rw [hec]
    clear hec
    rintro e w1 ⟨rfl, hb1⟩
    have a1 : w1.cell? ⟨w.heap.size, 1, none⟩ = some (.slice A ws.length c) := below_at hb1 (Nat.le_refl _) (by go_simp)
    have hs1 : w.heap.size < w1.heap.size := by have := hb1.size; simp at this; omega
    have Y1 := Lib.hid (HB2.out.trans (hb1.mono (by simp))); clear hb1
    go_wp2
    go_loopw [5, 6] (fun o iv wr => ∃ i : Nat, iv = .int .i64 i ∧ i ≤ ws.length ∧ wr.ownsRow w1.heap.size 3 1 o (levL ws i).length (ints (levL ws i)) ∧ Below w1.heap.size w1 wr) (fun _ iv _ => ws.length - (intOf iv).toNat)
    case atStart => exact ⟨0, rfl, Nat.zero_le _, World.ownsRow_nil _ _ _ _, Below.refl _ _⟩
    case round =>
      obtain ⟨i, rfl, hi, hown, hbw⟩ := hrel
      obtain ⟨wo, rfl⟩ : ∃ wo : World, wo = wr := ⟨_, rfl⟩
      obtain ⟨OA, oc, rfl⟩ := own_slice hown
      have a2 := below_at hbw (Nat.le_refl _) a1
      have hs2 : w.heap.size < wo.heap.size := Nat.lt_of_lt_of_le hs1 hbw.size
      by_cases hlt : i < ws.length
      · obtain ⟨b, off, rfl, hbL, h1, h2, h3⟩ := (HA.out.rd.later (Y1.out.trans (hbw.mono Y1.out.size)) (Nat.le_refl _)).at_ hlt
        obtain ⟨_, hx1, hx2, _⟩ := HALL.out ws[i] (List.getElem_mem hlt)
        have hll : (levL ws i).length = i := levL_length ws i
        have hlast := levTo_lv ws i (by rw [getD_pl hlt]; exact hx1)
        have hls := levL_succ ws i
        have hoN : Hid (∀ k, (Value.slice OA (levL ws i).length oc).ownBlock = some k → w1.heap.size ≤ k) := fun k hk => (hown.lt k hk).1
        have HOWN := Lib.hid hown; have HBW := Lib.hid hbw; have HLL := Lib.hid hll; have HLAST := Lib.hid hlast; have HLS := Lib.hid hls; clear hown hbw hll hlast hls
        go_wp2
        go_loopw [7, 8] (fun lv kv wr => ∃ k : Nat, kv = .int .i64 k ∧ k ≤ i ∧ lv = .int .i64 (levTo ws i k) ∧ Below wo.heap.size wo wr) (fun _ kv _ => i - (intOf kv).toNat)
        case atStart => exact ⟨0, rfl, Nat.zero_le _, rfl, Below.refl _ _⟩
        case round =>
          obtain ⟨k, rfl, hk, rfl, hbx⟩ := hrel
          have a3 := below_at hbx (Nat.le_refl _) a2
          have hs3 : w.heap.size < wr.heap.size := Nat.lt_of_lt_of_le hs2 hbx.size
          have g1 := below_at hbx (Nat.le_refl _) h1
          have g2 := below_at hbx (Nat.le_refl _) h2
          have g3 := below_at hbx (Nat.le_refl _) h3
          have hbL2 : b < wr.heap.size := Nat.lt_of_lt_of_le hbL hbx.size
          by_cases hki : k < i
          · obtain ⟨b', off', hA', hbA', e1, e2, e3⟩ := (HA.out.rd.later ((Y1.out.trans (HBW.out.mono Y1.out.size)).trans (hbx.mono (Nat.le_trans Y1.out.size HBW.out.size))) (Nat.le_refl _)).at_ (k := k) (by omega)
            injection hA' with hA'
            injection hA' with hA1 hA2
            subst hA1; subst hA2
            obtain ⟨_, hy1, hy2, _⟩ := HALL.out ws[k] (List.getElem_mem _)
            have hks : k < (levL ws i).length := by rw [HLL.out]; exact hki
            obtain ⟨ob, oo, rfl, hob, o1⟩ := (RdI.of_own (own_below HOWN.out hbx) (by rw [HLL.out]; omega)).at_ hks
            have hlk : (levL ws i)[k] = lvK ws k := by have := levL_get ws hki; rw [List.getD_eq_getElem?_getD, List.getElem?_eq_getElem hks] at this; exact this
            rw [hlk] at o1
            have hsu : levTo ws i (k + 1) = if touchB ws[k].pl ws[i].pl = true then max (levTo ws i k) (lvK ws k + 1) else levTo ws i k := by
              rw [levTo, getD_pl hlt, getD_pl (show k < ws.length by omega)]
            obtain ⟨n1, n2⟩ := levTo_bd ws i k
            obtain ⟨n3, n4⟩ := lvK_bd ws k
            have x1 : (0 : Int) ≤ (k : Int) := by omega
            have x2 : (k : Int) < (ws.length : Int) := by omega
            have x3 : (0 : Int) ≤ (i : Int) := by omega
            have x4 : (i : Int) < (ws.length : Int) := by omega
            have x5 : (k : Int) < ((levL ws i).length : Int) := by omega
            clear hlk
            generalize lvK ws k = v at *
            generalize levTo ws i k = lv at *
            have HBX := Lib.hid hbx; have HSU := Lib.hid hsu; clear hbx hsu
            by_cases ht : touchB ws[k].pl ws[i].pl = true
            · by_cases hm : lv < v + 1
              · have hr : levTo ws i (k + 1) = v + 1 := by rw [HSU.out, if_pos ht]; omega
                have HR := Lib.hid hr; clear hr
                go_wp2
                go_region_held3 (fun wX => Below wr.heap.size wr wX ∧ (∀ b o, b < wr.heap.size → wX.cell? ⟨b, o, none⟩ = wr.cell? ⟨b, o, none⟩) ∧ wr.heap.size ≤ wX.heap.size) ((refine bcell2 ?_; first | exact (Below.refl _ _).drew | exact ‹Below wr.heap.size wr _ ∧ _›.1.trans (hbH.mono ‹Below wr.heap.size wr _ ∧ _›.1.size) | exact ‹Below wr.heap.size wr _ ∧ _›.1.alloc ‹Below wr.heap.size wr _ ∧ _›.1.size _ | exact ‹Below wr.heap.size wr _ ∧ _›.1)) ((first | (go_at_call 27; refine (touch_ _ _ _ _ _ _ _ (by omega) (by omega) (by omega) (by omega)).mono ?_; rintro e w2 ⟨rfl, hbH⟩)))
                go_wp2
                go_roundw
                case rel => exact ⟨k + 1, by go_num, by omega, by rw [HR.out], HBX.out.trans (‹Below wr.heap.size wr _ ∧ _›.1.mono HBX.out.size)⟩
                case measure => simp [intOf]; omega
              · have hr : levTo ws i (k + 1) = lv := by rw [HSU.out, if_pos ht]; omega
                have HR := Lib.hid hr; clear hr
                go_wp2
                go_region_held3 (fun wX => Below wr.heap.size wr wX ∧ (∀ b o, b < wr.heap.size → wX.cell? ⟨b, o, none⟩ = wr.cell? ⟨b, o, none⟩) ∧ wr.heap.size ≤ wX.heap.size) ((refine bcell2 ?_; first | exact (Below.refl _ _).drew | exact ‹Below wr.heap.size wr _ ∧ _›.1.trans (hbH.mono ‹Below wr.heap.size wr _ ∧ _›.1.size) | exact ‹Below wr.heap.size wr _ ∧ _›.1.alloc ‹Below wr.heap.size wr _ ∧ _›.1.size _ | exact ‹Below wr.heap.size wr _ ∧ _›.1)) ((first | (go_at_call 27; refine (touch_ _ _ _ _ _ _ _ (by omega) (by omega) (by omega) (by omega)).mono ?_; rintro e w2 ⟨rfl, hbH⟩)))
                go_wp2
                go_roundw
                case rel => exact ⟨k + 1, by go_num, by omega, by rw [HR.out], HBX.out.trans (‹Below wr.heap.size wr _ ∧ _›.1.mono HBX.out.size)⟩
                case measure => simp [intOf]; omega
            · have hr : levTo ws i (k + 1) = lv := by rw [HSU.out, if_neg ht]
              have ht' : touchB ws[k].pl ws[i].pl = false := by simpa using ht
              clear ht
              have HR := Lib.hid hr; clear hr
              go_wp2
              go_region_held3 (fun wX => Below wr.heap.size wr wX ∧ (∀ b o, b < wr.heap.size → wX.cell? ⟨b, o, none⟩ = wr.cell? ⟨b, o, none⟩) ∧ wr.heap.size ≤ wX.heap.size) ((refine bcell2 ?_; first | exact (Below.refl _ _).drew | exact ‹Below wr.heap.size wr _ ∧ _›.1.trans (hbH.mono ‹Below wr.heap.size wr _ ∧ _›.1.size) | exact ‹Below wr.heap.size wr _ ∧ _›.1.alloc ‹Below wr.heap.size wr _ ∧ _›.1.size _ | exact ‹Below wr.heap.size wr _ ∧ _›.1)) ((first | (go_at_call 27; refine (touch_ _ _ _ _ _ _ _ (by omega) (by omega) (by omega) (by omega)).mono ?_; rintro e w2 ⟨rfl, hbH⟩)))
              go_wp2
              go_roundw
              case rel => exact ⟨k + 1, by go_num, by omega, by rw [HR.out], HBX.out.trans (‹Below wr.heap.size wr _ ∧ _›.1.mono HBX.out.size)⟩
              case measure => simp [intOf]; omega
          · obtain rfl : k = i := by omega
            have hownx := own_below HOWN.out hbx
            have hz : levTo ws k k = lvK ws k := HLAST.out
            have HOWNX := Lib.hid hownx; have HBX := Lib.hid hbx; have HZ := Lib.hid hz; clear hownx hbx hz
            generalize levTo ws k k = z at *
            go_wp2_with (at_builtin; go_must (refine wpList_app1_Try rfl _ _ rfl w1.heap.size (.slice OA (levL ws k).length oc) (levL ws k) rfl (by repeat (first | exact HOWNX.out | refine World.ownsRow.alloc ?_ _ | refine own_drewN ?_ _)) wr.heap.size z rfl (heap_new_at _ _ _ (by simp)) (by rw [HLL.out]; omega) (by simp; have := HBX.out.size; have := HBW.out.size; omega) ?_); intro g cap w2 hown2 hgrow hat hlt2)
            go_roundw
            case rel =>
              refine ⟨k + 1, by go_num, by omega, by rw [HLS.out, ← HZ.out]; exact hown2, ?_⟩
              exact (((HBW.out.trans (HBX.out.mono HBW.out.size)).alloc (by have := HBX.out.size; have := HBW.out.size; omega) _).grown hgrow (by simp; have := HBX.out.size; have := HBW.out.size; omega) (fun j hj => hoN.out j hj))
            case measure => simp [intOf]; omega
      · go_wp2
        go_ret2
        obtain rfl : i = ws.length := by omega
        exact ⟨_, rfl, RdV.of_own hown (by rw [levL_length]; omega), Y1.out.trans (hbw.mono Y1.out.size)⟩
end Go.Proofs.Ytifpkdajfdlgeaa
