/- The program's Levels. -/
import Derived.Test.YtifpkdajfdlgeaaTrLst
import Derived.Test.YtifpkdajfdlgeaaTrSwapT
namespace Go.Proofs.Ytifpkdajfdlgeaa
open Go.RowKit

/-- Block D, of type T, holds these ints. -/
def IntsAt (w : World) (D T : Nat) (xs : List Int) : Prop := w.heap[D]? = some (.cells (ints xs).toArray T (0, 0))
section
variable {w w' : World} {D T : Nat} {xs : List Int}
theorem IntsAt.lt (h : IntsAt w D T xs) : D < w.heap.size := lt_of_block h
theorem IntsAt.cell (h : IntsAt w D T xs) {j : Nat} (hj : j < xs.length) : w.cell? ⟨D, j, none⟩ = some (.int .i64 (xs.getD j 0)) := by
  rw [cell_of_row w D j _ _ _ h]
  simp [ints, List.getD_eq_getElem?_getD, hj]
theorem IntsAt.free (h : IntsAt w D T xs) (j : Nat) : w.frozen? ⟨D, j, none⟩ = false := frozen_of_row _ _ j _ _ h
theorem IntsAt.set (h : IntsAt w D T xs) (j : Nat) (z : Int) : IntsAt (w.setCell ⟨D, j, none⟩ (.int .i64 z)) D T (xs.set j z) := by
  unfold IntsAt
  rw [heap_setCell_same w D j _ _ _ h]
  simp [ints, List.map_set]
theorem IntsAt.later {B : Nat} (h : IntsAt w D T xs) (hb : Below B w w') (hB : D < B) : IntsAt w' D T xs := (hb.block D hB).trans h
theorem IntsAt.kept {row : Option Nat} (h : IntsAt w D T xs) (hg : w.grownBy w' row) (hr : some D ≠ row) : IntsAt w' D T xs := (hg.block D (lt_of_block h) hr).trans h
theorem IntsAt.alloc (h : IntsAt w D T xs) (o : Obj) : IntsAt (w.alloc o) D T xs := h.kept (World.grownBy_alloc w o none) (by simp)
theorem IntsAt.drew (h : IntsAt w D T xs) : IntsAt w.drew D T xs := h
theorem IntsAt.drewN (h : IntsAt w D T xs) (n : Nat) : IntsAt (w.drewN n) D T xs := h
end

def levsL (p : Int) (ws : List GW) : List Int := if errSheet p ws = 0 then levL ws ws.length else []

set_option maxRecDepth 100000 in
set_option maxHeartbeats 4000000 in
theorem tLevels_ (p : Int) (A : Option Addr) (c : Nat) (ws : List GW) (w : World) (ha : ShIn w p A ws) :
    Calls Try.prog 31 #[.agg #[.int .i64 p, .slice A ws.length c]] w (ListPost (levsL p ws) (errSheet p ws) w) := by
  have hb2 : Below w.heap.size w (w.alloc (.cells #[.int .i64 p, .slice A ws.length c] 24)) := (Below.refl _ _).alloc (Nat.le_refl _) _
  by_cases he : errSheet p ws = 0
  rotate_left
  · have hl : levsL p ws = [] := by unfold levsL; rw [if_neg he]
    have heb : (errSheet p ws != 0) = true := by simpa using he
    rw [hl]
    have HA := Lib.hid ha; have HB2 := Lib.hid hb2; have HE := Lib.hid he; have HL := Lib.hid hl; clear ha hb2 he hl
    go_enter Try.func31, Try.ntmps31
    go_wp2_with fail
    refine (sCheck_ _ _ _ _ _ HA.out.lo HA.out.hi (HA.out.rd.later HB2.out (Nat.le_refl _))).mono ?_; rintro e w1 ⟨rfl, hb1⟩
    go_wp2
    go_ret2
    exact ⟨.slice none 0 0, rfl, RdV.nil _, HB2.out.trans (hb1.mono (by simp))⟩
  · have hl : levsL p ws = levL ws ws.length := by unfold levsL; rw [if_pos he]
    rw [hl, he]
    have hok : OkS p ws := he
    obtain ⟨_, hp24, hlen, hall⟩ := hok.all
    have hec := he
    have HA := Lib.hid ha; have HB2 := Lib.hid hb2; have HE := Lib.hid he; have HL := Lib.hid hl; have HOK := Lib.hid hok; have HALL := Lib.hid hall; clear ha hb2 he hl hok hall
    go_enter Try.func31, Try.ntmps31
    go_wp2_with fail
    refine (sCheck_ _ _ _ _ _ HA.out.lo HA.out.hi (HA.out.rd.later HB2.out (Nat.le_refl _))).mono ?_
    rw [hec]
    clear hec
    rintro e w1 ⟨rfl, hb1⟩
    have a1 : w1.cell? ⟨w.heap.size, 1, none⟩ = some (.slice A ws.length c) := below_at hb1 (Nat.le_refl _) (by go_simp)
    have hs1 : w.heap.size < w1.heap.size := by have := hb1.size; simp at this; omega
    have Y1 := Lib.hid (HB2.out.trans (hb1.mono (by simp))); clear hb1
    go_wp2_with (at_make; refine wpList_make1_Try _ rfl _ _ rfl (w1.heap.size + 1) _ _ _ ws.length rfl rfl rfl (by omega) (by simp) ?_; intro W1 hown0 hgrow0; have a2 : W1.cell? ⟨w.heap.size, 1, none⟩ = some (.slice A ws.length c) := hgrow0.cell (by go_simp) (by simp))
    have hI0 : IntsAt (w1.alloc (.cells (Array.replicate 24 (.int .i64 0)) 78)) w1.heap.size 78 ((List.range 24).map (nxK ws 0)) := heap_alloc_new _ _
    have hI1 := hI0.kept hgrow0 (by simp)
    have hB1 : Below w.heap.size w W1 := (Y1.out.alloc Y1.out.size _).grown hgrow0 (by simp; omega) (fun k hk => by cases hk)
    rw [Deep.nblk_alloc] at hown0
    clear hI0 hgrow0 a1
    have HI1 := Lib.hid hI1; have HOWN0 := Lib.hid hown0; have HB1 := Lib.hid hB1; clear hI1 hown0 hB1
    go_loopw [6, 22] (fun o kv wr => ∃ k : Nat, kv = .int .i64 k ∧ k ≤ ws.length ∧ IntsAt wr w1.heap.size 78 ((List.range 24).map (nxK ws k)) ∧ wr.ownsRow (w1.heap.size + 1) 3 1 o (levL ws k).length (ints (levL ws k)) ∧ Below w.heap.size w wr) (fun _ kv _ => ws.length - (intOf kv).toNat)
    case atStart => exact ⟨0, rfl, Nat.zero_le _, HI1.out, HOWN0.out, HB1.out⟩
    case round =>
      obtain ⟨k, rfl, hk, hT, hown, hbw⟩ := hrel
      by_cases hlt : k < ws.length
      · obtain ⟨b, off, rfl, hbL, h1, h2, h3⟩ := (HA.out.rd.later hbw (Nat.le_refl _)).at_ hlt
        obtain ⟨_, hx1, hx2, _⟩ := HALL.out ws[k] (List.getElem_mem hlt)
        obtain ⟨P, hP⟩ := Int.eq_ofNat_of_zero_le hx1
        have hPg : (ws.getD k gw0).pl = P := by rw [getD_pl hlt]; exact hP
        rw [hP] at h2
        have hP22 : P ≤ 22 := by omega
        have c1 := hT.cell (j := P) (by simp; omega)
        have c2 := hT.cell (j := P + 1) (by simp; omega)
        have f1 := hT.free P
        have f2 := hT.free (P + 1)
        have hTl := hT.lt
        have g1 : ((List.range 24).map (nxK ws k)).getD P 0 = nxK ws k P := by simp [List.getD_eq_getElem?_getD, show P < 24 by omega]
        have g2 : ((List.range 24).map (nxK ws k)).getD (P + 1) 0 = nxK ws k (P + 1) := by simp [List.getD_eq_getElem?_getD, show P + 1 < 24 by omega]
        rw [g1] at c1
        rw [g2] at c2
        have hv : lvK ws k = max (nxK ws k P) (nxK ws k (P + 1)) := by unfold lvK; rw [hPg, Int.toNat_natCast]
        obtain ⟨n1, n2⟩ := nxK_bd ws k P
        obtain ⟨n3, n4⟩ := nxK_bd ws k (P + 1)
        have hls := levL_succ ws k
        have hset := nxK_list ws k P hPg (by omega)
        have hll : (levL ws k).length = k := levL_length ws k
        clear g1 g2 hP hx1 hx2
        generalize nxK ws k P = a at *
        generalize nxK ws k (P + 1) = b' at *
        have hoN : Hid (some w1.heap.size ≠ u6.ownBlock) := fun h => by have := (hown.lt _ h.symm).1; omega
        have hoM : Hid (some wr.heap.size ≠ u6.ownBlock) := fun h => by have := (hown.lt _ h.symm).2; omega
        generalize lvK ws k = lv at *
        have HT := Lib.hid hT; have HOWN := Lib.hid hown; have HBW := Lib.hid hbw; have HPG := Lib.hid hPg; have HLS := Lib.hid hls; have HSET := Lib.hid hset; have HLL := Lib.hid hll; clear hT hown hbw hPg hls hset hll
        have x1 : (0 : Int) ≤ (P : Int) := by omega
        have x2 : (P : Int) < 24 := by omega
        have w1e : IntKind.i64.wrap ((P : Int) + 1) = (P : Int) + 1 := IntWalk.i64_in _ (by omega)
        have x3 : (0 : Int) ≤ (P : Int) + 1 := by omega
        have x4 : (P : Int) + 1 < 24 := by omega
        have w2e : ((P : Int) + 1).toNat = P + 1 := by omega
        by_cases hab : a < b'
        · obtain rfl : lv = b' := by omega
          clear hv
          have hb9 : 0 ≤ lv + 1 ∧ lv + 1 ≤ 401 := by omega
          obtain ⟨hb91, hb92⟩ := hb9
          go_wp2
          go_quiet (fail)
          go_wp2_with (at_builtin; go_must (refine wpList_app1_Try rfl _ _ rfl (w1.heap.size + 1) u6 (levL ws k) rfl (by repeat (first | exact HOWN.out | refine World.ownsRow.alloc ?_ _ | refine own_drewN ?_ _)) (wr.heap.size + 1) lv rfl (heap_new_at _ _ _ (by simp)) (by rw [HLL.out]; omega) (by simp; omega) ?_); intro g cap w2 hown2 hgrow hat hlt2; have q0 : w2.cell? ⟨wr.heap.size, 1, none⟩ = some (.int .i64 (P : Int)) := (hgrow.cell_far ⟨wr.heap.size, 1, none⟩ (by simp; omega) hoM.out).trans (by go_simp); have q1 : w2.cell? ⟨w1.heap.size, P, none⟩ = some (.int .i64 a) := (hgrow.cell_far ⟨w1.heap.size, P, none⟩ (by simp; omega) hoN.out).trans (by go_simp); have q2 : w2.cell? ⟨w1.heap.size, P + 1, none⟩ = some (.int .i64 lv) := (hgrow.cell_far ⟨w1.heap.size, P + 1, none⟩ (by simp; omega) hoN.out).trans (by go_simp); have q3 : w2.frozen? ⟨w1.heap.size, P, none⟩ = false := (hgrow.frozen_far ⟨w1.heap.size, P, none⟩ (by simp; omega) hoN.out).trans (by go_simp); have q4 : w2.frozen? ⟨w1.heap.size, P + 1, none⟩ = false := (hgrow.frozen_far ⟨w1.heap.size, P + 1, none⟩ (by simp; omega) hoN.out).trans (by go_simp))
          have hT2 := (((HT.out.alloc (.cells #[.int .i64 ws[k].kind, .int .i64 (P : Int), .string ws[k].word] 40)).drewN nq).alloc (.cells #[.int .i64 lv] 3)).kept hgrow hoN.out
          have hB2 := (((below_drewN (HBW.out.alloc HBW.out.size (.cells #[.int .i64 ws[k].kind, .int .i64 (P : Int), .string ws[k].word] 40)) nq).alloc (by simp; have := HBW.out.size; omega) (.cells #[.int .i64 lv] 3)).grown hgrow (by simp; have := HBW.out.size; omega) (fun j hj => by have := (HOWN.out.lt j hj).1; omega))
          have HT2 := Lib.hid hT2; have HB2 := Lib.hid hB2; have HOWN2 := Lib.hid hown2; have HGROW := Lib.hid hgrow; clear hT2 hB2 hown2 hgrow
          go_region
          go_wp2
          go_roundw
          case rel =>
            refine ⟨k + 1, by go_num, by omega, ?_, ?_, ?_⟩
            · rw [← HSET.out]
              first | exact ((HT2.out.drew.set P (lv + 1)).set (P + 1) (lv + 1)) | exact (((HT2.out.drewN _).set P (lv + 1)).set (P + 1) (lv + 1))
            · rw [HLS.out]
              first | exact ownsRow_setCell_below (ownsRow_setCell_below HOWN2.out.drew (by show w1.heap.size < w1.heap.size + 1; omega) _) (by show w1.heap.size < w1.heap.size + 1; omega) _ | exact ownsRow_setCell_below (ownsRow_setCell_below (own_drewN HOWN2.out _) (by show w1.heap.size < w1.heap.size + 1; omega) _) (by show w1.heap.size < w1.heap.size + 1; omega) _
            · first | exact (HB2.out.drew.setCell (by show w.heap.size ≤ w1.heap.size; omega) _).setCell (by show w.heap.size ≤ w1.heap.size; omega) _ | exact ((below_drewN HB2.out _).setCell (by show w.heap.size ≤ w1.heap.size; omega) _).setCell (by show w.heap.size ≤ w1.heap.size; omega) _
          case measure => simp [intOf]; omega
        · obtain rfl : lv = a := by omega
          clear hv
          have hb9 : 0 ≤ lv + 1 ∧ lv + 1 ≤ 401 := by omega
          obtain ⟨hb91, hb92⟩ := hb9
          go_wp2
          go_quiet (fail)
          go_wp2_with (at_builtin; go_must (refine wpList_app1_Try rfl _ _ rfl (w1.heap.size + 1) u6 (levL ws k) rfl (by repeat (first | exact HOWN.out | refine World.ownsRow.alloc ?_ _ | refine own_drewN ?_ _)) (wr.heap.size + 1) lv rfl (heap_new_at _ _ _ (by simp)) (by rw [HLL.out]; omega) (by simp; omega) ?_); intro g cap w2 hown2 hgrow hat hlt2; have q0 : w2.cell? ⟨wr.heap.size, 1, none⟩ = some (.int .i64 (P : Int)) := (hgrow.cell_far ⟨wr.heap.size, 1, none⟩ (by simp; omega) hoM.out).trans (by go_simp); have q1 : w2.cell? ⟨w1.heap.size, P, none⟩ = some (.int .i64 lv) := (hgrow.cell_far ⟨w1.heap.size, P, none⟩ (by simp; omega) hoN.out).trans (by go_simp); have q2 : w2.cell? ⟨w1.heap.size, P + 1, none⟩ = some (.int .i64 b') := (hgrow.cell_far ⟨w1.heap.size, P + 1, none⟩ (by simp; omega) hoN.out).trans (by go_simp); have q3 : w2.frozen? ⟨w1.heap.size, P, none⟩ = false := (hgrow.frozen_far ⟨w1.heap.size, P, none⟩ (by simp; omega) hoN.out).trans (by go_simp); have q4 : w2.frozen? ⟨w1.heap.size, P + 1, none⟩ = false := (hgrow.frozen_far ⟨w1.heap.size, P + 1, none⟩ (by simp; omega) hoN.out).trans (by go_simp))
          have hT2 := (((HT.out.alloc (.cells #[.int .i64 ws[k].kind, .int .i64 (P : Int), .string ws[k].word] 40)).drewN nq).alloc (.cells #[.int .i64 lv] 3)).kept hgrow hoN.out
          have hB2 := (((below_drewN (HBW.out.alloc HBW.out.size (.cells #[.int .i64 ws[k].kind, .int .i64 (P : Int), .string ws[k].word] 40)) nq).alloc (by simp; have := HBW.out.size; omega) (.cells #[.int .i64 lv] 3)).grown hgrow (by simp; have := HBW.out.size; omega) (fun j hj => by have := (HOWN.out.lt j hj).1; omega))
          have HT2 := Lib.hid hT2; have HB2 := Lib.hid hB2; have HOWN2 := Lib.hid hown2; have HGROW := Lib.hid hgrow; clear hT2 hB2 hown2 hgrow
          go_region
          go_wp2
          go_roundw
          case rel =>
            refine ⟨k + 1, by go_num, by omega, ?_, ?_, ?_⟩
            · rw [← HSET.out]
              first | exact ((HT2.out.drew.set P (lv + 1)).set (P + 1) (lv + 1)) | exact (((HT2.out.drewN _).set P (lv + 1)).set (P + 1) (lv + 1))
            · rw [HLS.out]
              first | exact ownsRow_setCell_below (ownsRow_setCell_below HOWN2.out.drew (by show w1.heap.size < w1.heap.size + 1; omega) _) (by show w1.heap.size < w1.heap.size + 1; omega) _ | exact ownsRow_setCell_below (ownsRow_setCell_below (own_drewN HOWN2.out _) (by show w1.heap.size < w1.heap.size + 1; omega) _) (by show w1.heap.size < w1.heap.size + 1; omega) _
            · first | exact (HB2.out.drew.setCell (by show w.heap.size ≤ w1.heap.size; omega) _).setCell (by show w.heap.size ≤ w1.heap.size; omega) _ | exact ((below_drewN HB2.out _).setCell (by show w.heap.size ≤ w1.heap.size; omega) _).setCell (by show w.heap.size ≤ w1.heap.size; omega) _
          case measure => simp [intOf]; omega
      · go_wp2
        go_ret2
        obtain rfl : k = ws.length := by omega
        exact ⟨_, rfl, RdV.of_own hown (by rw [levL_length]; omega), hbw⟩
end Go.Proofs.Ytifpkdajfdlgeaa
