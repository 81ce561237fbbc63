/- Texts of this claim, laid together: OrR2. -/
import Derived.Test.YtlpfecjkkgccgaaDoorMaP
import Derived.Test.YtlpfecjkkgccgaaDoorMaU
/- The reference's table. -/
namespace Go.Proofs.YtlpfecjkkgccgaaDoor
open Go.RowKit

/-- What is asked of the table. -/
def tblM (ws : List GW) (wl : List (Int × Int)) (b a : Nat) : Bool := dirB ws wl a b
def TblPost (ws : List GW) (wl : List (Int × Int)) (w : World) (e : Ending) (w' : World) : Prop := ∃ A c, e = .returned (.slice A ws.length c) ∧ MatB w' A ws.length (tblM ws wl) ∧ Below w.heap.size w w'
set_option maxRecDepth 100000 in
set_option maxHeartbeats 8000000 in
theorem rTable_ (p : Int) (A Wa : Option Addr) (c wc : Nat) (ws : List GW) (wl : List (Int × Int)) (w : World) (hrd : RdW w A ws) (hpl : ∀ x ∈ ws, 0 ≤ x.pl ∧ x.pl ≤ 22) (hl : RdP w Wa wl) (hn : ws.length ≤ 400) :
    Calls Tryd.prog 32 #[.agg #[.int .i64 p, .slice A ws.length c], .slice Wa wl.length wc] w (TblPost ws wl w) := by
  have hb2 : Below w.heap.size w (w.alloc (.cells #[.int .i64 p, .slice A ws.length c] 24)) := (Below.refl _ _).alloc (Nat.le_refl _) _
  have hbx := Box1.made w (p : Int) A c ws.length 24
  have HRD := Lib.hid hrd; have HPL := Lib.hid hpl; have HL := Lib.hid hl; have HB2 := Lib.hid hb2; have HBX := Lib.hid hbx; clear hrd hpl hl hb2 hbx
  go_enter Tryd.func32, Tryd.ntmps32
  go_wp2
  go_loopw [5, 6] (fun v iv wr => ∃ (k : Nat) (R : Nat → Nat), iv = .int .i64 k ∧ k ≤ ws.length ∧ Box1 w wr p A c ws.length ∧ wr.ownsRow (w.heap.size + 1) 84 1 v (rowV R ws.length k).length (rowV R ws.length k) ∧ (∀ b, b < k → w.heap.size < R b ∧ BoB wr (R b) ws.length (tblM ws wl b)) ∧ Below w.heap.size w wr) (fun _ iv _ => ws.length - (intOf iv).toNat)
  case atStart => exact ⟨0, fun _ => 0, rfl, Nat.zero_le _, HBX.out, World.ownsRow_nil _ _ _ _, fun b h => absurd h (by omega), HB2.out⟩
  case round =>
    obtain ⟨k, R, rfl, hk, hx, hown, hrows, hbw⟩ := hrel
    obtain ⟨wq, rfl⟩ : ∃ wq : World, wq = wr := ⟨_, rfl⟩
    obtain ⟨c0, c1, hs0⟩ := hx
    have hx1 : Hid (Box1 w wq p A c ws.length) := ⟨c0, c1, hs0⟩
    obtain ⟨OA, oc, rfl⟩ := own_slice1 hown
    by_cases hlt : k < ws.length
    · have hmk := run_make_row' (P := Tryd.prog) 84 4 (.bool false) 1 Tryd.underlying84 infoB_Tryd rfl .i64 .i64 ws.length (by omega) (by omega)
      have hm0 := BoB.made wq ws.length
      have hx2 : Box1 w (wq.alloc (.cells (madeCells #[.bool false] ws.length) 4)) p A c ws.length := hx1.out.later ((Below.refl _ _).alloc (Nat.le_refl _) _)
      have HOWN := Lib.hid hown; have HROWS := Lib.hid hrows; have HBW := Lib.hid hbw; have HM0 := Lib.hid hm0; have HX2 := Lib.hid hx2; clear hown hrows hbw hm0 hx2
      go_wp2
      clear hmk
      go_loopw [8] (fun iv wr => ∃ a : Nat, iv = .int .i64 a ∧ a ≤ ws.length ∧ BoB wr wq.heap.size ws.length (fun x => decide (x < a) && tblM ws wl k x) ∧ Below wq.heap.size wq wr) (fun iv _ => ws.length - (intOf iv).toNat)
      case atStart => exact ⟨0, rfl, Nat.zero_le _, HM0.out.congr fun x _ => by simp, (Below.refl _ _).alloc (Nat.le_refl _) _⟩
      case round =>
        clear HM0 HX2
        obtain ⟨a, rfl, hak, hro, hbr⟩ := hrel
        have hxr := hx1.out.later hbr
        obtain ⟨d0, d1, ds0⟩ := hxr
        have hrl := hro.lt
        by_cases hal : a < ws.length
        · have hbq := HBW.out.trans (hbr.mono HBW.out.size)
          have x1 : (0 : Int) ≤ (a : Int) := by omega
          have x2 : (a : Int) < (ws.length : Int) := by omega
          have hcall := rDirectly_ p A Wa c wc a k ws wl wr (HRD.out.later hbq (Nat.le_refl _)) HPL.out (HL.out.later hbq (Nat.le_refl _)) hal hlt
          have HRO := Lib.hid hro; have HBR := Lib.hid hbr; have HBQ := Lib.hid hbq; have HCALL := Lib.hid hcall; clear hro hbr hbq hcall
          go_wp2_with fail
          refine HCALL.out.mono ?_
          rintro e w2 ⟨rfl, hb22⟩
          have hr2 := HRO.out.later hb22
          have q3 := hr2.at_ hal
          have q4 := hr2.free a
          have q5 : BoB (w2.setCell ⟨wq.heap.size, a, none⟩ (.bool (dirB ws wl a k))) wq.heap.size ws.length (fun x => decide (x < a + 1) && tblM ws wl k x) := (hr2.put a (dirB ws wl a k)).congr fun x _ => by
            by_cases h : x = a
            · subst h; simp [tblM]
            · rw [if_neg h]
              congr 1
              rw [decide_eq_decide]
              omega
          have q6 : Below wq.heap.size wq (w2.setCell ⟨wq.heap.size, a, none⟩ (.bool (dirB ws wl a k))) := (HBR.out.trans (hb22.mono HBR.out.size)).setCell (Nat.le_refl _) _
          clear d0 d1
          generalize dirB ws wl a k = DB at *
          have HR2 := Lib.hid hr2; have HB22 := Lib.hid hb22; have Q5 := Lib.hid q5; have Q6 := Lib.hid q6; clear hr2 hb22 q5 q6
          go_wp2
          go_roundw
          case rel => exact ⟨a + 1, by go_num, by omega, Q5.out, Q6.out⟩
          case measure => simp [intOf]; omega
        · obtain rfl : a = ws.length := by omega
          have hro2 : BoB wr wq.heap.size ws.length (tblM ws wl k) := hro.congr fun y hy => by rw [decide_eq_true hy, Bool.true_and]
          have hown2 := own_below3 HOWN.out hbr
          have hlo := HOWN.out.lt
          have hbq := HBW.out.trans (hbr.mono HBW.out.size)
          have hrw2 : ∀ b, b < k → w.heap.size < R b ∧ BoB wr (R b) ws.length (tblM ws wl b) := fun b hb => ⟨(HROWS.out b hb).1, (HROWS.out b hb).2.later hbr⟩
          have hTy : ∀ b, b < k → some (R b) ≠ (Value.slice OA (rowV R ws.length k).length oc).ownBlock := fun b hb => own_ne_type HOWN.out (HROWS.out b hb).2 (by decide)
          have hsr := hbr.size
          have hNq : some wq.heap.size ≠ (Value.slice OA (rowV R ws.length k).length oc).ownBlock := fun h => by have := (hlo _ h.symm).2; omega
          have hpt := rowV_put R ws.length k wq.heap.size
          have hrln := rowV_len R ws.length k
          generalize hRV : rowV R ws.length k = RV at *
          have HRO := Lib.hid hro; have HRO2 := Lib.hid hro2; have HOWN2 := Lib.hid hown2; have HLO := Lib.hid hlo; have HBQ := Lib.hid hbq; have HRW2 := Lib.hid hrw2; have HTY := Lib.hid hTy; have HBR := Lib.hid hbr; have HNQ := Lib.hid hNq; have HPT := Lib.hid hpt; have HRLN := Lib.hid hrln; have HRV := Lib.hid hRV; clear hro hro2 hown2 hlo hbq hrw2 hTy hbr hNq hpt hrln hRV
          go_wp2_with (at_builtin; go_must (refine wpList_appB_Tryd rfl _ _ rfl (w.heap.size + 1) (.slice OA RV.length oc) RV rfl (by repeat (first | exact HOWN2.out | refine World.ownsRow.alloc ?_ _ | refine own_drewN ?_ _)) wr.heap.size (some ⟨wq.heap.size, 0, none⟩) ws.length ws.length rfl (heap_alloc_new _ _) (by rw [HRLN.out]; omega) (by simp; omega) ?_); intro g cap w6 hown6 hgrow hat6 hlt6)
          have r1 : Box1 w w6 p A c ws.length := box1_grown ((hx1.out.later HBR.out).later ((Below.refl _ _).alloc (Nat.le_refl _) _)) hgrow (fun j hj => (HLO.out j hj).1)
          have r2 : Below w.heap.size w w6 := (HBQ.out.alloc HBQ.out.size _).grown hgrow (by have := HBQ.out.size; simp; omega) (fun j hj => by have := (HLO.out j hj).1; omega)
          have r3 : ∀ b, b < k + 1 → w.heap.size < updF R k wq.heap.size b ∧ BoB w6 (updF R k wq.heap.size b) ws.length (tblM ws wl b) := fun b hb => by
            by_cases he : b = k
            · subst he
              rw [updF_same]
              exact ⟨hs0, (HRO2.out.later ((Below.refl _ _).alloc (Nat.le_refl _) _)).kept hgrow HNQ.out⟩
            · rw [updF_other _ _ (fun e => he e.symm)]
              exact ⟨(HRW2.out b (by omega)).1, ((HRW2.out b (by omega)).2.later ((Below.refl _ _).alloc (Nat.le_refl _) _)).kept hgrow (HTY.out b (by omega))⟩
          have R1 := Lib.hid r1; have R2 := Lib.hid r2; have R3 := Lib.hid r3; have HOWN6 := Lib.hid hown6; have HGROW := Lib.hid hgrow; clear r1 r2 r3 hown6 hgrow
          go_wp2
          go_roundw
          case rel => exact ⟨k + 1, updF R k wq.heap.size, by go_num, by omega, R1.out, by rw [HPT.out]; exact HOWN6.out, R3.out, R2.out⟩
          case measure => simp [intOf]; omega
    · obtain rfl : k = ws.length := by omega
      have hmat : MatB wq OA ws.length (tblM ws wl) := fun b hb => by
        obtain ⟨gb, gcap, hgv, _⟩ := hown.form (show 0 < (rowV R ws.length ws.length).length by rw [rowV_len]; omega)
        injection hgv with hgA hgn hgc
        subst hgA
        have e3 := hown.cellAt b (by rw [rowV_len]; omega)
        have e3' : wq.cell? ⟨gb, b, none⟩ = some (.slice (some ⟨R b, 0, none⟩) ws.length ws.length) := by rw [e3, rowV_get hb]
        obtain ⟨_, hRo⟩ := hrows b hb
        exact ⟨gb, 0, R b, rfl, World.block_lt_of_cell? wq _ e3', by rw [Nat.zero_add]; exact e3', hRo.lt, fun a ha => hRo.at_ ha⟩
      have hrl := rowV_len R ws.length ws.length
      rw [hrl] at hown ⊢
      have HOWN := Lib.hid hown; have HROWS := Lib.hid hrows; have HBW := Lib.hid hbw; have HMAT := Lib.hid hmat; clear hown hrows hbw hmat
      go_wp2
      go_ret
      exact ⟨_, _, rfl, HMAT.out, HBW.out⟩
end Go.Proofs.YtlpfecjkkgccgaaDoor
