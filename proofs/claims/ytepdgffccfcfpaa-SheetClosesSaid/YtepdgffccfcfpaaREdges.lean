/- The reference's Edges. -/
import Derived.Test.YtepdgffccfcfpaaREnd
import Derived.Test.YtepdgffccfcfpaaEdEnd
import Derived.Test.YtepdgffccfcfpaaOwnE
import Derived.Test.YtepdgffccfcfpaaCheck
import Derived.Test.YtepdgffccfcfpaaSReorder
import Derived.Test.YtepdgffccfcfpaaSClosed
import Derived.Test.YtepdgffccfcfpaaSEdges
import Derived.Test.YtepdgffccfcfpaaHeld
namespace Go.Proofs.Ytepdgffccfcfpaa
open Go.RowKit

/-- The edges that Edges returns. -/
def edG (P : Nat) (ws : List GW) : Nat → E4 := outF (eAll P (plsOf ws) ws.length)
theorem takes_tk {ws : List GW} {j q : Nat} (h : 0 ≤ (ws.getD j gwE).pl) : takesB (ws.getD j gwE).pl q = true ↔ tk (plsOf ws) j q := by
  unfold takesB tk plsOf
  rw [decide_eq_true_eq]
  omega
theorem endIs_at {P : Nat} {ws : List GW} {f q : Nat} {tw inn : Int} (hok : errSheet P ws = 0) (h : EndIs ws f q tw inn) : EndsAt (plsOf ws) f ws.length q tw inn := by
  obtain ⟨_, _, _, hall⟩ := okAll hok
  have hp : ∀ j, j < ws.length → 0 ≤ (ws.getD j gwE).pl := fun j hj => by
    rw [show ws.getD j gwE = ws[j] by simp [List.getD_eq_getElem?_getD, hj]]
    exact (hall _ (List.getElem_mem hj)).2.1
  rcases h with ⟨k, h1, h2, rfl, rfl, h3, h4⟩ | ⟨rfl, rfl, h4⟩
  · refine .inl ⟨k, h1, h2, (takes_tk (hp k h2)).1 h3, fun t g1 g2 g3 => ?_, rfl, ?_⟩
    · have := (takes_tk (hp t (by omega))).2 g3
      rw [h4 t g1 g2] at this; cases this
    · unfold plsOf
      have := hp k h2
      omega
  · refine .inr ⟨fun t g1 g2 g3 => ?_, rfl, rfl⟩
    have := (takes_tk (hp t g2)).2 g3
    rw [h4 t g1 g2] at this; cases this
theorem endIs_edG {P : Nat} {ws : List GW} {i f q : Nat} {fr out tw inn : Int} (hok : errSheet P ws = 0) (hq : q < P) (hst : Sta P (plsOf ws) i f q fr out) (hf : f ≤ ws.length) (h : EndIs ws f q tw inn) :
    edG P ws i = ⟨fr, out, tw, inn⟩ := by
  obtain ⟨_, _, _, hall⟩ := okAll hok
  obtain ⟨tw', inn', h1, h2⟩ := all_ends (n := ws.length) (pls_le (fun x hx => ⟨(hall x hx).2.1, (hall x hx).2.2.1⟩)) hq hst hf
  obtain ⟨rfl, rfl⟩ := endsAt_uniq (endIs_at hok h) h2
  exact h1
theorem rEndG_ (P i f q : Nat) (fr out : Int) (A : Option Addr) (c : Nat) (ws : List GW) (w : World) (hok : errSheet P ws = 0) (ha : RdW w A ws) (hq : q < P) (hst : Sta P (plsOf ws) i f q fr out) (hf : f ≤ ws.length) :
    Calls Try.prog 35 #[.agg #[.int .i64 (P : Int), .slice A ws.length c], .int .i64 (f : Int), .int .i64 (q : Int)] w fun e w' => e = .returned (.tuple #[.int .i64 (edG P ws i).to, .int .i64 (edG P ws i).inn]) ∧ Below w.heap.size w w' := by
  obtain ⟨h2, h24, hn, hall⟩ := okAll hok
  refine (rEnd_ P q f A c ws w ha hf (fun x hx => ⟨(hall x hx).2.1, by have := (hall x hx).2.2.1; omega⟩) (by omega) (by omega)).mono ?_
  rintro e w' ⟨tw, inn, rfl, hend, hb⟩
  rw [endIs_edG hok hq hst hf hend]
  exact ⟨rfl, hb⟩
def edL (P : Nat) (ws : List GW) (k : Nat) : List E4 := (List.range k).map (edG P ws)
theorem edL_succ (P : Nat) (ws : List GW) (k : Nat) : edL P ws (k + 1) = edL P ws k ++ [edG P ws k] := by unfold edL; simp [List.range_succ]
theorem edL_len (P : Nat) (ws : List GW) (k : Nat) : (edL P ws k).length = k := by unfold edL; simp
theorem Box1.grown {w w1 w2 : World} {p : Int} {A : Option Addr} {c n : Nat} (h : Box1 w w1 p A c n) {row : Option Nat} (hg : w1.grownBy w2 row) (hr : ∀ k, row = some k → w.heap.size < k) : Box1 w w2 p A c n :=
  ⟨(hg.cell_far ⟨w.heap.size, 0, none⟩ h.2.2 (fun e => by have := hr _ e.symm; simp at this)).trans h.1, (hg.cell_far ⟨w.heap.size, 1, none⟩ h.2.2 (fun e => by have := hr _ e.symm; simp at this)).trans h.2.1, Nat.lt_of_lt_of_le h.2.2 hg.size⟩
def REdPost (P : Nat) (ws : List GW) (w : World) (e : Ending) (w' : World) : Prop :=
  ∃ B d, e = .returned (.tuple #[.slice B (P + 2 * ws.length) d, .int .i64 0]) ∧ Rd w' B 4 (P + 2 * ws.length) (fCell (edG P ws)) ∧ Below w.heap.size w w'
theorem rd_edL {w : World} {base e c : Nat} {A : Option Addr} {P n : Nat} {ws : List GW} (h : w.ownsRow base e 4 (.slice A n c) n (edC (edL P ws n))) : Rd w A 4 n (fCell (edG P ws)) := by
  have h1 := own_rdE h
  rw [edL_len] at h1
  refine h1.congr fun j hj => ?_
  have hj4 : j / 4 < n := by omega
  have e1 : (edL P ws n).getD (j / 4) e40 = edG P ws (j / 4) := by
    unfold edL
    simp [List.getD_eq_getElem?_getD, hj4]
  unfold fCell
  simp only [e1]

set_option maxRecDepth 100000 in
set_option maxHeartbeats 4000000 in
theorem rEdges_ok (P : Nat) (A : Option Addr) (c : Nat) (ws : List GW) (w : World) (hok : errSheet P ws = 0) (ha : RdW w A ws) :
    Calls Try.prog 13 #[.agg #[.int .i64 (P : Int), .slice A ws.length c]] w (REdPost P ws w) := by
  obtain ⟨hp2, hp24, hn, hall⟩ := okAll hok
  have hb2 : Below w.heap.size w (w.alloc (.cells #[.int .i64 (P : Int), .slice A ws.length c] 24)) := (Below.refl _ _).alloc (Nat.le_refl _) _
  have hbx := Box1.made w (P : Int) A c ws.length 24
  have hok2 := hok
  have HA := Lib.hid ha; have HB2 := Lib.hid hb2; have HALL := Lib.hid hall; have HOK := Lib.hid hok; have HBX := Lib.hid hbx; clear ha hb2 hall hok hbx
  go_enter Try.func13, Try.ntmps13
  go_wp2_with fail
  refine (rCheck_ P A c ws _ (by omega) (by omega) (HA.out.later HB2.out (Nat.le_refl _))).mono ?_
  rintro e w1 ⟨rfl, hb1⟩
  have hx1 := HBX.out.later hb1
  have Y1 := Lib.hid (HB2.out.trans (hb1.mono (by simp))); clear hb1 HBX
  rw [hok2]
  clear hok2
  obtain ⟨c0, c1, hs0⟩ := hx1
  have hx1 : Hid (Box1 w w1 P A c ws.length) := ⟨c0, c1, hs0⟩
  go_wp2
  go_loopw [5, 6] (fun v iv wr => ∃ k : Nat, iv = .int .i64 k ∧ k ≤ P ∧ Box1 w wr P A c ws.length ∧ wr.ownsRow (w.heap.size + 1) 46 4 v (edL P ws k).length (edC (edL P ws k)) ∧ Below w.heap.size w wr) (fun _ iv _ => P - (intOf iv).toNat)
  case atStart => exact ⟨0, rfl, Nat.zero_le _, hx1.out, World.ownsRow_nil _ _ _ _, Y1.out⟩
  case round =>
    clear hx1 c0 c1 hs0
    obtain ⟨k, rfl, hk, hx, hown, hbw⟩ := hrel
    obtain ⟨c0, c1, hs0⟩ := hx
    have hx1 : Hid (Box1 w wr P A c ws.length) := ⟨c0, c1, hs0⟩
    obtain ⟨OA, oc, rfl⟩ := own_slice4 hown
    by_cases hlt : k < P
    · have hst : Sta P (plsOf ws) k 0 k (-1) k := .inl ⟨hlt, rfl, rfl, rfl, rfl⟩
      have hsu := edL_succ P ws k
      have hge : ∀ tw inn, EndIs ws 0 k tw inn → edG P ws k = ⟨-1, k, tw, inn⟩ := fun tw inn h => endIs_edG HOK.out hlt hst (Nat.zero_le _) h
      have hG : ∃ tw inn, edG P ws k = ⟨-1, k, tw, inn⟩ := by
        obtain ⟨tw, inn, h1, _⟩ := all_ends (n := ws.length) (pls_le (fun x hx => ⟨(HALL.out x hx).2.1, (HALL.out x hx).2.2.1⟩)) hlt hst (Nat.zero_le _)
        exact ⟨tw, inn, h1⟩
      clear hge
      obtain ⟨tw, inn, hG⟩ := hG
      have hEnd := fun W (h : RdW W A ws) => rEndG_ P k 0 k (-1) k A c ws W HOK.out h hlt hst (Nat.zero_le _)
      rw [hG] at hsu
      simp only [hG] at hEnd
      have HOWN := Lib.hid hown; have HBW := Lib.hid hbw; have HST := Lib.hid hst; have HSU := Lib.hid hsu; have HG := Lib.hid hG; have HEND := Lib.hid hEnd; clear hown hbw hst hsu hG hEnd
      go_wp2_with fail
      refine (HEND.out _ (HA.out.later HBW.out (Nat.le_refl _))).mono ?_
      rintro e w2 ⟨rfl, hb1⟩
      have X2 := Lib.hid (hx1.out.later hb1)
      have hown2 := own_below3 HOWN.out hb1
      have Y2 := Lib.hid (HBW.out.trans (hb1.mono HBW.out.size))
      have hs2 : w.heap.size < w2.heap.size := Nat.lt_of_lt_of_le hs0 hb1.size
      have hlo := hown2.lt
      clear hb1
      have HOWN2 := Lib.hid hown2; have HLO := Lib.hid hlo; clear hown2 hlo
      go_wp2_with (at_builtin; go_must (refine wpList_appE_Try rfl _ _ rfl (w.heap.size + 1) (.slice OA (edL P ws k).length oc) (edL P ws k) rfl (by repeat (first | exact HOWN2.out | refine World.ownsRow.alloc ?_ _ | refine own_drewN ?_ _)) w2.heap.size ⟨-1, k, tw, inn⟩ rfl (heap_alloc_new _ _) (by rw [edL_len]; omega) (by simp; omega) ?_); intro g cap w6 hown6 hgrow hat6 hlt6)
      have q1 : Box1 w w6 P A c ws.length := (X2.out.later ((Below.refl _ _).alloc (Nat.le_refl _) _)).grown hgrow (fun j hj => (HLO.out j hj).1)
      have q2 : Below w.heap.size w w6 := (Y2.out.alloc Y2.out.size _).grown hgrow (by simp; omega) (fun j hj => by have := (HLO.out j hj).1; omega)
      have Q1 := Lib.hid q1; have Q2 := Lib.hid q2; have HOWN6 := Lib.hid hown6; have HGROW := Lib.hid hgrow; clear q1 q2 hown6 hgrow
      go_wp2
      go_roundw
      case rel => exact ⟨k + 1, by go_num, by omega, Q1.out, by rw [HSU.out]; exact HOWN6.out, Q2.out⟩
      case measure => simp [intOf]; omega
    · obtain rfl : k = P := by omega
      have HOWN := Lib.hid hown; have HBW := Lib.hid hbw; clear hown hbw
      go_wp2
      go_loopw [5, 9] (fun v iv wr => ∃ i : Nat, iv = .int .i64 i ∧ i ≤ ws.length ∧ Box1 w wr k A c ws.length ∧ wr.ownsRow (w.heap.size + 1) 46 4 v (edL k ws (k + 2 * i)).length (edC (edL k ws (k + 2 * i))) ∧ Below w.heap.size w wr) (fun _ iv _ => ws.length - (intOf iv).toNat)
      case atStart => exact ⟨0, rfl, Nat.zero_le _, hx1.out, HOWN.out, HBW.out⟩
      case round =>
        clear hx1 c0 c1 hs0 HOWN HBW
        obtain ⟨i, rfl, hi, hx, hown, hbw⟩ := hrel
        obtain ⟨c0, c1, hs0⟩ := hx
        have hx1 : Hid (Box1 w wr k A c ws.length) := ⟨c0, c1, hs0⟩
        obtain ⟨OA, oc, rfl⟩ := own_slice4 hown
        by_cases hlt : i < ws.length
        · have HOWN := Lib.hid hown; have HBW := Lib.hid hbw; clear hown hbw
          go_wp2
          go_loopw [5, 10] (fun v iv wr => ∃ sd : Nat, iv = .int .i64 sd ∧ sd ≤ 2 ∧ Box1 w wr k A c ws.length ∧ wr.ownsRow (w.heap.size + 1) 46 4 v (edL k ws (k + 2 * i + sd)).length (edC (edL k ws (k + 2 * i + sd))) ∧ Below w.heap.size w wr) (fun _ iv _ => 2 - (intOf iv).toNat)
          case atStart => exact ⟨0, rfl, Nat.zero_le _, hx1.out, HOWN.out, HBW.out⟩
          case round =>
            clear hx1 c0 c1 hs0 HOWN HBW
            obtain ⟨sd, rfl, hsd, hx, hown, hbw⟩ := hrel
            obtain ⟨c0, c1, hs0⟩ := hx
            have hx1 : Hid (Box1 w wr k A c ws.length) := ⟨c0, c1, hs0⟩
            obtain ⟨OA, oc, rfl⟩ := own_slice4 hown
            by_cases hs2 : sd < 2
            · obtain ⟨b, off, rfl, hbL, t1, t2, t3⟩ := (HA.out.later hbw (Nat.le_refl _)).at_ hlt
              obtain ⟨_, p1, p2, _⟩ := HALL.out ws[i] (List.getElem_mem hlt)
              have hpw : ws[i].pl = (plsOf ws i : Int) := by unfold plsOf; simp [List.getD_eq_getElem?_getD, hlt]; omega
              rw [hpw] at t2 p1 p2
              clear t1 t3
              have hql : plsOf ws i + sd < k := by omega
              have hst : Sta k (plsOf ws) (k + 2 * i + sd) (i + 1) (plsOf ws i + sd) i sd := .inr ⟨i, sd, hs2, rfl, rfl, rfl, rfl, rfl⟩
              have hsu := edL_succ k ws (k + 2 * i + sd)
              have hG : ∃ tw inn, edG k ws (k + 2 * i + sd) = ⟨i, sd, tw, inn⟩ := by
                obtain ⟨tw, inn, h1, _⟩ := all_ends (n := ws.length) (pls_le (fun x hx => ⟨(HALL.out x hx).2.1, (HALL.out x hx).2.2.1⟩)) hql hst (by omega)
                exact ⟨tw, inn, h1⟩
              obtain ⟨tw, inn, hG⟩ := hG
              have hEnd := fun W (h : RdW W (some ⟨b, off, none⟩) ws) => rEndG_ k (k + 2 * i + sd) (i + 1) (plsOf ws i + sd) i sd (some ⟨b, off, none⟩) c ws W HOK.out h hql hst (by omega)
              rw [hG] at hsu
              simp only [hG, Int.natCast_add] at hEnd
              have x1 : (0 : Int) ≤ (i : Int) := by omega
              have x2 : (i : Int) < (ws.length : Int) := by omega
              generalize plsOf ws i = pl at *
              have x3 : IntKind.i64.wrap ((pl : Int) + sd) = (pl : Int) + sd := IntWalk.i64_in _ (by omega)
              have x4 : IntKind.i64.wrap ((i : Int) + 1) = (i : Int) + 1 := IntWalk.i64_in _ (by omega)
              have hlo := hown.lt
              have hla := edL_len k ws (k + 2 * i + sd)
              generalize hLL : edL k ws (k + 2 * i + sd) = LL at *
              have HOWN := Lib.hid hown; have HBW := Lib.hid hbw; have HST := Lib.hid hst; have HSU := Lib.hid hsu; have HG := Lib.hid hG; have HEND := Lib.hid hEnd; have HLO := Lib.hid hlo; have HLA := Lib.hid hla; have HLL := Lib.hid hLL; clear hown hbw hst hsu hG hEnd hlo hla hLL
              go_wp2
              go_region_held3 (fun wX => Below wr.heap.size wr wX ∧ (∀ b o, b < wr.heap.size → wX.cell? ⟨b, o, none⟩ = wr.cell? ⟨b, o, none⟩) ∧ wr.heap.size ≤ wX.heap.size) ((refine bcell2 ?_; first | exact (Below.refl _ _).drew | exact ‹Below wr.heap.size wr _ ∧ _›.1.trans (hbH.mono ‹Below wr.heap.size wr _ ∧ _›.1.size) | exact ‹Below wr.heap.size wr _ ∧ _›.1.alloc ‹Below wr.heap.size wr _ ∧ _›.1.size _ | exact ‹Below wr.heap.size wr _ ∧ _›.1)) ((first | (go_at_call 35; refine (HEND.out _ (HA.out.later (HBW.out.trans (‹Below wr.heap.size wr _ ∧ _›.1.mono HBW.out.size)) (Nat.le_refl _))).mono ?_; rintro e w2 ⟨rfl, hbH⟩)))
              obtain ⟨hbX, hcX, hsX⟩ := ‹Below wr.heap.size wr _ ∧ _›
              have X2 := Lib.hid (hx1.out.later hbX)
              have hown2 := own_below3 HOWN.out hbX
              have Y2 := Lib.hid (HBW.out.trans (hbX.mono HBW.out.size))
              clear hbX hcX
              have HOWN2 := Lib.hid hown2; clear hown2
              go_wp2_with (at_builtin; go_must (refine wpList_appE_Try rfl _ _ rfl (w.heap.size + 1) (.slice OA LL.length oc) LL rfl (by repeat (first | exact HOWN2.out | refine World.ownsRow.alloc ?_ _ | refine own_drewN ?_ _)) _ ⟨i, sd, tw, inn⟩ rfl (heap_alloc_new _ _) (by rw [HLA.out]; omega) (by simp; omega) ?_); intro g cap w6 hown6 hgrow hat6 hlt6)
              have q1 : Box1 w w6 k (some ⟨b, off, none⟩) c ws.length := (X2.out.later ((Below.refl _ _).alloc (Nat.le_refl _) _)).grown hgrow (fun j hj => (HLO.out j hj).1)
              have q2 : Below w.heap.size w w6 := (Y2.out.alloc Y2.out.size _).grown hgrow (by simp; omega) (fun j hj => by have := (HLO.out j hj).1; omega)
              have Q1 := Lib.hid q1; have Q2 := Lib.hid q2; have HOWN6 := Lib.hid hown6; have HGROW := Lib.hid hgrow; clear q1 q2 hown6 hgrow
              go_roundw
              case rel => exact ⟨sd + 1, by go_num, by omega, Q1.out, by rw [show k + 2 * i + (sd + 1) = k + 2 * i + sd + 1 by omega, HSU.out, ← HLL.out] at *; exact HOWN6.out, Q2.out⟩
              case measure => simp [intOf]; omega
            · obtain rfl : sd = 2 := by omega
              rw [show k + 2 * i + 2 = k + 2 * (i + 1) by omega] at hown ⊢
              have HOWN := Lib.hid hown; have HBW := Lib.hid hbw; clear hown hbw
              go_wp2
              go_roundw
              case rel => exact ⟨i + 1, by go_num, by omega, hx1.out, HOWN.out, HBW.out⟩
              case measure => simp [intOf]; omega
        · obtain rfl : i = ws.length := by omega
          have hl := edL_len k ws (k + 2 * ws.length)
          rw [hl] at hown ⊢
          have hrd := rd_edL hown
          have HOWN := Lib.hid hown; have HBW := Lib.hid hbw; have HRD := Lib.hid hrd; have HL := Lib.hid hl; clear hown hbw hrd hl
          go_wp2
          go_ret2
          exact ⟨_, _, rfl, HRD.out, HBW.out⟩
end Go.Proofs.Ytepdgffccfcfpaa
