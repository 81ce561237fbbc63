/- Texts of this claim, laid together: ROrder, RReorder, SReoW. -/
import Derived.Test.YtnplcephmidjbaaDoorMaA
import Derived.Test.YtnplcephmidjbaaDoorMaB
import Derived.Test.YtnplcephmidjbaaDoorMaD
import Derived.Test.YtnplcephmidjbaaDoorMaO
/- The reference's Order: is a list an order of a valid sheet? -/
namespace Go.Proofs.YtnplcephmidjbaaDoor
open Go.RowKit

theorem oRun_snoc (n : Nat) (E : Nat → Nat) (x : Int) : ∀ (l : List Int) (S : Nat), oRun n E S (l ++ [x]) = (oRun n E S l).bind fun S' => oStep n E S' x
  | [], S => by
    show (match oStep n E S x with | some S' => oRun n E S' [] | none => none) = oStep n E S x
    cases oStep n E S x <;> rfl
  | y :: l, S => by
    show (match oStep n E S y with | some S' => oRun n E S' (l ++ [x]) | none => none) = Option.bind (match oStep n E S y with | some S' => oRun n E S' l | none => none) _
    cases oStep n E S y with
    | none => rfl
    | some S' => exact oRun_snoc n E x l S'
theorem oRun_stop (n : Nat) (E : Nat → Nat) (l : List Int) : ∀ (j : Nat), j ≤ l.length → oRun n E 0 (l.take j) = none → oRun n E 0 l = none := by
  have key : ∀ (a b : List Int) (S : Nat), oRun n E S a = none → oRun n E S (a ++ b) = none := by
    intro a
    induction a with
    | nil => intro b S h; cases h
    | cons y a ih =>
      intro b S h
      show (match oStep n E S y with | some S' => oRun n E S' (a ++ b) | none => none) = none
      have h' : (match oStep n E S y with | some S' => oRun n E S' a | none => none) = none := h
      cases hs : oStep n E S y with
      | none => rfl
      | some S' => rw [hs] at h'; exact ih b S' h'
  intro j hj h
  have := key (l.take j) (l.drop j) 0 h
  rwa [List.take_append_drop] at this
theorem oStep_some {n : Nat} {E : Nat → Nat} {S S' : Nat} {x : Int} (h : oStep n E S x = some S') : (0 ≤ x ∧ x < n ∧ S.testBit x.toNat = false ∧ ∀ a, a < x.toNat → tP (E a) (E x.toNat) = true → S.testBit a = true) ∧ S' = S ||| 2 ^ x.toNat := by
  unfold oStep at h
  split at h
  · rename_i hc; exact ⟨hc, (Option.some.inj h).symm⟩
  · cases h
theorem oRun_range {n : Nat} {E : Nat → Nat} : ∀ (l : List Int) (S : Nat), (oRun n E S l).isSome = true → ∀ x ∈ l, 0 ≤ x ∧ x < n
  | [], _, _ => fun x h => absurd h (by simp)
  | y :: l, S, h => fun x hx => by
    have h' : (match oStep n E S y with | some S' => oRun n E S' l | none => none).isSome = true := h
    cases hs : oStep n E S y with
    | none => rw [hs] at h'; cases h'
    | some S' =>
      rw [hs] at h'
      rcases List.mem_cons.1 hx with rfl | hx
      · obtain ⟨⟨h1, h2, _⟩, _⟩ := oStep_some hs; exact ⟨h1, h2⟩
      · exact oRun_range l S' h' x hx
/-- Is the list an order of the sheet? -/
def ordQ (ws : List GW) (l : List Int) : Bool := decide (l.length = ws.length) && (oRun ws.length (plsOf ws) 0 l).isSome
theorem ordQ_no {ws : List GW} {l : List Int} {j S : Nat} (hj : j < l.length) (hr : oRun ws.length (plsOf ws) 0 (l.take j) = some S) (hs : oStep ws.length (plsOf ws) S l[j] = none) : ordQ ws l = false := by
  have h1 : oRun ws.length (plsOf ws) 0 (l.take (j + 1)) = none := by
    rw [List.take_succ_eq_append_getElem hj, oRun_snoc, hr]
    exact hs
  unfold ordQ
  rw [oRun_stop _ _ l (j + 1) (by omega) h1]
  simp
theorem tP_touchO {ws : List GW} {a b : Nat} (ha : a < ws.length) (hb : b < ws.length) (h1 : 0 ≤ ws[a].pl) (h2 : 0 ≤ ws[b].pl) : touchB ws[a].pl ws[b].pl = tP (plsOf ws a) (plsOf ws b) := by
  unfold touchB tP plsOf
  rw [show ws.getD a gwE = ws[a] by simp [List.getD_eq_getElem?_getD, ha], show ws.getD b gwE = ws[b] by simp [List.getD_eq_getElem?_getD, hb], decide_eq_decide]
  omega
theorem touch_isO {b : Bool} (k1 a1 k2 a2 : Int) (s1 s2 : ByteArray) (w : World) (h1 : -1000 ≤ a1) (h1' : a1 ≤ 1000) (h2 : -1000 ≤ a2) (h2' : a2 ≤ 1000) (hb : touchB a1 a2 = b) :
    Calls Tryd.prog 42 #[.agg #[.int .i64 k1, .int .i64 a1, .string s1], .agg #[.int .i64 k2, .int .i64 a2, .string s2]] w fun e w' => e = .returned (.bool b) ∧ Below w.heap.size w w' := by
  subst hb; exact touch_ k1 a1 k2 a2 s1 s2 w h1 h1' h2 h2'
theorem box1_setO {w w1 : World} {p : Int} {A : Option Addr} {c n : Nat} (h : Box1 w w1 p A c n) {q : Addr} (hq : q.block ≠ w.heap.size) (u : Value) : Box1 w (w1.setCell q u) p A c n :=
  ⟨(World.cell?_setCell_other _ _ _ _ (fun e => hq (by rw [e]))).trans h.1, (World.cell?_setCell_other _ _ _ _ (fun e => hq (by rw [e]))).trans h.2.1, by simpa using h.2.2⟩

set_option maxRecDepth 100000 in
set_option maxHeartbeats 8000000 in
theorem rOrder_ (p : Int) (A L : Option Addr) (c lc : Nat) (ws : List GW) (l : List Int) (w : World) (hok : errSheet p ws = 0) (ha : RdW w A ws) (hl : RdI w L l) :
    Calls Tryd.prog 21 #[.agg #[.int .i64 p, .slice A ws.length c], .slice L l.length lc] w fun e w' => e = .returned (.bool (ordQ ws l)) ∧ Below w.heap.size w w' := by
  obtain ⟨hp2, hp24, hn, hall⟩ := okAll hok
  have hb2 : Below w.heap.size w (w.alloc (.cells #[.int .i64 p, .slice A ws.length c] 24)) := (Below.refl _ _).alloc (Nat.le_refl _) _
  have hbx := Box1.made w p A c ws.length 24
  have hln := hl.1
  by_cases hlen : l.length = ws.length
  rotate_left
  · have hne : ((l.length : Int) != (ws.length : Int)) = true := by simp; omega
    have hr : ordQ ws l = false := by unfold ordQ; rw [decide_eq_false hlen]; rfl
    have HA := Lib.hid ha; have HL := Lib.hid hl; have HB2 := Lib.hid hb2; have HLEN := Lib.hid hlen; have HALL := Lib.hid hall; have HR := Lib.hid hr; have HBX := Lib.hid hbx; have HOK := Lib.hid hok; clear ha hl hb2 hlen hall hr hbx hok
    go_enter Tryd.func21, Tryd.ntmps21
    go_wp2
    go_ret
    exact ⟨ret_bool HR.out.symm, HB2.out⟩
  have hne : ((l.length : Int) != (ws.length : Int)) = false := by simp; omega
  have hmk := run_make_row' (P := Tryd.prog) 76 4 (.bool false) 1 Tryd.underlying76 infoB_Tryd rfl .i64 .i64 l.length (by omega) (by omega)
  have hm0 := (BoB.made (w.alloc (.cells #[.int .i64 p, .slice A ws.length c] 24)) l.length).congr (g' := fun b => (0 : Nat).testBit b) (fun b _ => by simp)
  have hx2 : Box1 w ((w.alloc (.cells #[.int .i64 p, .slice A ws.length c] 24)).alloc (.cells (madeCells #[.bool false] l.length) 4)) p A c ws.length := hbx.later ((Below.refl _ _).alloc (Nat.le_refl _) _)
  rw [show (w.alloc (.cells #[.int .i64 p, .slice A ws.length c] 24)).heap.size = w.heap.size + 1 by simp] at hm0
  have hy2 := hb2.alloc hb2.size (.cells (madeCells #[.bool false] l.length) 4)
  have HA := Lib.hid ha; have HL := Lib.hid hl; have HB2 := Lib.hid hb2; have HLEN := Lib.hid hlen; have HALL := Lib.hid hall; have HBX := Lib.hid hbx; have HOK := Lib.hid hok; have HM0 := Lib.hid hm0; have HX2 := Lib.hid hx2; have HY2 := Lib.hid hy2; clear ha hl hb2 hlen hall hbx hok hm0 hx2 hy2
  go_enter Tryd.func21, Tryd.ntmps21
  go_wp2
  clear hmk
  go_loopw [6] (fun iv wr => ∃ j S : Nat, iv = .int .i64 j ∧ j ≤ l.length ∧ oRun ws.length (plsOf ws) 0 (l.take j) = some S ∧ BoB wr (w.heap.size + 1) l.length (fun b => S.testBit b) ∧ Box1 w wr p A c ws.length ∧ Below w.heap.size w wr) (fun iv _ => l.length - (intOf iv).toNat)
  case atStart => exact ⟨0, 0, rfl, Nat.zero_le _, rfl, HM0.out, HX2.out, HY2.out⟩
  case round =>
    clear HM0 HX2 HY2
    obtain ⟨j, S, rfl, hj, hrun, hS, hx, hbw⟩ := hrel
    have hSl := hS.lt
    obtain ⟨c0, c1, hs0⟩ := hx
    have hx0 : Hid (Box1 w wr p A c ws.length) := ⟨c0, c1, hs0⟩
    by_cases hlt : j < l.length
    · obtain ⟨bl, ol, rfl, hbl, l1⟩ := (HL.out.later hbw (Nat.le_refl _)).at_ hlt
      have x1 : (0 : Int) ≤ (j : Int) := by omega
      have x2 : (j : Int) < (l.length : Int) := by omega
      have hno : oStep ws.length (plsOf ws) S l[j] = none → ordQ ws l = false := ordQ_no hlt hrun
      have hyes : ∀ S', oStep ws.length (plsOf ws) S l[j] = some S' → oRun ws.length (plsOf ws) 0 (l.take (j + 1)) = some S' := fun S' h => by
        rw [List.take_succ_eq_append_getElem hlt, oRun_snoc, hrun]
        exact h
      generalize l[j] = x at *
      have hlen' := HLEN.out
      by_cases r1 : x < 0
      · have hr := hno (if_neg (fun h => by omega))
        have HNO := Lib.hid hno; have HYES := Lib.hid hyes; have HRUN := Lib.hid hrun; have HS := Lib.hid hS; have HBW := Lib.hid hbw; have HR := Lib.hid hr; clear hno hyes hrun hS hbw hr
        go_wp2
        go_ret
        exact ⟨ret_bool HR.out.symm, HBW.out⟩
      · obtain ⟨i, rfl⟩ := Int.eq_ofNat_of_zero_le (show 0 ≤ x by omega)
        have r1' : (0 : Int) ≤ (i : Int) := by omega
        by_cases r2 : (l.length : Int) ≤ (i : Int)
        · have hr := hno (if_neg (fun h => by omega))
          have r2n : l.length ≤ i := by omega
          have HNO := Lib.hid hno; have HYES := Lib.hid hyes; have HRUN := Lib.hid hrun; have HS := Lib.hid hS; have HBW := Lib.hid hbw; have HR := Lib.hid hr; clear hno hyes hrun hS hbw hr
          clear hlen'
          go_wp2
          go_ret
          exact ⟨ret_bool HR.out.symm, HBW.out⟩
        · have hil : i < ws.length := by omega
          have hil2 : i < l.length := by omega
          have r2' : (i : Int) < (l.length : Int) := by omega
          have r2w : (i : Int) < (ws.length : Int) := by omega
          have e1 := hS.at_ hil2
          cases hbit : S.testBit i with
          | true =>
            have hr := hno (if_neg (fun h => by rw [Int.toNat_natCast, hbit] at h; exact absurd h.2.2.1 (by simp)))
            rw [hbit] at e1
            have HNO := Lib.hid hno; have HYES := Lib.hid hyes; have HRUN := Lib.hid hrun; have HS := Lib.hid hS; have HBW := Lib.hid hbw; have HR := Lib.hid hr; have HBIT := Lib.hid hbit; clear hno hyes hrun hS hbw hr hbit
            clear hlen'
            go_wp2
            go_ret
            exact ⟨ret_bool HR.out.symm, HBW.out⟩
          | false =>
            rw [hbit] at e1
            obtain ⟨wq, rfl⟩ : ∃ wq : World, wq = wr := ⟨_, rfl⟩
            have HNO := Lib.hid hno; have HYES := Lib.hid hyes; have HRUN := Lib.hid hrun; have HS := Lib.hid hS; have HBW := Lib.hid hbw; have HBIT := Lib.hid hbit; clear hno hyes hrun hS hbw hbit
            clear hlen'
            go_wp2
            go_loopw [8] (fun iv wr => ∃ a : Nat, iv = .int .i64 a ∧ a ≤ i ∧ (∀ a', a' < a → tP (plsOf ws a') (plsOf ws i) = true → S.testBit a' = true) ∧ Below wq.heap.size wq wr) (fun iv _ => i - (intOf iv).toNat)
            case atStart => exact ⟨0, rfl, Nat.zero_le _, fun a' h => absurd h (by omega), Below.refl _ _⟩
            case round =>
              clear e1 c0 c1
              obtain ⟨a, rfl, hai, hdone, hbr⟩ := hrel
              have hbq := HBW.out.trans (hbr.mono HBW.out.size)
              have hS2 := HS.out.later hbr
              have hSl2 := hS2.lt
              obtain ⟨c0, c1, hs1⟩ := hx0.out.later hbr
              by_cases hal : a < i
              · have haw : a < ws.length := by omega
                have hal2 : a < l.length := by omega
                obtain ⟨b, off, rfl, hbL, t1, t2, t3⟩ := (HA.out.later hbq (Nat.le_refl _)).at_ haw
                obtain ⟨b', off', hA', _, u1, u2, u3⟩ := (HA.out.later hbq (Nat.le_refl _)).at_ hil
                injection hA' with hA'; injection hA' with hA1 hA2; subst hA1; subst hA2
                obtain ⟨_, p1, p2, _⟩ := HALL.out ws[a] (List.getElem_mem haw)
                obtain ⟨_, p3, p4, _⟩ := HALL.out ws[i] (List.getElem_mem hil)
                have htp := tP_touchO haw hil p1 p3
                have e2 := hS2.at_ hal2
                have y1 : (0 : Int) ≤ (a : Int) := by omega
                have y2 : (a : Int) < (ws.length : Int) := by omega
                have y3 : (a : Int) < (l.length : Int) := by omega
                have hgo : (touchB ws[a].pl ws[i].pl = false ∨ S.testBit a = true) → ∀ a', a' < a + 1 → tP (plsOf ws a') (plsOf ws i) = true → S.testBit a' = true := fun h a' h1 h2 => by
                  by_cases e : a' = a
                  · subst e
                    rcases h with h | h
                    · rw [← htp, h] at h2; cases h2
                    · exact h
                  · exact hdone a' (by omega) h2
                have hstop : touchB ws[a].pl ws[i].pl = true → S.testBit a = false → ordQ ws l = false := fun h1 h2 => HNO.out (if_neg (fun h => by
                  have := h.2.2.2 a (by rw [Int.toNat_natCast]; exact hal) (by rw [Int.toNat_natCast, ← htp]; exact h1)
                  rw [h2] at this; cases this))
                generalize S.testBit a = sa at *
                by_cases ht : touchB ws[a].pl ws[i].pl = true
                · cases sa with
                  | true =>
                    have hd2 := hgo (.inr rfl)
                    generalize ws[a].pl = pa at *
                    generalize ws[i].pl = pb at *
                    have HBR := Lib.hid hbr; have HBQ := Lib.hid hbq; have HS2 := Lib.hid hS2; have HTP := Lib.hid htp; have HGO := Lib.hid hgo; have HSTOP := Lib.hid hstop; have HDONE := Lib.hid hdone; have HD2 := Lib.hid hd2; clear hbr hbq hS2 htp hgo hstop hdone hd2
                    go_wp2
                    have hbelc : ∀ (u : Bel wr.heap.size wr) b o, b < wr.heap.size → u.wd.cell? ⟨b, o, none⟩ = wr.cell? ⟨b, o, none⟩ := fun u b o h => u.h.cell (p := ⟨b, o, none⟩) h
                    have hbeln : Nonempty (Bel wr.heap.size wr) := ⟨⟨wr, Below.refl _ _⟩⟩
                    refine wp_region_bel wr.heap.size (by kernel_rfl) (by kernel_rfl) ?_
                    repeat (go_big_quiet_step ((go_at_call 42; exact quiet_bel (Nat.le_refl _) (touch_isO _ _ _ _ _ _ _ (by omega) (by omega) (by omega) (by omega) ht))))
                    refine wpQuiet_nil ?_
                    intro wB hB0; obtain ⟨uB, hu⟩ := hB0; have hbB0 := uB.h; rw [← hu] at hbB0; clear hu uB hbelc hbeln
                    obtain ⟨hbB, hcB, hsB⟩ := bcell2 hbB0; clear hbB0
                    clear hcB
                    have HBB := Lib.hid hbB; clear hbB
                    go_wp2
                    go_roundw
                    case rel => exact ⟨a + 1, by go_num, by omega, HD2.out, HBR.out.trans (HBB.out.mono HBR.out.size)⟩
                    case measure => simp [intOf]; omega
                  | false =>
                    have hr := hstop ht rfl
                    generalize ws[a].pl = pa at *
                    generalize ws[i].pl = pb at *
                    have HBR := Lib.hid hbr; have HBQ := Lib.hid hbq; have HS2 := Lib.hid hS2; have HTP := Lib.hid htp; have HGO := Lib.hid hgo; have HSTOP := Lib.hid hstop; have HDONE := Lib.hid hdone; have HR := Lib.hid hr; clear hbr hbq hS2 htp hgo hstop hdone hr
                    go_wp2
                    have hbelc : ∀ (u : Bel wr.heap.size wr) b o, b < wr.heap.size → u.wd.cell? ⟨b, o, none⟩ = wr.cell? ⟨b, o, none⟩ := fun u b o h => u.h.cell (p := ⟨b, o, none⟩) h
                    have hbeln : Nonempty (Bel wr.heap.size wr) := ⟨⟨wr, Below.refl _ _⟩⟩
                    refine wp_region_bel wr.heap.size (by kernel_rfl) (by kernel_rfl) ?_
                    repeat (go_big_quiet_step ((go_at_call 42; exact quiet_bel (Nat.le_refl _) (touch_isO _ _ _ _ _ _ _ (by omega) (by omega) (by omega) (by omega) ht))))
                    refine wpQuiet_nil ?_
                    intro wB hB0; obtain ⟨uB, hu⟩ := hB0; have hbB0 := uB.h; rw [← hu] at hbB0; clear hu uB hbelc hbeln
                    obtain ⟨hbB, hcB, hsB⟩ := bcell2 hbB0; clear hbB0
                    clear hcB
                    have HBB := Lib.hid hbB; clear hbB
                    go_wp2
                    go_ret
                    exact ⟨ret_bool HR.out.symm, HBQ.out.trans (HBB.out.mono HBQ.out.size)⟩
                · have ht' : touchB ws[a].pl ws[i].pl = false := by simpa using ht
                  have hd2 := hgo (.inl ht')
                  clear ht
                  generalize ws[a].pl = pa at *
                  generalize ws[i].pl = pb at *
                  have HBR := Lib.hid hbr; have HBQ := Lib.hid hbq; have HS2 := Lib.hid hS2; have HTP := Lib.hid htp; have HGO := Lib.hid hgo; have HSTOP := Lib.hid hstop; have HDONE := Lib.hid hdone; have HD2 := Lib.hid hd2; clear hbr hbq hS2 htp hgo hstop hdone hd2
                  go_wp2
                  have hbelc : ∀ (u : Bel wr.heap.size wr) b o, b < wr.heap.size → u.wd.cell? ⟨b, o, none⟩ = wr.cell? ⟨b, o, none⟩ := fun u b o h => u.h.cell (p := ⟨b, o, none⟩) h
                  have hbeln : Nonempty (Bel wr.heap.size wr) := ⟨⟨wr, Below.refl _ _⟩⟩
                  refine wp_region_bel wr.heap.size (by kernel_rfl) (by kernel_rfl) ?_
                  repeat (go_big_quiet_step ((go_at_call 42; exact quiet_bel (Nat.le_refl _) (touch_isO _ _ _ _ _ _ _ (by omega) (by omega) (by omega) (by omega) ht'))))
                  refine wpQuiet_nil ?_
                  intro wB hB0; obtain ⟨uB, hu⟩ := hB0; have hbB0 := uB.h; rw [← hu] at hbB0; clear hu uB hbelc hbeln
                  obtain ⟨hbB, hcB, hsB⟩ := bcell2 hbB0; clear hbB0
                  clear hcB
                  have HBB := Lib.hid hbB; clear hbB
                  go_wp2
                  go_roundw
                  case rel => exact ⟨a + 1, by go_num, by omega, HD2.out, HBR.out.trans (HBB.out.mono HBR.out.size)⟩
                  case measure => simp [intOf]; omega
              · obtain rfl : a = i := by omega
                have hst : oStep ws.length (plsOf ws) S a = some (S ||| 2 ^ a) := by
                  unfold oStep
                  rw [Int.toNat_natCast, if_pos ⟨by omega, by omega, HBIT.out, hdone⟩]
                have hrn := HYES.out _ hst
                have e2 := hS2.at_ hil2
                have e3 := hS2.free a
                have hS3 : BoB (wr.setCell ⟨w.heap.size + 1, a, none⟩ (.bool true)) (w.heap.size + 1) l.length (fun b => (S ||| 2 ^ a).testBit b) := (hS2.put a true).congr fun b _ => by
                  rw [Nat.testBit_or, Nat.testBit_two_pow]
                  by_cases hb : b = a
                  · simp [hb]
                  · have hb' : ¬ a = b := fun e => hb e.symm
                    simp [hb, hb']
                have hx3 := box1_setO (hx0.out.later hbr) (q := ⟨w.heap.size + 1, a, none⟩) (by show w.heap.size + 1 ≠ w.heap.size; omega) (.bool true)
                have hb5 := hbq.setCell (p := ⟨w.heap.size + 1, a, none⟩) (by show w.heap.size ≤ w.heap.size + 1; omega) (.bool true)
                have HBR := Lib.hid hbr; have HBQ := Lib.hid hbq; have HS2 := Lib.hid hS2; have HS3 := Lib.hid hS3; have HX3 := Lib.hid hx3; have HB5 := Lib.hid hb5; have HDONE := Lib.hid hdone; have HST := Lib.hid hst; have HRN := Lib.hid hrn; clear hbr hbq hS2 hS3 hx3 hb5 hdone hst hrn
                go_wp2
                go_roundw
                case rel => exact ⟨j + 1, S ||| 2 ^ a, by go_num, by omega, HRN.out, HS3.out, HX3.out, HB5.out⟩
                case measure => simp [intOf]; omega
    · obtain rfl : j = l.length := by omega
      rw [List.take_of_length_le (Nat.le_refl _)] at hrun
      have hr : ordQ ws l = true := by unfold ordQ; rw [decide_eq_true HLEN.out, hrun]; rfl
      have HRUN := Lib.hid hrun; have HS := Lib.hid hS; have HBW := Lib.hid hbw; have HR := Lib.hid hr; clear hrun hS hbw hr
      go_wp2
      go_ret
      exact ⟨ret_bool HR.out.symm, HBW.out⟩
end Go.Proofs.YtnplcephmidjbaaDoor
/- The reference's Reorder. -/
namespace Go.Proofs.YtnplcephmidjbaaDoor
open Go.RowKit

def reoX (p : Int) (ws : List GW) (l : List Int) : Int := if errSheet p ws = 0 then (if ordQ ws l = true then 0 else 4) else errSheet p ws
def reoP (p : Int) (ws : List GW) (l : List Int) : Int := if reoX p ws l = 0 then p else 0
def reoV (p : Int) (ws : List GW) (l : List Int) : List GW := if reoX p ws l = 0 then reoG ws l else []

end Go.Proofs.YtnplcephmidjbaaDoor
/- The program's Reorder, of any sheet and any list. -/
namespace Go.Proofs.YtnplcephmidjbaaDoor
open Go.RowKit

theorem sReorder_ (p : Int) (A L : Option Addr) (c lc : Nat) (ws : List GW) (l : List Int) (w : World) (hsh : ShIn w p A ws) (hl : RdI w L l) :
    Calls Tryd.prog 43 #[.agg #[.int .i64 p, .slice A ws.length c], .slice L l.length lc] w (ShPost (reoP p ws l) (reoV p ws l) (reoX p ws l) w) := by
  by_cases he : errSheet p ws = 0
  · obtain ⟨hp2, hp24, hn, _⟩ := okAll he
    obtain ⟨P, rfl⟩ := Int.eq_ofNat_of_zero_le (show 0 ≤ p by omega)
    have hiff : reOk P ws l ↔ ordQ ws l = true := by
      rw [reOk_iff hn]
      unfold ordQ
      rw [Bool.and_eq_true, decide_eq_true_eq]
      exact ⟨fun h => ⟨h.2, h.1⟩, fun h => ⟨h.2, h.1⟩⟩
    refine (sReorder_ok P A L c lc ws l w he hsh.rd hl).mono ?_
    rintro e w' ⟨h1, h2⟩
    by_cases ho : ordQ ws l = true
    · have hx : reoX P ws l = 0 := by unfold reoX; rw [if_pos he, if_pos ho]
      have := h1 (hiff.2 ho)
      unfold reoP reoV
      rw [if_pos hx, if_pos hx, hx]
      exact this
    · have hx : reoX P ws l = 4 := by unfold reoX; rw [if_pos he, if_neg ho]
      have := h2 (fun h => ho (hiff.1 h))
      unfold reoP reoV
      rw [if_neg (by rw [hx]; decide), if_neg (by rw [hx]; decide), hx]
      exact this
  · have hx : reoX p ws l = errSheet p ws := by unfold reoX; rw [if_neg he]
    unfold reoP reoV
    rw [if_neg (by rw [hx]; exact he), if_neg (by rw [hx]; exact he), hx]
    exact sReorder_bad p A L c lc ws l w hsh he
end Go.Proofs.YtnplcephmidjbaaDoor
