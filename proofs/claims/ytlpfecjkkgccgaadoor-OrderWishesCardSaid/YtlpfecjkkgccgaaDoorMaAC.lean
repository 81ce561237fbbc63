/- Texts of this claim, laid together: ROrder, RReorder, SReoW, OrAside, OrRAs. -/
import Derived.Test.YtlpfecjkkgccgaaDoorMaA
import Derived.Test.YtlpfecjkkgccgaaDoorMaB
import Derived.Test.YtlpfecjkkgccgaaDoorMaC
import Derived.Test.YtlpfecjkkgccgaaDoorMaO
import Derived.Test.YtlpfecjkkgccgaaDoorMaP
/- The reference's Order: is a list an order of a valid sheet? -/
namespace Go.Proofs.YtlpfecjkkgccgaaDoor
open Go.RowKit

theorem oRun_snoc (n : Nat) (E : Nat → Nat) (x : Int) : ∀ (l : List Int) (S : Nat), oRun n E S (l ++ [x]) = (oRun n E S l).bind fun S' => oStep n E S' x
  | [], S => by
    show (match oStep n E S x with | some S' => oRun n E S' [] | none => none) = oStep n E S x
    cases oStep n E S x <;> rfl
  | y :: l, S => by
    show (match oStep n E S y with | some S' => oRun n E S' (l ++ [x]) | none => none) = Option.bind (match oStep n E S y with | some S' => oRun n E S' l | none => none) _
    cases oStep n E S y with
    | none => rfl
    | some S' => exact oRun_snoc n E x l S'
theorem oRun_stop (n : Nat) (E : Nat → Nat) (l : List Int) : ∀ (j : Nat), j ≤ l.length → oRun n E 0 (l.take j) = none → oRun n E 0 l = none := by
  have key : ∀ (a b : List Int) (S : Nat), oRun n E S a = none → oRun n E S (a ++ b) = none := by
    intro a
    induction a with
    | nil => intro b S h; cases h
    | cons y a ih =>
      intro b S h
      show (match oStep n E S y with | some S' => oRun n E S' (a ++ b) | none => none) = none
      have h' : (match oStep n E S y with | some S' => oRun n E S' a | none => none) = none := h
      cases hs : oStep n E S y with
      | none => rfl
      | some S' => rw [hs] at h'; exact ih b S' h'
  intro j hj h
  have := key (l.take j) (l.drop j) 0 h
  rwa [List.take_append_drop] at this
theorem oStep_some {n : Nat} {E : Nat → Nat} {S S' : Nat} {x : Int} (h : oStep n E S x = some S') : (0 ≤ x ∧ x < n ∧ S.testBit x.toNat = false ∧ ∀ a, a < x.toNat → tP (E a) (E x.toNat) = true → S.testBit a = true) ∧ S' = S ||| 2 ^ x.toNat := by
  unfold oStep at h
  split at h
  · rename_i hc; exact ⟨hc, (Option.some.inj h).symm⟩
  · cases h
theorem oRun_range {n : Nat} {E : Nat → Nat} : ∀ (l : List Int) (S : Nat), (oRun n E S l).isSome = true → ∀ x ∈ l, 0 ≤ x ∧ x < n
  | [], _, _ => fun x h => absurd h (by simp)
  | y :: l, S, h => fun x hx => by
    have h' : (match oStep n E S y with | some S' => oRun n E S' l | none => none).isSome = true := h
    cases hs : oStep n E S y with
    | none => rw [hs] at h'; cases h'
    | some S' =>
      rw [hs] at h'
      rcases List.mem_cons.1 hx with rfl | hx
      · obtain ⟨⟨h1, h2, _⟩, _⟩ := oStep_some hs; exact ⟨h1, h2⟩
      · exact oRun_range l S' h' x hx
/-- Is the list an order of the sheet? -/
def ordQ (ws : List GW) (l : List Int) : Bool := decide (l.length = ws.length) && (oRun ws.length (plsOf ws) 0 l).isSome
theorem ordQ_no {ws : List GW} {l : List Int} {j S : Nat} (hj : j < l.length) (hr : oRun ws.length (plsOf ws) 0 (l.take j) = some S) (hs : oStep ws.length (plsOf ws) S l[j] = none) : ordQ ws l = false := by
  have h1 : oRun ws.length (plsOf ws) 0 (l.take (j + 1)) = none := by
    rw [List.take_succ_eq_append_getElem hj, oRun_snoc, hr]
    exact hs
  unfold ordQ
  rw [oRun_stop _ _ l (j + 1) (by omega) h1]
  simp
theorem tP_touchO {ws : List GW} {a b : Nat} (ha : a < ws.length) (hb : b < ws.length) (h1 : 0 ≤ ws[a].pl) (h2 : 0 ≤ ws[b].pl) : touchB ws[a].pl ws[b].pl = tP (plsOf ws a) (plsOf ws b) := by
  unfold touchB tP plsOf
  rw [show ws.getD a gwE = ws[a] by simp [List.getD_eq_getElem?_getD, ha], show ws.getD b gwE = ws[b] by simp [List.getD_eq_getElem?_getD, hb], decide_eq_decide]
  omega
theorem touch_isO {b : Bool} (k1 a1 k2 a2 : Int) (s1 s2 : ByteArray) (w : World) (h1 : -1000 ≤ a1) (h1' : a1 ≤ 1000) (h2 : -1000 ≤ a2) (h2' : a2 ≤ 1000) (hb : touchB a1 a2 = b) :
    Calls Tryd.prog 57 #[.agg #[.int .i64 k1, .int .i64 a1, .string s1], .agg #[.int .i64 k2, .int .i64 a2, .string s2]] w fun e w' => e = .returned (.bool b) ∧ Below w.heap.size w w' := by
  subst hb; exact touch_ k1 a1 k2 a2 s1 s2 w h1 h1' h2 h2'
theorem box1_setO {w w1 : World} {p : Int} {A : Option Addr} {c n : Nat} (h : Box1 w w1 p A c n) {q : Addr} (hq : q.block ≠ w.heap.size) (u : Value) : Box1 w (w1.setCell q u) p A c n :=
  ⟨(World.cell?_setCell_other _ _ _ _ (fun e => hq (by rw [e]))).trans h.1, (World.cell?_setCell_other _ _ _ _ (fun e => hq (by rw [e]))).trans h.2.1, by simpa using h.2.2⟩

set_option maxRecDepth 100000 in
set_option maxHeartbeats 8000000 in
theorem rOrder_ (p : Int) (A L : Option Addr) (c lc : Nat) (ws : List GW) (l : List Int) (w : World) (hok : errSheet p ws = 0) (ha : RdW w A ws) (hl : RdI w L l) :
    Calls Tryd.prog 51 #[.agg #[.int .i64 p, .slice A ws.length c], .slice L l.length lc] w fun e w' => e = .returned (.bool (ordQ ws l)) ∧ Below w.heap.size w w' := by
  obtain ⟨hp2, hp24, hn, hall⟩ := okAll hok
  have hb2 : Below w.heap.size w (w.alloc (.cells #[.int .i64 p, .slice A ws.length c] 24)) := (Below.refl _ _).alloc (Nat.le_refl _) _
  have hbx := Box1.made w p A c ws.length 24
  have hln := hl.1
  by_cases hlen : l.length = ws.length
  rotate_left
  · have hne : ((l.length : Int) != (ws.length : Int)) = true := by simp; omega
    have hr : ordQ ws l = false := by unfold ordQ; rw [decide_eq_false hlen]; rfl
    have HA := Lib.hid ha; have HL := Lib.hid hl; have HB2 := Lib.hid hb2; have HLEN := Lib.hid hlen; have HALL := Lib.hid hall; have HR := Lib.hid hr; have HBX := Lib.hid hbx; have HOK := Lib.hid hok; clear ha hl hb2 hlen hall hr hbx hok
    go_enter Tryd.func51, Tryd.ntmps51
    go_wp2
    go_ret
    exact ⟨ret_bool HR.out.symm, HB2.out⟩
  have hne : ((l.length : Int) != (ws.length : Int)) = false := by simp; omega
  have hmk := run_make_row' (P := Tryd.prog) 84 4 (.bool false) 1 Tryd.underlying84 infoB_Tryd rfl .i64 .i64 l.length (by omega) (by omega)
  have hm0 := (BoB.made (w.alloc (.cells #[.int .i64 p, .slice A ws.length c] 24)) l.length).congr (g' := fun b => (0 : Nat).testBit b) (fun b _ => by simp)
  have hx2 : Box1 w ((w.alloc (.cells #[.int .i64 p, .slice A ws.length c] 24)).alloc (.cells (madeCells #[.bool false] l.length) 4)) p A c ws.length := hbx.later ((Below.refl _ _).alloc (Nat.le_refl _) _)
  rw [show (w.alloc (.cells #[.int .i64 p, .slice A ws.length c] 24)).heap.size = w.heap.size + 1 by simp] at hm0
  have hy2 := hb2.alloc hb2.size (.cells (madeCells #[.bool false] l.length) 4)
  have HA := Lib.hid ha; have HL := Lib.hid hl; have HB2 := Lib.hid hb2; have HLEN := Lib.hid hlen; have HALL := Lib.hid hall; have HBX := Lib.hid hbx; have HOK := Lib.hid hok; have HM0 := Lib.hid hm0; have HX2 := Lib.hid hx2; have HY2 := Lib.hid hy2; clear ha hl hb2 hlen hall hbx hok hm0 hx2 hy2
  go_enter Tryd.func51, Tryd.ntmps51
  go_wp2
  clear hmk
  go_loopw [6] (fun iv wr => ∃ j S : Nat, iv = .int .i64 j ∧ j ≤ l.length ∧ oRun ws.length (plsOf ws) 0 (l.take j) = some S ∧ BoB wr (w.heap.size + 1) l.length (fun b => S.testBit b) ∧ Box1 w wr p A c ws.length ∧ Below w.heap.size w wr) (fun iv _ => l.length - (intOf iv).toNat)
  case atStart => exact ⟨0, 0, rfl, Nat.zero_le _, rfl, HM0.out, HX2.out, HY2.out⟩
  case round =>
    clear HM0 HX2 HY2
    obtain ⟨j, S, rfl, hj, hrun, hS, hx, hbw⟩ := hrel
    have hSl := hS.lt
    obtain ⟨c0, c1, hs0⟩ := hx
    have hx0 : Hid (Box1 w wr p A c ws.length) := ⟨c0, c1, hs0⟩
    by_cases hlt : j < l.length
    · obtain ⟨bl, ol, rfl, hbl, l1⟩ := (HL.out.later hbw (Nat.le_refl _)).at_ hlt
      have x1 : (0 : Int) ≤ (j : Int) := by omega
      have x2 : (j : Int) < (l.length : Int) := by omega
      have hno : oStep ws.length (plsOf ws) S l[j] = none → ordQ ws l = false := ordQ_no hlt hrun
      have hyes : ∀ S', oStep ws.length (plsOf ws) S l[j] = some S' → oRun ws.length (plsOf ws) 0 (l.take (j + 1)) = some S' := fun S' h => by
        rw [List.take_succ_eq_append_getElem hlt, oRun_snoc, hrun]
        exact h
      generalize l[j] = x at *
      have hlen' := HLEN.out
      by_cases r1 : x < 0
      · have hr := hno (if_neg (fun h => by omega))
        have HNO := Lib.hid hno; have HYES := Lib.hid hyes; have HRUN := Lib.hid hrun; have HS := Lib.hid hS; have HBW := Lib.hid hbw; have HR := Lib.hid hr; clear hno hyes hrun hS hbw hr
        go_wp2
        go_ret
        exact ⟨ret_bool HR.out.symm, HBW.out⟩
      · obtain ⟨i, rfl⟩ := Int.eq_ofNat_of_zero_le (show 0 ≤ x by omega)
        have r1' : (0 : Int) ≤ (i : Int) := by omega
        by_cases r2 : (l.length : Int) ≤ (i : Int)
        · have hr := hno (if_neg (fun h => by omega))
          have r2n : l.length ≤ i := by omega
          have HNO := Lib.hid hno; have HYES := Lib.hid hyes; have HRUN := Lib.hid hrun; have HS := Lib.hid hS; have HBW := Lib.hid hbw; have HR := Lib.hid hr; clear hno hyes hrun hS hbw hr
          clear hlen'
          go_wp2
          go_ret
          exact ⟨ret_bool HR.out.symm, HBW.out⟩
        · have hil : i < ws.length := by omega
          have hil2 : i < l.length := by omega
          have r2' : (i : Int) < (l.length : Int) := by omega
          have r2w : (i : Int) < (ws.length : Int) := by omega
          have e1 := hS.at_ hil2
          cases hbit : S.testBit i with
          | true =>
            have hr := hno (if_neg (fun h => by rw [Int.toNat_natCast, hbit] at h; exact absurd h.2.2.1 (by simp)))
            rw [hbit] at e1
            have HNO := Lib.hid hno; have HYES := Lib.hid hyes; have HRUN := Lib.hid hrun; have HS := Lib.hid hS; have HBW := Lib.hid hbw; have HR := Lib.hid hr; have HBIT := Lib.hid hbit; clear hno hyes hrun hS hbw hr hbit
            clear hlen'
            go_wp2
            go_ret
            exact ⟨ret_bool HR.out.symm, HBW.out⟩
          | false =>
            rw [hbit] at e1
            obtain ⟨wq, rfl⟩ : ∃ wq : World, wq = wr := ⟨_, rfl⟩
            have HNO := Lib.hid hno; have HYES := Lib.hid hyes; have HRUN := Lib.hid hrun; have HS := Lib.hid hS; have HBW := Lib.hid hbw; have HBIT := Lib.hid hbit; clear hno hyes hrun hS hbw hbit
            clear hlen'
            go_wp2
            go_loopw [8] (fun iv wr => ∃ a : Nat, iv = .int .i64 a ∧ a ≤ i ∧ (∀ a', a' < a → tP (plsOf ws a') (plsOf ws i) = true → S.testBit a' = true) ∧ Below wq.heap.size wq wr) (fun iv _ => i - (intOf iv).toNat)
            case atStart => exact ⟨0, rfl, Nat.zero_le _, fun a' h => absurd h (by omega), Below.refl _ _⟩
            case round =>
              clear e1 c0 c1
              obtain ⟨a, rfl, hai, hdone, hbr⟩ := hrel
              have hbq := HBW.out.trans (hbr.mono HBW.out.size)
              have hS2 := HS.out.later hbr
              have hSl2 := hS2.lt
              obtain ⟨c0, c1, hs1⟩ := hx0.out.later hbr
              by_cases hal : a < i
              · have haw : a < ws.length := by omega
                have hal2 : a < l.length := by omega
                obtain ⟨b, off, rfl, hbL, t1, t2, t3⟩ := (HA.out.later hbq (Nat.le_refl _)).at_ haw
                obtain ⟨b', off', hA', _, u1, u2, u3⟩ := (HA.out.later hbq (Nat.le_refl _)).at_ hil
                injection hA' with hA'; injection hA' with hA1 hA2; subst hA1; subst hA2
                obtain ⟨_, p1, p2, _⟩ := HALL.out ws[a] (List.getElem_mem haw)
                obtain ⟨_, p3, p4, _⟩ := HALL.out ws[i] (List.getElem_mem hil)
                have htp := tP_touchO haw hil p1 p3
                have e2 := hS2.at_ hal2
                have y1 : (0 : Int) ≤ (a : Int) := by omega
                have y2 : (a : Int) < (ws.length : Int) := by omega
                have y3 : (a : Int) < (l.length : Int) := by omega
                have hgo : (touchB ws[a].pl ws[i].pl = false ∨ S.testBit a = true) → ∀ a', a' < a + 1 → tP (plsOf ws a') (plsOf ws i) = true → S.testBit a' = true := fun h a' h1 h2 => by
                  by_cases e : a' = a
                  · subst e
                    rcases h with h | h
                    · rw [← htp, h] at h2; cases h2
                    · exact h
                  · exact hdone a' (by omega) h2
                have hstop : touchB ws[a].pl ws[i].pl = true → S.testBit a = false → ordQ ws l = false := fun h1 h2 => HNO.out (if_neg (fun h => by
                  have := h.2.2.2 a (by rw [Int.toNat_natCast]; exact hal) (by rw [Int.toNat_natCast, ← htp]; exact h1)
                  rw [h2] at this; cases this))
                generalize S.testBit a = sa at *
                by_cases ht : touchB ws[a].pl ws[i].pl = true
                · cases sa with
                  | true =>
                    have hd2 := hgo (.inr rfl)
                    generalize ws[a].pl = pa at *
                    generalize ws[i].pl = pb at *
                    have HBR := Lib.hid hbr; have HBQ := Lib.hid hbq; have HS2 := Lib.hid hS2; have HTP := Lib.hid htp; have HGO := Lib.hid hgo; have HSTOP := Lib.hid hstop; have HDONE := Lib.hid hdone; have HD2 := Lib.hid hd2; clear hbr hbq hS2 htp hgo hstop hdone hd2
                    go_wp2
                    have hbelc : ∀ (u : Bel wr.heap.size wr) b o, b < wr.heap.size → u.wd.cell? ⟨b, o, none⟩ = wr.cell? ⟨b, o, none⟩ := fun u b o h => u.h.cell (p := ⟨b, o, none⟩) h
                    have hbeln : Nonempty (Bel wr.heap.size wr) := ⟨⟨wr, Below.refl _ _⟩⟩
                    refine wp_region_bel wr.heap.size (by kernel_rfl) (by kernel_rfl) ?_
                    repeat (go_big_quiet_step ((go_at_call 57; exact quiet_bel (Nat.le_refl _) (touch_isO _ _ _ _ _ _ _ (by omega) (by omega) (by omega) (by omega) ht))))
                    refine wpQuiet_nil ?_
                    intro wB hB0; obtain ⟨uB, hu⟩ := hB0; have hbB0 := uB.h; rw [← hu] at hbB0; clear hu uB hbelc hbeln
                    obtain ⟨hbB, hcB, hsB⟩ := bcell2 hbB0; clear hbB0
                    clear hcB
                    have HBB := Lib.hid hbB; clear hbB
                    go_wp2
                    go_roundw
                    case rel => exact ⟨a + 1, by go_num, by omega, HD2.out, HBR.out.trans (HBB.out.mono HBR.out.size)⟩
                    case measure => simp [intOf]; omega
                  | false =>
                    have hr := hstop ht rfl
                    generalize ws[a].pl = pa at *
                    generalize ws[i].pl = pb at *
                    have HBR := Lib.hid hbr; have HBQ := Lib.hid hbq; have HS2 := Lib.hid hS2; have HTP := Lib.hid htp; have HGO := Lib.hid hgo; have HSTOP := Lib.hid hstop; have HDONE := Lib.hid hdone; have HR := Lib.hid hr; clear hbr hbq hS2 htp hgo hstop hdone hr
                    go_wp2
                    have hbelc : ∀ (u : Bel wr.heap.size wr) b o, b < wr.heap.size → u.wd.cell? ⟨b, o, none⟩ = wr.cell? ⟨b, o, none⟩ := fun u b o h => u.h.cell (p := ⟨b, o, none⟩) h
                    have hbeln : Nonempty (Bel wr.heap.size wr) := ⟨⟨wr, Below.refl _ _⟩⟩
                    refine wp_region_bel wr.heap.size (by kernel_rfl) (by kernel_rfl) ?_
                    repeat (go_big_quiet_step ((go_at_call 57; exact quiet_bel (Nat.le_refl _) (touch_isO _ _ _ _ _ _ _ (by omega) (by omega) (by omega) (by omega) ht))))
                    refine wpQuiet_nil ?_
                    intro wB hB0; obtain ⟨uB, hu⟩ := hB0; have hbB0 := uB.h; rw [← hu] at hbB0; clear hu uB hbelc hbeln
                    obtain ⟨hbB, hcB, hsB⟩ := bcell2 hbB0; clear hbB0
                    clear hcB
                    have HBB := Lib.hid hbB; clear hbB
                    go_wp2
                    go_ret
                    exact ⟨ret_bool HR.out.symm, HBQ.out.trans (HBB.out.mono HBQ.out.size)⟩
                · have ht' : touchB ws[a].pl ws[i].pl = false := by simpa using ht
                  have hd2 := hgo (.inl ht')
                  clear ht
                  generalize ws[a].pl = pa at *
                  generalize ws[i].pl = pb at *
                  have HBR := Lib.hid hbr; have HBQ := Lib.hid hbq; have HS2 := Lib.hid hS2; have HTP := Lib.hid htp; have HGO := Lib.hid hgo; have HSTOP := Lib.hid hstop; have HDONE := Lib.hid hdone; have HD2 := Lib.hid hd2; clear hbr hbq hS2 htp hgo hstop hdone hd2
                  go_wp2
                  have hbelc : ∀ (u : Bel wr.heap.size wr) b o, b < wr.heap.size → u.wd.cell? ⟨b, o, none⟩ = wr.cell? ⟨b, o, none⟩ := fun u b o h => u.h.cell (p := ⟨b, o, none⟩) h
                  have hbeln : Nonempty (Bel wr.heap.size wr) := ⟨⟨wr, Below.refl _ _⟩⟩
                  refine wp_region_bel wr.heap.size (by kernel_rfl) (by kernel_rfl) ?_
                  repeat (go_big_quiet_step ((go_at_call 57; exact quiet_bel (Nat.le_refl _) (touch_isO _ _ _ _ _ _ _ (by omega) (by omega) (by omega) (by omega) ht'))))
                  refine wpQuiet_nil ?_
                  intro wB hB0; obtain ⟨uB, hu⟩ := hB0; have hbB0 := uB.h; rw [← hu] at hbB0; clear hu uB hbelc hbeln
                  obtain ⟨hbB, hcB, hsB⟩ := bcell2 hbB0; clear hbB0
                  clear hcB
                  have HBB := Lib.hid hbB; clear hbB
                  go_wp2
                  go_roundw
                  case rel => exact ⟨a + 1, by go_num, by omega, HD2.out, HBR.out.trans (HBB.out.mono HBR.out.size)⟩
                  case measure => simp [intOf]; omega
              · obtain rfl : a = i := by omega
                have hst : oStep ws.length (plsOf ws) S a = some (S ||| 2 ^ a) := by
                  unfold oStep
                  rw [Int.toNat_natCast, if_pos ⟨by omega, by omega, HBIT.out, hdone⟩]
                have hrn := HYES.out _ hst
                have e2 := hS2.at_ hil2
                have e3 := hS2.free a
                have hS3 : BoB (wr.setCell ⟨w.heap.size + 1, a, none⟩ (.bool true)) (w.heap.size + 1) l.length (fun b => (S ||| 2 ^ a).testBit b) := (hS2.put a true).congr fun b _ => by
                  rw [Nat.testBit_or, Nat.testBit_two_pow]
                  by_cases hb : b = a
                  · simp [hb]
                  · have hb' : ¬ a = b := fun e => hb e.symm
                    simp [hb, hb']
                have hx3 := box1_setO (hx0.out.later hbr) (q := ⟨w.heap.size + 1, a, none⟩) (by show w.heap.size + 1 ≠ w.heap.size; omega) (.bool true)
                have hb5 := hbq.setCell (p := ⟨w.heap.size + 1, a, none⟩) (by show w.heap.size ≤ w.heap.size + 1; omega) (.bool true)
                have HBR := Lib.hid hbr; have HBQ := Lib.hid hbq; have HS2 := Lib.hid hS2; have HS3 := Lib.hid hS3; have HX3 := Lib.hid hx3; have HB5 := Lib.hid hb5; have HDONE := Lib.hid hdone; have HST := Lib.hid hst; have HRN := Lib.hid hrn; clear hbr hbq hS2 hS3 hx3 hb5 hdone hst hrn
                go_wp2
                go_roundw
                case rel => exact ⟨j + 1, S ||| 2 ^ a, by go_num, by omega, HRN.out, HS3.out, HX3.out, HB5.out⟩
                case measure => simp [intOf]; omega
    · obtain rfl : j = l.length := by omega
      rw [List.take_of_length_le (Nat.le_refl _)] at hrun
      have hr : ordQ ws l = true := by unfold ordQ; rw [decide_eq_true HLEN.out, hrun]; rfl
      have HRUN := Lib.hid hrun; have HS := Lib.hid hS; have HBW := Lib.hid hbw; have HR := Lib.hid hr; clear hrun hS hbw hr
      go_wp2
      go_ret
      exact ⟨ret_bool HR.out.symm, HBW.out⟩
end Go.Proofs.YtlpfecjkkgccgaaDoor
/- The reference's Reorder. -/
namespace Go.Proofs.YtlpfecjkkgccgaaDoor
open Go.RowKit

def reoX (p : Int) (ws : List GW) (l : List Int) : Int := if errSheet p ws = 0 then (if ordQ ws l = true then 0 else 4) else errSheet p ws
def reoP (p : Int) (ws : List GW) (l : List Int) : Int := if reoX p ws l = 0 then p else 0
def reoV (p : Int) (ws : List GW) (l : List Int) : List GW := if reoX p ws l = 0 then reoG ws l else []

end Go.Proofs.YtlpfecjkkgccgaaDoor
/- The program's Reorder, of any sheet and any list. -/
namespace Go.Proofs.YtlpfecjkkgccgaaDoor
open Go.RowKit

theorem sReorder_ (p : Int) (A L : Option Addr) (c lc : Nat) (ws : List GW) (l : List Int) (w : World) (hsh : ShIn w p A ws) (hl : RdI w L l) :
    Calls Tryd.prog 50 #[.agg #[.int .i64 p, .slice A ws.length c], .slice L l.length lc] w (ShPost (reoP p ws l) (reoV p ws l) (reoX p ws l) w) := by
  by_cases he : errSheet p ws = 0
  · obtain ⟨hp2, hp24, hn, _⟩ := okAll he
    obtain ⟨P, rfl⟩ := Int.eq_ofNat_of_zero_le (show 0 ≤ p by omega)
    have hiff : reOk P ws l ↔ ordQ ws l = true := by
      rw [reOk_iff hn]
      unfold ordQ
      rw [Bool.and_eq_true, decide_eq_true_eq]
      exact ⟨fun h => ⟨h.2, h.1⟩, fun h => ⟨h.2, h.1⟩⟩
    refine (sReorder_ok P A L c lc ws l w he hsh.rd hl).mono ?_
    rintro e w' ⟨h1, h2⟩
    by_cases ho : ordQ ws l = true
    · have hx : reoX P ws l = 0 := by unfold reoX; rw [if_pos he, if_pos ho]
      have := h1 (hiff.2 ho)
      unfold reoP reoV
      rw [if_pos hx, if_pos hx, hx]
      exact this
    · have hx : reoX P ws l = 4 := by unfold reoX; rw [if_pos he, if_neg ho]
      have := h2 (fun h => ho (hiff.1 h))
      unfold reoP reoV
      rw [if_neg (by rw [hx]; decide), if_neg (by rw [hx]; decide), hx]
      exact this
  · have hx : reoX p ws l = errSheet p ws := by unfold reoX; rw [if_neg he]
    unfold reoP reoV
    rw [if_neg (by rw [hx]; exact he), if_neg (by rw [hx]; exact he), hx]
    exact sReorder_bad p A L c lc ws l w hsh he
end Go.Proofs.YtlpfecjkkgccgaaDoor
/- The program's Aside. -/
namespace Go.Proofs.YtlpfecjkkgccgaaDoor
open Go.RowKit

/-- How often the next work does not touch the one before it, among the first k. -/
def asdK (vs : List GW) : Nat → Nat
  | 0 => 0
  | k + 1 => asdK vs k + if k = 0 then 0 else if tcO vs (k - 1) k = true then 0 else 1
def asdN (p : Int) (ws : List GW) (l : List Int) : Nat := if reoX p ws l = 0 then asdK (reoG ws l) l.length else 0
def TwoPost (a b : Int) (w : World) (e : Ending) (w' : World) : Prop := e = .returned (.tuple #[.int .i64 a, .int .i64 b]) ∧ Below w.heap.size w w'
theorem asdK_le (vs : List GW) : ∀ k, asdK vs k ≤ k
  | 0 => Nat.le_refl _
  | k + 1 => by
    have := asdK_le vs k
    rw [asdK]
    split
    · omega
    · split <;> omega
theorem reo_zero {p : Int} {ws : List GW} {l : List Int} (hx : reoX p ws l = 0) : errSheet p ws = 0 ∧ ordQ ws l = true := by
  unfold reoX at hx
  split at hx
  · split at hx
    · exact ⟨‹_›, ‹_›⟩
    · omega
  · exact absurd hx ‹_›
theorem reoG_len (ws : List GW) (l : List Int) : (reoG ws l).length = l.length := by unfold reoG; simp
theorem reoG_pl {p : Int} {ws : List GW} {l : List Int} (he : errSheet p ws = 0) : ∀ x ∈ reoG ws l, 0 ≤ x.pl ∧ x.pl ≤ 22 := by
  obtain ⟨_, hp, _, hall⟩ := okAll he
  intro x hx
  unfold reoG at hx
  obtain ⟨y, _, rfl⟩ := List.mem_map.1 hx
  rw [List.getD_eq_getElem?_getD]
  cases h : ws[y.toNat]? with
  | none => exact ⟨by decide, by decide⟩
  | some z =>
    have hz : z ∈ ws := List.mem_of_getElem? h
    have := hall z hz
    simp only [Option.getD_some]
    omega
set_option maxRecDepth 100000 in
set_option maxHeartbeats 4000000 in
theorem oAside_ (p : Int) (A L : Option Addr) (c lc : Nat) (ws : List GW) (l : List Int) (w : World) (hsh : ShIn w p A ws) (hl : RdI w L l) :
    Calls Tryd.prog 26 #[.agg #[.int .i64 p, .slice A ws.length c], .slice L l.length lc] w (TwoPost (asdN p ws l) (reoX p ws l) w) := by
  have hb2 : Below w.heap.size w (w.alloc (.cells #[.int .i64 p, .slice A ws.length c] 24)) := (Below.refl _ _).alloc (Nat.le_refl _) _
  have Y0 := Lib.hid hb2; clear hb2
  have X0 := Lib.hid (Box1.made w p A c ws.length 24)
  have HSH := Lib.hid hsh; have HL := Lib.hid hl; clear hsh hl
  go_enter Tryd.func26, Tryd.ntmps26
  go_wp2_with fail
  refine (sReorder_ p A L c lc ws l _ (HSH.out.later Y0.out (Nat.le_refl _)) (HL.out.later Y0.out (Nat.le_refl _))).mono ?_
  rintro e w1 ⟨B, d, rfl, hrd, hb1, hd⟩
  have Y1 := Lib.hid (Y0.out.trans (hb1.mono Y0.out.size)); clear hb1
  by_cases hx : reoX p ws l = 0
  rotate_left
  · have hn : asdN p ws l = 0 := by unfold asdN; rw [if_neg hx]
    have heb : (reoX p ws l != 0) = true := by simpa using hx
    rw [hn]
    generalize reoX p ws l = E at *
    generalize reoP p ws l = q at *
    generalize reoV p ws l = vs at *
    have HX := Lib.hid hx; have HN := Lib.hid hn; have HRD := Lib.hid hrd; clear hx hn hrd
    go_wp2
    go_ret2
    refine ⟨?_, Y1.out.alloc Y1.out.size _⟩
    rw [HN.out]; rfl
  · obtain ⟨he, ho⟩ := reo_zero hx
    have hn : asdN p ws l = asdK (reoG ws l) (reoG ws l).length := by unfold asdN; rw [if_pos hx, reoG_len]
    have hv : reoV p ws l = reoG ws l := by unfold reoV; rw [if_pos hx]
    have hpl := reoG_pl (l := l) he
    have hl4 : (reoG ws l).length ≤ 400 := by
      rw [reoG_len]
      have h1 := (okAll he).2.2.1
      have h2 : l.length = ws.length := by
        unfold ordQ at ho
        rw [Bool.and_eq_true, decide_eq_true_eq] at ho
        exact ho.1
      omega
    rw [hv] at hrd ⊢
    rw [hx]
    generalize reoP p ws l = q at *
    generalize reoG ws l = vs at *
    have hx1 : (w1.alloc (.cells #[.int .i64 q, .slice B vs.length d] 24)).cell? ⟨w1.heap.size, 1, none⟩ = some (.slice B vs.length d) := by go_simp
    have hb2 : Below w1.heap.size w1 (w1.alloc (.cells #[.int .i64 q, .slice B vs.length d] 24)) := (Below.refl _ _).alloc (Nat.le_refl _) _
    clear he ho hv
    have HRD := Lib.hid hrd; have HPL := Lib.hid hpl; have HX1 := Lib.hid hx1; have HB2 := Lib.hid hb2; have HX := Lib.hid hx; have HN := Lib.hid hn; clear hrd hpl hx1 hb2 hx hn
    go_wp2
    go_loopw [8, 9] (fun nv iv wr => ∃ i : Nat, iv = .int .i64 i ∧ 1 ≤ i ∧ (i ≤ vs.length ∨ (vs.length = 0 ∧ i = 1)) ∧ nv = .int .i64 (asdK vs i : Int) ∧ wr.cell? ⟨w1.heap.size, 1, none⟩ = some (.slice B vs.length d) ∧ Below w1.heap.size w1 wr ∧ w1.heap.size < wr.heap.size) (fun _ iv _ => vs.length - (intOf iv).toNat)
    case atStart => exact ⟨1, rfl, Nat.le_refl _, by omega, rfl, HX1.out, HB2.out, by simp⟩
    case round =>
      obtain ⟨i, rfl, h1, h2, rfl, c1, hbw, s1⟩ := hrel
      have hle := asdK_le vs i
      by_cases hlt : i < vs.length
      · obtain ⟨j, rfl⟩ : ∃ j, i = j + 1 := ⟨i - 1, by omega⟩
        obtain ⟨b, off, rfl, hbL, g1, g2, g3⟩ := (HRD.out.later hbw (Nat.le_refl _)).at_ hlt
        obtain ⟨b', off', hAe, _, k1, k2, k3⟩ := (HRD.out.later hbw (Nat.le_refl _)).at_ (show j < vs.length by omega)
        injection hAe with hAe; injection hAe with hA1 hA2; subst hA1; subst hA2
        have p1 := HPL.out _ (List.getElem_mem hlt)
        have p2 := HPL.out _ (List.getElem_mem (show j < vs.length by omega))
        have htc : tcO vs j (j + 1) = touchB vs[j].pl vs[j + 1].pl := by unfold tcO plO; simp [List.getD_eq_getElem?_getD, hlt, show j < vs.length by omega]
        have hstep : asdK vs (j + 1 + 1) = asdK vs (j + 1) + if tcO vs j (j + 1) = true then 0 else 1 := by
          rw [asdK, if_neg (by omega), Nat.add_sub_cancel]
        generalize vs[j + 1].kind = yk at *
        generalize vs[j + 1].pl = yp at *
        generalize vs[j + 1].word = yw at *
        generalize vs[j].kind = zk at *
        generalize vs[j].pl = zp at *
        generalize vs[j].word = zw at *
        have x1 : (0 : Int) ≤ (j : Int) := by omega
        have x2 : (j : Int) + 1 < (vs.length : Int) := by omega
        have x3 : IntKind.i64.wrap ((j : Int) + 1 - 1) = (j : Int) := by rw [show (j : Int) + 1 - 1 = (j : Int) by omega]; exact IntWalk.i64_in _ (by omega)
        have x4 : (j : Int) < (vs.length : Int) := by omega
        have x5 : (0 : Int) ≤ (j : Int) + 1 := by omega
        have x6 : ((j : Int) + 1).toNat = j + 1 := by omega
        have hcall := fun W => owTouch_is zk zp yk yp zw yw W (by omega) (by omega) (by omega) (by omega) htc.symm
        cases hb : tcO vs j (j + 1) with
        | true =>
          rw [hb] at hcall hstep
          rw [if_pos rfl] at hstep
          have HBW := Lib.hid hbw; have HCALL := Lib.hid hcall; have HSTEP := Lib.hid hstep; have HTC := Lib.hid htc; have HB := Lib.hid hb; clear hbw hcall hstep htc hb
          go_wp2
          have hbelc : ∀ (u : Bel wr.heap.size wr) b o, b < wr.heap.size → u.wd.cell? ⟨b, o, none⟩ = wr.cell? ⟨b, o, none⟩ := fun u b o h => u.h.cell (p := ⟨b, o, none⟩) h
          have hbeln : Nonempty (Bel wr.heap.size wr) := ⟨⟨wr, Below.refl _ _⟩⟩
          refine wp_region_bel wr.heap.size (by kernel_rfl) (by kernel_rfl) ?_
          repeat (go_big_quiet_step ((go_at_call 47; exact quiet_bel (Nat.le_refl _) (HCALL.out _))))
          refine wpQuiet_nil ?_
          intro wB hB0; obtain ⟨uB, hu⟩ := hB0; have hbB0 := uB.h; rw [← hu] at hbB0; clear hu uB hbelc hbeln
          obtain ⟨hbB, hcB, hsB⟩ := bcell2 hbB0; clear hbB0
          have c1' := (hcB _ _ s1).trans c1
          have s1' : w1.heap.size < wB.heap.size := Nat.lt_of_lt_of_le s1 hsB
          clear c1 g1 g2 g3 k1 k2 k3 s1
          have HBB := Lib.hid hbB; clear hbB
          go_wp2
          go_roundw
          case rel => exact ⟨j + 1 + 1, by push_cast; rfl, by omega,   .inl (by omega), by rw [HSTEP.out]; rfl, c1', HBW.out.trans (HBB.out.mono HBW.out.size), s1'⟩
          case measure => simp [intOf]; omega
        | false =>
          rw [hb] at hcall hstep
          rw [if_neg (by simp)] at hstep
          have q1 : IntKind.i64.wrap ((asdK vs (j + 1) : Int) + 1) = (asdK vs (j + 1) : Int) + 1 := IntWalk.i64_in _ (by omega)
          generalize asdK vs (j + 1) = m at *
          have HBW := Lib.hid hbw; have HCALL := Lib.hid hcall; have HSTEP := Lib.hid hstep; have HTC := Lib.hid htc; have HB := Lib.hid hb; clear hbw hcall hstep htc hb
          go_wp2
          have hbelc : ∀ (u : Bel wr.heap.size wr) b o, b < wr.heap.size → u.wd.cell? ⟨b, o, none⟩ = wr.cell? ⟨b, o, none⟩ := fun u b o h => u.h.cell (p := ⟨b, o, none⟩) h
          have hbeln : Nonempty (Bel wr.heap.size wr) := ⟨⟨wr, Below.refl _ _⟩⟩
          refine wp_region_bel wr.heap.size (by kernel_rfl) (by kernel_rfl) ?_
          repeat (go_big_quiet_step ((go_at_call 47; exact quiet_bel (Nat.le_refl _) (HCALL.out _))))
          refine wpQuiet_nil ?_
          intro wB hB0; obtain ⟨uB, hu⟩ := hB0; have hbB0 := uB.h; rw [← hu] at hbB0; clear hu uB hbelc hbeln
          obtain ⟨hbB, hcB, hsB⟩ := bcell2 hbB0; clear hbB0
          have c1' := (hcB _ _ s1).trans c1
          have s1' : w1.heap.size < wB.heap.size := Nat.lt_of_lt_of_le s1 hsB
          clear c1 g1 g2 g3 k1 k2 k3 s1
          have HBB := Lib.hid hbB; clear hbB
          go_wp2
          go_roundw
          case rel => exact ⟨j + 1 + 1, by push_cast; rfl, by omega, .inl (by omega), by rw [HSTEP.out]; push_cast; rfl, c1', HBW.out.trans (HBB.out.mono HBW.out.size), s1'⟩
          case measure => simp [intOf]; omega
      · have hfin : asdK vs i = asdK vs vs.length := by
          rcases h2 with h2 | ⟨h2, h3⟩
          · rw [show i = vs.length by omega]
          · rw [h2, h3]; rfl
        have HBW := Lib.hid hbw; have HFIN := Lib.hid hfin; clear hbw hfin
        go_wp2
        go_ret2
        exact ⟨by rw [HN.out, HX.out]; first | rfl | (rw [← HFIN.out]; rfl), Y1.out.trans (HBW.out.mono Y1.out.size)⟩
end Go.Proofs.YtlpfecjkkgccgaaDoor
/- The reference's Aside. -/
namespace Go.Proofs.YtlpfecjkkgccgaaDoor
open Go.RowKit
attribute [local go_sem] Oper.semAt_some

theorem ord_in {ws : List GW} {l : List Int} (ho : ordQ ws l = true) : l.length = ws.length ∧ ∀ x ∈ l, 0 ≤ x ∧ x < ws.length := by
  unfold ordQ at ho
  rw [Bool.and_eq_true, decide_eq_true_eq] at ho
  exact ⟨ho.1, oRun_range l 0 ho.2⟩
set_option maxRecDepth 100000 in
set_option maxHeartbeats 4000000 in
theorem raside_ (p : Int) (A B : Option Addr) (c lc : Nat) (ws : List GW) (l : List Int) (w : World) (hrd : RdW w A ws) (hpl : ∀ x ∈ ws, 0 ≤ x.pl ∧ x.pl ≤ 22) (ho : RdI w B l) (hln : l.length ≤ 400) (hin : ∀ x ∈ l, 0 ≤ x ∧ x < (ws.length : Int)) :
    Calls Tryd.prog 52 #[.agg #[.int .i64 p, .slice A ws.length c], .slice B l.length lc] w fun e w' => e = .returned (.int .i64 (asdK (reoG ws l) l.length : Int)) ∧ Below w.heap.size w w' := by
  have hwn := hrd.1
  have hb2 : Below w.heap.size w (w.alloc (.cells #[.int .i64 p, .slice A ws.length c] 24)) := (Below.refl _ _).alloc (Nat.le_refl _) _
  have X0 := Box1.made w p A c ws.length 24
  have HRD := Lib.hid hrd; have HPL := Lib.hid hpl; have HO := Lib.hid ho; have HIN := Lib.hid hin; clear hrd hpl ho hin
  go_enter Tryd.func52, Tryd.ntmps52
  refine wp_seq_k fun K1 hK1 => ?_
  have HK1 := Lib.hid hK1; clear hK1
  go_wp2
  refine HK1.out _ _ ?_
  clear HK1
  have hcx1 : (w.alloc (.cells #[.int .i64 p, .slice A ws.length c] 24)).cell? ⟨w.heap.size, 1, none⟩ = some (.slice A ws.length c) := X0.2.1
  generalize w.alloc (.cells #[.int .i64 p, .slice A ws.length c] 24) = w1 at *
  have hs1 : w.heap.size < w1.heap.size := X0.2.2
  clear X0
  have HB2 := Lib.hid hb2; have HCX1 := Lib.hid hcx1; clear hb2 hcx1
  go_wp2
  go_loopw [5, 6] (fun nv iv wr => ∃ i : Nat, iv = .int .i64 i ∧ 1 ≤ i ∧ (i ≤ l.length ∨ (l.length = 0 ∧ i = 1)) ∧ nv = .int .i64 (asdK (reoG ws l) i : Int) ∧ wr.cell? ⟨w.heap.size, 1, none⟩ = some (.slice A ws.length c) ∧ Below w.heap.size w wr ∧ w.heap.size < wr.heap.size) (fun _ iv _ => l.length - (intOf iv).toNat)
  case atStart => exact ⟨1, rfl, Nat.le_refl _, by omega, rfl, HCX1.out, HB2.out, hs1⟩
  case round =>
    obtain ⟨i, rfl, h1, h2, rfl, c1, hbw, s1⟩ := hrel
    have hle := asdK_le (reoG ws l) i
    by_cases hlt : i < l.length
    · obtain ⟨j, rfl⟩ : ∃ j, i = j + 1 := ⟨i - 1, by omega⟩
      have hjl : j < l.length := by omega
      obtain ⟨bl, ol, rfl, hbl, l1⟩ := (HO.out.later hbw (Nat.le_refl _)).at_ hlt
      obtain ⟨bl2, ol2, hAe, _, l2⟩ := (HO.out.later hbw (Nat.le_refl _)).at_ hjl
      injection hAe with hAe; injection hAe with hA1 hA2; subst hA1; subst hA2
      obtain ⟨a1, a2⟩ := HIN.out _ (List.getElem_mem hlt)
      obtain ⟨b1, b2⟩ := HIN.out _ (List.getElem_mem hjl)
      have htc : tcO (reoG ws l) j (j + 1) = touchB (ws.getD (l[j]).toNat gwE).pl (ws.getD (l[j + 1]).toNat gwE).pl := by
        unfold tcO plO reoG
        simp [List.getD_eq_getElem?_getD, hlt, hjl]
      have hstep : asdK (reoG ws l) (j + 1 + 1) = asdK (reoG ws l) (j + 1) + if tcO (reoG ws l) j (j + 1) = true then 0 else 1 := by
        rw [asdK, if_neg (by omega), Nat.add_sub_cancel]
      generalize l[j + 1] = u at *
      generalize l[j] = v at *
      obtain ⟨u, rfl⟩ := Int.eq_ofNat_of_zero_le a1
      obtain ⟨v, rfl⟩ := Int.eq_ofNat_of_zero_le b1
      have hun : u < ws.length := by omega
      have hvn : v < ws.length := by omega
      rw [Int.toNat_natCast, Int.toNat_natCast, List.getD_eq_getElem?_getD, List.getD_eq_getElem?_getD, List.getElem?_eq_getElem hun, List.getElem?_eq_getElem hvn, Option.getD_some, Option.getD_some] at htc
      obtain ⟨b, off, rfl, hbL, g1, g2, g3⟩ := (HRD.out.later hbw (Nat.le_refl _)).at_ hun
      obtain ⟨b', off', hAe, _, k1, k2, k3⟩ := (HRD.out.later hbw (Nat.le_refl _)).at_ hvn
      injection hAe with hAe; injection hAe with hA1 hA2; subst hA1; subst hA2
      have p1 := HPL.out _ (List.getElem_mem hun)
      have p2 := HPL.out _ (List.getElem_mem hvn)
      generalize ws[u].kind = yk at *
      generalize ws[u].pl = yp at *
      generalize ws[u].word = yw at *
      generalize ws[v].kind = zk at *
      generalize ws[v].pl = zp at *
      generalize ws[v].word = zw at *
      have x1 : (0 : Int) ≤ (j : Int) := by omega
      have x2 : (j : Int) + 1 < (l.length : Int) := by omega
      have x3 : IntKind.i64.wrap ((j : Int) + 1 - 1) = (j : Int) := by rw [show (j : Int) + 1 - 1 = (j : Int) by omega]; exact IntWalk.i64_in _ (by omega)
      have x4 : (j : Int) < (l.length : Int) := by omega
      have x5 : (0 : Int) ≤ (j : Int) + 1 := by omega
      have x6 : ((j : Int) + 1).toNat = j + 1 := by omega
      have y1 : (0 : Int) ≤ (u : Int) := by omega
      have y2 : (u : Int) < (ws.length : Int) := by omega
      have y3 : (0 : Int) ≤ (v : Int) := by omega
      have y4 : (v : Int) < (ws.length : Int) := by omega
      have hcall := fun W => touch_isO zk zp yk yp zw yw W (by omega) (by omega) (by omega) (by omega) htc.symm
      have q1 : IntKind.i64.wrap ((asdK (reoG ws l) (j + 1) : Int) + 1) = (asdK (reoG ws l) (j + 1) : Int) + 1 := IntWalk.i64_in _ (by omega)
      generalize hm2 : asdK (reoG ws l) (j + 1 + 1) = m2 at *
      generalize asdK (reoG ws l) (j + 1) = m at *
      have HM2 := Lib.hid hm2; clear hm2
      cases hb : tcO (reoG ws l) j (j + 1) with
      | true =>
        rw [hb] at hcall hstep
        rw [if_pos rfl] at hstep
        have HBW := Lib.hid hbw; have HCALL := Lib.hid hcall; have HSTEP := Lib.hid hstep; have HTC := Lib.hid htc; have HB := Lib.hid hb; clear hbw hcall hstep htc hb
        go_wp2
        have hbelc : ∀ (u : Bel wr.heap.size wr) b o, b < wr.heap.size → u.wd.cell? ⟨b, o, none⟩ = wr.cell? ⟨b, o, none⟩ := fun u b o h => u.h.cell (p := ⟨b, o, none⟩) h
        have hbeln : Nonempty (Bel wr.heap.size wr) := ⟨⟨wr, Below.refl _ _⟩⟩
        refine wp_region_bel wr.heap.size (by kernel_rfl) (by kernel_rfl) ?_
        repeat (go_big_quiet_step ((go_at_call 57; exact quiet_bel (Nat.le_refl _) (HCALL.out _))))
        refine wpQuiet_nil ?_
        intro wB hB0; obtain ⟨uB, hu⟩ := hB0; have hbB0 := uB.h; rw [← hu] at hbB0; clear hu uB hbelc hbeln
        obtain ⟨hbB, hcB, hsB⟩ := bcell2 hbB0; clear hbB0
        have c1' := (hcB _ _ s1).trans c1
        have s1' : w.heap.size < wB.heap.size := Nat.lt_of_lt_of_le s1 hsB
        clear c1 g1 g2 g3 k1 k2 k3 l1 l2 s1
        have HBB := Lib.hid hbB; clear hbB
        go_wp2
        go_roundw
        case rel => exact ⟨j + 1 + 1, by push_cast; rfl, by omega, .inl (by omega), by rw [HM2.out, HSTEP.out]; rfl, c1', HBW.out.trans (HBB.out.mono HBW.out.size), s1'⟩
        case measure => simp [intOf]; omega
      | false =>
        rw [hb] at hcall hstep
        rw [if_neg (by simp)] at hstep
        have HBW := Lib.hid hbw; have HCALL := Lib.hid hcall; have HSTEP := Lib.hid hstep; have HTC := Lib.hid htc; have HB := Lib.hid hb; clear hbw hcall hstep htc hb
        go_wp2
        have hbelc : ∀ (u : Bel wr.heap.size wr) b o, b < wr.heap.size → u.wd.cell? ⟨b, o, none⟩ = wr.cell? ⟨b, o, none⟩ := fun u b o h => u.h.cell (p := ⟨b, o, none⟩) h
        have hbeln : Nonempty (Bel wr.heap.size wr) := ⟨⟨wr, Below.refl _ _⟩⟩
        refine wp_region_bel wr.heap.size (by kernel_rfl) (by kernel_rfl) ?_
        repeat (go_big_quiet_step ((go_at_call 57; exact quiet_bel (Nat.le_refl _) (HCALL.out _))))
        refine wpQuiet_nil ?_
        intro wB hB0; obtain ⟨uB, hu⟩ := hB0; have hbB0 := uB.h; rw [← hu] at hbB0; clear hu uB hbelc hbeln
        obtain ⟨hbB, hcB, hsB⟩ := bcell2 hbB0; clear hbB0
        have c1' := (hcB _ _ s1).trans c1
        have s1' : w.heap.size < wB.heap.size := Nat.lt_of_lt_of_le s1 hsB
        clear c1 g1 g2 g3 k1 k2 k3 l1 l2 s1
        have HBB := Lib.hid hbB; clear hbB
        go_wp2
        go_roundw
        case rel => exact ⟨j + 1 + 1, by push_cast; rfl, by omega, .inl (by omega), by rw [HM2.out, HSTEP.out]; push_cast; rfl, c1', HBW.out.trans (HBB.out.mono HBW.out.size), s1'⟩
        case measure => simp [intOf]; omega
    · have hfin : asdK (reoG ws l) i = asdK (reoG ws l) l.length := by
        rcases h2 with h2 | ⟨h2, h3⟩
        · rw [show i = l.length by omega]
        · rw [h2, h3]; rfl
      have x1 : ¬ (i : Int) < (l.length : Int) := by omega
      rw [hfin] at hle ⊢
      generalize hmm : asdK (reoG ws l) l.length = m at *
      have HBW := Lib.hid hbw; have HFIN := Lib.hid hfin; have HMM := Lib.hid hmm; clear hbw hfin hmm
      go_wp2
      go_ret
      exact ⟨by rw [HMM.out]; rfl, HBW.out⟩
set_option maxRecDepth 100000 in
set_option maxHeartbeats 4000000 in
theorem rAside_ (p : Int) (A B : Option Addr) (c lc : Nat) (ws : List GW) (l : List Int) (w : World) (ha : ShIn w p A ws) (ho : RdI w B l) :
    Calls Tryd.prog 27 #[.agg #[.int .i64 p, .slice A ws.length c], .slice B l.length lc] w (TwoPost (asdN p ws l) (reoX p ws l) w) := by
  have hb2 : Below w.heap.size w (w.alloc (.cells #[.int .i64 p, .slice A ws.length c] 24)) := (Below.refl _ _).alloc (Nat.le_refl _) _
  have Y0 := Lib.hid hb2; clear hb2
  have X0 := Lib.hid (Box1.made w p A c ws.length 24)
  have HA := Lib.hid ha; have HO := Lib.hid ho; clear ha ho
  go_enter Tryd.func27, Tryd.ntmps27
  go_wp2_with fail
  refine (rCheck_ _ _ _ _ _ HA.out.lo HA.out.hi (HA.out.rd.later Y0.out (Nat.le_refl _))).mono ?_
  rintro e w1 ⟨rfl, hb1⟩
  have X1 := Lib.hid (X0.out.later hb1); have Y1 := Lib.hid (Y0.out.trans (hb1.mono Y0.out.size)); clear hb1; obtain ⟨c1, c2, s1⟩ := X1.out
  by_cases he : errSheet p ws = 0
  rotate_left
  · have hx : reoX p ws l = errSheet p ws := by unfold reoX; rw [if_neg he]
    have hv : asdN p ws l = 0 := by unfold asdN; rw [if_neg (by rw [hx]; exact he)]
    have heb : (errSheet p ws != 0) = true := by simpa using he
    generalize errSheet p ws = E at *
    have HE := Lib.hid he; have HX := Lib.hid hx; have HV := Lib.hid hv; clear he hx hv
    go_wp2
    go_ret2
    exact ⟨by rw [HX.out, HV.out]; rfl, Y1.out⟩
  obtain ⟨hp2, hp24, hn4, hall⟩ := okAll he
  have hpl : ∀ x ∈ ws, 0 ≤ x.pl ∧ x.pl ≤ 22 := fun x hx => by
    have := hall x hx
    omega
  have heq := he
  rw [he]
  clear hp2 hp24
  have HE := Lib.hid he; have HPL := Lib.hid hpl; have HALL := Lib.hid hall; have HEQ := Lib.hid heq; clear he hpl hall heq
  go_wp2_with fail
  refine (rOrder_ p A B c lc ws l _ HEQ.out (HA.out.rd.later Y1.out (Nat.le_refl _)) (HO.out.later Y1.out (Nat.le_refl _))).mono ?_
  rintro e w2 ⟨rfl, hb1⟩
  have X2 := Lib.hid (X1.out.later hb1); have Y2 := Lib.hid (Y1.out.trans (hb1.mono Y1.out.size)); clear hb1 c1 c2 s1; obtain ⟨c1, c2, s1⟩ := X2.out
  cases hq : ordQ ws l with
  | false =>
    have hx : reoX p ws l = 4 := by unfold reoX; rw [if_pos HEQ.out, hq]; rfl
    have hv : asdN p ws l = 0 := by unfold asdN; rw [if_neg (by rw [hx]; decide)]
    have HX := Lib.hid hx; have HV := Lib.hid hv; have HQ := Lib.hid hq; clear hx hv hq
    go_wp2
    go_ret2
    exact ⟨by rw [HX.out, HV.out]; rfl, Y2.out⟩
  | true =>
    have hx : reoX p ws l = 0 := by unfold reoX; rw [if_pos HEQ.out, hq]; rfl
    have hv : asdN p ws l = asdK (reoG ws l) l.length := by unfold asdN; rw [if_pos hx]
    obtain ⟨hlen, hin⟩ := ord_in hq
    have hl4 : l.length ≤ 400 := by omega
    have HX := Lib.hid hx; have HV := Lib.hid hv; have HQ := Lib.hid hq; have HIN := Lib.hid hin; have HLEN := Lib.hid hlen; clear hx hv hq hin hlen
    go_wp2_with fail
    refine (raside_ p A B c lc ws l _ (HA.out.rd.later Y2.out (Nat.le_refl _)) HPL.out (HO.out.later Y2.out (Nat.le_refl _)) hl4 HIN.out).mono ?_
    rintro e w3 ⟨rfl, hb1⟩
    have Y3 := Lib.hid (Y2.out.trans (hb1.mono Y2.out.size)); clear hb1 c1 c2 s1
    generalize asdK (reoG ws l) l.length = m at *
    go_wp2
    go_ret2
    exact ⟨by rw [HX.out, HV.out]; rfl, Y3.out⟩
end Go.Proofs.YtlpfecjkkgccgaaDoor
