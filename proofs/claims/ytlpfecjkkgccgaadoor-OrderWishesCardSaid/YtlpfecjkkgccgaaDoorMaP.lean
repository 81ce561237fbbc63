/- Texts of this claim, laid together: OrBefore, RRows. -/
import Derived.Test.YtlpfecjkkgccgaaDoorMaB
import Derived.Test.YtlpfecjkkgccgaaDoorMaC
import Derived.Test.YtlpfecjkkgccgaaDoorMaM
import Derived.Test.YtlpfecjkkgccgaaDoorMaN
import Derived.Test.YtlpfecjkkgccgaaDoorMaO
/- The program's before: for each work those that come directly before it. -/
namespace Go.Proofs.YtlpfecjkkgccgaaDoor
open Go.RowKit

/-- The slice at A holds these pairs of ints. -/
def cellsP (wl : List (Int × Int)) (j : Nat) : Value := if j % 2 = 0 then .int .i64 (wl.getD (j / 2) (0, 0)).1 else .int .i64 (wl.getD (j / 2) (0, 0)).2
def RdP (w : World) (A : Option Addr) (wl : List (Int × Int)) : Prop := wl.length ≤ 281474976710656 ∧ Rd w A 2 wl.length (cellsP wl)
theorem RdP.at_ {w : World} {A : Option Addr} {wl : List (Int × Int)} (h : RdP w A wl) {k : Nat} (hk : k < wl.length) :
    ∃ b off, A = some ⟨b, off, none⟩ ∧ b < w.heap.size ∧ w.cell? ⟨b, off + k * 2, none⟩ = some (.int .i64 wl[k].1) ∧ w.cell? ⟨b, off + k * 2 + 1, none⟩ = some (.int .i64 wl[k].2) := by
  obtain ⟨b, off, e, hlt, hc⟩ := h.2 (by omega)
  have e0 := hc (k * 2) (by omega)
  have e1 := hc (k * 2 + 1) (by omega)
  have hx : wl.getD k (0, 0) = wl[k] := by simp [List.getD_eq_getElem?_getD, hk]
  refine ⟨b, off, e, hlt, ?_, ?_⟩
  · rw [e0]; unfold cellsP; rw [if_pos (by omega), show k * 2 / 2 = k by omega, hx]
  · rw [Nat.add_assoc, e1]; unfold cellsP; rw [if_neg (by omega), show (k * 2 + 1) / 2 = k by omega, hx]
theorem RdP.later {w w' : World} {B : Nat} {A : Option Addr} {wl : List (Int × Int)} (h : RdP w A wl) (hb : Below B w w') (hB : w.heap.size ≤ B) : RdP w' A wl := ⟨h.1, h.2.later hb hB⟩
set_option maxHeartbeats 400000 in
theorem owTouch_ (k1 a1 k2 a2 : Int) (s1 s2 : ByteArray) (w : World) (h1 : -1000 ≤ a1) (h1' : a1 ≤ 1000) (h2 : -1000 ≤ a2) (h2' : a2 ≤ 1000) :
    Calls Tryd.prog 47 #[.agg #[.int .i64 k1, .int .i64 a1, .string s1], .agg #[.int .i64 k2, .int .i64 a2, .string s2]] w fun e w' => e = .returned (.bool (touchB a1 a2)) ∧ Below w.heap.size w w' := by
  by_cases hc : a1 - a2 ≤ 1
  · go_enter Tryd.func47, Tryd.ntmps47
    go_wp2
    go_ret
    exact ⟨ret_bool (by unfold touchB; by_cases h : a2 - a1 ≤ 1 <;> simp [h] <;> omega), ((Below.refl _ _).alloc (Nat.le_refl _) _).alloc (by simp) _⟩
  · go_enter Tryd.func47, Tryd.ntmps47
    go_wp2
    go_ret
    exact ⟨ret_bool (by unfold touchB; simp; omega), ((Below.refl _ _).alloc (Nat.le_refl _) _).alloc (by simp) _⟩
theorem owTouch_is {b : Bool} (k1 a1 k2 a2 : Int) (s1 s2 : ByteArray) (w : World) (h1 : -1000 ≤ a1) (h1' : a1 ≤ 1000) (h2 : -1000 ≤ a2) (h2' : a2 ≤ 1000) (hb : touchB a1 a2 = b) :
    Calls Tryd.prog 47 #[.agg #[.int .i64 k1, .int .i64 a1, .string s1], .agg #[.int .i64 k2, .int .i64 a2, .string s2]] w fun e w' => e = .returned (.bool b) ∧ Below w.heap.size w w' := by
  subst hb; exact owTouch_ k1 a1 k2 a2 s1 s2 w h1 h1' h2 h2'
theorem infoO_Tryd : (Tryd.prog.info? 68).map (fun i => (i.zero, i.size, i.bytes)) = some (some (.agg #[.int .u64 0, .int .u64 0, .int .u64 0, .int .u64 0, .int .u64 0, .int .u64 0, .int .u64 0]), 7, 56) := by kernel_rfl
theorem run_makeO_Tryd (m : Nat) (hm : m ≤ 2001) (w : World) : (Instr.makeSlice 52 (.int .i64 (m : Int)) (.int .i64 (m : Int))).run Tryd.prog w =
    .ok (.slice (some ⟨w.heap.size, 0, none⟩) m m) (w.alloc (.cells (madeCells z7 (m * 7)) 68)) := by
  obtain ⟨i, hi, hzz⟩ := Option.map_eq_some_iff.1 infoO_Tryd
  simp only [Prod.mk.injEq] at hzz
  obtain ⟨hz, hs, hb⟩ := hzz
  have hr := run_make (P := Tryd.prog) w 52 68 i _ Tryd.underlying52 hi hz .i64 .i64 m m (by omega) (Int.le_refl _) (by rw [hb]; omega) (by omega)
  simp only [Int.toNat_natCast, hs] at hr
  exact hr
theorem sbo_made (w : World) (m : Nat) : SBo (w.alloc (.cells (madeCells z7 (m * 7)) 68)) w.heap.size m (fun _ => 0) := by
  unfold SBo
  refine WBo.congr (G := fun _ _ => 0) ?_ (fun b k _ _ => (wd_zero k).symm)
  unfold WBo
  rw [heap_alloc_new, z7_zero]
/-- The set b holds what is asked of it, in the first n sets. -/
def FIs (n : Nat) (F : Nat → Nat) (q : Nat → Nat → Bool) : Prop := ∀ b, b < n → ∀ a, (F b).testBit a = q a b
theorem FIs.put {n : Nat} {F : Nat → Nat} {q : Nat → Nat → Bool} (h : FIs n F q) (i j : Nat) : FIs n (updS F j (F j ||| 2 ^ i)) (fun a b => q a b || (decide (i = a) && decide (j = b))) := fun b hb a => by
  unfold updS
  by_cases e : b = j
  · subst e
    rw [if_pos rfl, testBit_set, h b hb a]
    simp
  · show _ = (q a b || (decide (i = a) && decide (j = b)))
    rw [if_neg e, h b hb a, decide_eq_false (Ne.symm e), Bool.and_false, Bool.or_false]
theorem FIs.congr {n : Nat} {F : Nat → Nat} {q q' : Nat → Nat → Bool} (h : FIs n F q) (he : ∀ a b, b < n → q a b = q' a b) : FIs n F q' := fun b hb a => (h b hb a).trans (he a b hb)
/-- What before returns. -/
def BefPost (p : Int) (ws : List GW) (wl : List (Int × Int)) (w : World) (e : Ending) (w' : World) : Prop :=
  (errO p ws wl = 0 → ∃ R, e = .returned (.tuple #[.slice (some ⟨R, 0, none⟩) ws.length ws.length, .int .i64 0]) ∧ SBo w' R ws.length (LO ws wl) ∧ w.heap.size ≤ R) ∧
  (errO p ws wl ≠ 0 → e = .returned (.tuple #[.slice none 0 0, .int .i64 (errO p ws wl)])) ∧ Below w.heap.size w w'
theorem wis_take {wl : List (Int × Int)} {j : Nat} (hj : j < wl.length) (a b : Nat) : wisB (wl.take (j + 1)) a b = (wisB (wl.take j) a b || (decide (wl[j].1 = (a : Int)) && decide (wl[j].2 = (b : Int)))) := by
  rw [List.take_succ_eq_append_getElem hj, wis_snoc]

/-- While the places are gone through: works b below k, and of work k those below i. -/
def qTo (ws : List GW) (wl : List (Int × Int)) (k i a b : Nat) : Bool := wisB wl a b || (decide (a < b ∧ (b < k ∨ (b = k ∧ a < i))) && tcO ws a b)
theorem qTo_zero (ws : List GW) (wl : List (Int × Int)) (a b : Nat) : qTo ws wl 0 0 a b = wisB wl a b := by
  unfold qTo
  rw [decide_eq_false (by omega)]; simp
theorem qTo_next (ws : List GW) (wl : List (Int × Int)) (k a b : Nat) : qTo ws wl k k a b = qTo ws wl (k + 1) 0 a b := by
  unfold qTo
  congr 2
  rw [decide_eq_decide]; omega
theorem qTo_yes (ws : List GW) (wl : List (Int × Int)) {k i : Nat} (hi : i < k) (ht : tcO ws i k = true) (a b : Nat) : (qTo ws wl k i a b || (decide (i = a) && decide (k = b))) = qTo ws wl k (i + 1) a b := by
  unfold qTo
  by_cases h : i = a ∧ k = b
  · obtain ⟨rfl, rfl⟩ := h
    rw [ht, decide_eq_true (show i < k ∧ (k < k ∨ (k = k ∧ i < i + 1)) by omega)]; simp
  · have h1 : (decide (i = a) && decide (k = b)) = false := by
      rw [Bool.and_eq_false_iff, decide_eq_false_iff_not, decide_eq_false_iff_not]; omega
    rw [h1, Bool.or_false]
    congr 2
    rw [decide_eq_decide]; omega
theorem qTo_no (ws : List GW) (wl : List (Int × Int)) {k i : Nat} (ht : tcO ws i k = false) (a b : Nat) : qTo ws wl k i a b = qTo ws wl k (i + 1) a b := by
  unfold qTo
  by_cases h : i = a ∧ k = b
  · obtain ⟨rfl, rfl⟩ := h
    rw [ht]; simp
  · congr 2
    rw [decide_eq_decide]; omega
theorem qTo_all (ws : List GW) (wl : List (Int × Int)) {a b : Nat} (hb : b < ws.length) : qTo ws wl ws.length 0 a b = dirB ws wl a b := by
  unfold qTo dirB
  rw [Bool.or_comm]
  congr 2
  rw [decide_eq_decide]; omega
set_option maxRecDepth 100000 in
set_option maxHeartbeats 4000000 in
theorem before_ (p : Int) (A Wa : Option Addr) (c wc : Nat) (ws : List GW) (wl : List (Int × Int)) (w : World) (ha : ShIn w p A ws) (hl : RdP w Wa wl) :
    Calls Tryd.prog 29 #[.agg #[.int .i64 p, .slice A ws.length c], .slice Wa wl.length wc] w (BefPost p ws wl w) := by
  have hb2 : Below w.heap.size w (w.alloc (.cells #[.int .i64 p, .slice A ws.length c] 24)) := (Below.refl _ _).alloc (Nat.le_refl _) _
  have Y0 := Lib.hid hb2; clear hb2
  have X0 := Lib.hid (Box1.made w p A c ws.length 24)
  have hwl := hl.1
  have HA := Lib.hid ha; have HL := Lib.hid hl; clear ha hl
  go_enter Tryd.func29, Tryd.ntmps29
  go_wp2_with fail
  refine (sCheck_ _ _ _ _ _ HA.out.lo HA.out.hi (HA.out.rd.later Y0.out (Nat.le_refl _))).mono ?_
  rintro e w1 ⟨rfl, hb1⟩
  by_cases he : errSheet p ws = 0
  rotate_left
  · have herr : errO p ws wl = errSheet p ws := by unfold errO; rw [if_neg he]
    have heb : (errSheet p ws != 0) = true := by simpa using he
    have hpo : ∀ w', Below w.heap.size w w' → BefPost p ws wl w (.returned (.tuple #[.slice none 0 0, .int .i64 (errSheet p ws)])) w' := fun w' hb => ⟨fun h => absurd (herr.symm.trans h) he, fun _ => by rw [herr], hb⟩
    generalize errSheet p ws = E at *
    have HE := Lib.hid he; have HERR := Lib.hid herr; have HPO := Lib.hid hpo; clear he herr hpo
    have X1 := Lib.hid (X0.out.later hb1); have Y1 := Lib.hid (Y0.out.trans (hb1.mono Y0.out.size)); clear hb1; obtain ⟨c1, c2, s1⟩ := X1.out
    go_wp2
    go_ret2
    exact HPO.out _ Y1.out
  have hE := Lib.hid he
  rw [he]
  clear he
  obtain ⟨hp2, hp24, hn4, hall⟩ := okAll hE.out
  have X1 := Lib.hid (X0.out.later hb1); have Y1 := Lib.hid (Y0.out.trans (hb1.mono Y0.out.size)); clear hb1; obtain ⟨c1, c2, s1⟩ := X1.out
  by_cases h2 : 200 < (wl.length : Int)
  · have herr : errO p ws wl = 3 := by unfold errO; rw [if_pos hE.out, if_pos (by omega)]
    have HERR := Lib.hid herr; have HALL := Lib.hid hall; clear herr hall
    go_wp2
    go_ret2
    exact ⟨fun h => by rw [HERR.out] at h; omega, fun _ => by rw [HERR.out]; rfl, Y1.out⟩
  have h2b : decide (200 < (wl.length : Int)) = false := by simpa using h2
  have h2n : wl.length ≤ 200 := by omega
  clear h2
  have hmk := run_makeO_Tryd ws.length (by omega)
  have hq : ∀ i, (h : i < ws.length) → 0 ≤ ws[i].pl ∧ ws[i].pl ≤ 22 ∧ plO ws i = ws[i].pl := fun i h => by
    have := hall _ (List.getElem_mem h)
    refine ⟨by omega, by omega, ?_⟩
    unfold plO; simp [List.getD_eq_getElem?_getD, h]
  have HALL := Lib.hid hall; have HQ := Lib.hid hq; clear hall hq
  go_wp2
  clear c1 c2 s1 hmk
  have hm1 := sbo_made w1 ws.length
  have hm2 : Below w1.heap.size w1 (w1.alloc (.cells (madeCells z7 (ws.length * 7)) 68)) := (Below.refl _ _).alloc (Nat.le_refl _) _
  have HM1 := Lib.hid hm1; have HM2 := Lib.hid hm2; clear hm1 hm2
  go_loopw [27] (fun iv wr => ∃ (j : Nat) (F : Nat → Nat), iv = .int .i64 j ∧ j ≤ wl.length ∧ (∀ x ∈ wl.take j, badO ws.length x = false) ∧ SBo wr w1.heap.size ws.length F ∧ FIs ws.length F (wisB (wl.take j)) ∧ Below w1.heap.size w1 wr) (fun iv _ => wl.length - (intOf iv).toNat)
  case atStart => exact ⟨0, fun _ => 0, rfl, Nat.zero_le _, (fun x hx => by cases hx), HM1.out, (fun b _ a => by simp [wisB]), HM2.out⟩
  case round =>
    obtain ⟨j, F, rfl, hj, hok, hF, hFi, hbw⟩ := hrel
    obtain ⟨c1, c2, s1⟩ := X1.out.later hbw
    have hXW := Y1.out.trans (hbw.mono Y1.out.size)
    by_cases hlt : j < wl.length
    · obtain ⟨bl, ol, rfl, hbl, l1, l2⟩ := (HL.out.later hXW (Nat.le_refl _)).at_ hlt
      have hwt := wis_take hlt
      have hmem := List.getElem_mem hlt
      have hbadv : ∀ x : Int × Int, badO ws.length x = true → x ∈ wl → errO p ws wl = 2 := fun x hx hm => by
        unfold errO; rw [if_pos hE.out, if_neg (by omega), if_pos (List.any_eq_true.2 ⟨x, hm, hx⟩)]
      have htk : wl.take (j + 1) = wl.take j ++ [wl[j]] := List.take_succ_eq_append_getElem hlt
      have x1 : (0 : Int) ≤ (j : Int) := by omega
      have x2 : (j : Int) < (wl.length : Int) := by omega
      have hsz := hF.lt
      cases hb : badO ws.length wl[j] with
      | true =>
        have herr := hbadv _ hb hmem
        have hb' := hb
        unfold badO at hb'
        rw [decide_eq_true_eq] at hb'
        generalize wl[j] = y at *
        obtain ⟨y1, y2⟩ := y
        simp only at hb' l1 l2
        have HOK := Lib.hid hok; have HF := Lib.hid hF; have HFI := Lib.hid hFi; have HBW := Lib.hid hbw; have HXW := Lib.hid hXW; have HWT := Lib.hid hwt; have HMEM := Lib.hid hmem; have HBADV := Lib.hid hbadv; have HTK := Lib.hid htk; have HB := Lib.hid hb; have HERR := Lib.hid herr; clear hok hF hFi hbw hXW hwt hmem hbadv htk hb herr
        have yd : ∀ x y : Int, ¬ x < y → decide (x < y) = false := fun x y h => by simpa using h
        have yt : ∀ x y : Int, x < y → decide (x < y) = true := fun x y h => by simpa using h
        have yl : ∀ x y : Int, x ≤ y → decide (x ≤ y) = true := fun x y h => by simpa using h
        have ym : ∀ x y : Int, ¬ x ≤ y → decide (x ≤ y) = false := fun x y h => by simpa using h
        rcases Int.lt_trichotomy y1 y2 with hc | hc | hc
        · by_cases n1 : y1 < 0
          · have f1 := yt _ _ n1
            clear yd yt yl ym
            go_wp2
            go_ret2
            exact ⟨fun h => by rw [HERR.out] at h; omega, fun _ => by rw [HERR.out]; rfl, HXW.out.alloc HXW.out.size _⟩
          · have f1 := yd _ _ n1
            have f2 : (ws.length : Int) ≤ y2 := by omega
            clear yd yt yl ym
            go_wp2
            go_ret2
            exact ⟨fun h => by rw [HERR.out] at h; omega, fun _ => by rw [HERR.out]; rfl, HXW.out.alloc HXW.out.size _⟩
        · subst hc
          by_cases n1 : y1 < 0
          · have f1 := yt _ _ n1
            clear yd yt yl ym
            go_wp2
            go_ret2
            exact ⟨fun h => by rw [HERR.out] at h; omega, fun _ => by rw [HERR.out]; rfl, HXW.out.alloc HXW.out.size _⟩
          · have f1 := yd _ _ n1
            by_cases n2 : (ws.length : Int) ≤ y1
            · clear yd yt yl ym
              go_wp2
              go_ret2
              exact ⟨fun h => by rw [HERR.out] at h; omega, fun _ => by rw [HERR.out]; rfl, HXW.out.alloc HXW.out.size _⟩
            · have f2 := ym _ _ n2
              clear yd yt yl ym
              go_wp2
              go_ret2
              exact ⟨fun h => by rw [HERR.out] at h; omega, fun _ => by rw [HERR.out]; rfl, HXW.out.alloc HXW.out.size _⟩
        · by_cases n1 : y2 < 0
          · have f1 := yt _ _ n1
            clear yd yt yl ym
            go_wp2
            go_ret2
            exact ⟨fun h => by rw [HERR.out] at h; omega, fun _ => by rw [HERR.out]; rfl, HXW.out.alloc HXW.out.size _⟩
          · have f1 := yd _ _ n1
            have f2 : (ws.length : Int) ≤ y1 := by omega
            clear yd yt yl ym
            go_wp2
            go_ret2
            exact ⟨fun h => by rw [HERR.out] at h; omega, fun _ => by rw [HERR.out]; rfl, HXW.out.alloc HXW.out.size _⟩
      | false =>
        have hb' := hb
        unfold badO at hb'
        rw [decide_eq_false_iff_not] at hb'
        generalize wl[j] = y at *
        obtain ⟨y1, y2⟩ := y
        simp only at hb' l1 l2 hwt
        obtain ⟨a, rfl⟩ := Int.eq_ofNat_of_zero_le (show 0 ≤ y1 by omega)
        obtain ⟨b, rfl⟩ := Int.eq_ofNat_of_zero_le (show 0 ≤ y2 by omega)
        have ha1 : a < ws.length := by omega
        have hb1 : b < ws.length := by omega
        have hab : a ≠ b := by omega
        clear hb'
        have HOK := Lib.hid hok; have HF := Lib.hid hF; have HFI := Lib.hid hFi; have HBW := Lib.hid hbw; have HXW := Lib.hid hXW; have HWT := Lib.hid hwt; have HMEM := Lib.hid hmem; have HBADV := Lib.hid hbadv; have HTK := Lib.hid htk; have HB := Lib.hid hb; clear hok hF hFi hbw hXW hwt hmem hbadv htk hb
        have z1 : (0 : Int) ≤ (a : Int) := by omega
        have z2 : (a : Int) < (ws.length : Int) := by omega
        have z3 : (0 : Int) ≤ (b : Int) := by omega
        have z4 : (b : Int) < (ws.length : Int) := by omega
        have z5 : ¬ ws.length ≤ b := by omega
        have z6 : ¬ ws.length ≤ a := by omega
        have z7 : ((a : Int) == (b : Int)) = false := by simp; omega
        have z8 : decide ((a : Int) < 0) = false := by simp
        have z9 : decide ((b : Int) < 0) = false := by simp
        rcases Nat.lt_or_ge a b with hc | hc
        all_goals
          go_wp2
          have g0 : (wr.alloc (.cells #[.int .i64 (a : Int), .int .i64 (b : Int)] 43)).cell? ⟨wr.heap.size, 0, none⟩ = some (.int .i64 (a : Int)) := by go_simp
          have g1 : (wr.alloc (.cells #[.int .i64 (a : Int), .int .i64 (b : Int)] 43)).cell? ⟨wr.heap.size, 1, none⟩ = some (.int .i64 (b : Int)) := by go_simp
          have hF2 : SBo (wr.alloc (.cells #[.int .i64 (a : Int), .int .i64 (b : Int)] 43)) w1.heap.size ws.length F := (Below.heap_alloc wr _ _ hsz).trans HF.out
          have hb2 : Below w1.heap.size w1 (wr.alloc (.cells #[.int .i64 (a : Int), .int .i64 (b : Int)] 43)) := HBW.out.alloc HBW.out.size _
          generalize (wr.alloc (.cells #[.int .i64 (a : Int), .int .i64 (b : Int)] 43)) = wb at *
          go_still_tail 6, (by kernel_rfl)
          change wpList _ _ _ _ _ wb.drew
          have g0' : wb.drew.cell? ⟨wr.heap.size, 0, none⟩ = some (.int .i64 (a : Int)) := g0
          have hF3 : SBo wb.drew w1.heap.size ws.length F := hF2
          have hb3 : Below w1.heap.size w1 wb.drew := hb2.drew
          clear g0 g1 hF2 hb2
          generalize wb.drew = wb at *
          have HF3 := Lib.hid hF3; have HB3 := Lib.hid hb3; clear hF3 hb3
          go_wp2_with fail
          refine (owPut_ w1.heap.size (b * 7) (F b) a _ (by omega) (SBo.at_ HF3.out hb1)).mono ?_
          rintro e w3 ⟨⟨v, rfl⟩, hw3⟩
          have hF4 : SBo w3 w1.heap.size ws.length (updS F b (F b ||| 2 ^ a)) := by rw [hw3]; exact SBo.put HF3.out (by omega)
          have hb4 : Below w1.heap.size w1 w3 := by rw [hw3]; exact (HB3.out.setCell (Nat.le_refl _) _).drew
          clear hw3 g0'
          have HF4 := Lib.hid hF4; have HB4 := Lib.hid hb4; clear hF4 hb4
          go_wp2
          go_roundw
          case rel =>
            refine ⟨j + 1, _, by go_num, by omega, fun x hx => ?_, HF4.out, (HFI.out.put a b).congr fun x y _ => ?_, HB4.out⟩
            · rw [HTK.out] at hx
              rcases List.mem_append.1 hx with h | h
              · exact HOK.out x h
              · rw [List.mem_singleton.1 h]; exact HB.out
            · rw [HWT.out]
              congr 2 <;> rw [decide_eq_decide] <;> omega
          case measure => simp [intOf]; omega
    · obtain rfl : j = wl.length := by omega
      rw [List.take_length] at hok hFi
      have hsz := hF.lt
      obtain ⟨w2, rfl⟩ : ∃ w2 : World, w2 = wr := ⟨_, rfl⟩
      have hFi0 : FIs ws.length F (qTo ws wl 0 0) := hFi.congr fun a b _ => (qTo_zero ws wl a b).symm
      clear hFi
      have HOK := Lib.hid hok; have HF := Lib.hid hF; have HFI0 := Lib.hid hFi0; have HBW := Lib.hid hbw; have HXW := Lib.hid hXW; clear hok hF hFi0 hbw hXW
      go_wp2
      clear c1 c2 s1
      go_loopw [65] (fun iv wr => ∃ (k : Nat) (F : Nat → Nat), iv = .int .i64 k ∧ k ≤ ws.length ∧ SBo wr w1.heap.size ws.length F ∧ FIs ws.length F (qTo ws wl k 0) ∧ Below w1.heap.size w1 wr) (fun iv _ => ws.length - (intOf iv).toNat)
      case atStart => exact ⟨0, F, rfl, Nat.zero_le _, HF.out, HFI0.out, HBW.out⟩
      case round =>
        clear HF HFI0 HBW HXW hsz
        obtain ⟨k, F, rfl, hk, hF, hFi, hbw⟩ := hrel
        obtain ⟨c1, c2, s1⟩ := X1.out.later hbw
        have hXW := Y1.out.trans (hbw.mono Y1.out.size)
        by_cases hlt2 : k < ws.length
        · obtain ⟨ba, oa, rfl, hba, t1, t2, t3⟩ := (HA.out.rd.later hXW (Nat.le_refl _)).at_ hlt2
          obtain ⟨p1, p2, p3⟩ := HQ.out k hlt2
          have x1 : (0 : Int) ≤ (k : Int) := by omega
          have x2 : (k : Int) < (ws.length : Int) := by omega
          have hsz := hF.lt
          have hrow : (wr.alloc (.cells #[.int .i64 ws[k].kind, .int .i64 ws[k].pl, .string ws[k].word] 50)).heap[wr.heap.size]? = some (.cells #[.int .i64 ws[k].kind, .int .i64 ws[k].pl, .string ws[k].word] 50 (0, 0)) := heap_alloc_new _ _
          have hF2 : SBo (wr.alloc (.cells #[.int .i64 ws[k].kind, .int .i64 ws[k].pl, .string ws[k].word] 50)) w1.heap.size ws.length F := (Below.heap_alloc wr _ _ hsz).trans hF
          have hb2 : Below w1.heap.size w1 (wr.alloc (.cells #[.int .i64 ws[k].kind, .int .i64 ws[k].pl, .string ws[k].word] 50)) := hbw.alloc hbw.size _
          have htc : ∀ i, (h : i < ws.length) → tcO ws i k = touchB ws[i].pl ws[k].pl := fun i h => by
            unfold tcO; rw [p3, (HQ.out i h).2.2]
          have hwz := hbw.size
          generalize ws[k].kind = zk at *
          generalize ws[k].pl = zp at *
          generalize ws[k].word = zw at *
          have HF := Lib.hid hF; have HFI := Lib.hid hFi; have HBW := Lib.hid hbw; have HXW := Lib.hid hXW; have HF2 := Lib.hid hF2; have HB2 := Lib.hid hb2; have HROW := Lib.hid hrow; have HTC := Lib.hid htc; clear hF hFi hbw hXW hF2 hb2 hrow htc
          obtain ⟨wq, rfl⟩ : ∃ wq : World, wq = wr := ⟨_, rfl⟩
          go_wp2
          clear c1 c2 s1 t1 t2 t3 hba
          go_loopw [71] (fun iv wr => ∃ (i : Nat) (F : Nat → Nat), iv = .int .i64 i ∧ i ≤ k ∧ SBo wr w1.heap.size ws.length F ∧ FIs ws.length F (qTo ws wl k i) ∧ Below w1.heap.size w1 wr ∧ wr.heap[wq.heap.size]? = some (.cells #[.int .i64 zk, .int .i64 zp, .string zw] 50 (0, 0))) (fun iv _ => k - (intOf iv).toNat)
          case atStart => exact ⟨0, F, rfl, Nat.zero_le _, HF2.out, HFI.out, HB2.out, HROW.out⟩
          case round =>
            clear HF HFI HBW HXW HF2 HB2 HROW
            obtain ⟨i, F, rfl, hi, hF, hFi, hbw, hrow⟩ := hrel
            obtain ⟨c1, c2, s1⟩ := X1.out.later hbw
            have hXW := Y1.out.trans (hbw.mono Y1.out.size)
            by_cases hlt3 : i < k
            · have hin : i < ws.length := by omega
              obtain ⟨ba, oa, hAe, hba, t1, t2, t3⟩ := (HA.out.rd.later hXW (Nat.le_refl _)).at_ hin
              injection hAe with hAe; injection hAe with hAe1 hAe2; subst hAe1; subst hAe2
              obtain ⟨q1, q2, _⟩ := HQ.out i hin
              have ht := HTC.out i hin
              have y1 : (i : Int) < (k : Int) := by omega
              have y2 : (0 : Int) ≤ (i : Int) := by omega
              have y3 : (i : Int) < (ws.length : Int) := by omega
              have b0 : wr.cell? ⟨wq.heap.size, 0, none⟩ = some (.int .i64 zk) := cell_of_row wr _ 0 _ _ _ hrow
              have b1 : wr.cell? ⟨wq.heap.size, 1, none⟩ = some (.int .i64 zp) := cell_of_row wr _ 1 _ _ _ hrow
              have b2 : wr.cell? ⟨wq.heap.size, 2, none⟩ = some (.string zw) := cell_of_row wr _ 2 _ _ _ hrow
              have b3 := lt_of_block hrow
              generalize ws[i].kind = yk at *
              generalize ws[i].pl = yp at *
              generalize ws[i].word = yw at *
              have hcall := fun W => owTouch_is yk yp zk zp yw zw W (by omega) (by omega) (by omega) (by omega) ht.symm
              cases hb : tcO ws i k with
              | false =>
                rw [hb] at hcall
                have hFi2 : FIs ws.length F (qTo ws wl k (i + 1)) := hFi.congr fun a b _ => qTo_no ws wl hb a b
                have HF := Lib.hid hF; have HFI := Lib.hid hFi; have HFI2 := Lib.hid hFi2; have HBW := Lib.hid hbw; have HXW := Lib.hid hXW; have HROW := Lib.hid hrow; have HT := Lib.hid ht; have HB := Lib.hid hb; have HCALL := Lib.hid hcall; clear hF hFi hFi2 hbw hXW hrow ht hb hcall
                go_wp2
                have hbelc : ∀ (u : Bel wr.heap.size wr) b o, b < wr.heap.size → u.wd.cell? ⟨b, o, none⟩ = wr.cell? ⟨b, o, none⟩ := fun u b o h => u.h.cell (p := ⟨b, o, none⟩) h
                have hbeln : Nonempty (Bel wr.heap.size wr) := ⟨⟨wr, Below.refl _ _⟩⟩
                refine wp_region_bel wr.heap.size (by kernel_rfl) (by kernel_rfl) ?_
                repeat (go_big_quiet_step ((go_at_call 47; exact quiet_bel (Nat.le_refl _) (HCALL.out _))))
                refine wpQuiet_nil ?_
                intro wB hB0; obtain ⟨uB, hu⟩ := hB0; have hbB0 := uB.h; rw [← hu] at hbB0; clear hu uB hbelc hbeln
                obtain ⟨hbB, hcB, hsB⟩ := bcell2 hbB0; clear hbB0
                have hF3 : SBo wB w1.heap.size ws.length F := (hbB.block _ HF.out.lt).trans HF.out
                have hr3 := (hbB.block _ b3).trans HROW.out
                have hb3 := HBW.out.trans (hbB.mono HBW.out.size)
                clear c1 c2 s1 b0 b1 b2 b3 t1 t2 t3 hba hcB hsB
                have HF3 := Lib.hid hF3; have HR3 := Lib.hid hr3; have HB3 := Lib.hid hb3; have HBB := Lib.hid hbB; clear hF3 hr3 hb3 hbB
                go_wp2
                go_roundw
                case rel => exact ⟨i + 1, F, by go_num, by omega, HF3.out, HFI2.out, HB3.out, HR3.out⟩
                case measure => simp [intOf]; omega
              | true =>
                rw [hb] at hcall
                have HF := Lib.hid hF; have HFI := Lib.hid hFi; have HBW := Lib.hid hbw; have HXW := Lib.hid hXW; have HROW := Lib.hid hrow; have HT := Lib.hid ht; have HB := Lib.hid hb; have HCALL := Lib.hid hcall; clear hF hFi hbw hXW hrow ht hb hcall
                go_wp2
                have hbelc : ∀ (u : Bel wr.heap.size wr) b o, b < wr.heap.size → u.wd.cell? ⟨b, o, none⟩ = wr.cell? ⟨b, o, none⟩ := fun u b o h => u.h.cell (p := ⟨b, o, none⟩) h
                have hbeln : Nonempty (Bel wr.heap.size wr) := ⟨⟨wr, Below.refl _ _⟩⟩
                refine wp_region_bel wr.heap.size (by kernel_rfl) (by kernel_rfl) ?_
                repeat (go_big_quiet_step ((go_at_call 47; exact quiet_bel (Nat.le_refl _) (HCALL.out _))))
                refine wpQuiet_nil ?_
                intro wB hB0; obtain ⟨uB, hu⟩ := hB0; have hbB0 := uB.h; rw [← hu] at hbB0; clear hu uB hbelc hbeln
                obtain ⟨hbB, hcB, hsB⟩ := bcell2 hbB0; clear hbB0
                have hF3 : SBo wB w1.heap.size ws.length F := (hbB.block _ HF.out.lt).trans HF.out
                have hr3 := (hbB.block _ b3).trans HROW.out
                have hb3 := HBW.out.trans (hbB.mono HBW.out.size)
                clear c1 c2 s1 b0 b1 b2 b3 t1 t2 t3 hba hcB hsB
                have HF3 := Lib.hid hF3; have HR3 := Lib.hid hr3; have HB3 := Lib.hid hb3; have HBB := Lib.hid hbB; clear hF3 hr3 hb3 hbB
                go_wp2_with fail
                refine (owPut_ w1.heap.size (k * 7) (F k) i _ (by omega) (SBo.at_ HF3.out hlt2)).mono ?_
                rintro e w3 ⟨⟨v, rfl⟩, hw3⟩
                have hF4 : SBo w3 w1.heap.size ws.length (updS F k (F k ||| 2 ^ i)) := by rw [hw3]; exact SBo.put HF3.out (by omega)
                have hb4 : Below w1.heap.size w1 w3 := by rw [hw3]; exact (HB3.out.setCell (Nat.le_refl _) _).drew
                have hr4 : w3.heap[wq.heap.size]? = some (.cells #[.int .i64 zk, .int .i64 zp, .string zw] 50 (0, 0)) := by
                  rw [hw3]; exact (heap_setCell_other wB _ wq.heap.size _ (by show wq.heap.size ≠ w1.heap.size; omega)).trans HR3.out
                clear hw3
                have HF4 := Lib.hid hF4; have HB4 := Lib.hid hb4; have HR4 := Lib.hid hr4; clear hF4 hb4 hr4
                go_wp2
                go_roundw
                case rel => exact ⟨i + 1, _, by go_num, by omega, HF4.out, (HFI.out.put i k).congr fun a b _ => qTo_yes ws wl hlt3 HB.out a b, HB4.out, HR4.out⟩
                case measure => simp [intOf]; omega
            · obtain rfl : i = k := by omega
              have hFi2 : FIs ws.length F (qTo ws wl (i + 1) 0) := hFi.congr fun a b _ => qTo_next ws wl i a b
              have HF := Lib.hid hF; have HFI := Lib.hid hFi; have HFI2 := Lib.hid hFi2; have HBW := Lib.hid hbw; have HXW := Lib.hid hXW; have HROW := Lib.hid hrow; clear hF hFi hFi2 hbw hXW hrow
              go_wp2
              go_roundw
              case rel => exact ⟨i + 1, F, by go_num, by omega, HF.out, HFI2.out, HBW.out⟩
              case measure => simp [intOf]; omega
        · obtain rfl : k = ws.length := by omega
          have herr : errO p ws wl = 0 := by
            unfold errO
            rw [if_pos hE.out, if_neg (by omega), if_neg]
            rw [Bool.not_eq_true, List.any_eq_false]
            intro x hx
            rw [HOK.out x hx]; simp
          have hF2 : SBo wr w1.heap.size ws.length (LO ws wl) := WBo.congr hF fun b j hb _ => by
            have e : F b = LO ws wl b := Nat.eq_of_testBit_eq fun a => by
              rw [hFi b hb a, LO_bit]
              rw [qTo_all ws wl hb]
              by_cases ha : a < ws.length
              · rw [decide_eq_true ha, Bool.true_and]
              · rw [decide_eq_false ha, Bool.false_and]
                unfold dirB
                rw [decide_eq_false (by omega), Bool.false_and, Bool.false_or]
                unfold wisB
                rw [List.any_eq_false]
                intro x hx
                have := HOK.out x hx
                unfold badO at this
                rw [decide_eq_false_iff_not] at this
                rw [Bool.and_eq_true, decide_eq_true_eq, decide_eq_true_eq]
                omega
            rw [e]
          have HF := Lib.hid hF; have HFI := Lib.hid hFi; have HBW := Lib.hid hbw; have HXW := Lib.hid hXW; have HERR := Lib.hid herr; have HF2 := Lib.hid hF2; clear hF hFi hbw hXW herr hF2
          go_wp2
          go_ret2
          exact ⟨fun _ => ⟨w1.heap.size, rfl, HF2.out, Y1.out.size⟩, fun h => absurd HERR.out h, HXW.out⟩
end Go.Proofs.YtlpfecjkkgccgaaDoor
/- The reference's rows: which works are before each work. -/
namespace Go.Proofs.YtlpfecjkkgccgaaDoor
open Go.RowKit

/-- The row of work b, after its first a works. -/
def rowF (pls : Nat → Nat) (M : Nat → Nat → Bool) (b : Nat) : Nat → Nat → Bool
  | 0, _ => false
  | a + 1, x => if tP (pls a) (pls b) = true then rowF pls M b a x || decide (x = a) || (decide (x < a) && M a x) else rowF pls M b a x
/-- The row while a row is put into it. -/
def inF (pls : Nat → Nat) (M : Nat → Nat → Bool) (b a c x : Nat) : Bool := rowF pls M b a x || decide (x = a) || (decide (x < c) && M a x)
theorem rowF_iff {pls : Nat → Nat} {M : Nat → Nat → Bool} {b : Nat} : ∀ {a x : Nat}, rowF pls M b a x = true ↔ ∃ a', a' < a ∧ tP (pls a') (pls b) = true ∧ (x = a' ∨ x < a' ∧ M a' x = true)
  | 0, x => ⟨(fun h => by cases h), (fun ⟨_, h, _⟩ => absurd h (by omega))⟩
  | a + 1, x => by
    unfold rowF
    by_cases ht : tP (pls a) (pls b) = true
    · rw [if_pos ht, Bool.or_eq_true, Bool.or_eq_true, Bool.and_eq_true, decide_eq_true_eq, decide_eq_true_eq, rowF_iff]
      constructor
      · rintro ((⟨a', h1, h2, h3⟩ | h) | h)
        · exact ⟨a', by omega, h2, h3⟩
        · exact ⟨a, by omega, ht, .inl h⟩
        · exact ⟨a, by omega, ht, .inr h⟩
      · rintro ⟨a', h1, h2, h3⟩
        by_cases he : a' = a
        · subst he
          rcases h3 with h3 | h3
          · exact .inl (.inr h3)
          · exact .inr h3
        · exact .inl (.inl ⟨a', by omega, h2, h3⟩)
    · rw [if_neg ht, rowF_iff]
      constructor
      · rintro ⟨a', h1, h2, h3⟩; exact ⟨a', by omega, h2, h3⟩
      · rintro ⟨a', h1, h2, h3⟩
        by_cases he : a' = a
        · subst he; exact absurd h2 ht
        · exact ⟨a', by omega, h2, h3⟩
/-- Which works are before which. -/
def befM (P : Nat) (ws : List GW) (b a : Nat) : Bool := (setsOf P ws b).testBit a
theorem rowF_bef {P : Nat} {ws : List GW} {b : Nat} (hb : b < ws.length) (x : Nat) : rowF (plsOf ws) (befM P ws) b b x = befM P ws b x := by
  have h : rowF (plsOf ws) (befM P ws) b b x = true ↔ befM P ws b x = true := by
    rw [rowF_iff]
    unfold befM
    rw [setsOf_bef hb]
    constructor
    · rintro ⟨a', h1, h2, h3⟩
      rcases h3 with rfl | ⟨_, h3⟩
      · exact .one h1 h2
      · exact .step ((setsOf_bef (by omega) x).1 h3) h1 h2
    · intro h
      cases h with
      | one h1 h2 => exact ⟨x, h1, h2, .inl rfl⟩
      | step h1 h2 h3 => exact ⟨_, h2, h3, .inr ⟨h1.lt, (setsOf_bef (by omega) x).2 h1⟩⟩
  cases h1 : rowF (plsOf ws) (befM P ws) b b x <;> cases h2 : befM P ws b x <;> simp [h1, h2] at h ⊢
theorem inF_zero (pls : Nat → Nat) (M : Nat → Nat → Bool) (b a x : Nat) : inF pls M b a 0 x = (rowF pls M b a x || decide (x = a)) := by unfold inF; simp
theorem inF_last {pls : Nat → Nat} {M : Nat → Nat → Bool} {b a : Nat} (ht : tP (pls a) (pls b) = true) (x : Nat) : inF pls M b a a x = rowF pls M b (a + 1) x := by
  rw [rowF, if_pos ht]; rfl
theorem inF_step (pls : Nat → Nat) (M : Nat → Nat → Bool) (b a c x : Nat) : inF pls M b a (c + 1) x = if x = c then (inF pls M b a c c || M a c) else inF pls M b a c x := by
  unfold inF
  by_cases h : x = c
  · subst h; simp
  · rw [if_neg h]
    congr 2
    rw [decide_eq_decide]
    omega
theorem tP_touch {ws : List GW} {a b : Nat} (ha : a < ws.length) (hb : b < ws.length) (h1 : 0 ≤ ws[a].pl) (h2 : 0 ≤ ws[b].pl) : touchB ws[a].pl ws[b].pl = tP (plsOf ws a) (plsOf ws b) := by
  unfold touchB tP plsOf
  rw [show ws.getD a gwE = ws[a] by simp [List.getD_eq_getElem?_getD, ha], show ws.getD b gwE = ws[b] by simp [List.getD_eq_getElem?_getD, hb], decide_eq_decide]
  omega
def rowV (R : Nat → Nat) (n k : Nat) : List Value := (List.range k).map fun b => Value.slice (some ⟨R b, 0, none⟩) n n
theorem rowV_len (R : Nat → Nat) (n k : Nat) : (rowV R n k).length = k := by unfold rowV; simp
theorem rowV_get {R : Nat → Nat} {n k b : Nat} (h : b < k) : (rowV R n k)[b]? = some (Value.slice (some ⟨R b, 0, none⟩) n n) := by unfold rowV; simp [h]
theorem rowV_put (R : Nat → Nat) (n k q : Nat) : rowV (updF R k q) n (k + 1) = rowV R n k ++ [Value.slice (some ⟨q, 0, none⟩) n n] := by
  unfold rowV
  rw [List.range_succ, List.map_append]
  congr 1
  · apply List.map_congr_left
    intro b hb
    rw [updF_other]
    have := List.mem_range.1 hb
    omega
  · simp [updF_same]
theorem box1_grown {w w1 w2 : World} {p : Int} {A : Option Addr} {c n : Nat} (h : Box1 w w1 p A c n) {row : Option Nat} (hg : w1.grownBy w2 row) (hr : ∀ k, row = some k → w.heap.size < k) : Box1 w w2 p A c n :=
  ⟨(hg.cell_far ⟨w.heap.size, 0, none⟩ h.2.2 (fun e => by have := hr _ e.symm; simp at this)).trans h.1, (hg.cell_far ⟨w.heap.size, 1, none⟩ h.2.2 (fun e => by have := hr _ e.symm; simp at this)).trans h.2.1, Nat.lt_of_lt_of_le h.2.2 hg.size⟩
def RowsPost (P : Nat) (ws : List GW) (w : World) (e : Ending) (w' : World) : Prop := ∃ A c, e = .returned (.slice A ws.length c) ∧ MatB w' A ws.length (befM P ws) ∧ Below w.heap.size w w'

end Go.Proofs.YtlpfecjkkgccgaaDoor
