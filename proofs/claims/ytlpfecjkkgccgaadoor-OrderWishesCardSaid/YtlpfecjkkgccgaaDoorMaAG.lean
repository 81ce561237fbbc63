/- Texts of this claim, laid together: OrAllP, OrLAll. -/
import Derived.Test.YtlpfecjkkgccgaaDoorMaU
import Derived.Test.YtlpfecjkkgccgaaDoorMaX
import Derived.Test.YtlpfecjkkgccgaaDoorMaZ
import Derived.Test.YtlpfecjkkgccgaaDoorMaAA
import Derived.Test.YtlpfecjkkgccgaaDoorMaAC
import Derived.Test.YtlpfecjkkgccgaaDoorMaAF
import Derived.Deep.CutBlock
/- What the laws on all orders, and on one wish more, need: plain. -/
namespace Go.Proofs.YtlpfecjkkgccgaaDoor
open Go.RowKit

section
variable {p : Int} {ws : List GW} {wl : List (Int × Int)} {l : List Int}
theorem plO_at (ws : List GW) {k : Nat} (hk : k < ws.length) : plO ws k = ws[k].pl := by
  unfold plO; simp [List.getD_eq_getElem?_getD, hk]
/-- A run that respects the wishes takes the sheet's order too. -/
theorem run_quiet (he : errSheet p ws = 0) : ∀ {l : List Int} {S T : Nat}, pRun ws.length (LO ws wl) S l = some T → oRun ws.length (plsOf ws) S l = some T
  | [], _, _, h => h
  | x :: l, S, T, h => by
    obtain ⟨k, rfl, hk, hf, _⟩ := pRun_cons (by rw [h]; rfl)
    rw [pRun_nat hk hf] at h
    have ih := run_quiet he h
    obtain ⟨hf1, hf2⟩ := (freeB_iff S k).1 hf
    have hc : ∀ a, a < k → tP (plsOf ws a) (plsOf ws k) = true → S.testBit a = true := fun a ha ht => by
      have hall := (okAll he).2.2.2
      have han : a < ws.length := by omega
      refine hf2 a ?_
      rw [LO_bit, decide_eq_true han]
      unfold dirB tcO
      rw [plO_at ws han, plO_at ws hk, tP_touchO han hk (hall _ (List.getElem_mem han)).2.1 (hall _ (List.getElem_mem hk)).2.1, ht, decide_eq_true ha]
      rfl
    have hs : oStep ws.length (plsOf ws) S (k : Int) = some (S ||| 2 ^ k) := by
      unfold oStep
      rw [Int.toNat_natCast, if_pos ⟨by omega, by omega, hf1, hc⟩]
    show (match oStep ws.length (plsOf ws) S (k : Int) with | some S' => oRun ws.length (plsOf ws) S' l | none => none) = some T
    rw [hs]
    exact ih
theorem ord_quiet (he : errO p ws wl = 0) (h : ordB ws.length (LO ws wl) l = true) : reoX p ws l = 0 := by
  have hs := (errO_zero he).1
  obtain ⟨h1, h2⟩ := ordB_iff.1 h
  obtain ⟨T, hT⟩ := Option.isSome_iff_exists.1 h2
  unfold reoX ordQ
  rw [if_pos hs, run_quiet hs hT, h1]
  simp
theorem asdF_snoc (tc : Nat → Nat → Bool) (x : Int) : ∀ (l : List Int) (last : Int), asdF tc last (l ++ [x]) = asdF tc last l + stp tc (l.getLastD last) x.toNat
  | [], last => by simp [asdF]
  | y :: l, last => by
    rw [List.cons_append, asdF, asdF, asdF_snoc tc x l y, Nat.add_assoc]
    congr 2
    cases l with
    | nil => rfl
    | cons z m => rw [List.getLastD_cons, List.getLastD_cons, List.getLastD_cons]
theorem tcO_reo {i j : Nat} (hi : i < l.length) (hj : j < l.length) : tcO (reoG ws l) i j = tcO ws (l[i]).toNat (l[j]).toNat := by
  unfold tcO plO reoG
  simp [List.getD_eq_getElem?_getD, hi, hj]
/-- The steps aside of a line that is laid out anew are those of its order. -/
theorem asd_ord (h0 : ∀ x ∈ l, 0 ≤ x) : ∀ k, k ≤ l.length → asdK (reoG ws l) k = asdF (tcO ws) (-1) (l.take k)
  | 0, _ => by simp [asdK, asdF]
  | k + 1, hk => by
    have ih := asd_ord h0 k (by omega)
    rw [asdK, ih, List.take_succ_eq_append_getElem (by omega), asdF_snoc]
    congr 1
    rcases Nat.eq_zero_or_pos k with e | e
    · subst e
      rw [if_pos rfl]
      simp [stp]
    · rw [if_neg (by omega)]
      obtain ⟨j, rfl⟩ : ∃ j, k = j + 1 := ⟨k - 1, by omega⟩
      have hl : (l.take (j + 1)).getLastD (-1) = l[j] := by
        rw [List.take_succ_eq_append_getElem (show j < l.length by omega)]; exact List.getLastD_concat
      rw [hl, Nat.add_sub_cancel, tcO_reo (show j < l.length by omega) (show j + 1 < l.length by omega)]
      have hn : ¬ l[j] < 0 := by have := h0 _ (List.getElem_mem (show j < l.length by omega)); omega
      unfold stp
      rw [if_neg hn]
theorem ord_nat (h : ordB ws.length (LO ws wl) l = true) : ∀ x ∈ l, 0 ≤ x := fun x hx => by
  obtain ⟨h1, h2⟩ := ordB_iff.1 h
  obtain ⟨T, hT⟩ := Option.isSome_iff_exists.1 h2
  have key : ∀ (l : List Int) (S : Nat), (pRun ws.length (LO ws wl) S l).isSome = true → ∀ x ∈ l, 0 ≤ x := by
    intro l
    induction l with
    | nil => intro _ _ x hx; cases hx
    | cons y l ih =>
      intro S h x hx
      obtain ⟨k, rfl, hk, hf, hr⟩ := pRun_cons h
      rcases List.mem_cons.1 hx with e | e
      · omega
      · exact ih _ hr x e
  exact key l 0 h2 x hx
theorem asdN_ord (he : errO p ws wl = 0) (h : ordB ws.length (LO ws wl) l = true) : asdN p ws l = asdF (tcO ws) (-1) l := by
  unfold asdN
  rw [if_pos (ord_quiet he h), asd_ord (ord_nat h) _ (Nat.le_refl _), List.take_length]
theorem lst_some (h : ordB ws.length (LO ws wl) l = true) : (lstO ws wl).isSome = true := by
  obtain ⟨h1, h2⟩ := ordB_iff.1 h
  unfold lstO
  exact goO_some (miss_nil _) h1 h2
/-- Near, where there is an order: it finds one, with the fewest steps aside. -/
theorem near_ok (he : errO p ws wl = 0) (h : ordB ws.length (LO ws wl) l = true) (h12 : ws.length ≤ 12) : nrX p ws wl = 0 ∧ nrN p ws wl ≤ asdN p ws l ∧ ordB ws.length (LO ws wl) (nrL p ws wl) = true ∧ asdN p ws (nrL p ws wl) = nrN p ws wl := by
  have hx : nrX p ws wl = 0 := by unfold nrX; rw [if_pos he, if_neg (by omega), if_pos (lst_some h)]
  obtain ⟨h1, h2⟩ := ordB_iff.1 h
  have hle : nrN p ws wl ≤ asdN p ws l := by
    unfold nrN
    rw [if_pos hx, asdN_ord he h]
    rcases rs_le (tc := tcO ws) (last := -1) h2 with h3 | h3
    · exact h3
    · rw [miss_nil] at h3; omega
  obtain ⟨g1, g2, g3⟩ := pth_spec (tc := tcO ws) (last := -1) (miss_nil ws.length) h1 h2
  have hL : nrL p ws wl = pthR ws.length (tcO ws) (LO ws wl) ws.length 0 (-1) := by unfold nrL; rw [if_pos hx]
  have ho : ordB ws.length (LO ws wl) (nrL p ws wl) = true := by rw [hL]; exact ordB_iff.2 ⟨g1, g2⟩
  refine ⟨hx, hle, ho, ?_⟩
  rw [asdN_ord he ho, hL, g3]
  unfold nrN
  rw [if_pos hx]
/-- Count, of few works: no limit is met. -/
theorem cU_small (n : Nat) (L : Nat → Nat) : cU n L 0 ≤ facN n := by
  rw [← fwA_count]
  have hp := Nat.two_pow_pos n
  have e : 2 ^ n = (2 ^ n - 1) + 1 := by omega
  have h : fwA n L (2 ^ n) (2 ^ n - 1) = fwA n L (2 ^ n - 1) (2 ^ n - 1) := by
    conv => lhs; arg 3; rw [e]
    rw [fwA, fwB_self]
  rw [h]
  exact fwA_le (by omega) (Nat.le_refl _) (by omega)
theorem cnt_small (he : errO p ws wl = 0) (hn : ws.length ≤ 12) : cntV p ws wl = ((cU ws.length (LO ws wl) 0 : Nat) : Int) ∧ cntX p ws wl = 0 := by
  obtain ⟨h1, h2⟩ := cnt_is he (show ¬ 16 < ws.length by omega)
  have h3 := cU_small ws.length (LO ws wl)
  have h4 := facN_mono hn
  have h5 : facN 12 = 479001600 := by decide
  rw [if_neg (by omega)] at h1 h2
  exact ⟨h1, h2⟩
theorem lstX_zero (he : errO p ws wl = 0) (h : (lstO ws wl).isSome = true) : lstX p ws wl = 0 := by unfold lstX; rw [if_pos he, if_pos h]
theorem lstX_none (he : errO p ws wl = 0) (h : (lstO ws wl).isSome = false) : lstX p ws wl = 130 := by unfold lstX; rw [if_pos he, h]; rfl
theorem lst_rank (he : errO p ws wl = 0) (h : (lstO ws wl).isSome = true) : rkU ws.length (LO ws wl) 0 (lstL p ws wl) = 0 := by
  obtain ⟨l, hl⟩ := Option.isSome_iff_exists.1 h
  have : lstL p ws wl = l := by unfold lstL; rw [if_pos he, hl]; rfl
  rw [this]
  exact rkU_least hl
/-- Next of an order: none behind the last one; else the next one, which is greater. -/
theorem nxt_ok (he : errO p ws wl = 0) (h : ordB ws.length (LO ws wl) l = true) :
    (nxtX p ws wl l = 9 ∧ rkU ws.length (LO ws wl) 0 l + 1 = cU ws.length (LO ws wl) 0) ∨
    (nxtX p ws wl l = 0 ∧ ordB ws.length (LO ws wl) (nxtL p ws wl l) = true ∧ lessL l (nxtL p ws wl l) = true ∧ rkU ws.length (LO ws wl) 0 (nxtL p ws wl l) = rkU ws.length (LO ws wl) 0 l + 1) := by
  have hs := next_spec (ordB_iff.1 h)
  cases hn : nxK ws.length (LO ws wl) l ws.length with
  | none =>
    left
    rw [hn] at hs
    refine ⟨?_, hs⟩
    unfold nxtX nxtO
    rw [if_pos he, if_pos h, hn]; rfl
  | some m =>
    right
    rw [hn] at hs
    have hL : nxtL p ws wl l = m := by unfold nxtL nxtO; rw [if_pos he, if_pos h, hn]; rfl
    refine ⟨?_, ?_⟩
    · unfold nxtX nxtO
      rw [if_pos he, if_pos h, hn]; rfl
    · rw [hL]
      exact ⟨ordB_iff.2 hs.1, hs.2⟩
theorem rk_lt (h : ordB ws.length (LO ws wl) l = true) : rkU ws.length (LO ws wl) 0 l < cU ws.length (LO ws wl) 0 := by
  obtain ⟨h1, h2⟩ := ordB_iff.1 h
  exact rkU_lt (Nat.two_pow_pos _) h2 (by rw [miss_nil]; exact h1)
/-- One wish more. -/
theorem err_more (he : errO p ws wl = 0) (hl : wl.length < 200) {a b : Int} (h0 : 0 ≤ a) (h1 : 0 ≤ b) (h2 : a < ws.length) (h3 : b < ws.length) (h4 : a ≠ b) : errO p ws (wl ++ [(a, b)]) = 0 := by
  obtain ⟨g1, g2, g3⟩ := errO_zero he
  unfold errO
  rw [if_pos g1, if_neg (by simp; omega), if_neg]
  intro h
  rw [List.any_eq_true] at h
  obtain ⟨x, hx, hb⟩ := h
  unfold badO at hb
  rw [decide_eq_true_eq] at hb
  rcases List.mem_append.1 hx with h5 | h5
  · have := g3 x h5; omega
  · obtain rfl := List.mem_singleton.1 h5
    simp only at hb; omega
theorem ord_more (x : Int × Int) (h : ordB ws.length (LO ws (wl ++ [x])) l = true) : ordB ws.length (LO ws wl) l = true := by
  obtain ⟨h1, h2⟩ := ordB_iff.1 h
  obtain ⟨T, hT⟩ := Option.isSome_iff_exists.1 h2
  exact ordB_iff.2 ⟨h1, by rw [run_more (LO_more x) hT]; rfl⟩
theorem cU_less (x : Int × Int) : cU ws.length (LO ws (wl ++ [x])) 0 ≤ cU ws.length (LO ws wl) 0 := cU_more (LO_more x) _ _
/-- The least order with a wish more is not less. -/
theorem lst_more (x : Int × Int) (he : errO p ws wl = 0) (he2 : errO p ws (wl ++ [x]) = 0) (h : (lstO ws (wl ++ [x])).isSome = true) : lessL (lstL p ws (wl ++ [x])) (lstL p ws wl) = false := by
  have ho := ord_more x (lst_ord he2 h)
  obtain ⟨l, hl⟩ := Option.isSome_iff_exists.1 (lst_some ho)
  have : lstL p ws wl = l := by unfold lstL; rw [if_pos he, hl]; rfl
  rw [this]
  exact goO_least hl (ordB_iff.1 ho).2
theorem near_more (x : Int × Int) (he : errO p ws wl = 0) (he2 : errO p ws (wl ++ [x]) = 0) (h : (lstO ws (wl ++ [x])).isSome = true) (h12 : ws.length ≤ 12) : nrN p ws wl ≤ nrN p ws (wl ++ [x]) := by
  obtain ⟨_, _, h3, h4⟩ := near_ok he2 (lst_ord he2 h) h12
  have h5 := (near_ok he (ord_more x h3) h12).2.1
  omega
end
end Go.Proofs.YtlpfecjkkgccgaaDoor
/- The law OrderAll: no proposed order has fewer steps aside than Near; Next goes through as many as Count says. -/
namespace Go.Proofs.YtlpfecjkkgccgaaDoor
open Go Go.RowKit
set_option maxRecDepth 100000 in
set_option maxHeartbeats 8000000 in
theorem lawAll_ (p : Int) (A Wa B : Option Addr) (c wcp lc : Nat) (ws : List GW) (wl : List (Int × Int)) (l : List Int) (w : World) (ha : ShIn w p A ws) (hl : RdP w Wa wl) (ho : RdI w B l) (hlc : l.length ≤ lc) (hT : Tz w) :
    Calls Tryd.prog 8 #[.agg #[.int .i64 p, .slice A ws.length c, .slice Wa wl.length wcp, .slice B l.length lc]] w fun e w' => e = .returned (.bool true) ∧ Below w.heap.size w w' := by
  have hb2 : Below w.heap.size w (w.alloc (.cells #[.int .i64 p, .slice A ws.length c, .slice Wa wl.length wcp, .slice B l.length lc] 28)) := (Below.refl _ _).alloc (Nat.le_refl _) _
  have hC : CaseB (w.alloc (.cells #[.int .i64 p, .slice A ws.length c, .slice Wa wl.length wcp, .slice B l.length lc] 28)) w.heap.size p A Wa B ws.length c wl.length wcp l.length lc := heap_alloc_new _ _
  go_enter Tryd.func8, Tryd.ntmps8
  refine wp_seq_k fun K1 hK1 => ?_
  have HK1 := Lib.hid hK1; have HA := Lib.hid ha; have HL := Lib.hid hl; have HO := Lib.hid ho; have HLC := Lib.hid hlc; have HT := Lib.hid hT; clear hK1 ha hl ho hlc hT
  go_wp2
  refine HK1.out _ _ ?_
  clear HK1
  generalize w.alloc (.cells #[.int .i64 p, .slice A ws.length c, .slice Wa wl.length wcp, .slice B l.length lc] 28) = w1 at *
  obtain ⟨c0, c1, c2, c3, s1⟩ := hC.open_
  have B1 := Lib.hid hb2
  clear hb2
  have HC := Lib.hid hC; clear hC
  go_wp2_with fail
  refine (far_ p A Wa B c wcp lc wl.length l.length ws w1 (HA.out.rd.later B1.out (Nat.le_refl _))).mono ?_
  rintro e w2 ⟨t, rfl, hNear, b1⟩
  have hC2 := HC.out.later b1
  have B2 := Lib.hid (B1.out.trans (b1.mono B1.out.size))
  clear HC B1 b1 c0 c1 c2 c3 s1
  obtain ⟨c0, c1, c2, c3, s1⟩ := hC2.open_
  have HC2 := Lib.hid hC2; have HNEAR := Lib.hid hNear; clear hC2 hNear
  cases t with
  | true =>
    go_wp2_with fail
    refine (shown_ _ (HT.out.later B2.out (Nat.le_refl _))).mono ?_
    rintro e w3 ⟨rfl, b1⟩
    have B3 := Lib.hid (B2.out.trans (b1.mono B2.out.size))
    clear b1
    go_wp2
    go_ret
    exact ⟨rfl, B3.out⟩
  | false =>
    by_cases hmid : 10 < ws.length
    · have f1 : decide ((10 : Int) < (ws.length : Int)) = true := by simp; omega
      have f3 : (10 : Int) < (ws.length : Int) := by omega
      have HMID := Lib.hid hmid; clear hmid
      go_wp2_with fail
      refine (shown_ _ (HT.out.later B2.out (Nat.le_refl _))).mono ?_
      rintro e w3 ⟨rfl, b1⟩
      have B3 := Lib.hid (B2.out.trans (b1.mono B2.out.size))
      clear b1
      go_wp2
      go_ret
      exact ⟨rfl, B3.out⟩
    have f1 : decide ((10 : Int) < (ws.length : Int)) = false := by simp; omega
    have f3 : ¬ (10 : Int) < (ws.length : Int) := by omega
    go_wp2_with fail
    refine (rWishes_ p A Wa c wcp ws wl _ (HA.out.later B2.out (Nat.le_refl _)) (HL.out.later B2.out (Nat.le_refl _))).mono ?_
    rintro e w3 ⟨rfl, b1⟩
    have hC3 := HC2.out.later b1
    have B3 := Lib.hid (B2.out.trans (b1.mono B2.out.size))
    clear HC2 B2 b1 c0 c1 c2 c3 s1 
    obtain ⟨c0, c1, c2, c3, s1⟩ := hC3.open_
    have HC3 := Lib.hid hC3; clear hC3
    by_cases he : errO p ws wl = 0
    rotate_left
    · have heb : (errO p ws wl != 0) = true := by simpa using he
      generalize errO p ws wl = E at *
      have HE := Lib.hid he; clear he
      go_wp2_with fail
      refine (shown_ _ (HT.out.later B3.out (Nat.le_refl _))).mono ?_
      rintro e w4 ⟨rfl, b1⟩
      have B4 := Lib.hid (B3.out.trans (b1.mono B3.out.size))
      clear b1
      go_wp2
      go_ret
      exact ⟨rfl, B4.out⟩
    have hn4 : ws.length ≤ 400 := by have := (okAll (errO_zero he).1).2.2.1; omega
    have hpl : ∀ x ∈ ws, 0 ≤ x.pl ∧ x.pl ≤ 22 := fun x hx => by
      obtain ⟨_, hp, _, hall⟩ := okAll (errO_zero he).1
      have := hall x hx
      omega
    rw [he]
    have hle10 : ws.length ≤ 10 := by omega
    clear hmid f1 f3
    have HE := Lib.hid he; have HPL := Lib.hid hpl; have HN4 := Lib.hid hn4; have HLE10 := Lib.hid hle10; clear he hpl hn4 hle10
    go_upto_if 41 with (go_at_call 21; refine (rRespects_ p A Wa B c wcp lc ws wl l _ (HA.out.rd.later B3.out (Nat.le_refl _)) HPL.out HN4.out (HL.out.later B3.out (Nat.le_refl _)) (HO.out.later B3.out (Nat.le_refl _))).mono ?_; rintro e w4 ⟨rfl, b1⟩)
    have hC4 := HC3.out.later b1
    have B4 := Lib.hid (B3.out.trans (b1.mono B3.out.size))
    clear HC3 B3 b1 c0 c1 c2 c3 s1 
    obtain ⟨c0, c1, c2, c3, s1⟩ := hC4.open_
    have HC4 := Lib.hid hC4; clear hC4
    go_cut [] (fun wx => CaseB wx w.heap.size p A Wa B ws.length c wl.length wcp l.length lc ∧ Below w.heap.size w wx)
    case first =>
      cases hob : ordB ws.length (LO ws wl) l with
      | false =>
        go_wp2
        go_meet
        exact ⟨HC4.out, B4.out⟩
      | true =>
        have hrx := ord_quiet HE.out hob
        obtain ⟨n1, n2, n3, n4⟩ := near_ok HE.out hob (by have := HLE10.out; omega)
        have n5 := ord_quiet HE.out n3
        have HOB := Lib.hid hob; have HRX := Lib.hid hrx; have N1 := Lib.hid n1; have N2 := Lib.hid n2; have N3 := Lib.hid n3; have N4 := Lib.hid n4; have N5 := Lib.hid n5; clear hob hrx n1 n2 n3 n4 n5
        go_wp2_with fail
        refine (oAside_ p A B c lc ws l _ (HA.out.later B4.out (Nat.le_refl _)) (HO.out.later B4.out (Nat.le_refl _))).mono ?_
        rintro e w5 ⟨rfl, b1⟩
        rw [HRX.out]
        have hC5 := HC4.out.later b1
        have B5 := Lib.hid (B4.out.trans (b1.mono B4.out.size))
        clear HC4 B4 b1 c0 c1 c2 c3 s1 
        obtain ⟨c0, c1, c2, c3, s1⟩ := hC5.open_
        have HC5 := Lib.hid hC5; clear hC5
        go_wp2_with fail
        refine (oNear_ p A Wa c wcp ws wl _ (HA.out.later B5.out (Nat.le_refl _)) (HL.out.later B5.out (Nat.le_refl _))).mono ?_
        rintro e w6 ⟨v, rfl, ⟨PA, pa, rfl, h1⟩, _, b1⟩
        rw [N1.out]
        have hC6 := HC5.out.later b1
        have B6 := Lib.hid (B5.out.trans (b1.mono B5.out.size))
        clear HC5 B5 b1 c0 c1 c2 c3 s1 
        obtain ⟨c0, c1, c2, c3, s1⟩ := hC6.open_
        have HP := Lib.hid h1; clear h1
        have HC6 := Lib.hid hC6; clear hC6
        have hlt : ¬ (asdN p ws l : Int) < (nrN p ws wl : Int) := by have := N2.out; omega
        have hltb : decide ((asdN p ws l : Int) < (nrN p ws wl : Int)) = false := by simpa using hlt
        have h4 := N4.out
        have h3 := N3.out
        have h5 := N5.out
        generalize asdN p ws l = Q1 at *
        generalize nrN p ws wl = Q2 at *
        generalize nrL p ws wl = L1 at *
        have H3 := Lib.hid h3; have H4 := Lib.hid h4; have H5 := Lib.hid h5; clear h3 h4 h5
        go_wp2_with fail
        refine (rRespects_ p A Wa PA c wcp pa ws wl L1 _ (HA.out.rd.later B6.out (Nat.le_refl _)) HPL.out HN4.out (HL.out.later B6.out (Nat.le_refl _)) HP.out).mono ?_
        rintro e w7 ⟨rfl, b1⟩
        rw [H3.out]
        have hC7 := HC6.out.later b1
        have B7 := Lib.hid (B6.out.trans (b1.mono B6.out.size))
        have qHP := HP.out.later b1 (Nat.le_refl _)
        clear HC6 B6 b1 c0 c1 c2 c3 s1 HP
        have HP := Lib.hid qHP; clear qHP
        obtain ⟨c0, c1, c2, c3, s1⟩ := hC7.open_
        have HC7 := Lib.hid hC7; clear hC7
        go_wp2_with fail
        refine (oAside_ p A PA c pa ws L1 _ (HA.out.later B7.out (Nat.le_refl _)) HP.out).mono ?_
        rintro e w8 ⟨rfl, b1⟩
        rw [H4.out, H5.out]
        have hC8 := HC7.out.later b1
        have B8 := Lib.hid (B7.out.trans (b1.mono B7.out.size))
        have qHP := HP.out.later b1 (Nat.le_refl _)
        clear HC7 B7 b1 c0 c1 c2 c3 s1 HP
        have HP := Lib.hid qHP; clear qHP
        obtain ⟨c0, c1, c2, c3, s1⟩ := hC8.open_
        have HC8 := Lib.hid hC8; clear hC8
        go_wp2
        go_meet
        exact ⟨HC8.out, B8.out⟩
    case rest =>
      obtain ⟨hC9, hb9⟩ := hcut
      clear c0 c1 c2 c3 s1
      obtain ⟨c0, c1, c2, c3, s1⟩ := hC9.open_
      have B9 := Lib.hid hb9; clear hb9
      obtain ⟨cv, cx⟩ := cnt_small (p := p) (ws := ws) (wl := wl) HE.out (by have := HLE10.out; omega)
      have HC9 := Lib.hid hC9; have CV := Lib.hid cv; have CX := Lib.hid cx; clear hC9 cv cx
      go_wp2_with fail
      refine (oCount_ p A Wa c wcp ws wl _ (HA.out.later B9.out (Nat.le_refl _)) (HL.out.later B9.out (Nat.le_refl _)) (HT.out.later B9.out (Nat.le_refl _))).mono ?_
      rintro e w10 ⟨rfl, b1⟩
      rw [CV.out, CX.out]
      have hC10 := HC9.out.later b1
      have B10 := Lib.hid (B9.out.trans (b1.mono B9.out.size))
      clear HC9 B9 b1 c0 c1 c2 c3 s1 
      obtain ⟨c0, c1, c2, c3, s1⟩ := hC10.open_
      have HC10 := Lib.hid hC10; clear hC10
      go_wp2_with fail
      refine (oLeast_ p A Wa c wcp ws wl _ (HA.out.later B10.out (Nat.le_refl _)) (HL.out.later B10.out (Nat.le_refl _))).mono ?_
      rintro e w11 ⟨v, rfl, ⟨PA, pa, rfl, h1⟩, hcap, b1⟩
      have hC11 := HC10.out.later b1
      have B11 := Lib.hid (B10.out.trans (b1.mono B10.out.size))
      clear HC10 B10 b1 c0 c1 c2 c3 s1 
      obtain ⟨c0, c1, c2, c3, s1⟩ := hC11.open_
      have HP := Lib.hid h1; clear h1
      have HC11 := Lib.hid hC11; clear hC11
      cases hs : (lstO ws wl).isSome with
      | false =>
        have e1 := lstX_none HE.out hs
        have e2 := cU_none hs
        rw [e1, e2]
        clear hcap
        have E1 := Lib.hid e1; have E2 := Lib.hid e2; have HS := Lib.hid hs; clear e1 e2 hs
        go_wp2_with fail
        refine (shown_ _ (HT.out.later B11.out (Nat.le_refl _))).mono ?_
        rintro e w12 ⟨rfl, b1⟩
        have B12 := Lib.hid (B11.out.trans (b1.mono B11.out.size))
        clear b1
        go_wp2
        go_ret
        exact ⟨rfl, B12.out⟩
      | true =>
        have e1 := lstX_zero (p := p) HE.out hs
        have e2 := lst_rank (p := p) HE.out hs
        have e3 := lst_ord (p := p) HE.out hs
        have e4 := cU_small ws.length (LO ws wl)
        have e5 := facN_mono HLE10.out
        rw [show facN 10 = 3628800 by decide] at e5
        rw [e1]
        have hVb : cU ws.length (LO ws wl) 0 ≤ 3628800 := by omega
        obtain ⟨V, hV⟩ : ∃ V, V = cU ws.length (LO ws wl) 0 := ⟨_, rfl⟩
        rw [← hV] at hVb ⊢
        generalize lstL p ws wl = L0 at *
        have hcap0 : L0.length ≤ pa := hcap
        clear e1 e4 e5 hcap
        have E2 := Lib.hid e2; have E3 := Lib.hid e3; have HS := Lib.hid hs; have HV := Lib.hid hV; have HCAP0 := Lib.hid hcap0; have HVB := Lib.hid hVb; clear e2 e3 hs hV hcap0 hVb
        clear c0 c1 c2 c3 s1
        go_wp2
        go_loopw [12, 14, 15, 16] (fun lv kv _ _ wr => ∃ (k : Nat) (l1 : List Int) (PA : Option Addr) (pa : Nat), kv = .int .i64 (k : Int) ∧ lv = .slice PA l1.length pa ∧ 1 ≤ k ∧ k ≤ 301 ∧ ordB ws.length (LO ws wl) l1 = true ∧ rkU ws.length (LO ws wl) 0 l1 + 1 = k ∧ RdI wr PA l1 ∧ l1.length ≤ pa ∧ CaseB wr w.heap.size p A Wa B ws.length c wl.length wcp l.length lc ∧ Below w.heap.size w wr) (fun _ kv _ _ _ => 301 - (intOf kv).toNat)
        case atStart => exact ⟨1, L0, PA, pa, rfl, rfl, Nat.le_refl _, by omega, E3.out, by rw [E2.out], HP.out, HCAP0.out, HC11.out, B11.out⟩
        case round =>
          clear HP HC11 B11 E2 E3 HCAP0
          obtain ⟨k, l1, PA, pa, rfl, rfl, hk1, hk2, hord, hrk, hrd, hcap, hCr, hbr⟩ := hrel
          obtain ⟨wx, rfl⟩ : ∃ wx : World, wx = wr := ⟨_, rfl⟩
          obtain ⟨c0, c1, c2, c3, s1⟩ := hCr.open_
          have HC11 := Lib.hid hCr; have B11 := Lib.hid hbr; have HP := Lib.hid hrd; clear hCr hbr hrd
          have hlen := (ordB_iff.1 hord).1
          have hrlt := rk_lt hord
          rw [← HV.out] at hrlt
          by_cases hk : k ≤ 300
          · have y1 : (k : Int) ≤ 300 := by omega
            have hnx := nxt_ok HE.out hord
            rw [← HV.out] at hnx
            have HORD := Lib.hid hord; have HRK := Lib.hid hrk; have HCAP := Lib.hid hcap; have HLEN := Lib.hid hlen; have HRLT := Lib.hid hrlt; have HNX := Lib.hid hnx; clear hord hrk hcap hlen hrlt hnx
            go_wp2_with fail
            refine (rRespects_ p A Wa PA c wcp pa ws wl l1 _ (HA.out.rd.later B11.out (Nat.le_refl _)) HPL.out HN4.out (HL.out.later B11.out (Nat.le_refl _)) HP.out).mono ?_
            rintro e w12 ⟨rfl, b1⟩
            rw [HORD.out]
            have hC12 := HC11.out.later b1
            have B12 := Lib.hid (B11.out.trans (b1.mono B11.out.size))
            have qHP := HP.out.later b1 (Nat.le_refl _)
            clear HC11 B11 b1 c0 c1 c2 c3 s1 HP
            have HP := Lib.hid qHP; clear qHP
            obtain ⟨c0, c1, c2, c3, s1⟩ := hC12.open_
            have HC12 := Lib.hid hC12; clear hC12
            go_wp2_with fail
            refine (oNext_ p A Wa PA c wcp pa ws wl l1 _ (HA.out.later B12.out (Nat.le_refl _)) (HL.out.later B12.out (Nat.le_refl _)) HP.out (by have := HLEN.out; have := HN4.out; omega) HCAP.out).mono ?_
            rintro e w13 ⟨v, rfl, ⟨QA, qa, rfl, h1⟩, hcq, b1⟩
            have hC13 := HC12.out.later b1
            have B13 := Lib.hid (B12.out.trans (b1.mono B12.out.size))
            have qHP := HP.out.later b1 (Nat.le_refl _)
            clear HC12 B12 b1 c0 c1 c2 c3 s1 HP
            have HP := Lib.hid qHP; clear qHP
            obtain ⟨c0, c1, c2, c3, s1⟩ := hC13.open_
            have HQ := Lib.hid h1; clear h1
            have HC13 := Lib.hid hC13; clear hC13
            rcases HNX.out with ⟨e1, e2⟩ | ⟨e1, e2, e3, e4⟩
            · rw [e1]
              obtain rfl : V = k := by have := HRK.out; omega
              generalize nxtL p ws wl l1 = L2 at *
              clear hcq
              have E1 := Lib.hid e1; have E2 := Lib.hid e2; clear e1 e2
              go_wp2_with fail
              refine (shown_ _ (HT.out.later B13.out (Nat.le_refl _))).mono ?_
              rintro e w14 ⟨rfl, b1⟩
              have B14 := Lib.hid (B13.out.trans (b1.mono B13.out.size))
              clear b1
              go_wp2
              go_ret
              exact ⟨rfl, B14.out⟩
            · rw [e1]
              have hl2 := (ordB_iff.1 e2).1
              generalize nxtL p ws wl l1 = L2 at *
              have hcq2 : L2.length ≤ qa := hcq
              have f5 : ((L2.length : Int) != (l1.length : Int)) = false := by have := HLEN.out; simp; omega
              have hrk2 : rkU ws.length (LO ws wl) 0 L2 + 1 = k + 1 := by have := HRK.out; omega
              have hll : l1.length = L2.length := by have := HLEN.out; omega
              clear hcq
              have E1 := Lib.hid e1; have E2 := Lib.hid e2; have E3 := Lib.hid e3; have E4 := Lib.hid e4; have HL2 := Lib.hid hl2; have HCQ2 := Lib.hid hcq2; have HRK2 := Lib.hid hrk2; have HLL := Lib.hid hll; have HK := Lib.hid hk; clear e1 e2 e3 e4 hl2 hcq2 hrk2 hll hk
              go_wp2_with fail
              refine (less13_ PA QA pa qa l1 L2 _ HP.out HQ.out HLL.out).mono ?_
              rintro e w14 ⟨rfl, b1⟩
              rw [E3.out]
              have hC14 := HC13.out.later b1
              have B14 := Lib.hid (B13.out.trans (b1.mono B13.out.size))
              have qHP := HP.out.later b1 (Nat.le_refl _)
              have qHQ := HQ.out.later b1 (Nat.le_refl _)
              clear HC13 B13 b1 c0 c1 c2 c3 s1 HP HQ
              have HP := Lib.hid qHP; clear qHP
              have HQ := Lib.hid qHQ; clear qHQ
              obtain ⟨c0, c1, c2, c3, s1⟩ := hC14.open_
              have HC14 := Lib.hid hC14; clear hC14
              go_wp2
              go_roundw
              case rel => exact ⟨k + 1, L2, QA, qa, by go_num, rfl, by omega, by have := HK.out; omega, E2.out, HRK2.out, HQ.out, HCQ2.out, HC14.out, B14.out⟩
              case measure => simp [intOf]; have := HK.out; omega
          · have y1 : ¬ (k : Int) ≤ 300 := by omega
            have y2 : (300 : Int) < (V : Int) := by omega
            have y3 : decide ((300 : Int) < (V : Int)) = true := by simpa using y2
            have HORD := Lib.hid hord; have HRK := Lib.hid hrk; have HCAP := Lib.hid hcap; have HLEN := Lib.hid hlen; have HRLT := Lib.hid hrlt; have HK := Lib.hid hk; clear hord hrk hcap hlen hrlt hk
            go_wp2_with fail
            refine (shown_ _ (HT.out.later B11.out (Nat.le_refl _))).mono ?_
            rintro e w12 ⟨rfl, b1⟩
            have B12 := Lib.hid (B11.out.trans (b1.mono B11.out.size))
            clear b1
            go_wp2
            go_ret
            exact ⟨rfl, B12.out⟩
end Go.Proofs.YtlpfecjkkgccgaaDoor
