/- Texts of this claim, laid together: TnCut, TnShr, TnTriP. -/
import Derived.Test.YtlmhgcllikcedaaMaF
import Derived.Test.YtlmhgcllikcedaaMaG
import Derived.Test.YtlmhgcllikcedaaMaL
/- Parts of lists, and appends of them. -/
namespace Go.Proofs.Ytlmhgcllikcedaa
open Go.RowKit

theorem RdR.cutL {w : World} {A : Option Addr} {xs : List (Int × Int)} (h : RdR w A xs) (m : Nat) : RdR w A (xs.take m) := by
  refine ⟨by have := h.1; simp; omega, fun h0 => ?_⟩
  simp only [List.length_take] at h0
  obtain ⟨b, off, e, hlt, hc⟩ := h.2 (by omega)
  refine ⟨b, off, e, hlt, fun j hj => ?_⟩
  simp only [List.length_take] at hj
  rw [hc j (by omega)]
  unfold cellsR
  have : (xs.take m).getD (j / 2) (0, 0) = xs.getD (j / 2) (0, 0) := by
    simp only [List.getD_eq_getElem?_getD]
    rw [List.getElem?_take_of_lt (by omega)]
  rw [this]
theorem RdR.cutR {w : World} {b off : Nat} {xs : List (Int × Int)} (h : RdR w (some ⟨b, off, none⟩) xs) {m : Nat} (hm : m < xs.length) : RdR w (some ⟨b, off + m * 2, none⟩) (xs.drop m) := by
  refine ⟨by have := h.1; simp; omega, fun h0 => ?_⟩
  obtain ⟨b', off', e, hlt, hc⟩ := h.2 (by omega)
  injection e with e
  injection e with e1 e2
  subst e1; subst e2
  refine ⟨b, off + m * 2, rfl, hlt, fun j hj => ?_⟩
  simp only [List.length_drop] at hj
  rw [Nat.add_assoc, hc (m * 2 + j) (by omega)]
  unfold cellsR
  have : (xs.drop m).getD (j / 2) (0, 0) = xs.getD ((m * 2 + j) / 2) (0, 0) := by
    simp only [List.getD_eq_getElem?_getD]
    rw [List.getElem?_drop, show m + j / 2 = (m * 2 + j) / 2 by omega]
  rw [this, show (m * 2 + j) % 2 = j % 2 by omega]
theorem RdG.cutL {w : World} {A : Option Addr} {xs : List Gt} (h : RdG w A xs) (m : Nat) : RdG w A (xs.take m) := by
  refine ⟨by have := h.1; simp; omega, fun h0 => ?_⟩
  simp only [List.length_take] at h0
  obtain ⟨b, off, e, hlt, hc⟩ := h.2 (by omega)
  refine ⟨b, off, e, hlt, fun j hj => ?_⟩
  simp only [List.length_take] at hj
  rw [hc j (by omega)]
  unfold cellsG
  have : (xs.take m).getD (j / 3) (0, 0, 0) = xs.getD (j / 3) (0, 0, 0) := by
    simp only [List.getD_eq_getElem?_getD]
    rw [List.getElem?_take_of_lt (by omega)]
  rw [this]
theorem RdG.cutR {w : World} {b off : Nat} {xs : List Gt} (h : RdG w (some ⟨b, off, none⟩) xs) {m : Nat} (hm : m < xs.length) : RdG w (some ⟨b, off + m * 3, none⟩) (xs.drop m) := by
  refine ⟨by have := h.1; simp; omega, fun h0 => ?_⟩
  obtain ⟨b', off', e, hlt, hc⟩ := h.2 (by omega)
  injection e with e
  injection e with e1 e2
  subst e1; subst e2
  refine ⟨b, off + m * 3, rfl, hlt, fun j hj => ?_⟩
  simp only [List.length_drop] at hj
  rw [Nat.add_assoc, hc (m * 3 + j) (by omega)]
  unfold cellsG
  have : (xs.drop m).getD (j / 3) (0, 0, 0) = xs.getD ((m * 3 + j) / 3) (0, 0, 0) := by
    simp only [List.getD_eq_getElem?_getD]
    rw [List.getElem?_drop, show m + j / 3 = (m * 3 + j) / 3 by omega]
  rw [this, show (m * 3 + j) % 3 = j % 3 by omega]
/-- The append of a list whose length is spelled otherwise. -/
theorem step_appNPo_Try {ops : Array Oper} {o : Oper} {a : Act} {K : Act → World → Prop} {Q : Exit → Act → World → Prop} {E : Prop} {w : World} (hgd : o.guard = none) (s x : Operand)
    (ho : o.op = .call { callee := .builtin .append, args := #[s, x], argTypes := #[39, 39] })
    (base : Nat) (v : Value) (n : Nat) (hs : a.eval s = v) (xs : List (Int × Int)) (hown : w.ownsRow base 45 2 v xs.length (rootC xs)) (A : Option Addr) (c m : Nat) (hx : a.eval x = .slice A m c) (wl : List (Int × Int)) (hm : wl.length = m) (hrd : RdR w A wl) (hnm : (xs ++ wl).length = n)
    (hn : xs.length + wl.length ≤ 1000000) (hbase : base ≤ w.heap.size)
    (h : ∀ A' c' w', w'.ownsRow base 45 2 (.slice A' n c') (xs ++ wl).length (rootC (xs ++ wl)) → w.grownBy w' v.ownBlock → K (a.put o.dst (.slice A' n c')) w') :
    if Region.wanted o (yielded ops a.tmps) = true then Oper.wp Try.prog o a w K Q else E := by
  subst hm; subst hnm
  exact step_appAllPo_Try hgd s x ho base v xs hs hown A c wl hx hrd hn hbase fun A' c' w' h2 h3 _ => h A' c' w' h2 h3
/-- The append of a list whose length is spelled otherwise. -/
theorem step_appNGa_Try {ops : Array Oper} {o : Oper} {a : Act} {K : Act → World → Prop} {Q : Exit → Act → World → Prop} {E : Prop} {w : World} (hgd : o.guard = none) (s x : Operand)
    (ho : o.op = .call { callee := .builtin .append, args := #[s, x], argTypes := #[46, 46] })
    (base : Nat) (v : Value) (n : Nat) (hs : a.eval s = v) (xs : List Gt) (hown : w.ownsRow base 68 3 v xs.length (gateC xs)) (A : Option Addr) (c m : Nat) (hx : a.eval x = .slice A m c) (wl : List Gt) (hm : wl.length = m) (hrd : RdG w A wl) (hnm : (xs ++ wl).length = n)
    (hn : xs.length + wl.length ≤ 1000000) (hbase : base ≤ w.heap.size)
    (h : ∀ A' c' w', w'.ownsRow base 68 3 (.slice A' n c') (xs ++ wl).length (gateC (xs ++ wl)) → w.grownBy w' v.ownBlock → K (a.put o.dst (.slice A' n c')) w') :
    if Region.wanted o (yielded ops a.tmps) = true then Oper.wp Try.prog o a w K Q else E := by
  subst hm; subst hnm
  exact step_appAllGa_Try hgd s x ho base v xs hs hown A c wl hx hrd hn hbase fun A' c' w' h2 h3 _ => h A' c' w' h2 h3
end Go.Proofs.Ytlmhgcllikcedaa
/- Is a path not longer than another one? -/
namespace Go.Proofs.Ytlmhgcllikcedaa
open Go.RowKit

/-- What the law asks. -/
noncomputable def shrV (a b c : Int) (ps qs : List (Int × Int)) : Bool := if (lenR a b c ps).2 ≠ 0 ∨ (lenR a b c qs).2 ≠ 0 then true else decide (bothE (lenR a b c ps).1 (lenR a b c qs).1 = 0) && decide (cmpO (lenR a b c ps).1 (lenR a b c qs).1 ≤ 0)
set_option maxRecDepth 100000 in
set_option maxHeartbeats 4000000 in
theorem lShorter19_ (A B : Option Addr) (ca cb : Nat) (a b c : Int) (ps qs : List (Int × Int)) (w : World) (ha : RdR w A ps) (hb : RdR w B qs) (h0 : 0 < ps.length) (h0' : 0 < qs.length) (hl : ps.length ≤ 22) (hl' : qs.length ≤ 22) :
    Calls Try.prog 38 #[.agg #[.int .i64 a, .int .i64 b, .int .i64 c], .slice A ps.length ca, .slice B qs.length cb] w fun e w' => e = .returned (.bool (shrV a b c ps qs)) ∧ Below w.heap.size w w' := by
  have hT := heap_alloc_new w (.cells #[.int .i64 a, .int .i64 b, .int .i64 c] 38)
  have hbT : Below w.heap.size w (w.alloc (.cells #[.int .i64 a, .int .i64 b, .int .i64 c] 38)) := (Below.refl _ _).alloc (Nat.le_refl _) _
  have hst := fun h h' => @len_stops a b c a b c ps qs h h' h0 h0' hl hl'
  have hs : shrV a b c ps qs = if (lenR a b c ps).2 ≠ 0 ∨ (lenR a b c qs).2 ≠ 0 then true else decide (bothE (lenR a b c ps).1 (lenR a b c qs).1 = 0) && decide (cmpO (lenR a b c ps).1 (lenR a b c qs).1 ≤ 0) := rfl
  have hc1 := fun W (h : Below w.heap.size w W) => tnLength_ A ca a b c ps W (ha.later h (Nat.le_refl _))
  have hc2 := fun W (h : Below w.heap.size w W) => tnLength_ B cb a b c qs W (hb.later h (Nat.le_refl _))
  generalize shrV a b c ps qs = V at *
  generalize lenR a b c ps = r1 at *
  generalize lenR a b c qs = r2 at *
  obtain ⟨L1, E1⟩ := r1
  obtain ⟨L2, E2⟩ := r2
  simp only at hst hs
  have HT := Lib.hid hT; have HBT := Lib.hid hbT; have HST := Lib.hid hst; have HS := Lib.hid hs; have HC1 := Lib.hid hc1; have HC2 := Lib.hid hc2; have HA := Lib.hid ha; have HB := Lib.hid hb; have H0 := Lib.hid h0; have H0p := Lib.hid h0'; have HL := Lib.hid hl; have HLp := Lib.hid hl'; clear hT hbT hst hs hc1 hc2 ha hb h0 h0' hl hl'
  go_enter Try.func38, Try.ntmps38
  go_wp2_with fail
  refine (HC1.out _ HBT.out).mono ?_
  rintro e w1 ⟨A1, c1, rfl, hr1, hl1, _, b1⟩
  simp only at hr1 hl1
  have hT1 := (b1.block _ (lt_of_block HT.out)).trans HT.out
  have hb1 := HBT.out.trans (b1.mono HBT.out.size)
  clear b1
  have k0 := cell_of_row _ _ 0 _ _ _ hT1
  have k1 := cell_of_row _ _ 1 _ _ _ hT1
  have k2 := cell_of_row _ _ 2 _ _ _ hT1
  simp only [List.getElem?_toArray, List.getElem?_cons_zero, List.getElem?_cons_succ] at k0 k1 k2
  have hTl := lt_of_block hT1
  have HT1 := Lib.hid hT1; have HB1 := Lib.hid hb1; have HR1 := Lib.hid hr1; have HL1 := Lib.hid hl1; clear hT1 hb1 hr1 hl1
  go_wp2_with fail
  refine (HC2.out _ HB1.out).mono ?_
  rintro e w2 ⟨A2, c2, rfl, hr2, hl2, _, b1⟩
  simp only at hr2 hl2
  have hr12 := HR1.out.later b1 (Nat.le_refl _)
  have hb2 := HB1.out.trans (b1.mono HB1.out.size)
  clear b1 k0 k1 k2 hTl
  by_cases hE1 : E1 = 0
  rotate_left
  · have f1 : (E1 != 0) = true := by simp [hE1]
    have hV : V = true := by rw [HS.out, if_pos (.inl hE1)]
    have HB2 := Lib.hid hb2; have HR12 := Lib.hid hr12; have HR2 := Lib.hid hr2; have HL2 := Lib.hid hl2; have HE1 := Lib.hid hE1; have HV := Lib.hid hV; clear hb2 hr12 hr2 hl2 hE1 hV
    go_wp2
    go_ret
    exact ⟨by rw [HV.out]; rfl, HB2.out⟩
  subst hE1
  by_cases hE2 : E2 = 0
  rotate_left
  · have f1 : (E2 != 0) = true := by simp [hE2]
    have hV : V = true := by rw [HS.out, if_pos (.inr hE2)]
    have HB2 := Lib.hid hb2; have HR12 := Lib.hid hr12; have HR2 := Lib.hid hr2; have HL2 := Lib.hid hl2; have HE2 := Lib.hid hE2; have HV := Lib.hid hV; clear hb2 hr12 hr2 hl2 hE2 hV
    go_wp2
    go_ret
    exact ⟨by rw [HV.out]; rfl, HB2.out⟩
  subst hE2
  have hV : V = (decide (bothE L1 L2 = 0) && decide (cmpO L1 L2 ≤ 0)) := by rw [HS.out, if_neg (by simp)]
  have hcall := tnCmp_ A1 A2 c1 c2 42 L1 L2 w2 hr12 hr2 HL1.out hl2 (by decide) (HST.out rfl rfl)
  generalize cmpO L1 L2 = C at *
  generalize bothE L1 L2 = E at *
  have HB2 := Lib.hid hb2; have HR12 := Lib.hid hr12; have HR2 := Lib.hid hr2; have HL2 := Lib.hid hl2; have HV := Lib.hid hV; have HCALL := Lib.hid hcall; clear hb2 hr12 hr2 hl2 hV hcall
  go_wp2_with fail
  refine HCALL.out.mono ?_
  rintro e w3 ⟨rfl, b1⟩
  have hb3 := HB2.out.trans (b1.mono HB2.out.size)
  clear b1
  by_cases hE : E = 0
  · subst hE
    have f1 : ((0 : Int) == 0) = true := rfl
    by_cases hC : C ≤ 0
    · have f2 : decide (C ≤ 0) = true := decide_eq_true hC
      have HB3 := Lib.hid hb3; have HC := Lib.hid hC; clear hb3 hC
      go_wp2
      go_ret
      exact ⟨by rw [HV.out, f2]; rfl, HB3.out⟩
    · have f2 : decide (C ≤ 0) = false := decide_eq_false hC
      have HB3 := Lib.hid hb3; have HC := Lib.hid hC; clear hb3 hC
      go_wp2
      go_ret
      exact ⟨by rw [HV.out, f2]; rfl, HB3.out⟩
  · have f1 : (E == 0) = false := by rw [beq_eq_false_iff_ne]; exact hE
    have f2 : decide (E = 0) = false := decide_eq_false hE
    have HB3 := Lib.hid hb3; have HE := Lib.hid hE; clear hb3 hE
    go_wp2
    go_ret
    exact ⟨by rw [HV.out, f2]; rfl, HB3.out⟩
end Go.Proofs.Ytlmhgcllikcedaa
/- A path without one of its points, a thread without one of its gates: plain. -/
namespace Go.Proofs.Ytlmhgcllikcedaa
open Go.RowKit

theorem len_drop (L : Lat) : ∀ (j : Nat) (l : List Pq) (p : Pq), j + 1 < l.length → LeS (lenP L p (l.take j ++ l.drop (j + 1))) (lenP L p l)
  | 0, q :: r :: l, p, _ => by
    show LeS (fun n => L.dis p r n + lenP L r l n) (fun n => L.dis p q n + (L.dis q r n + lenP L r l n))
    refine ((L.dis_tri p q r).add (LeS.refl (lenP L r l))).congr (fun n => rfl) fun n => ?_
    show L.dis p q n + (L.dis q r n + lenP L r l n) = L.dis p q n + L.dis q r n + lenP L r l n
    grind
  | 0, [q], p, h => by simp at h
  | 0, [], p, h => by simp at h
  | j + 1, q :: l, p, h => (LeS.refl (L.dis p q)).add (len_drop L j l q (by simpa using h))
  | j + 1, [], p, h => by simp at h
theorem lenR_lat {a b c : Int} {ps : List (Int × Int)} (h : (lenR a b c ps).2 = 0) : latB a b c = false := by
  obtain ⟨_, h2, _⟩ := lenR_ok h
  exact h2
theorem shr_true {a b c : Int} {ps qs : List (Int × Int)} (h : (lenR a b c ps).2 = 0 → (lenR a b c qs).2 = 0 → bothE (lenR a b c ps).1 (lenR a b c qs).1 = 0 ∧ cmpO (lenR a b c ps).1 (lenR a b c qs).1 ≤ 0) : shrV a b c ps qs = true := by
  unfold shrV
  split
  · rfl
  · rename_i h0
    have k1 : (lenR a b c ps).2 = 0 := Classical.byContradiction fun k => h0 (.inl k)
    have k2 : (lenR a b c qs).2 = 0 := Classical.byContradiction fun k => h0 (.inr k)
    obtain ⟨h1, h2⟩ := h k1 k2
    rw [decide_eq_true h1, decide_eq_true h2]
    rfl
/-- A PATH WITHOUT ONE OF ITS INNER POINTS IS NOT LONGER. -/
theorem tri_path {a b c : Int} {ps : List (Int × Int)} {i : Nat} (h1 : 1 ≤ i) (h2 : i + 1 < ps.length) (hl : ps.length ≤ 64) : shrV a b c (ps.take i ++ ps.drop (i + 1)) ps = true := by
  refine shr_true fun e e' => ?_
  have hlat := lenR_lat e
  cases ps with
  | nil => simp at h2
  | cons p l =>
    obtain ⟨j, rfl⟩ : ∃ j, i = j + 1 := ⟨i - 1, by omega⟩
    have hs : (p :: l).take (j + 1) ++ (p :: l).drop (j + 1 + 1) = p :: (l.take j ++ l.drop (j + 1)) := by simp
    rw [hs] at e ⊢
    refine cmp_len hlat e e' (by simp at hl ⊢; omega) hl ?_
    have := len_drop (latQ a b c hlat) j (l.map qp) (qp p) (by simp at h2 ⊢; omega)
    rw [List.map_append, List.map_take, List.map_drop]
    exact this
theorem preG_mono {y y' : Int} (h : y' ≤ y) : ∀ {l : List Gt}, preG y l = true → preG y' l = true
  | [], _ => rfl
  | g :: l, h1 => by
    rw [preG, Bool.and_eq_true, decide_eq_true_eq] at h1 ⊢
    exact ⟨by omega, h1.2⟩
theorem preG_drop : ∀ (i : Nat) (l m : List Gt) (y : Int), preG y (l ++ m) = true → preG y (l.take i ++ l.drop (i + 1) ++ m) = true
  | _, [], m, y, h => by simpa using h
  | 0, g :: l, m, y, h => by
    rw [List.cons_append, preG, Bool.and_eq_true, decide_eq_true_eq] at h
    simpa using preG_mono (by omega) h.2
  | i + 1, g :: l, m, y, h => by
    rw [List.cons_append, preG, Bool.and_eq_true] at h
    have ih := preG_drop i l m g.1 h.2
    show preG y (g :: (l.take i ++ l.drop (i + 1) ++ m)) = true
    rw [preG, Bool.and_eq_true]
    exact ⟨h.1, ih⟩
theorem ascG_pre (o : Int) (gs : List Gt) (p : Int × Int) : ascG o gs p.2 = preG o (gs ++ [gTo p]) := by
  unfold ascG
  rw [preG_app, preG, preG, Bool.and_true]
  rfl
theorem gErr_drop {o p : Int × Int} {gs : List Gt} {i : Nat} (h : gErr o gs p = 0) : gErr o (gs.take i ++ gs.drop (i + 1)) p = 0 := by
  unfold gErr at h ⊢
  have hlen : (gs.take i ++ gs.drop (i + 1)).length ≤ gs.length := by simp; omega
  split at h
  · omega
  · rename_i h1
    rw [if_neg (by omega)]
    split at h
    · omega
    · rename_i h2
      rw [if_neg h2]
      split at h
      · omega
      · rename_i h3
        have h6 : gs.any badG = false := by simpa using h3
        have h7 : (gs.take i ++ gs.drop (i + 1)).any badG = false := by
          rw [List.any_eq_false] at h6 ⊢
          intro x hx
          rcases List.mem_append.1 hx with hx | hx
          · exact h6 x (List.mem_of_mem_take hx)
          · exact h6 x (List.mem_of_mem_drop hx)
        rw [if_neg (by rw [h7]; decide)]
        split at h
        · rename_i h4
          rw [ascG_pre] at h4
          rw [if_pos (by rw [ascG_pre]; exact preG_drop i gs _ _ h4)]
        · omega
theorem getD_drop {gs : List Gt} {i k : Nat} (hk : k < (gs.take i ++ gs.drop (i + 1)).length) : ∃ k', k' < gs.length ∧ (gs.take i ++ gs.drop (i + 1)).getD k (0, 0, 0) = gs.getD k' (0, 0, 0) := by
  simp only [List.length_append, List.length_take, List.length_drop] at hk
  by_cases h : k < (gs.take i).length
  · refine ⟨k, by simp at h; omega, ?_⟩
    rw [getD_app_left h]
    simp only [List.length_take] at h
    simp [List.getD_eq_getElem?_getD, show k < i by omega]
  · refine ⟨k + 1, by simp at h; omega, ?_⟩
    simp only [List.length_take] at h
    simp only [List.getD_eq_getElem?_getD]
    rw [List.getElem?_append_right (by simp; omega), List.getElem?_drop]
    congr 2
    simp only [List.length_take]
    omega
/-- A way's own points as a path through other gates. -/
theorem way_end {o p : Int × Int} {gs : List Gt} {l : List (Int × Int)} (ht : Tht (gs ++ [gTo p]) o 0 l) : endP (qp o) (l.map qp) = qp p ∧ xAt (qp o) (l.map qp) (p.2 : Rat) = (p.1 : Rat) ∧ ∀ k, k < gs.length → InG gs (xAt (qp o) (l.map qp)) k := by
  have hlen : (gs ++ [gTo p]).length = gs.length + 1 := by simp
  have hlast : (gs ++ [gTo p]).getD gs.length (0, 0, 0) = gTo p := by simp [List.getD_eq_getElem?_getD]
  refine ⟨?_, ?_, fun k hk => ?_⟩
  · rw [ht.en (by omega), hlen, Nat.add_sub_cancel]
    unfold gL
    rw [hlast]
    rfl
  · have := ht.thr gs.length (Nat.zero_le _) (by omega)
    unfold InG gL gR at this
    rw [hlast] at this
    have h1 : ((p.1 : Int) : Rat) ≤ xAt (qp o) (l.map qp) ((p.2 : Int) : Rat) := this.1
    have h2 : xAt (qp o) (l.map qp) ((p.2 : Int) : Rat) ≤ ((p.1 : Int) : Rat) := this.2
    grind
  · have := ht.thr k (Nat.zero_le _) (by omega)
    unfold InG gL gR at this ⊢
    rw [getD_app_left hk] at this
    exact this
/-- A THREAD WITHOUT ONE OF ITS GATES IS NOT LONGER. -/
theorem tri_gates {a b c : Int} {o p : Int × Int} {gs : List Gt} {i : Nat} (h : gErr o gs p = 0) (hl : gs.length ≤ 60) : shrV a b c (tautV o (gs.take i ++ gs.drop (i + 1)) p).1 (tautV o gs p).1 = true := by
  have hd := gErr_drop (i := i) h
  obtain ⟨l, e1, ht, hn, hll⟩ := way_tht h
  obtain ⟨l', e2, ht', hn', hll'⟩ := way_tht hd
  have hlen : (gs.take i ++ gs.drop (i + 1)).length ≤ gs.length := by simp; omega
  rw [e1, e2]
  refine shr_true fun f f' => ?_
  have hlat := lenR_lat f
  obtain ⟨w1, w2, w3⟩ := way_end ht
  have ho := (way_opt (latQ a b c hlat) ht' hn' (l.map qp) ht.asc w1 (fun k hk => by
    obtain ⟨k', hk', e⟩ := getD_drop hk
    have := w3 k' hk'
    unfold InG gL gR at this ⊢
    rw [e]
    exact this) w2).1
  exact cmp_len hlat f f' (by simp; omega) (by simp; omega) ho
end Go.Proofs.Ytlmhgcllikcedaa
