/- Texts of this claim, laid together: BoThr, BoWall, BoShp, BoTry, BoEach, BoSpools, BoRest, BoPlan, BoBestP, BoSame. -/
import Derived.Test.YtdimaapiloojeaaMaH
/- Threads: lists of them, what is wrong with them; Knots. -/
namespace Go.Proofs.Ytdimaapiloojeaa
open Go.RowKit

/-- A slice that reads as threads. -/
def RdTh (w : World) (A : Option Addr) (l : List (Int × List Int)) : Prop :=
  l.length ≤ 281474976710656 ∧ (0 < l.length → ∃ b off, A = some ⟨b, off, none⟩ ∧ b < w.heap.size ∧ ∀ k (hk : k < l.length), w.cell? ⟨b, off + k * 2, none⟩ = some (.int .i64 l[k].1) ∧ ∃ PA pc, w.cell? ⟨b, off + k * 2 + 1, none⟩ = some (.slice PA l[k].2.length pc) ∧ RdI w PA l[k].2)
theorem RdTh.at_ {w : World} {A : Option Addr} {l : List (Int × List Int)} (h : RdTh w A l) {k : Nat} (hk : k < l.length) :
    ∃ b off, A = some ⟨b, off, none⟩ ∧ b < w.heap.size ∧ w.cell? ⟨b, off + k * 2, none⟩ = some (.int .i64 l[k].1) ∧ ∃ PA pc, w.cell? ⟨b, off + k * 2 + 1, none⟩ = some (.slice PA l[k].2.length pc) ∧ RdI w PA l[k].2 := by
  obtain ⟨b, off, h1, h2, h3⟩ := h.2 (by omega)
  exact ⟨b, off, h1, h2, h3 k hk⟩
theorem RdTh.later {w w' : World} {B : Nat} {A : Option Addr} {l : List (Int × List Int)} (h : RdTh w A l) (hb : Below B w w') (hB : w.heap.size ≤ B) : RdTh w' A l := by
  refine ⟨h.1, fun h0 => ?_⟩
  obtain ⟨b, off, h1, h2, h3⟩ := h.2 h0
  refine ⟨b, off, h1, Nat.lt_of_lt_of_le h2 hb.size, fun k hk => ?_⟩
  obtain ⟨q1, PA, pc, q2, q3⟩ := h3 k hk
  exact ⟨(hb.cell (p := ⟨b, _, none⟩) (Nat.lt_of_lt_of_le h2 hB)).trans q1, PA, pc, (hb.cell (p := ⟨b, _, none⟩) (Nat.lt_of_lt_of_le h2 hB)).trans q2, q3.later hb hB⟩
/-- What is wrong with a list of threads. -/
def thsE1 : List (Int × List Int) → Int
  | [] => 0
  | t :: l => if thrE t.1 t.2 = 0 then thsE1 l else thrE t.1 t.2
def thsE (l : List (Int × List Int)) : Int := if 48 < l.length then 3 else thsE1 l
theorem thsE1_app : ∀ (l m : List (Int × List Int)), thsE1 (l ++ m) = if thsE1 l = 0 then thsE1 m else thsE1 l
  | [], m => by simp [thsE1]
  | t :: l, m => by
    rw [List.cons_append, thsE1, thsE1, thsE1_app l m]
    by_cases h : thrE t.1 t.2 = 0
    · rw [if_pos h, if_pos h]
    · rw [if_neg h, if_neg h, if_neg h]
theorem thsE1_at (l : List (Int × List Int)) {k : Nat} (hk : k < l.length) (h0 : thsE1 (l.take k) = 0) :
    thsE1 (l.take (k + 1)) = thrE l[k].1 l[k].2 ∧ (thrE l[k].1 l[k].2 ≠ 0 → thsE1 l = thrE l[k].1 l[k].2) := by
  have h1 : thsE1 (l.take (k + 1)) = thrE l[k].1 l[k].2 := by
    rw [List.take_succ_eq_append_getElem hk, thsE1_app, if_pos h0, thsE1]
    by_cases h : thrE l[k].1 l[k].2 = 0
    · rw [if_pos h, h]; rfl
    · rw [if_neg h]
  refine ⟨h1, fun hne => ?_⟩
  have h2 := thsE1_app (l.take (k + 1)) (l.drop (k + 1))
  rw [List.take_append_drop, h1, if_neg hne] at h2
  exact h2
theorem thrE_ok {need : Int} {ps : List Int} (h : thrE need ps = 0) : AscP need ps ∧ ps.length ≤ 200 ∧ need ≤ 1000000000000 := by
  unfold thrE at h
  split at h
  · omega
  · split at h
    · omega
    · rename_i h1 h2
      split at h
      · rename_i h3
        have h4 := outR_no (n := need) (lo := 1) (hi := 1000000000000) (by simpa using h2)
        have hp : ∀ (l : List Int) (p : Int), ascB need p l = true → (∀ x, x ∈ l → p < x ∧ x < need) ∧ l.Pairwise (· < ·) := by
          intro l
          induction l with
          | nil => exact fun p _ => ⟨fun x hx => absurd hx (by simp), List.Pairwise.nil⟩
          | cons y l ih =>
            intro p hh
            rw [ascB] at hh
            simp only [Bool.and_eq_true, decide_eq_true_eq] at hh
            obtain ⟨k1, k2⟩ := ih y hh.2
            refine ⟨fun x hx => ?_, List.pairwise_cons.2 ⟨fun a ha => (k1 a ha).1, k2⟩⟩
            rcases List.mem_cons.1 hx with rfl | hx
            · exact hh.1
            · have := k1 x hx; omega
        obtain ⟨k1, k2⟩ := hp ps 0 h3
        exact ⟨⟨k1, k2, by omega⟩, by omega, by omega⟩
      · omega
set_option maxRecDepth 100000 in
set_option maxHeartbeats 4000000 in
theorem bCheckAll_ (A : Option Addr) (c : Nat) (l : List (Int × List Int)) (w : World) (hr : RdTh w A l) : Calls Try.prog 46 #[.slice A l.length c] w (IntPost (thsE l) w) := by
  have hln := hr.1
  have hb := Below.refl w.heap.size w
  by_cases h48 : 48 < l.length
  · have hres : thsE l = 3 := by unfold thsE; rw [if_pos h48]
    have f1 : decide ((48 : Int) < (l.length : Int)) = true := decide_eq_true (by omega)
    have HR := Lib.hid hr; have HB := Lib.hid hb; have HRES := Lib.hid hres; clear hr hb hres
    go_enter Try.func46, Try.ntmps46
    go_wp2
    go_ret
    exact ⟨by rw [HRES.out]; rfl, HB.out⟩
  have f1 : decide ((48 : Int) < (l.length : Int)) = false := decide_eq_false (by omega)
  have hres : thsE l = thsE1 l := by unfold thsE; rw [if_neg h48]
  have HR := Lib.hid hr; have HB := Lib.hid hb; have HRES := Lib.hid hres; clear hr hb hres
  go_enter Try.func46, Try.ntmps46
  go_wp2
  go_loopw [4, 5, 11] (fun _ _ iv wr => ∃ k : Nat, iv = .int .i64 (k : Int) ∧ k ≤ l.length ∧ thsE1 (l.take k) = 0 ∧ Below w.heap.size w wr) (fun _ _ iv _ => l.length - (intOf iv).toNat)
  case atStart => exact ⟨0, rfl, Nat.zero_le _, rfl, HB.out⟩
  case round =>
    obtain ⟨k, rfl, hk, h0, hbw⟩ := hrel
    by_cases hlt : k < l.length
    · obtain ⟨bl, ol, rfl, hbl, l1, PA, pc, l2, hrp⟩ := (HR.out.later hbw (Nat.le_refl _)).at_ hlt
      obtain ⟨ha1, ha2⟩ := thsE1_at l hlt h0
      have x1 : (0 : Int) ≤ (k : Int) := by omega
      have x2 : (k : Int) < (l.length : Int) := by omega
      generalize l[k] = t at *
      obtain ⟨need, ps⟩ := t
      simp only at l1 l2 hrp ha1 ha2
      have hcall := fun W hW => bCheck_ need PA pc ps W (hrp.later (B := wr.heap.size) (w' := W) hW (Nat.le_refl _))
      have hb1 := (Below.refl wr.heap.size wr).alloc (Nat.le_refl _) (.cells #[.int .i64 need, .slice PA ps.length pc] 43)
      obtain ⟨E, hE⟩ : ∃ E, E = thrE need ps := ⟨_, rfl⟩
      rw [← hE] at ha1 ha2 hcall
      by_cases h : E = 0
      · have e1 : (E == 0) = true := by rw [h]; rfl
        have e2 : (E != 0) = false := by rw [h]; rfl
        have H0 := Lib.hid h0; have HBW := Lib.hid hbw; have HA1 := Lib.hid ha1; have HA2 := Lib.hid ha2; have HCALL := Lib.hid hcall; have HB1 := Lib.hid hb1; have HRP := Lib.hid hrp; have HE := Lib.hid hE; clear h0 hbw ha1 ha2 hcall hb1 hrp hE
        go_wp2_with fail
        refine (HCALL.out _ HB1.out).mono ?_
        rintro e w1 ⟨rfl, b1⟩
        have hb2 := HBW.out.trans ((HB1.out.trans (b1.mono HB1.out.size)).mono HBW.out.size)
        clear b1
        have HB2 := Lib.hid hb2; clear hb2
        go_wp2
        go_roundw
        case rel => exact ⟨k + 1, by go_num, by omega, by rw [HA1.out, h], HB2.out⟩
        case measure => simp [intOf]; omega
      · have e1 : (E == 0) = false := by rw [beq_eq_false_iff_ne]; exact h
        have e2 : (E != 0) = true := by simp [h]
        have hres2 : thsE l = E := by rw [HRES.out, ha2 h]
        have H0 := Lib.hid h0; have HBW := Lib.hid hbw; have HA1 := Lib.hid ha1; have HA2 := Lib.hid ha2; have HCALL := Lib.hid hcall; have HB1 := Lib.hid hb1; have HRP := Lib.hid hrp; have HE := Lib.hid hE; have H := Lib.hid h; have HRES2 := Lib.hid hres2; clear h0 hbw ha1 ha2 hcall hb1 hrp hE h hres2
        go_wp2_with fail
        refine (HCALL.out _ HB1.out).mono ?_
        rintro e w1 ⟨rfl, b1⟩
        have hb2 := HBW.out.trans ((HB1.out.trans (b1.mono HB1.out.size)).mono HBW.out.size)
        clear b1
        have HB2 := Lib.hid hb2; clear hb2
        go_wp2
        go_ret
        exact ⟨by rw [HRES2.out]; rfl, HB2.out⟩
    · have hres2 : thsE l = 0 := by
        rw [List.take_of_length_le (by omega)] at h0
        rw [HRES.out, h0]
      have x3 : ¬ (k : Int) < (l.length : Int) := by omega
      have H0 := Lib.hid h0; have HBW := Lib.hid hbw; have HRES2 := Lib.hid hres2; clear h0 hbw hres2
      go_wp2
      go_ret
      exact ⟨by rw [HRES2.out]; rfl, HBW.out⟩
/-- The error of Knots. -/
noncomputable def knE (need : Int) (ps : List Int) (most : Int) : Int := if thrE need ps ≠ 0 then thrE need ps else if outR most 1 1000000000000 = true then 2 else if knO need ps most = none then 4 else 0
/-- What Knots gives. -/
noncomputable def knL (need : Int) (ps : List Int) (most : Int) : List Int := if thrE need ps = 0 ∧ outR most 1 1000000000000 = false then ((knO need ps most).map outI).getD [] else []
def OListPost (l : List Int) (x : Int) (w : World) (e : Ending) (w' : World) : Prop := ∃ v, e = .returned (.tuple #[v, .int .i64 x]) ∧ w'.ownsRow w.heap.size 3 1 v l.length (ints l) ∧ Below w.heap.size w w'
theorem own_nilI (w : World) (base T : Nat) : w.ownsRow base T 1 (.slice none 0 0) ([] : List Int).length (ints []) := ⟨rfl, .inl ⟨rfl, rfl⟩⟩
set_option maxRecDepth 100000 in
set_option maxHeartbeats 4000000 in
theorem bKnots_ (need most : Int) (A : Option Addr) (c : Nat) (ps : List Int) (w : World) (hr : RdI w A ps) :
    Calls Try.prog 17 #[.agg #[.int .i64 need, .slice A ps.length c], .int .i64 most] w (OListPost (knL need ps most) (knE need ps most) w) := by
  have hb : Below w.heap.size w (w.alloc (.cells #[.int .i64 need, .slice A ps.length c] 43)) := (Below.refl _ _).alloc (Nat.le_refl _) _
  have hx := heap_alloc_new w (.cells #[.int .i64 need, .slice A ps.length c] 43)
  have hr1 := hr.later hb (Nat.le_refl _)
  have HR := Lib.hid hr; have HB := Lib.hid hb; have HX := Lib.hid hx; have HR1 := Lib.hid hr1; clear hr hb hx hr1
  go_enter Try.func17, Try.ntmps17
  go_wp2_with fail
  refine (bCheck_ need A c ps _ HR1.out).mono ?_
  rintro e w1 ⟨rfl, b1⟩
  have hb1 := HB.out.trans (b1.mono HB.out.size)
  have hx1 := (b1.block _ (lt_of_block HX.out)).trans HX.out
  clear b1 HB HX
  have c0 := cell_of_row _ _ 0 _ _ _ hx1
  have c1 := cell_of_row _ _ 1 _ _ _ hx1
  simp only [List.getElem?_toArray, List.getElem?_cons_zero, List.getElem?_cons_succ] at c0 c1
  have l1 := lt_of_block hx1
  have hthr := @thrE_ok need ps
  obtain ⟨x, hxe⟩ : ∃ x, x = knE need ps most := ⟨_, rfl⟩
  obtain ⟨l, hle⟩ : ∃ l, l = knL need ps most := ⟨_, rfl⟩
  have HXQ := Lib.hid hxe
  have HLQ := Lib.hid hle
  unfold knE at hxe
  unfold knL at hle
  by_cases he : thrE need ps = 0
  rotate_left
  · rw [if_pos he] at hxe
    rw [if_neg (fun h => he h.1)] at hle
    generalize thrE need ps = E at *
    have e1 : (E == 0) = false := by rw [beq_eq_false_iff_ne]; exact he
    have e2 : (E != 0) = true := by simp [he]
    have hn := own_nilI w1 w.heap.size 3
    have HB1 := Lib.hid hb1; have HX1 := Lib.hid hx1; have HXE := Lib.hid hxe; have HLE := Lib.hid hle; have HE := Lib.hid he; have HTHR := Lib.hid hthr; have HN := Lib.hid hn; clear hb1 hx1 hxe hle he hthr hn
    go_wp2
    go_ret2
    rw [← HLQ.out, ← HXQ.out, HLE.out, HXE.out]
    exact ⟨_, rfl, HN.out, HB1.out⟩
  rw [if_neg (fun h => h he)] at hxe
  obtain ⟨ho1, ho2, ho3⟩ := hthr he
  clear hthr
  have hcall := fun W (h : Below w1.heap.size w1 W) h2 => bWind_ need most A c ps W ((HR.out.later (hb1.trans (h.mono hb1.size)) (Nat.le_refl _))) ho2 ho1 ho3 h2
  have hco := fun W => bOutside_ most 1 1000000000000 W
  rw [he]
  obtain ⟨om, hom⟩ : ∃ om, om = outR most 1 1000000000000 := ⟨_, rfl⟩
  rw [← hom] at hxe hle hco
  cases om with
  | true =>
    rw [if_pos rfl] at hxe
    rw [if_neg (fun h => by have := h.2; cases this)] at hle
    have HB1 := Lib.hid hb1; have HX1 := Lib.hid hx1; have HXE := Lib.hid hxe; have HLE := Lib.hid hle; have HE := Lib.hid he; have HO1 := Lib.hid ho1; have HO2 := Lib.hid ho2; have HO3 := Lib.hid ho3; have HCALL := Lib.hid hcall; have HCO := Lib.hid hco; have HOM := Lib.hid hom; clear hb1 hx1 hxe hle he ho1 ho2 ho3 hcall hco hom
    go_wp2_with fail
    refine (HCO.out _).mono ?_
    rintro e w2 ⟨rfl, b1⟩
    have hb2 := HB1.out.trans (b1.mono HB1.out.size)
    clear b1
    have hn := own_nilI w2 w.heap.size 3
    have HB2 := Lib.hid hb2; have HN := Lib.hid hn; clear hb2 hn
    go_wp2
    go_ret2
    rw [← HLQ.out, ← HXQ.out, HLE.out, HXE.out]
    exact ⟨_, rfl, HN.out, HB2.out⟩
  | false =>
    rw [if_neg (by decide)] at hxe
    rw [if_pos ⟨he, rfl⟩] at hle
    have hm0 : 0 ≤ most := by have := outR_no hom.symm; omega
    have HB1 := Lib.hid hb1; have HX1 := Lib.hid hx1; have HXE := Lib.hid hxe; have HLE := Lib.hid hle; have HE := Lib.hid he; have HO1 := Lib.hid ho1; have HO2 := Lib.hid ho2; have HO3 := Lib.hid ho3; have HCALL := Lib.hid hcall; have HCO := Lib.hid hco; have HOM := Lib.hid hom; have HM0 := Lib.hid hm0; clear hb1 hx1 hxe hle he ho1 ho2 ho3 hcall hco hom hm0
    go_wp2_with fail
    refine (HCO.out _).mono ?_
    rintro e w2 ⟨rfl, b1⟩
    have hb2 := HB1.out.trans (b1.mono HB1.out.size)
    have hx2 := (b1.block _ (lt_of_block HX1.out)).trans HX1.out
    have hcall2 := HCALL.out w2 b1 HM0.out
    clear b1 c0 c1 l1
    have c0 := cell_of_row _ _ 0 _ _ _ hx2
    have c1 := cell_of_row _ _ 1 _ _ _ hx2
    simp only [List.getElem?_toArray, List.getElem?_cons_zero, List.getElem?_cons_succ] at c0 c1
    have l1 := lt_of_block hx2
    have HB2 := Lib.hid hb2; have HX2 := Lib.hid hx2; have HCALL2 := Lib.hid hcall2; clear hb2 hx2 hcall2
    go_wp2_with fail
    refine HCALL2.out.mono ?_
    rintro e w3 ⟨v, b, rfl, b2, hv⟩
    have hb3 := HB2.out.trans (b2.mono HB2.out.size)
    have hs := HB2.out.size
    clear b2
    cases hk : knO need ps most with
    | none =>
      rw [hk] at hv
      obtain ⟨rfl, rfl⟩ := hv
      have hl2 : l = [] := by rw [HLE.out, hk]; rfl
      have hx9 : x = 4 := by rw [HXE.out, if_pos hk]
      have hn := own_nilI w3 w.heap.size 3
      have HB3 := Lib.hid hb3; have HL2 := Lib.hid hl2; have HX9 := Lib.hid hx9; have HK := Lib.hid hk; have HN := Lib.hid hn; clear hb3 hl2 hx9 hk hn
      go_wp2
      go_ret2
      rw [← HLQ.out, ← HXQ.out, HL2.out, HX9.out]
      exact ⟨_, rfl, HN.out, HB3.out⟩
    | some q =>
      rw [hk] at hv
      obtain ⟨rfl, hv2⟩ := hv
      have hl2 : l = outI q := by rw [HLE.out, hk]; rfl
      have hx9 : x = 0 := by rw [HXE.out, if_neg (by rw [hk]; simp)]
      have hv3 := own_base (base' := w.heap.size) hv2 hs
      have HB3 := Lib.hid hb3; have HL2 := Lib.hid hl2; have HX9 := Lib.hid hx9; have HK := Lib.hid hk; have HV2 := Lib.hid hv2; have HV3 := Lib.hid hv3; clear hb3 hl2 hx9 hk hv2 hv3
      go_wp2
      go_ret2
      rw [← HLQ.out, ← HXQ.out, HL2.out, HX9.out]
      exact ⟨_, rfl, HV3.out, HB3.out⟩
end Go.Proofs.Ytdimaapiloojeaa
/- Winding all threads. -/
namespace Go.Proofs.Ytdimaapiloojeaa
open Go.RowKit

theorem infoIs_Try : (Try.prog.info? 23).map (fun i => (i.zero, i.size, i.bytes)) = some (some (Value.slice none 0 0), 1, 24) := by kernel_rfl
/-- One row is put behind the others. -/
theorem wpList_appI2_Try {ops : Array Oper} {rest : List Oper} {o : Oper} {a : Act} {Q : Exit → Act → World → Prop} {w : World} (hgd : o.guard = none) (s x : Operand)
    (ho : o.op = .call { callee := .builtin .append, args := #[s, x], argTypes := #[51, 51] })
    (base : Nat) (v : Value) (xs : List Value) (hs : a.eval s = v) (hown : w.ownsRow base 23 1 v xs.length xs) (b : Nat) (A : Option Addr) (n c : Nat) (hx : a.eval x = .slice (some ⟨b, 0, none⟩) 1 1)
    (hb : w.heap[b]? = some (.cells #[Value.slice A n c] 23 (0, 0))) (hn : xs.length ≤ 1000000) (hbase : base ≤ w.heap.size)
    (h : ∀ g cap w', w'.ownsRow base 23 1 (.slice (some ⟨g, 0, none⟩) (xs.length + 1) cap) (xs ++ [Value.slice A n c]).length (xs ++ [Value.slice A n c]) → w.grownBy w' v.ownBlock → (v.ownBlock = some g ∨ g = w.heap.size) → g < w'.heap.size →
      wpList Try.prog ops Q rest (a.put o.dst (.slice (some ⟨g, 0, none⟩) (xs.length + 1) cap)) w') : wpList Try.prog ops Q (o :: rest) a w := by
  obtain ⟨i0, hi, hz0, hz1, hz2⟩ := info_parts infoIs_Try
  refine wpList_append_lies w hgd s x 51 ho base 23 i0 _ 1 24 Try.underlying51 hi hz0 hz1 hz2 rfl (by omega) v xs.length xs hs hown ⟨b, 0, none⟩ 1 1 [Value.slice A n c] hx rfl
    (World.news_of_block hb) (fun u hu => by simp at hu; subst hu; rfl) (by omega) (by unfold maxLen; omega) (by omega) hbase w.heap.size rfl fun g cap w' h2 h3 h4 h5 => h g cap w' ?_ h3 h4 h5
  rw [List.length_append]
  exact h2
theorem own_kept_type {w w' : World} {base base' e e' n n' : Nat} {v ov : Value} {xs xs' : List Value} (h : w.ownsRow base e 1 v n xs) (ho : w.ownsRow base' e' 1 ov n' xs') (hne : e' ≠ e) (hg : w.grownBy w' ov.ownBlock) : w'.ownsRow base e 1 v n xs := by
  rcases h.2 with ⟨rfl, h0⟩ | ⟨g, cap, cur, rfl, h2, h3, h4⟩
  · exact ⟨h.1, .inl ⟨rfl, h0⟩⟩
  · have h5 := own_ne_type ho h3 hne
    exact h.kept hg (.inr h5)
theorem own_below3 {w w' : World} {base e size n : Nat} {v : Value} {xs : List Value} (h : w.ownsRow base e size v n xs) (hb : Below w.heap.size w w') : w'.ownsRow base e size v n xs := by
  refine h.kept (gb_of_below hb none) ?_
  cases v.ownBlock with
  | none => exact .inl rfl
  | some k => exact .inr (by simp)
/-- The rows hold these windings. -/
def VsI (w : World) (base : Nat) (vs : List Value) (ls : List (List Nat)) : Prop := vs.length = ls.length ∧ ∀ k v, vs[k]? = some v → w.ownsRow base 3 1 v (outI (ls.getD k [])).length (ints (outI (ls.getD k [])))
theorem VsI.nil (w : World) (base : Nat) : VsI w base [] [] := ⟨rfl, fun k v h => by simp at h⟩
theorem VsI.later {w w' : World} {base : Nat} {vs : List Value} {ls : List (List Nat)} (h : VsI w base vs ls) (hb : Below w.heap.size w w') : VsI w' base vs ls := ⟨h.1, fun k v hk => own_below3 (h.2 k v hk) hb⟩
theorem VsI.snoc {w : World} {base : Nat} {vs : List Value} {ls : List (List Nat)} (h : VsI w base vs ls) {v : Value} {q : List Nat} (hv : w.ownsRow base 3 1 v (outI q).length (ints (outI q))) : VsI w base (vs ++ [v]) (ls ++ [q]) := by
  refine ⟨by simp [h.1], fun k u hk => ?_⟩
  rcases Nat.lt_or_ge k vs.length with h1 | h1
  · rw [List.getElem?_append_left h1] at hk
    have h2 := h.2 k u hk
    have h3 := h.1
    rw [List.getD_eq_getElem?_getD, List.getElem?_append_left (by omega), ← List.getD_eq_getElem?_getD]
    exact h2
  · rw [List.getElem?_append_right h1] at hk
    have h3 := h.1
    have h4 : k - vs.length = 0 := by
      rcases Nat.eq_zero_or_pos (k - vs.length) with h5 | h5
      · exact h5
      · rw [List.getElem?_eq_none (by simp; omega)] at hk; cases hk
    rw [h4] at hk
    obtain rfl : v = u := by simpa using hk
    have h6 : (ls ++ [q]).getD k [] = q := by
      rw [List.getD_eq_getElem?_getD, List.getElem?_append_right (by omega), show k - ls.length = 0 by omega]; rfl
    rw [h6]
    exact hv
noncomputable def knM (most : Int) (t : Int × List Int) : Option (List Nat) := knO t.1 t.2 most
/-- The error of Wind. -/
noncomputable def wlE (l : List (Int × List Int)) (most : Int) : Int := if thsE l ≠ 0 then thsE l else if outR most 1 1000000000000 = true then 2 else if none ∈ l.map (knM most) then 4 else 0
/-- What Wind gives. -/
noncomputable def wlL (l : List (Int × List Int)) (most : Int) : List (List Nat) := if wlE l most = 0 then l.map (fun t => (knM most t).getD []) else []
/-- A slice of windings. -/
def LLV (w : World) (base : Nat) (v : Value) (ls : List (List Nat)) : Prop := ∃ vs, w.ownsRow base 23 1 v ls.length vs ∧ VsI w base vs ls
def LLPost (ls : List (List Nat)) (x : Int) (w : World) (e : Ending) (w' : World) : Prop := ∃ v, e = .returned (.tuple #[v, .int .i64 x]) ∧ LLV w' w.heap.size v ls ∧ Below w.heap.size w w'
theorem LLV.nil (w : World) (base : Nat) : LLV w base (.slice none 0 0) [] := ⟨[], ⟨rfl, .inl ⟨rfl, rfl⟩⟩, VsI.nil w base⟩
theorem thsE_ok {l : List (Int × List Int)} (h : thsE l = 0) : ∀ k (hk : k < l.length), thrE l[k].1 l[k].2 = 0 := by
  unfold thsE at h
  split at h
  · omega
  · have : ∀ (l : List (Int × List Int)), thsE1 l = 0 → ∀ k (hk : k < l.length), thrE l[k].1 l[k].2 = 0 := by
      intro l
      induction l with
      | nil => exact fun _ k hk => absurd hk (by simp)
      | cons t l ih =>
        intro h k hk
        rw [thsE1] at h
        by_cases h1 : thrE t.1 t.2 = 0
        · rw [if_pos h1] at h
          cases k with
          | zero => exact h1
          | succ k => exact ih h k (by simpa using hk)
        · rw [if_neg h1] at h; exact absurd h h1
    exact this l h
set_option maxRecDepth 100000 in
set_option maxHeartbeats 4000000 in
theorem bWindAll_ (A : Option Addr) (c : Nat) (l : List (Int × List Int)) (most : Int) (w : World) (hr : RdTh w A l) :
    Calls Try.prog 23 #[.slice A l.length c, .int .i64 most] w (LLPost (wlL l most) (wlE l most) w) := by
  have hln := hr.1
  obtain ⟨E, hE⟩ : ∃ E, E = wlE l most := ⟨_, rfl⟩
  obtain ⟨L, hL⟩ : ∃ L, L = wlL l most := ⟨_, rfl⟩
  have HEQ := Lib.hid hE
  have HLQ := Lib.hid hL
  unfold wlL at hL
  rw [← hE] at hL
  unfold wlE at hE
  have HR := Lib.hid hr; clear hr
  go_enter Try.func23, Try.ntmps23
  go_wp2_with fail
  refine (bCheckAll_ A c l _ HR.out).mono ?_
  rintro e w1 ⟨rfl, hb1⟩
  have hoks := @thsE_ok l
  by_cases hz0 : thsE l = 0
  rotate_left
  · rw [if_pos hz0] at hE
    generalize thsE l = E0 at *
    have e1 : (E0 == 0) = false := by rw [beq_eq_false_iff_ne]; exact hz0
    have e2 : (E0 != 0) = true := by simp [hz0]
    rw [if_neg (by omega)] at hL
    have hn := LLV.nil w1 w.heap.size
    have HB1 := Lib.hid hb1; have HE := Lib.hid hE; have HL := Lib.hid hL; have HZ0 := Lib.hid hz0; have HOKS := Lib.hid hoks; have HN := Lib.hid hn; clear hb1 hE hL hz0 hoks hn
    go_wp2
    go_ret2
    rw [← HLQ.out, ← HEQ.out, HL.out, HE.out]
    exact ⟨_, rfl, HN.out, HB1.out⟩
  rw [if_neg (fun h => h hz0)] at hE
  have hok := hoks hz0
  clear hoks
  rw [hz0]
  obtain ⟨om, hom⟩ : ∃ om, om = outR most 1 1000000000000 := ⟨_, rfl⟩
  have hco := fun W => bOutside_ most 1 1000000000000 W
  rw [← hom] at hE hco
  cases om with
  | true =>
    rw [if_pos rfl] at hE
    rw [if_neg (by omega)] at hL
    have HB1 := Lib.hid hb1; have HE := Lib.hid hE; have HL := Lib.hid hL; have HZ0 := Lib.hid hz0; have HOK := Lib.hid hok; have HCO := Lib.hid hco; have HOM := Lib.hid hom; clear hb1 hE hL hz0 hok hco hom
    go_wp2_with fail
    refine (HCO.out _).mono ?_
    rintro e w2 ⟨rfl, b1⟩
    have hb2 := HB1.out.trans (b1.mono HB1.out.size)
    clear b1
    have hn := LLV.nil w2 w.heap.size
    have HB2 := Lib.hid hb2; have HN := Lib.hid hn; clear hb2 hn
    go_wp2
    go_ret2
    rw [← HLQ.out, ← HEQ.out, HL.out, HE.out]
    exact ⟨_, rfl, HN.out, HB2.out⟩
  | false =>
    rw [if_neg (by decide)] at hE
    have hm0 : 0 ≤ most := by have := outR_no hom.symm; omega
    have h48 : l.length ≤ 48 := by
      unfold thsE at hz0
      split at hz0
      · omega
      · omega
    have HB1 := Lib.hid hb1; have HE := Lib.hid hE; have HL := Lib.hid hL; have HZ0 := Lib.hid hz0; have HOK := Lib.hid hok; have HCO := Lib.hid hco; have HOM := Lib.hid hom; have HM0 := Lib.hid hm0; clear hb1 hE hL hz0 hok hco hom hm0
    go_wp2_with fail
    refine (HCO.out _).mono ?_
    rintro e w2 ⟨rfl, b1⟩
    have hb2 := HB1.out.trans (b1.mono HB1.out.size)
    clear b1
    have HB2 := Lib.hid hb2; clear hb2
    go_wp2
    go_loopw [7, 9, 10, 11, 21] (fun ov _ _ _ iv wr => ∃ (k : Nat) (vs : List Value) (ls : List (List Nat)), iv = .int .i64 (k : Int) ∧ k ≤ l.length ∧ (l.take k).map (knM most) = ls.map some ∧ vs.length = k ∧ wr.ownsRow w.heap.size 23 1 ov vs.length vs ∧ VsI wr w.heap.size vs ls ∧ Below w.heap.size w wr) (fun _ _ _ _ iv _ => l.length - (intOf iv).toNat)
    case atStart => exact ⟨0, [], [], rfl, Nat.zero_le _, rfl, rfl, ⟨rfl, .inl ⟨rfl, rfl⟩⟩, VsI.nil _ _, HB2.out⟩
    case round =>
      obtain ⟨k, vs, ls, rfl, hk, hls, hvk, hown, hvs, hbw⟩ := hrel
      obtain ⟨OA, oc, rfl⟩ := own_slice1 hown
      by_cases hlt : k < l.length
      · obtain ⟨bl, ol, rfl, hbl, l1, PA, pc, l2, hrp⟩ := (HR.out.later hbw (Nat.le_refl _)).at_ hlt
        obtain ⟨ho1, ho2, ho3⟩ := thrE_ok (HOK.out k hlt)
        have hmem : l[k] ∈ l := List.getElem_mem hlt
        have htk : (l.take (k + 1)).map (knM most) = (l.take k).map (knM most) ++ [knM most l[k]] := by rw [List.take_succ_eq_append_getElem hlt, List.map_append]; rfl
        have x1 : (0 : Int) ≤ (k : Int) := by omega
        have x2 : (k : Int) < (l.length : Int) := by omega
        generalize l[k] = t at *
        obtain ⟨need, ps⟩ := t
        simp only at l1 l2 hrp ho1 ho2 ho3
        have hb1 := (Below.refl wr.heap.size wr).alloc (Nat.le_refl _) (.cells #[.int .i64 need, .slice PA ps.length pc] 43)
        have hcall := bWind_ need most PA pc ps _ (hrp.later (B := wr.heap.size) hb1 (Nat.le_refl _)) ho2 ho1 ho3 HM0.out
        have HLS := Lib.hid hls; have HOWN := Lib.hid hown; have HVS := Lib.hid hvs; have HBW := Lib.hid hbw; have HCALL := Lib.hid hcall; have HB1 := Lib.hid hb1; have HRP := Lib.hid hrp; have HO1 := Lib.hid ho1; have HO2 := Lib.hid ho2; have HO3 := Lib.hid ho3; have HTK := Lib.hid htk; have HMEM := Lib.hid hmem; have HVK := Lib.hid hvk; clear hls hown hvs hbw hcall hb1 hrp ho1 ho2 ho3 htk hmem hvk
        go_wp2_with fail
        refine HCALL.out.mono ?_
        rintro e w4 ⟨v, b, rfl, b1, hv⟩
        have hb4 := HBW.out.trans ((HB1.out.trans (b1.mono HB1.out.size)).mono HBW.out.size)
        have hsz := HB1.out.size
        have hbr := HB1.out.trans (b1.mono HB1.out.size)
        have hsz2 := HBW.out.size
        clear b1
        cases hkn : knM most (need, ps) with
        | none =>
          have hkn9 : knO need ps most = none := hkn
          rw [hkn9] at hv
          obtain ⟨rfl, rfl⟩ := hv
          have hE2 : E = 4 := by rw [HE.out, if_pos (List.mem_map.2 ⟨_, HMEM.out, hkn⟩)]
          have hL2 : L = [] := by rw [HL.out, if_neg (by rw [hE2]; decide)]
          have hn := LLV.nil w4 w.heap.size
          have HB4 := Lib.hid hb4; have HBR := Lib.hid hbr; have HE2 := Lib.hid hE2; have HL2 := Lib.hid hL2; have HKN := Lib.hid hkn; have HKN9 := Lib.hid hkn9; have HN := Lib.hid hn; clear hb4 hbr hE2 hL2 hkn hkn9 hn
          go_wp2
          go_ret2
          rw [← HLQ.out, ← HEQ.out, HL2.out, HE2.out]
          exact ⟨_, rfl, HN.out, HB4.out⟩
        | some q =>
          have hkn9 : knO need ps most = some q := hkn
          rw [hkn9] at hv
          obtain ⟨rfl, hv2⟩ := hv
          obtain ⟨VA, vc, rfl⟩ := own_slice1 hv2
          have hv3 := own_base (base' := w.heap.size) hv2 (by omega)
          have hown4 := own_below3 HOWN.out hbr
          have hvs4 := HVS.out.later hbr
          have hls4 : (l.take (k + 1)).map (knM most) = (ls ++ [q]).map some := by rw [HTK.out, HLS.out, hkn]; simp
          have hs4 := hb4.size
          have hvl : vs.length = k := HVK.out
          clear hv2
          have HB4 := Lib.hid hb4; have HBR := Lib.hid hbr; have HKN := Lib.hid hkn; have HKN9 := Lib.hid hkn9; have HV3 := Lib.hid hv3; have HOWN4 := Lib.hid hown4; have HVS4 := Lib.hid hvs4; have HLS4 := Lib.hid hls4; have HVL := Lib.hid hvl; clear hb4 hbr hkn hkn9 hv3 hown4 hvs4 hls4 hvl
          go_wp2_with (
            at_builtin
            go_must (refine wpList_appI2_Try (by rfl) _ _ (by rfl) w.heap.size (.slice OA vs.length oc) vs (by rfl) (HOWN4.out.alloc _) w4.heap.size VA (outI q).length vc (by rfl) (heap_alloc_new _ _) (by have := HVL.out; omega) (by simp; omega) ?_)
            intro g cap w5 hown5 hg5 hat5 hlt5
            have ho9 := HOWN4.out.alloc (.cells #[Value.slice VA (outI q).length vc] 23)
            have hb5 := (HB4.out.alloc hs4 (.cells #[Value.slice VA (outI q).length vc] 23)).grown hg5 (by simp; omega) (fun k hk => (ho9.lt k hk).1)
            have hvs5 : VsI w5 w.heap.size vs ls := ⟨HVS4.out.1, fun j u hj => own_kept_type ((HVS4.out.2 j u hj).alloc _) ho9 (by decide) hg5⟩
            have hv5 := own_kept_type (HV3.out.alloc (.cells #[Value.slice VA (outI q).length vc] 23)) ho9 (by decide) hg5
            have hvs6 := hvs5.snoc hv5
            clear ho9 hg5 hat5 hlt5 hvs5 hv5
            have HOWN5 := Lib.hid hown5; have HB5 := Lib.hid hb5; have HVS6 := Lib.hid hvs6; clear hown5 hb5 hvs6
            skip)
          go_roundw
          case rel => exact ⟨k + 1, vs ++ [Value.slice VA (outI q).length vc], ls ++ [q], by go_num, by omega, HLS4.out, by simp; exact HVL.out, HOWN5.out, HVS6.out, HB5.out⟩
          case measure => simp [intOf]; omega
      · have hkl : k = l.length := by omega
        rw [hkl, List.take_length] at hls
        have hE2 : E = 0 := by
          rw [HE.out, if_neg]
          rw [hls]; simp
        have hL2 : L = ls := by
          rw [HL.out, if_pos hE2]
          have h1 : l.map (fun t => (knM most t).getD []) = (l.map (knM most)).map (fun o => o.getD []) := by rw [List.map_map]; rfl
          rw [h1, hls, List.map_map]
          exact (List.map_congr_left (g := id) (fun a _ => rfl)).trans (List.map_id _)
        have hll : LLV wr w.heap.size (.slice OA vs.length oc) ls := ⟨vs, by rw [← hvs.1]; exact hown, hvs⟩
        have x3 : ¬ (k : Int) < (l.length : Int) := by omega
        have HLS := Lib.hid hls; have HOWN := Lib.hid hown; have HVS := Lib.hid hvs; have HBW := Lib.hid hbw; have HE2 := Lib.hid hE2; have HL2 := Lib.hid hL2; have HLL := Lib.hid hll; have HVK := Lib.hid hvk; have HKL := Lib.hid hkl; clear hls hown hvs hbw hE2 hL2 hll hvk hkl
        go_wp2
        go_ret2
        rw [← HLQ.out, ← HEQ.out, HL2.out, HE2.out]
        exact ⟨_, rfl, HLL.out, HBW.out⟩
end Go.Proofs.Ytdimaapiloojeaa
/- The shop: what a search for a plan holds. -/
namespace Go.Proofs.Ytdimaapiloojeaa
open Go.RowKit

def nats (l : List Nat) : List Int := l.map fun q : Nat => (q : Int)
theorem nats_len (l : List Nat) : (nats l).length = l.length := by unfold nats; simp
theorem nats_snoc (l : List Nat) (k : Nat) : nats (l ++ [k]) = nats l ++ [(k : Int)] := by unfold nats; simp
theorem nats_get (l : List Nat) {k : Nat} (hk : k < l.length) : (nats l)[k]'(by rw [nats_len]; exact hk) = (l[k] : Int) := by unfold nats; simp
theorem own_pre {w : World} {base T g n cap : Nat} {xs : List Int} {z : Int} (h : w.ownsRow base T 1 (.slice (some ⟨g, 0, none⟩) (n + 1) cap) (n + 1) (ints (xs ++ [z]))) (hx : xs.length = n) : w.ownsRow base T 1 (.slice (some ⟨g, 0, none⟩) n cap) n (ints xs) := by
  refine ⟨by rw [ints_length]; omega, ?_⟩
  rcases h.2 with ⟨h1, _⟩ | ⟨g', cap', cur, h1, h2, h3, h4, h5, h6, h7⟩
  · cases h1
  · injection h1 with e1 e2 e3
    injection e1 with e1
    injection e1 with e1
    subst e1; subst e3
    refine .inr ⟨g, cap, cur, rfl, h2, h3, by omega, h5, h6, ?_⟩
    have h8 : (cur.toList.take ((n + 1) * 1)).take n = (ints (xs ++ [z])).take n := by rw [h7]
    rw [List.take_take, show min n ((n + 1) * 1) = n * 1 by omega] at h8
    rw [h8, ints_app9, List.take_append_of_le_length (by rw [ints_length]; omega), List.take_of_length_le (by rw [ints_length]; omega)]
theorem own_heap {w : World} {base T n cap g : Nat} {xs : List Value} (h : w.ownsRow base T 1 (.slice (some ⟨g, 0, none⟩) n cap) n xs) : ∃ cur, w.heap[g]? = some (.cells cur T (0, 0)) := by
  rcases h.2 with ⟨h1, _⟩ | ⟨g', cap', cur, h1, h2, h3, _⟩
  · cases h1
  · injection h1 with e1 e2 e3
    injection e1 with e1
    injection e1 with e1
    subst e1
    exact ⟨cur, h3⟩
theorem rdI_of_own9 {w : World} {base e n c : Nat} {A : Option Addr} {xs : List Int} (h : w.ownsRow base e 1 (.slice A n c) n (ints xs)) (hl : xs.length ≤ 281474976710656) : RdI w A xs := ⟨hl, own_rd h⟩
/-- What the shop holds, and the plan that is tried. -/
structure ShC (w2 w : World) (X Pl L : Nat) (NA SA : Option Addr) (nc sc : Nat) (needs spools : List Int) (st : StS) (p : List Nat) (bv : Value) : Prop where
  hb : Below w2.heap.size w2 w
  hx : w.heap[X]? = some (.cells #[.slice NA needs.length nc, .slice SA spools.length sc, bv, .int .i64 st.beg, .int .i64 st.lon] 63 (0, 0))
  best : (st.best = none ∧ bv = .slice none 0 0) ∨ (∃ q, st.best = some q ∧ q.length = L ∧ w.ownsRow w2.heap.size 3 1 bv q.length (ints (nats q)) ∧ bv.ownBlock ≠ some Pl)
  hp : w.ownsRow w2.heap.size 3 1 (.slice (some ⟨Pl, 0, none⟩) p.length L) p.length (ints (nats p))
  hX : w2.heap.size ≤ X
def EaC (w2 w : World) (X Pl L : Nat) (NA SA : Option Addr) (nc sc : Nat) (needs spools : List Int) (st : StS) (p : List Nat) : Prop := ∃ bv, ShC w2 w X Pl L NA SA nc sc needs spools st p bv
section
variable {w2 w w' : World} {X Pl L : Nat} {NA SA : Option Addr} {nc sc : Nat} {needs spools : List Int} {st : StS} {p : List Nat} {bv : Value}
theorem ShC.later (h : ShC w2 w X Pl L NA SA nc sc needs spools st p bv) (hb : Below w.heap.size w w') : ShC w2 w' X Pl L NA SA nc sc needs spools st p bv := by
  refine ⟨h.hb.trans (hb.mono h.hb.size), (hb.block _ (lt_of_block h.hx)).trans h.hx, ?_, own_below3 h.hp hb, h.hX⟩
  rcases h.best with h1 | ⟨q, h1, h2, h3, h4⟩
  · exact .inl h1
  · exact .inr ⟨q, h1, h2, own_below3 h3 hb, h4⟩
theorem ShC.pl (h : ShC w2 w X Pl L NA SA nc sc needs spools st p bv) : w2.heap.size ≤ Pl ∧ Pl < w.heap.size ∧ X ≠ Pl := by
  have h1 := h.hp.lt Pl rfl
  refine ⟨h1.1, h1.2, fun e => ?_⟩
  exact own_ne_type h.hp h.hx (by decide) (by rw [e]; rfl)
end
/-- A better plan is kept. -/
theorem ShC.put {w2 w : World} {X Pl L : Nat} {NA SA : Option Addr} {nc sc : Nat} {needs spools : List Int} {st : StS} {p : List Nat} {bv : Value} (h : ShC w2 w X Pl L NA SA nc sc needs spools st p bv) {B : Option Addr} {d base : Nat}
    (hown : w.ownsRow base 3 1 (.slice B (nats p).length d) (nats p).length (ints (nats p))) (hb : Pl < base ∧ w2.heap.size ≤ base) (hp : p.length = needs.length) (hL : L = needs.length) (b l : Int) :
    ShC w2 (((w.setCell ⟨X, 2, none⟩ (.slice B (nats p).length d)).setCell ⟨X, 3, none⟩ (.int .i64 b)).setCell ⟨X, 4, none⟩ (.int .i64 l)) X Pl L NA SA nc sc needs spools ⟨some p, b, l⟩ p (.slice B (nats p).length d) := by
  have h1 := heap_setCell_same w X 2 _ _ (.slice B (nats p).length d) h.hx
  have h2 := heap_setCell_same _ X 3 _ _ (.int .i64 b) h1
  have h3 := heap_setCell_same _ X 4 _ _ (.int .i64 l) h2
  have hx1 := h.hX
  have hkeep : ∀ {base e n : Nat} {v : Value} {xs : List Value}, w.ownsRow base e 1 v n xs → e ≠ 63 → (((w.setCell ⟨X, 2, none⟩ (.slice B (nats p).length d)).setCell ⟨X, 3, none⟩ (.int .i64 b)).setCell ⟨X, 4, none⟩ (.int .i64 l)).ownsRow base e 1 v n xs := fun ho hne => by
    have hn := own_ne_type ho h.hx hne
    exact ownsRow_setCell_other (a := ⟨X, 4, none⟩) (ownsRow_setCell_other (a := ⟨X, 3, none⟩) (ownsRow_setCell_other (a := ⟨X, 2, none⟩) ho hn.symm _) hn.symm _) hn.symm _
  refine ⟨((h.hb.setCell (p := ⟨X, 2, none⟩) hx1 _).setCell (p := ⟨X, 3, none⟩) hx1 _).setCell (p := ⟨X, 4, none⟩) hx1 _, h3, .inr ⟨p, rfl, by omega, ?_, ?_⟩, hkeep h.hp (by decide), hx1⟩
  · have h4 := own_base (base' := w2.heap.size) (hkeep hown (by decide)) hb.2
    rw [nats_len] at h4 ⊢
    exact h4
  · intro e
    have := (hown.lt Pl e).1
    omega
theorem usd_rng {needs : List Int} {plan : List Nat} (hn : ∀ x, x ∈ needs → 1 ≤ x ∧ x ≤ 1000000000000) (k : Nat) : ∀ i, 0 ≤ usdF needs plan k i ∧ usdF needs plan k i ≤ 1000000000000 * (i : Int)
  | 0 => by unfold usdF; omega
  | i + 1 => by
    have h1 := usd_rng (plan := plan) hn k i
    have h2 : 0 ≤ needs.getD i 0 ∧ needs.getD i 0 ≤ 1000000000000 := by
      rw [List.getD_eq_getElem?_getD]
      cases h : needs[i]? with
      | none => simp
      | some x => have := hn x (List.mem_of_getElem? h); simp; omega
    unfold usdF
    split <;> omega
theorem getD_rng {xs : List Int} (hn : ∀ x, x ∈ xs → 1 ≤ x ∧ x ≤ 1000000000000) (i : Nat) : 0 ≤ xs.getD i 0 ∧ xs.getD i 0 ≤ 1000000000000 := by
  rw [List.getD_eq_getElem?_getD]
  cases h : xs[i]? with
  | none => simp
  | some x => have := hn x (List.mem_of_getElem? h); simp; omega
theorem lft_rng {needs spools : List Int} {plan : List Nat} (hn : ∀ x, x ∈ needs → 1 ≤ x ∧ x ≤ 1000000000000) (hs : ∀ x, x ∈ spools → 1 ≤ x ∧ x ≤ 1000000000000) (i k : Nat) : - (1000000000000 * (i : Int)) ≤ lftF needs spools plan i k ∧ lftF needs spools plan i k ≤ 1000000000000 := by
  have h1 := usd_rng (plan := plan) hn k i
  have h2 := getD_rng hs k
  unfold lftF
  omega
def lfl (needs spools : List Int) (plan : List Nat) (i : Nat) : List Int := (List.range spools.length).map (lftF needs spools plan i)
theorem lfl_len (needs spools : List Int) (plan : List Nat) (i : Nat) : (lfl needs spools plan i).length = spools.length := by unfold lfl; simp
theorem lfl_0 (needs spools : List Int) (plan : List Nat) : lfl needs spools plan 0 = spools := by
  unfold lfl
  apply List.ext_getElem
  · simp
  · intro j h1 h2
    simp only [List.getElem_map, List.getElem_range]
    unfold lftF usdF
    simp only [List.length_map, List.length_range] at h1
    simp [List.getD_eq_getElem?_getD, h1]
theorem lfl_get (needs spools : List Int) (plan : List Nat) (i : Nat) {k : Nat} (hk : k < spools.length) : (ints (lfl needs spools plan i))[k]? = some (.int .i64 (lftF needs spools plan i k)) := by
  unfold ints lfl
  simp [hk]
theorem lfl_set (needs spools : List Int) (plan : List Nat) (i : Nat) {k : Nat} (hk : plan.getD i 0 = k) : (ints (lfl needs spools plan i)).set k (.int .i64 (lftF needs spools plan i k - needs.getD i 0)) = ints (lfl needs spools plan (i + 1)) := by
  unfold ints lfl
  apply List.ext_getElem
  · simp
  · intro j h1 h2
    simp only [List.length_map, List.length_range] at h2
    simp only [List.getElem_set, List.getElem_map, List.getElem_range]
    unfold lftF
    rw [usdF]
    by_cases e : k = j
    · subst e
      rw [if_pos rfl, if_pos hk]
      congr 1
      omega
    · rw [if_neg e, if_neg (by rw [hk]; exact e)]
      congr 1
      omega
theorem step_yes {needs spools : List Int} {st : StS} {p : List Nat} (h1 : GoodP needs spools p) (h2 : BetS st (begP needs spools p) (lonP needs spools p)) : stepS needs spools st p = ⟨some p, begP needs spools p, lonP needs spools p⟩ := by
  unfold stepS; rw [if_pos ⟨h1, h2⟩]
theorem step_no {needs spools : List Int} {st : StS} {p : List Nat} (h : ¬ (GoodP needs spools p ∧ BetS st (begP needs spools p) (lonP needs spools p))) : stepS needs spools st p = st := by
  unfold stepS; rw [if_neg h]
theorem beg_rng (spools : List Int) (lf : Nat → Int) : ∀ k, 0 ≤ begF spools lf k ∧ begF spools lf k ≤ (k : Int)
  | 0 => by unfold begF; omega
  | k + 1 => by have := beg_rng spools lf k; unfold begF; split <;> omega
theorem lon_rng {spools : List Int} (hs : ∀ x, x ∈ spools → 1 ≤ x ∧ x ≤ 1000000000000) (lf : Nat → Int) : ∀ k, 0 ≤ lonF spools lf k ∧ lonF spools lf k ≤ 1000000000000 * (k : Int)
  | 0 => by unfold lonF; omega
  | k + 1 => by have := lon_rng hs lf k; have := getD_rng hs k; unfold lonF; split <;> omega
theorem cmp_bet {st : StS} {q : List Nat} (hq : st.best = some q) (b l : Int) : orI (cmpV b st.beg) (cmpV l st.lon) < 0 ↔ BetS st b l := by
  have h9 : BetS st b l ↔ (b < st.beg ∨ b = st.beg ∧ l < st.lon) := by
    unfold BetS
    rw [hq]
    exact ⟨fun h => by rcases h with h | h; cases h; exact h, .inr⟩
  rw [h9]
  have h0 : ∀ y, orI (-1) y = -1 := fun y => rfl
  have h1 : ∀ y, orI 1 y = 1 := fun y => rfl
  have h2 : ∀ y, orI 0 y = y := fun y => rfl
  rcases Int.lt_trichotomy b st.beg with hb | hb | hb
  · have e1 : cmpV b st.beg = -1 := by unfold cmpV; rw [if_pos hb]
    rw [e1, h0]
    omega
  · have e1 : cmpV b st.beg = 0 := by unfold cmpV; rw [if_neg (by omega), if_neg (by omega)]
    rw [e1, h2]
    rcases Int.lt_trichotomy l st.lon with hl | hl | hl
    · have e2 : cmpV l st.lon = -1 := by unfold cmpV; rw [if_pos hl]
      rw [e2]; omega
    · have e2 : cmpV l st.lon = 0 := by unfold cmpV; rw [if_neg (by omega), if_neg (by omega)]
      rw [e2]; omega
    · have e2 : cmpV l st.lon = 1 := by unfold cmpV; rw [if_neg (by omega), if_pos hl]
      rw [e2]; omega
  · have e1 : cmpV b st.beg = 1 := by unfold cmpV; rw [if_neg (by omega), if_pos hb]
    rw [e1, h1]
    omega
end Go.Proofs.Ytdimaapiloojeaa
/- try: a plan is kept if it is better. -/
namespace Go.Proofs.Ytdimaapiloojeaa
open Go.RowKit

set_option maxRecDepth 100000 in
set_option maxHeartbeats 8000000 in
theorem try_ (w2 w : World) (X Pl L : Nat) (NA SA : Option Addr) (nc sc : Nat) (needs spools : List Int) (st : StS) (p : List Nat) (hrn : RdI w2 NA needs) (hrs : RdI w2 SA spools) (hE : EaC w2 w X Pl L NA SA nc sc needs spools st p)
    (hp : p.length = needs.length) (hL : L = needs.length) (hpk : ∀ k, k ∈ p → k < spools.length) (hn8 : needs.length ≤ 8) (hs6 : spools.length ≤ 6) (hnr : ∀ x, x ∈ needs → 1 ≤ x ∧ x ≤ 1000000000000) (hsr : ∀ x, x ∈ spools → 1 ≤ x ∧ x ≤ 1000000000000) (hst : st.best = none ∨ 0 < p.length) :
    Calls Try.prog 34 #[.pointer (some ⟨X, 0, none⟩), .slice (some ⟨Pl, 0, none⟩) p.length L] w fun e w' => e = .returned (.tuple #[]) ∧ EaC w2 w' X Pl L NA SA nc sc needs spools (stepS needs spools st p) p := by
  obtain ⟨bv, hC⟩ := hE
  obtain ⟨hP1, hP2, hP3⟩ := hC.pl
  have hrsw := hrs.later hC.hb (Nat.le_refl _)
  have hrnw := hrn.later hC.hb (Nat.le_refl _)
  have hrp : RdI w (some ⟨Pl, 0, none⟩) (nats p) := rdI_of_own9 hC.hp (by rw [nats_len]; omega)
  have c0 := cell_of_row _ _ 1 _ _ _ hC.hx
  simp only [List.getElem?_toArray, List.getElem?_cons_zero, List.getElem?_cons_succ] at c0
  have l0 := lt_of_block hC.hx
  have hclone := CloneL_ SA sc spools w (by omega) hrsw
  have hpl8 : p.length ≤ 8 := by omega
  have HRN := Lib.hid hrn; have HRS := Lib.hid hrs; have HC := Lib.hid hC; have HRSW := Lib.hid hrsw; have HRNW := Lib.hid hrnw; have HRP := Lib.hid hrp; have HCLONE := Lib.hid hclone; have HP := Lib.hid hp; have HL := Lib.hid hL; have HPK := Lib.hid hpk; have HNR := Lib.hid hnr; have HSR := Lib.hid hsr; have HST := Lib.hid hst; have HP1 := Lib.hid hP1; have HP2 := Lib.hid hP2; have HP3 := Lib.hid hP3; clear hrn hrs hC hrsw hrnw hrp hclone hp hL hpk hnr hsr hst hP1 hP2 hP3
  go_enter Try.func34, Try.ntmps34
  go_wp2_with fail
  refine HCLONE.out.mono ?_
  rintro e w3 ⟨LA, lc, rfl, hown, hb3⟩
  clear c0 l0
  have hown2 : w3.ownsRow w.heap.size 2 1 (.slice LA spools.length lc) spools.length (ints (lfl needs spools p 0)) := by rw [lfl_0]; exact hown
  clear hown
  have HOWN2 := Lib.hid hown2; have HB3 := Lib.hid hb3; clear hown2 hb3
  go_wp2
  go_loopw [5, 6, 18] (fun _ _ iv wr => ∃ i : Nat, iv = .int .i64 (i : Int) ∧ i ≤ p.length ∧ wr.ownsRow w.heap.size 2 1 (.slice LA spools.length lc) spools.length (ints (lfl needs spools p i)) ∧ Below w.heap.size w wr) (fun _ _ iv _ => p.length - (intOf iv).toNat)
  case atStart => exact ⟨0, rfl, Nat.zero_le _, HOWN2.out, HB3.out⟩
  case round =>
    clear HOWN2 HB3
    obtain ⟨i, rfl, hi, hown, hbw⟩ := hrel
    have hCw := HC.out.later hbw
    have hx := hCw.hx
    have c0 := cell_of_row _ _ 0 _ _ _ hx
    have c1 := cell_of_row _ _ 1 _ _ _ hx
    simp only [List.getElem?_toArray, List.getElem?_cons_zero, List.getElem?_cons_succ] at c0 c1
    have l0 := lt_of_block hx
    by_cases hlt : i < p.length
    · have hmem : p[i] ∈ p := List.getElem_mem hlt
      have hks := HPK.out _ hmem
      have hgd : p.getD i 0 = p[i] := by simp [List.getD_eq_getElem?_getD, hlt]
      obtain ⟨bl, ol, e, hbl, l1⟩ := (HRP.out.later hbw (Nat.le_refl _)).at_ (k := i) (by rw [nats_len]; exact hlt)
      injection e with e
      injection e with e1 e2
      subst e1; subst e2
      rw [nats_get p hlt] at l1
      have hin : i < needs.length := by have := HP.out; omega
      obtain ⟨bn, on, rfl, hbn, l2⟩ := (HRNW.out.later hbw (Nat.le_refl _)).at_ hin
      have hng : needs.getD i 0 = needs[i] := by simp [List.getD_eq_getElem?_getD, hin]
      have hnrg := HNR.out _ (List.getElem_mem hin)
      have hset := lfl_set needs spools p i hgd
      have hget := lfl_get needs spools p i hks
      have hrng := lft_rng (plan := p) HNR.out HSR.out i p[i]
      rw [hng] at hset
      obtain ⟨g, cap, hv, hgw, hgl⟩ := hown.form (by omega)
      injection hv with hv1 hv2 hv3
      subst hv1
      subst hv3
      have c3 := hown.cellAt p[i] (by omega)
      have f3 := hown.frozenAt p[i]
      have hstd := fun z => (show wr.drew.ownsRow w.heap.size 2 1 (.slice (some ⟨g, 0, none⟩) spools.length _) spools.length (ints (lfl needs spools p i)) from hown).stored p[i] (.int .i64 z)
      rw [hget] at c3
      generalize p[i] = k at *
      generalize needs[i] = nd at *
      generalize lftF needs spools p i k = lv at *
      have hwr : IntKind.i64.wrap (lv - nd) = lv - nd := IntWalk.i64_in _ (by omega)
      have x1 : (0 : Int) ≤ (i : Int) := by omega
      have x2 : (i : Int) < (p.length : Int) := by omega
      have x3 : (0 : Int) ≤ (k : Int) := by omega
      have x4 : (k : Int) < (spools.length : Int) := by omega
      have x5 : (i : Int) < (needs.length : Int) := by omega
      rw [Nat.zero_add] at l1
      have HOWN := Lib.hid hown; have HBW := Lib.hid hbw; have HCW := Lib.hid hCw; have HX := Lib.hid hx; have HMEM := Lib.hid hmem; have HGD := Lib.hid hgd; have HNG := Lib.hid hng; have HSET := Lib.hid hset; have HGET := Lib.hid hget; have HRNG := Lib.hid hrng; have HSTD := Lib.hid hstd; have HNRG := Lib.hid hnrg; clear hown hbw hCw hx hmem hgd hng hset hget hrng hstd hnrg
      go_upto_region 4 with fail
      go_still_tail 13, (by kernel_rfl)
      change wpList _ _ _ _ _ wr.drew
      go_wp2
      go_roundw
      case rel => exact ⟨i + 1, by go_num, by omega, by rw [← HSET.out]; exact (HSTD.out _).1, HBW.out.drew.setCell (p := ⟨g, k, none⟩) hgw _⟩
      case measure => simp [intOf]; omega
    · have hin : i = needs.length := by have := HP.out; omega
      rw [hin] at hown
      obtain ⟨lf, hlf⟩ : ∃ lf, lf = lftF needs spools p needs.length := ⟨_, rfl⟩
      have hgl : ∀ k, k < spools.length → (ints (lfl needs spools p needs.length))[k]? = some (.int .i64 (lf k)) := fun k hk => by rw [hlf]; exact lfl_get needs spools p needs.length hk
      have hlr : ∀ k, -8000000000000 ≤ lf k ∧ lf k ≤ 1000000000000 := fun k => by
        have := lft_rng (plan := p) HNR.out HSR.out needs.length k
        rw [hlf]
        omega
      obtain ⟨w4, rfl⟩ : ∃ w4, w4 = wr := ⟨_, rfl⟩
      have hbF := beg_rng spools lf
      have hlN := lon_rng HSR.out lf
      have HOWN := Lib.hid hown; have HBW := Lib.hid hbw; have HCW := Lib.hid hCw; have HX := Lib.hid hx; have HIN := Lib.hid hin; have HLF := Lib.hid hlf; have HGL := Lib.hid hgl; have HLR := Lib.hid hlr; have HBF := Lib.hid hbF; have HLN := Lib.hid hlN; clear hown hbw hCw hx hin hlf hgl hlr hbF hlN
      go_wp2
      clear c0 c1 l0
      go_loopw [7, 8, 9, 10, 39] (fun bv lv _ _ iv wr => ∃ k : Nat, iv = .int .i64 (k : Int) ∧ k ≤ spools.length ∧ bv = .int .i64 (begF spools lf k) ∧ lv = .int .i64 (lonF spools lf k) ∧ (∀ j, j < k → 0 ≤ lf j) ∧ Below w4.heap.size w4 wr) (fun _ _ _ _ iv _ => spools.length - (intOf iv).toNat)
      case atStart => exact ⟨0, rfl, Nat.zero_le _, rfl, rfl, fun j hj => absurd hj (by omega), Below.refl _ _⟩
      case round =>
        obtain ⟨k, rfl, hk, rfl, rfl, hpos, hbk⟩ := hrel
        have hCk := HCW.out.later hbk
        have hb9 := HBW.out.trans (hbk.mono HBW.out.size)
        have c0 := cell_of_row _ _ 1 _ _ _ hCk.hx
        have c2 := cell_of_row _ _ 2 _ _ _ hCk.hx
        have c3 := cell_of_row _ _ 3 _ _ _ hCk.hx
        have c4 := cell_of_row _ _ 4 _ _ _ hCk.hx
        simp only [List.getElem?_toArray, List.getElem?_cons_zero, List.getElem?_cons_succ] at c0 c2 c3 c4
        have l0 := lt_of_block hCk.hx
        by_cases hlt : k < spools.length
        · have hlk := HLR.out k
          have hget := HGL.out k hlt
          have hownk := own_below3 HOWN.out hbk
          obtain ⟨g, cap, hv, hgw, hgl2⟩ := hownk.form (by omega)
          injection hv with hv1 hv2 hv3
          subst hv1
          subst hv3
          have c5 := hownk.cellAt k (by omega)
          rw [hget] at c5
          obtain ⟨bs, os, rfl, hbs, l2⟩ := (HRSW.out.later hb9 (Nat.le_refl _)).at_ hlt
          have hsg : spools.getD k 0 = spools[k] := by simp [List.getD_eq_getElem?_getD, hlt]
          have hsrk := HSR.out _ (List.getElem_mem hlt)
          have hBs : begF spools lf (k + 1) = begF spools lf k + if lf k < spools.getD k 0 then 1 else 0 := rfl
          have hLs : lonF spools lf (k + 1) = lonF spools lf k + if lf k < spools.getD k 0 then spools.getD k 0 else 0 := rfl
          rw [hsg] at hBs hLs
          have hb1 := HBF.out k
          have hl1 := HLN.out k
          have x1 : (0 : Int) ≤ (k : Int) := by omega
          have x2 : (k : Int) < (spools.length : Int) := by omega
          generalize hlke : lf k = lk at *
          generalize spools[k] = sk at *
          generalize begF spools lf k = bk at *
          generalize lonF spools lf k = ok at *
          by_cases h0 : lk < 0
          · have d0 : decide (lk < 0) = true := decide_eq_true h0
            have hno : stepS needs spools st p = st := step_no fun h => by
              have := h.1 k hlt
              rw [← HLF.out] at this
              omega
            have HPOS := Lib.hid hpos; have HBK := Lib.hid hbk; have HCK := Lib.hid hCk; have HB9 := Lib.hid hb9; have HLK := Lib.hid hlk; have HGET := Lib.hid hget; have HOWNK := Lib.hid hownk; have HSG := Lib.hid hsg; have HSRK := Lib.hid hsrk; have HBS := Lib.hid hBs; have HLS := Lib.hid hLs; have HB1 := Lib.hid hb1; have HL1 := Lib.hid hl1; have HLKE := Lib.hid hlke; have H0 := Lib.hid h0; have HNO := Lib.hid hno; clear hpos hbk hCk hb9 hlk hget hownk hsg hsrk hBs hLs hb1 hl1 hlke h0 hno
            go_wp2
            refine bodyPost_ret (results_none rfl _ _ _) rfl ?_
            exact ⟨rfl, bv, by rw [HNO.out]; exact HCK.out⟩
          · have d0 : decide (lk < 0) = false := decide_eq_false h0
            have hpos2 : ∀ j, j < k + 1 → 0 ≤ lf j := fun j hj => by
              rcases Nat.lt_or_ge j k with h | h
              · exact hpos j h
              · rw [show j = k by omega, hlke]; omega
            have hw1 : IntKind.i64.wrap (bk + 1) = bk + 1 := IntWalk.i64_in _ (by omega)
            have hw2 : IntKind.i64.wrap (ok + sk) = ok + sk := IntWalk.i64_in _ (by omega)
            by_cases h1 : lk < sk
            · have d1 : decide (lk < sk) = true := decide_eq_true h1
              rw [if_pos h1] at hBs hLs
              have HPOS := Lib.hid hpos; have HBK := Lib.hid hbk; have HCK := Lib.hid hCk; have HB9 := Lib.hid hb9; have HLK := Lib.hid hlk; have HGET := Lib.hid hget; have HOWNK := Lib.hid hownk; have HSG := Lib.hid hsg; have HSRK := Lib.hid hsrk; have HBS := Lib.hid hBs; have HLS := Lib.hid hLs; have HB1 := Lib.hid hb1; have HL1 := Lib.hid hl1; have HLKE := Lib.hid hlke; have H0 := Lib.hid h0; have H1 := Lib.hid h1; have HPOS2 := Lib.hid hpos2; clear hpos hbk hCk hb9 hlk hget hownk hsg hsrk hBs hLs hb1 hl1 hlke h0 h1 hpos2
              go_upto_region 12 with fail
              have hbelc : ∀ (u : Bel wr.heap.size wr) b o, b < wr.heap.size → u.wd.cell? ⟨b, o, none⟩ = wr.cell? ⟨b, o, none⟩ := fun u b o h => u.h.cell (p := ⟨b, o, none⟩) h
              have hbeln : Nonempty (Bel wr.heap.size wr) := ⟨⟨wr, Below.refl _ _⟩⟩
              refine wp_region_bel wr.heap.size (by kernel_rfl) (by kernel_rfl) ?_
              repeat (go_big_quiet_step ((fail)))
              refine wpQuiet_nil ?_
              intro wB hB0; obtain ⟨uB, hu⟩ := hB0; have hbB0 := uB.h; rw [← hu] at hbB0; clear hu uB hbelc hbeln
              obtain ⟨hbB, hcB, hsB⟩ := bcell2 hbB0; clear hbB0
              have hbk2 := HBK.out.trans (hbB.mono HBK.out.size)
              clear hbB hcB hsB c0 c2 c3 c4 c5 l2 l0
              have HBK2 := Lib.hid hbk2; clear hbk2
              go_wp2
              go_roundw
              case rel => exact ⟨k + 1, by go_num, by omega, by rw [HBS.out], by rw [HLS.out], HPOS2.out, HBK2.out⟩
              case measure => simp [intOf]; omega
            · have d1 : decide (lk < sk) = false := decide_eq_false h1
              rw [if_neg h1] at hBs hLs
              rw [Int.add_zero] at hBs hLs
              have HPOS := Lib.hid hpos; have HBK := Lib.hid hbk; have HCK := Lib.hid hCk; have HB9 := Lib.hid hb9; have HLK := Lib.hid hlk; have HGET := Lib.hid hget; have HOWNK := Lib.hid hownk; have HSG := Lib.hid hsg; have HSRK := Lib.hid hsrk; have HBS := Lib.hid hBs; have HLS := Lib.hid hLs; have HB1 := Lib.hid hb1; have HL1 := Lib.hid hl1; have HLKE := Lib.hid hlke; have H0 := Lib.hid h0; have H1 := Lib.hid h1; have HPOS2 := Lib.hid hpos2; clear hpos hbk hCk hb9 hlk hget hownk hsg hsrk hBs hLs hb1 hl1 hlke h0 h1 hpos2
              go_wp2
              go_roundw
              case rel => exact ⟨k + 1, by go_num, by omega, by rw [HBS.out], by rw [HLS.out], HPOS2.out, HBK.out⟩
              case measure => simp [intOf]; omega
        · have hks : k = spools.length := by omega
          have hgood : GoodP needs spools p := fun j hj => by rw [← HLF.out]; exact hpos j (by omega)
          have hbe : begF spools lf k = begP needs spools p := by rw [hks, HLF.out]; rfl
          have hle : lonF spools lf k = lonP needs spools p := by rw [hks, HLF.out]; rfl
          rw [hbe, hle]
          have hyes := fun h => step_yes (st := st) hgood h
          have hnot := fun (h : ¬ BetS st (begP needs spools p) (lonP needs spools p)) => step_no (needs := needs) (spools := spools) (st := st) (p := p) (fun h' => h h'.2)
          generalize begP needs spools p = bp at *
          generalize lonP needs spools p = lp at *
          have hnl := fun (B : Option Addr) (n c : Nat) (W : World) => Lib.run_eql_slice_nil (P := Try.prog) W 23 3 B n c 0 0 Try.underlying23
          have hrpk := HRP.out.later hb9 (Nat.le_refl _)
          have hplk := HP2.out
          obtain ⟨w6, rfl⟩ : ∃ w6, w6 = wr := ⟨_, rfl⟩
          rcases hCk.best with ⟨hb0, rfl⟩ | ⟨q, hq, hqL, hqo, hqn⟩
          · have hnl2 : ∀ W, (binOp .eql 23 (.slice none 0 0) (.slice none 0 0)).run Try.prog W = .ok (.bool true) W := fun W => hnl none 0 0 W
            have hst2 := hyes (.inl hb0)
            clear hnl hyes hnot
            have HPOS := Lib.hid hpos; have HBK := Lib.hid hbk; have HCK := Lib.hid hCk; have HB9 := Lib.hid hb9; have HKS := Lib.hid hks; have HGOOD := Lib.hid hgood; have HBE := Lib.hid hbe; have HLE := Lib.hid hle; have HRPK := Lib.hid hrpk; have HB0 := Lib.hid hb0; have HST2 := Lib.hid hst2; clear hpos hbk hCk hb9 hks hgood hbe hle hrpk hb0 hst2
            go_upto_region 14 with fail
            have hbelc : ∀ (u : Bel w6.heap.size w6) b o, b < w6.heap.size → u.wd.cell? ⟨b, o, none⟩ = w6.cell? ⟨b, o, none⟩ := fun u b o h => u.h.cell (p := ⟨b, o, none⟩) h
            have hbeln : Nonempty (Bel w6.heap.size w6) := ⟨⟨w6, Below.refl _ _⟩⟩
            refine wp_region_bel w6.heap.size (by kernel_rfl) (by kernel_rfl) ?_
            repeat (go_big_quiet_step ((fail)))
            refine wpQuiet_nil ?_
            intro wB hB0; obtain ⟨uB, hu⟩ := hB0; have hbB0 := uB.h; rw [← hu] at hbB0; clear hu uB hbelc hbeln
            obtain ⟨hbB, hcB, hsB⟩ := bcell2 hbB0; clear hbB0
            have hC9 := HCK.out.later hbB
            have hP9 := HRPK.out.later hbB (Nat.le_refl _)
            have hsz := HB9.out.size
            have hlB := hbB.size
            clear hcB hsB c0 c2 c3 c4
            have hclone := CloneI_ (some ⟨Pl, 0, none⟩) L (nats p) wB (by rw [nats_len]; omega) hP9
            rw [nats_len] at hclone
            have HBB := Lib.hid hbB; have HC9 := Lib.hid hC9; have HP9 := Lib.hid hP9; have HCLONE := Lib.hid hclone; have HSZ := Lib.hid hsz; have HLB := Lib.hid hlB; clear hbB hC9 hP9 hclone hsz hlB
            go_wp2_with fail
            refine HCLONE.out.mono ?_
            rintro e w7 ⟨B, d, rfl, hown7, hb7⟩
            have hC7 := HC9.out.later hb7
            have hl7 := lt_of_block hC7.hx
            have f2 := frozen_of_row _ _ 2 _ _ hC7.hx
            have f3 := frozen_of_row _ _ 3 _ _ hC7.hx
            have f4 := frozen_of_row _ _ 4 _ _ hC7.hx
            have k2 := cell_of_row _ _ 2 _ _ _ hC7.hx
            have k3 := cell_of_row _ _ 3 _ _ _ hC7.hx
            have k4 := cell_of_row _ _ 4 _ _ _ hC7.hx
            simp only [List.getElem?_toArray, List.getElem?_cons_zero, List.getElem?_cons_succ] at k2 k3 k4
            have hfin := ShC.put hC7 hown7 ⟨by have := HSZ.out; have := HLB.out; omega, by have := HSZ.out; have := HLB.out; have := HP1.out; omega⟩ HP.out HL.out bp lp
            have HB7 := Lib.hid hb7; have HOWN7 := Lib.hid hown7; have HC7 := Lib.hid hC7; have HFIN := Lib.hid hfin; clear hb7 hown7 hC7 hfin
            go_wp2
            refine bodyPost_end (results_none rfl _ _ _) rfl ?_
            rw [HST2.out]
            exact ⟨rfl, _, HFIN.out⟩
          · have hp0 : 0 < q.length := by
              rcases HST.out with h | h
              · rw [h] at hq; cases hq
              · have := HP.out; have := HL.out; omega
            obtain ⟨gb, cb, rfl, _, hgb⟩ := hqo.form hp0
            have hnl2 : ∀ W, (binOp .eql 23 (.slice (some ⟨gb, 0, none⟩) q.length cb) (.slice none 0 0)).run Try.prog W = .ok (.bool false) W := fun W => hnl _ _ _ W
            have hcb := cmp_bet hq bp lp
            have hc1 := fun W => cmpI_ bp st.beg W
            have hc2 := fun W => cmpL_ lp st.lon W
            obtain ⟨v1, hv1⟩ : ∃ v1, v1 = cmpV bp st.beg := ⟨_, rfl⟩
            obtain ⟨v2, hv2⟩ : ∃ v2, v2 = cmpV lp st.lon := ⟨_, rfl⟩
            rw [← hv1, ← hv2] at hcb
            rw [← hv1] at hc1
            rw [← hv2] at hc2
            obtain ⟨v3, hv3⟩ : ∃ v3, v3 = orI v1 v2 := ⟨_, rfl⟩
            have hc3 := fun b W h => OrI_ b v1 v2 W h
            rw [← hv3] at hcb hc3
            clear hnl
            by_cases hlt : v3 < 0
            · have d3 : decide (v3 < 0) = true := decide_eq_true hlt
              have hst2 := hyes (hcb.1 hlt)
              clear hyes hnot
              have HPOS := Lib.hid hpos; have HBK := Lib.hid hbk; have HCK := Lib.hid hCk; have HB9 := Lib.hid hb9; have HKS := Lib.hid hks; have HGOOD := Lib.hid hgood; have HBE := Lib.hid hbe; have HLE := Lib.hid hle; have HRPK := Lib.hid hrpk; have HST2 := Lib.hid hst2; have HQ := Lib.hid hq; have HQL := Lib.hid hqL; have HQO := Lib.hid hqo; have HQN := Lib.hid hqn; have HCB := Lib.hid hcb; have HC1 := Lib.hid hc1; have HC2 := Lib.hid hc2; have HC3 := Lib.hid hc3; have HV1 := Lib.hid hv1; have HV2 := Lib.hid hv2; have HV3 := Lib.hid hv3; have HLT := Lib.hid hlt; clear hpos hbk hCk hb9 hks hgood hbe hle hrpk hst2 hq hqL hqo hqn hcb hc1 hc2 hc3 hv1 hv2 hv3 hlt
              go_upto_region 14 with fail
              go_region_held3 (fun wX => Below w6.heap.size w6 wX ∧ (∀ b o, b < w6.heap.size → wX.cell? ⟨b, o, none⟩ = w6.cell? ⟨b, o, none⟩) ∧ w6.heap.size ≤ wX.heap.size) ((refine bcell2 ?_; first | exact (Below.refl _ _).drew | exact ‹Below w6.heap.size w6 _ ∧ _›.1.trans (hbH.mono ‹Below w6.heap.size w6 _ ∧ _›.1.size) | exact ‹Below w6.heap.size w6 _ ∧ _›.1.alloc ‹Below w6.heap.size w6 _ ∧ _›.1.size _ | exact ‹Below w6.heap.size w6 _ ∧ _›.1)) ((first | (go_at_call 56; refine (HC1.out _).mono ?_; rintro e w2 ⟨rfl, rfl⟩) | (go_at_call 57; refine (HC2.out _).mono ?_; rintro e w2 ⟨rfl, rfl⟩) | (go_at_call 55; go_must (refine (HC3.out w6.heap.size (w6.alloc (.cells #[.int .i64 v1, .int .i64 v2] 3)).drew (heap_alloc_new w6 _)).mono ?_); rintro e w2 ⟨rfl, rfl⟩)))
              obtain ⟨wB, hwB⟩ : ∃ wB, wB = (w6.alloc (.cells #[.int .i64 v1, .int .i64 v2] 3)).drew := ⟨_, rfl⟩
              have hbB : Below w6.heap.size w6 wB := by rw [hwB]; exact ((Below.refl _ _).alloc (Nat.le_refl _) _).drew
              rw [← hwB]
              clear hwB
              have hC9 := HCK.out.later hbB
              have hP9 := HRPK.out.later hbB (Nat.le_refl _)
              have hsz := HB9.out.size
              have hlB := hbB.size
              clear c0 c2 c3 c4
              have hclone := CloneI_ (some ⟨Pl, 0, none⟩) L (nats p) wB (by rw [nats_len]; omega) hP9
              rw [nats_len] at hclone
              have HBB := Lib.hid hbB; have HC9 := Lib.hid hC9; have HP9 := Lib.hid hP9; have HCLONE := Lib.hid hclone; have HSZ := Lib.hid hsz; have HLB := Lib.hid hlB; clear hbB hC9 hP9 hclone hsz hlB
              go_wp2_with fail
              refine HCLONE.out.mono ?_
              rintro e w7 ⟨B, d, rfl, hown7, hb7⟩
              have hC7 := HC9.out.later hb7
              have hl7 := lt_of_block hC7.hx
              have f2 := frozen_of_row _ _ 2 _ _ hC7.hx
              have f3 := frozen_of_row _ _ 3 _ _ hC7.hx
              have f4 := frozen_of_row _ _ 4 _ _ hC7.hx
              have k2 := cell_of_row _ _ 2 _ _ _ hC7.hx
              have k3 := cell_of_row _ _ 3 _ _ _ hC7.hx
              have k4 := cell_of_row _ _ 4 _ _ _ hC7.hx
              simp only [List.getElem?_toArray, List.getElem?_cons_zero, List.getElem?_cons_succ] at k2 k3 k4
              have hfin := ShC.put hC7 hown7 ⟨by have := HSZ.out; have := HLB.out; omega, by have := HSZ.out; have := HLB.out; have := HP1.out; omega⟩ HP.out HL.out bp lp
              have HB7 := Lib.hid hb7; have HOWN7 := Lib.hid hown7; have HC7 := Lib.hid hC7; have HFIN := Lib.hid hfin; clear hb7 hown7 hC7 hfin
              go_wp2
              refine bodyPost_end (results_none rfl _ _ _) rfl ?_
              rw [HST2.out]
              exact ⟨rfl, _, HFIN.out⟩
            · have d3 : decide (v3 < 0) = false := decide_eq_false hlt
              have hst2 := hnot (fun h => hlt (hcb.2 h))
              clear hyes hnot
              have HPOS := Lib.hid hpos; have HBK := Lib.hid hbk; have HCK := Lib.hid hCk; have HB9 := Lib.hid hb9; have HKS := Lib.hid hks; have HGOOD := Lib.hid hgood; have HBE := Lib.hid hbe; have HLE := Lib.hid hle; have HRPK := Lib.hid hrpk; have HST2 := Lib.hid hst2; have HQ := Lib.hid hq; have HQL := Lib.hid hqL; have HQO := Lib.hid hqo; have HQN := Lib.hid hqn; have HCB := Lib.hid hcb; have HC1 := Lib.hid hc1; have HC2 := Lib.hid hc2; have HC3 := Lib.hid hc3; have HV1 := Lib.hid hv1; have HV2 := Lib.hid hv2; have HV3 := Lib.hid hv3; have HLT := Lib.hid hlt; clear hpos hbk hCk hb9 hks hgood hbe hle hrpk hst2 hq hqL hqo hqn hcb hc1 hc2 hc3 hv1 hv2 hv3 hlt
              go_upto_region 14 with fail
              go_region_held3 (fun wX => Below w6.heap.size w6 wX ∧ (∀ b o, b < w6.heap.size → wX.cell? ⟨b, o, none⟩ = w6.cell? ⟨b, o, none⟩) ∧ w6.heap.size ≤ wX.heap.size) ((refine bcell2 ?_; first | exact (Below.refl _ _).drew | exact ‹Below w6.heap.size w6 _ ∧ _›.1.trans (hbH.mono ‹Below w6.heap.size w6 _ ∧ _›.1.size) | exact ‹Below w6.heap.size w6 _ ∧ _›.1.alloc ‹Below w6.heap.size w6 _ ∧ _›.1.size _ | exact ‹Below w6.heap.size w6 _ ∧ _›.1)) ((first | (go_at_call 56; refine (HC1.out _).mono ?_; rintro e w2 ⟨rfl, rfl⟩) | (go_at_call 57; refine (HC2.out _).mono ?_; rintro e w2 ⟨rfl, rfl⟩) | (go_at_call 55; go_must (refine (HC3.out w6.heap.size (w6.alloc (.cells #[.int .i64 v1, .int .i64 v2] 3)).drew (heap_alloc_new w6 _)).mono ?_); rintro e w2 ⟨rfl, rfl⟩)))
              obtain ⟨wB, hwB⟩ : ∃ wB, wB = (w6.alloc (.cells #[.int .i64 v1, .int .i64 v2] 3)).drew := ⟨_, rfl⟩
              have hbB : Below w6.heap.size w6 wB := by rw [hwB]; exact ((Below.refl _ _).alloc (Nat.le_refl _) _).drew
              rw [← hwB]
              clear hwB
              have hC9 := HCK.out.later hbB
              clear hbB c0 c2 c3 c4
              have HC9 := Lib.hid hC9; clear hC9
              go_wp2
              refine bodyPost_end (results_none rfl _ _ _) rfl ?_
              rw [HST2.out]
              exact ⟨rfl, _, HC9.out⟩
end Go.Proofs.Ytdimaapiloojeaa
/- each: all plans are tried. -/
namespace Go.Proofs.Ytdimaapiloojeaa
open Go.RowKit

section
variable {w2 w w' : World} {X Pl L : Nat} {NA SA : Option Addr} {nc sc : Nat} {needs spools : List Int} {st : StS} {p : List Nat} {bv : Value}
theorem ShC.ext (h : ShC w2 w X Pl L NA SA nc sc needs spools st p bv) (o : Obj) {k : Nat} (hg : (w.alloc o).grownBy w' (some Pl)) (ho : w'.ownsRow w2.heap.size 3 1 (.slice (some ⟨Pl, 0, none⟩) (p.length + 1) L) (p.length + 1) (ints (nats p) ++ [.int .i64 (k : Int)])) :
    ShC w2 w' X Pl L NA SA nc sc needs spools st (p ++ [k]) bv := by
  obtain ⟨h1, h2, h3⟩ := h.pl
  have ha := h.later ((Below.refl _ _).alloc (Nat.le_refl _) o)
  have hl := lt_of_block ha.hx
  refine ⟨ha.hb.grown hg ha.hb.size (fun j hj => by obtain rfl := Option.some.inj hj; exact h1), (hg.block X hl (fun e => h3 (Option.some.inj e))).trans ha.hx, ?_, ?_, h.hX⟩
  · rcases ha.best with h4 | ⟨q, h4, h5, h6, h7⟩
    · exact .inl h4
    · exact .inr ⟨q, h4, h5, h6.kept hg (.inr h7), h7⟩
  · rw [nats_snoc, ints_app9, List.length_append]
    exact ho
theorem ShC.back {k : Nat} (h : ShC w2 w X Pl L NA SA nc sc needs spools st (p ++ [k]) bv) : ShC w2 w X Pl L NA SA nc sc needs spools st p bv := by
  have h1 := h.hp
  rw [nats_snoc, List.length_append] at h1
  exact ⟨h.hb, h.hx, h.best, own_pre h1 (nats_len p), h.hX⟩
end
set_option maxRecDepth 100000 in
set_option maxHeartbeats 4000000 in
theorem each_ (w2 : World) (X Pl L : Nat) (NA SA : Option Addr) (nc sc : Nat) (needs spools : List Int) (hrn : RdI w2 NA needs) (hrs : RdI w2 SA spools) (hL : L = needs.length) (hn8 : needs.length ≤ 8) (hs6 : spools.length ≤ 6)
    (hnr : ∀ x, x ∈ needs → 1 ≤ x ∧ x ≤ 1000000000000) (hsr : ∀ x, x ∈ spools → 1 ≤ x ∧ x ≤ 1000000000000) : ∀ (d : Nat) (p : List Nat) (st : StS) (w : World), p.length + d = L → (∀ k, k ∈ p → k < spools.length) → EaC w2 w X Pl L NA SA nc sc needs spools st p → (st.best = none ∨ 0 < L) →
    Calls Try.prog 33 #[.slice (some ⟨Pl, 0, none⟩) p.length L, .int .i64 (L : Int), .int .i64 (spools.length : Int), .func (.func 34) #[.pointer (some ⟨X, 0, none⟩)] #[]] w
      fun e w' => e = .returned (.tuple #[]) ∧ EaC w2 w' X Pl L NA SA nc sc needs spools (runE (stepS needs spools) spools.length d p st) p
  | 0, p, st, w, hpl, hpk, hE, hst => by
    have e0 : p.length = L := by omega
    have e1 : (p.length == L) = true := by rw [e0]; simp
    have e2 : ((p.length : Int) == (L : Int)) = true := by rw [e0]; simp
    have hcall := try_ w2 w X Pl L NA SA nc sc needs spools st p hrn hrs hE (by omega) hL hpk hn8 hs6 hnr hsr (by rcases hst with h | h; exact .inl h; exact .inr (by omega))
    have HRN := Lib.hid hrn; have HRS := Lib.hid hrs; have HL := Lib.hid hL; have HNR := Lib.hid hnr; have HSR := Lib.hid hsr; have HPL := Lib.hid hpl; have HPK := Lib.hid hpk; have HE := Lib.hid hE; have HST := Lib.hid hst; have E0 := Lib.hid e0; have HCALL := Lib.hid hcall; clear hrn hrs hL hnr hsr hpl hpk hE hst e0 hcall
    go_enter Try.func33, Try.ntmps33
    go_wp2_with fail
    refine HCALL.out.mono ?_
    rintro e w1 ⟨rfl, hE1⟩
    have HE1 := Lib.hid hE1; clear hE1
    go_wp2
    refine bodyPost_ret (results_none rfl _ _ _) rfl ?_
    exact ⟨rfl, HE1.out⟩
  | d + 1, p, st, w, hpl, hpk, hE, hst => by
    have e0 : p.length < L := by omega
    have e1 : (p.length == L) = false := by rw [beq_eq_false_iff_ne]; omega
    have e2 : ((p.length : Int) == (L : Int)) = false := by rw [beq_eq_false_iff_ne]; omega
    have hrec := each_ w2 X Pl L NA SA nc sc needs spools hrn hrs hL hn8 hs6 hnr hsr d
    have hL0 : 0 < L := by omega
    have hL8 : L ≤ 8 := by omega
    have HRN := Lib.hid hrn; have HRS := Lib.hid hrs; have HL := Lib.hid hL; have HNR := Lib.hid hnr; have HSR := Lib.hid hsr; have HPL := Lib.hid hpl; have HPK := Lib.hid hpk; have HE := Lib.hid hE; have HST := Lib.hid hst; have HREC := Lib.hid hrec; have E0 := Lib.hid e0; clear hrn hrs hL hnr hsr hpl hpk hE hst hrec e0
    go_enter Try.func33, Try.ntmps33
    go_wp2
    go_loopw [8, 17] (fun _ iv wr => ∃ k : Nat, iv = .int .i64 (k : Int) ∧ k ≤ spools.length ∧ EaC w2 wr X Pl L NA SA nc sc needs spools (runK (stepS needs spools) spools.length d p st k) p) (fun _ iv _ => spools.length - (intOf iv).toNat)
    case atStart => exact ⟨0, rfl, Nat.zero_le _, HE.out⟩
    case round =>
      obtain ⟨k, rfl, hk, bv, hC⟩ := hrel
      by_cases hlt : k < spools.length
      · have x1 : (0 : Int) ≤ (k : Int) := by omega
        have x2 : (k : Int) < (spools.length : Int) := by omega
        have hown := hC.hp.alloc (.cells #[.int .i64 (k : Int)] 3)
        have hlen : (p ++ [k]).length = p.length + 1 := by simp
        have hpk2 : ∀ j, j ∈ p ++ [k] → j < spools.length := fun j hj => by
          rcases List.mem_append.1 hj with h | h
          · exact HPK.out j h
          · rw [List.mem_singleton.1 h]; exact hlt
        have hsc := runK_succ (stepS needs spools) spools.length d p st k
        have hcap : p.length + 1 ≤ L := by have := E0.out; omega
        have HC := Lib.hid hC; have HOWN := Lib.hid hown; have HLEN := Lib.hid hlen; have HPK2 := Lib.hid hpk2; have HSC := Lib.hid hsc; clear hC hown hlen hpk2 hsc
        obtain ⟨i0, hi, hz0, hz1, hz2⟩ := info_parts info_int_Try
        have HI := Lib.hid hi
        have HZ1 := Lib.hid hz1
        clear hi hz0 hz1 hz2
        go_wp2_with (
          at_builtin
          go_must (refine wpList_append_fits _ (by rfl) _ _ 23 (by rfl) w2.heap.size 3 i0 1 Try.underlying23 HI.out HZ1.out Pl p.length L (ints (nats p)) (by rfl) HOWN.out ⟨wr.heap.size, 0, none⟩ 1 1 [.int .i64 (k : Int)] (by rfl) rfl (World.news_of_block (heap_alloc_new _ _)) (ints_one [(k : Int)]) hcap ?_)
          intro w3 ho3 hg3
          have hC3 := HC.out.ext _ hg3 ho3
          have hcall := HREC.out (p ++ [k]) _ w3 (by have := HPL.out; have := HLEN.out; omega) HPK2.out ⟨bv, hC3⟩ (.inr hL0)
          rw [HLEN.out] at hcall
          clear ho3 hg3
          have HC3 := Lib.hid hC3; have HCALL := Lib.hid hcall; clear hC3 hcall
          skip)
        refine HCALL.out.mono ?_
        rintro e w4 ⟨rfl, bv4, hC4⟩
        have hC5 := hC4.back
        rw [← HSC.out] at hC5
        clear hC4
        have HC5 := Lib.hid hC5; clear hC5
        go_wp2
        go_roundw
        case rel => exact ⟨k + 1, by go_num, by omega, bv4, HC5.out⟩
        case measure => simp [intOf]; omega
      · have hkn : k = spools.length := by omega
        rw [hkn] at hC
        have x3 : ¬ (k : Int) < (spools.length : Int) := by omega
        have HC := Lib.hid hC; have HKN := Lib.hid hkn; clear hC hkn
        go_wp2
        refine bodyPost_end (results_none rfl _ _ _) rfl ?_
        exact ⟨rfl, bv, HC.out⟩
end Go.Proofs.Ytdimaapiloojeaa
/- Spools. -/
namespace Go.Proofs.Ytdimaapiloojeaa
open Go.RowKit

theorem wrg_ok {needs spools : List Int} (h : wrgE needs spools = 0) : needs.length ≤ 8 ∧ spools.length ≤ 6 ∧ (∀ x, x ∈ needs → 1 ≤ x ∧ x ≤ 1000000000000) ∧ (∀ x, x ∈ spools → 1 ≤ x ∧ x ≤ 1000000000000) := by
  unfold wrgE at h
  split at h
  · omega
  · split at h
    · omega
    · rename_i h1 h2
      have h3 : ∀ xs : List Int, ¬ xs.any wrgI = true → ∀ x, x ∈ xs → 1 ≤ x ∧ x ≤ 1000000000000 := fun xs hx x hm => by
        have : wrgI x = false := by
          cases hw : wrgI x with
          | false => rfl
          | true => exact absurd (List.any_eq_true.2 ⟨x, hm, hw⟩) hx
        exact outR_no this
      exact ⟨by omega, by omega, h3 _ fun h => h2 (.inl h), h3 _ fun h => h2 (.inr h)⟩
/-- The error of Spools. -/
noncomputable def spE (needs spools : List Int) : Int := if wrgE needs spools ≠ 0 then wrgE needs spools else if (spO needs spools).best = none ∧ 0 < needs.length then 4 else 0
/-- The plan of Spools. -/
noncomputable def spL (needs spools : List Int) : List Nat := if wrgE needs spools = 0 then (spO needs spools).best.getD [] else []
theorem gb_none {w w' : World} (h : w.grownBy w' none) : Below w.heap.size w w' := (Below.refl _ _).grown h (Nat.le_refl _) (fun k hk => by cases hk)
set_option maxRecDepth 100000 in
set_option maxHeartbeats 4000000 in
theorem bSpools_ (NA SA : Option Addr) (nc sc : Nat) (needs spools : List Int) (w : World) (hn : RdI w NA needs) (hs : RdI w SA spools) :
    Calls Try.prog 11 #[.slice NA needs.length nc, .slice SA spools.length sc] w (OListPost (nats (spL needs spools)) (spE needs spools) w) := by
  obtain ⟨E, hE⟩ : ∃ E, E = spE needs spools := ⟨_, rfl⟩
  obtain ⟨l, hl⟩ : ∃ l, l = spL needs spools := ⟨_, rfl⟩
  have HEQ := Lib.hid hE
  have HLQ := Lib.hid hl
  unfold spE at hE
  unfold spL at hl
  have HN := Lib.hid hn; have HS := Lib.hid hs; clear hn hs
  go_enter Try.func11, Try.ntmps11
  go_wp2_with fail
  refine (bWrong_ NA SA nc sc needs spools _ HN.out HS.out).mono ?_
  rintro e w2 ⟨rfl, hb2⟩
  have hok := @wrg_ok needs spools
  by_cases hz : wrgE needs spools = 0
  rotate_left
  · rw [if_pos hz] at hE
    rw [if_neg hz] at hl
    generalize wrgE needs spools = E0 at *
    have e1 : (E0 == 0) = false := by rw [beq_eq_false_iff_ne]; exact hz
    have e2 : (E0 != 0) = true := by simp [hz]
    have ho := own_nilI w2 w.heap.size 3
    have HB2 := Lib.hid hb2; have HE := Lib.hid hE; have HL := Lib.hid hl; have HZ := Lib.hid hz; have HOK := Lib.hid hok; have HO := Lib.hid ho; clear hb2 hE hl hz hok ho
    go_wp2
    go_ret2
    rw [← HLQ.out, ← HEQ.out, HL.out, HE.out]
    exact ⟨_, rfl, HO.out, HB2.out⟩
  rw [if_neg (fun h => h hz)] at hE
  rw [if_pos hz] at hl
  obtain ⟨hn8, hs6, hnr, hsr⟩ := hok hz
  clear hok
  rw [hz]
  have hrn := HN.out.later hb2 (Nat.le_refl _)
  have hrs := HS.out.later hb2 (Nat.le_refl _)
  have HB2 := Lib.hid hb2; have HE := Lib.hid hE; have HL := Lib.hid hl; have HZ := Lib.hid hz; have HNR := Lib.hid hnr; have HSR := Lib.hid hsr; have HRN := Lib.hid hrn; have HRS := Lib.hid hrs; clear hb2 hE hl hz hnr hsr hrn hrs
  go_upto_region 5 with fail
  obtain ⟨w3, hw3⟩ : ∃ w3, w3 = w2.alloc (.cells #[.slice NA needs.length nc, .slice SA spools.length sc, .slice none 0 0, .int .i64 0, .int .i64 0] 63) := ⟨_, rfl⟩
  have hx3 : w3.heap[w2.heap.size]? = some (.cells #[.slice NA needs.length nc, .slice SA spools.length sc, .slice none 0 0, .int .i64 0, .int .i64 0] 63 (0, 0)) := by rw [hw3]; exact heap_alloc_new _ _
  have hb3 : Below w2.heap.size w2 w3 := by rw [hw3]; exact (Below.refl _ _).alloc (Nat.le_refl _) _
  rw [← hw3]
  clear hw3
  obtain ⟨i0, hi, hz0, hz1, hz2⟩ := info_parts info_int_Try
  have HI := Lib.hid hi
  have HZ0 := Lib.hid hz0
  have HZ1 := Lib.hid hz1
  have HZ2 := Lib.hid hz2
  clear hi hz0 hz1 hz2
  have l3 := lt_of_block hx3
  have hsz3 := hb3.size
  have HX3 := Lib.hid hx3; have HB3 := Lib.hid hb3; clear hx3 hb3
  go_wp2_with (
    at_make
    go_must (refine wpList_make_own _ (by rfl) _ _ 23 (by rfl) w2.heap.size 3 i0 (.int .i64 0) 1 Try.underlying23 HI.out HZ0.out HZ1.out .i64 .i64 (needs.length : Int) needs.length (by rfl) (by rfl) rfl (by rw [HZ2.out]; omega) (by unfold maxLen; omega) hsz3 ?_)
    intro w4 ho4 hg4
    have hb4 := gb_none hg4
    have hx4 := (hb4.block _ l3).trans HX3.out
    have hC : ShC w2 w4 w2.heap.size w3.heap.size needs.length NA SA nc sc needs spools ⟨none, 0, 0⟩ [] (.slice none 0 0) := ⟨HB3.out.trans (hb4.mono hsz3), hx4, .inl ⟨rfl, rfl⟩, ho4, Nat.le_refl _⟩
    have hcall := each_ w2 w2.heap.size w3.heap.size needs.length NA SA nc sc needs spools HRN.out HRS.out rfl hn8 hs6 HNR.out HSR.out needs.length [] ⟨none, 0, 0⟩ w4 (by simp) (fun k hk => absurd hk (by simp)) ⟨_, hC⟩ (.inl rfl)
    rw [show ([] : List Nat).length = 0 from rfl] at hcall
    clear ho4 hg4 hb4 hx4
    have HC := Lib.hid hC; have HCALL := Lib.hid hcall; clear hC hcall
    skip)
  refine HCALL.out.mono ?_
  rintro e w5 ⟨rfl, bv, hC5⟩
  have hspo : runE (stepS needs spools) spools.length needs.length [] ⟨none, 0, 0⟩ = spO needs spools := rfl
  rw [hspo] at hC5
  clear hspo
  have c0 := cell_of_row _ _ 2 _ _ _ hC5.hx
  simp only [List.getElem?_toArray, List.getElem?_cons_zero, List.getElem?_cons_succ] at c0
  have l0 := lt_of_block hC5.hx
  have hb5 := HB2.out.trans (hC5.hb.mono HB2.out.size)
  have hs2 := HB2.out.size
  have hnl := fun (B : Option Addr) (n c : Nat) (W : World) => Lib.run_eql_slice_nil (P := Try.prog) W 23 3 B n c 0 0 Try.underlying23
  rcases hC5.best with ⟨hb0, rfl⟩ | ⟨q, hq, hqL, hqo, hqn⟩
  · have hnl2 : ∀ W, (binOp .eql 23 (.slice none 0 0) (.slice none 0 0)).run Try.prog W = .ok (.bool true) W := fun W => hnl none 0 0 W
    have hl2 : l = [] := by rw [HL.out, hb0]; rfl
    have ho := own_nilI w5 w.heap.size 3
    clear hnl
    by_cases hn0 : 0 < needs.length
    · have d1 : decide ((0 : Int) < (needs.length : Int)) = true := decide_eq_true (by omega)
      have d2 : decide (0 < needs.length) = true := decide_eq_true hn0
      have hE2 : E = 4 := by rw [HE.out, if_pos ⟨hb0, hn0⟩]
      have HC5 := Lib.hid hC5; have HB5 := Lib.hid hb5; have HB0 := Lib.hid hb0; have HL2 := Lib.hid hl2; have HE2 := Lib.hid hE2; have HO := Lib.hid ho; clear hC5 hb5 hb0 hl2 hE2 ho
      go_wp2
      go_ret2
      rw [← HLQ.out, ← HEQ.out, HL2.out, HE2.out]
      exact ⟨_, rfl, HO.out, HB5.out⟩
    · have d1 : decide ((0 : Int) < (needs.length : Int)) = false := decide_eq_false (by omega)
      have d2 : decide (0 < needs.length) = false := decide_eq_false hn0
      have hE2 : E = 0 := by rw [HE.out, if_neg (fun h => hn0 h.2)]
      have HC5 := Lib.hid hC5; have HB5 := Lib.hid hb5; have HB0 := Lib.hid hb0; have HL2 := Lib.hid hl2; have HE2 := Lib.hid hE2; have HO := Lib.hid ho; clear hC5 hb5 hb0 hl2 hE2 ho
      go_wp2
      go_ret2
      rw [← HLQ.out, ← HEQ.out, HL2.out, HE2.out]
      exact ⟨_, rfl, HO.out, HB5.out⟩
  · have hl2 : l = q := by rw [HL.out, hq]; rfl
    have hE2 : E = 0 := by rw [HE.out, if_neg (fun h => by have := h.1; rw [hq] at this; cases this)]
    have ho : w5.ownsRow w.heap.size 3 1 bv (nats q).length (ints (nats q)) := by rw [nats_len]; exact own_base hqo hs2
    by_cases hn0 : 0 < needs.length
    · obtain ⟨gb, cb, rfl, _, hgb⟩ := hqo.form (by omega)
      have hnl2 : ∀ W, (binOp .eql 23 (.slice (some ⟨gb, 0, none⟩) q.length cb) (.slice none 0 0)).run Try.prog W = .ok (.bool false) W := fun W => hnl _ _ _ W
      clear hnl
      have HC5 := Lib.hid hC5; have HB5 := Lib.hid hb5; have HQ := Lib.hid hq; have HQL := Lib.hid hqL; have HQO := Lib.hid hqo; have HQN := Lib.hid hqn; have HL2 := Lib.hid hl2; have HE2 := Lib.hid hE2; have HO := Lib.hid ho; clear hC5 hb5 hq hqL hqo hqn hl2 hE2 ho
      go_wp2
      go_ret2
      rw [← HLQ.out, ← HEQ.out, HL2.out, HE2.out]
      exact ⟨_, rfl, HO.out, HB5.out⟩
    · have d1 : decide ((0 : Int) < (needs.length : Int)) = false := decide_eq_false (by omega)
      have d2 : decide (0 < needs.length) = false := decide_eq_false hn0
      obtain ⟨BA, bc, rfl⟩ := own_slice1 hqo
      cases BA with
      | none =>
        have hnl2 : ∀ W, (binOp .eql 23 (.slice none q.length bc) (.slice none 0 0)).run Try.prog W = .ok (.bool true) W := fun W => hnl _ _ _ W
        clear hnl
        have HC5 := Lib.hid hC5; have HB5 := Lib.hid hb5; have HQ := Lib.hid hq; have HQL := Lib.hid hqL; have HQO := Lib.hid hqo; have HQN := Lib.hid hqn; have HL2 := Lib.hid hl2; have HE2 := Lib.hid hE2; have HO := Lib.hid ho; clear hC5 hb5 hq hqL hqo hqn hl2 hE2 ho
        go_wp2
        go_ret2
        rw [← HLQ.out, ← HEQ.out, HL2.out, HE2.out]
        exact ⟨_, rfl, HO.out, HB5.out⟩
      | some ad =>
        have hnl2 : ∀ W, (binOp .eql 23 (.slice (some ad) q.length bc) (.slice none 0 0)).run Try.prog W = .ok (.bool false) W := fun W => hnl _ _ _ W
        clear hnl
        have HC5 := Lib.hid hC5; have HB5 := Lib.hid hb5; have HQ := Lib.hid hq; have HQL := Lib.hid hqL; have HQO := Lib.hid hqo; have HQN := Lib.hid hqn; have HL2 := Lib.hid hl2; have HE2 := Lib.hid hE2; have HO := Lib.hid ho; clear hC5 hb5 hq hqL hqo hqn hl2 hE2 ho
        go_wp2
        go_ret2
        rw [← HLQ.out, ← HEQ.out, HL2.out, HE2.out]
        exact ⟨_, rfl, HO.out, HB5.out⟩
end Go.Proofs.Ytdimaapiloojeaa
/- Rest. -/
namespace Go.Proofs.Ytdimaapiloojeaa
open Go.RowKit

theorem nats_of {plan : List Int} {S : Nat} (h : plan.any (offI S) = false) : ∃ pl : List Nat, plan = nats pl ∧ ∀ k, k ∈ pl → k < S := by
  have h1 : ∀ x, x ∈ plan → 0 ≤ x ∧ x < (S : Int) := fun x hx => by
    have : offI S x = false := by
      cases hw : offI S x with
      | false => rfl
      | true => rw [List.any_eq_true.2 ⟨x, hx, hw⟩] at h; cases h
    unfold offI at this
    simp at this
    omega
  refine ⟨plan.map Int.toNat, ?_, fun k hk => ?_⟩
  · unfold nats
    rw [List.map_map]
    exact ((List.map_congr_left (g := id) fun x hx => by have := h1 x hx; simp; omega).trans (List.map_id _)).symm
  · obtain ⟨x, hx, rfl⟩ := List.mem_map.1 hk
    have := h1 x hx
    omega
theorem nats_toNat (pl : List Nat) : (nats pl).map Int.toNat = pl := by
  unfold nats
  rw [List.map_map]
  exact (List.map_congr_left (g := id) fun x _ => by simp).trans (List.map_id _)
/-- What is left of the spools. -/
def leftL (needs spools plan : List Int) : List Int := lfl needs spools (plan.map Int.toNat) needs.length
def rsE (needs spools plan : List Int) : Int := if wrgE needs spools ≠ 0 then wrgE needs spools else if plan.length ≠ needs.length ∨ plan.any (offI spools.length) = true then 2 else if (leftL needs spools plan).any negI = true then 9 else 0
def rsL (needs spools plan : List Int) : List Int := if rsE needs spools plan = 0 then leftL needs spools plan else []
def LListPost (l : List Int) (x : Int) (w : World) (e : Ending) (w' : World) : Prop := ∃ v, e = .returned (.tuple #[v, .int .i64 x]) ∧ w'.ownsRow w.heap.size 2 1 v l.length (ints l) ∧ Below w.heap.size w w'
set_option maxRecDepth 100000 in
set_option maxHeartbeats 4000000 in
theorem bRest_ (NA SA PA : Option Addr) (nc sc pc : Nat) (needs spools plan : List Int) (w : World) (hn : RdI w NA needs) (hs : RdI w SA spools) (hp : RdI w PA plan) :
    Calls Try.prog 13 #[.slice NA needs.length nc, .slice SA spools.length sc, .slice PA plan.length pc] w (LListPost (rsL needs spools plan) (rsE needs spools plan) w) := by
  have hpl := hp.1
  obtain ⟨w1, hw1⟩ : ∃ w1, w1 = w.alloc (.cells #[.slice SA spools.length sc] 22) := ⟨_, rfl⟩
  have hb1 : Below w.heap.size w w1 := by rw [hw1]; exact (Below.refl _ _).alloc (Nat.le_refl _) _
  have hx1 : w1.heap[w.heap.size]? = some (.cells #[.slice SA spools.length sc] 22 (0, 0)) := by rw [hw1]; exact heap_alloc_new _ _
  obtain ⟨E, hE⟩ : ∃ E, E = rsE needs spools plan := ⟨_, rfl⟩
  obtain ⟨l, hl⟩ : ∃ l, l = rsL needs spools plan := ⟨_, rfl⟩
  have HEQ := Lib.hid hE
  have HLQ := Lib.hid hl
  unfold rsL at hl
  rw [← hE] at hl
  unfold rsE at hE
  have hn1 := hn.later hb1 (Nat.le_refl _)
  have hs1 := hs.later hb1 (Nat.le_refl _)
  have hp1 := hp.later hb1 (Nat.le_refl _)
  have HN := Lib.hid hn; have HS := Lib.hid hs; have HP := Lib.hid hp; have HW1 := Lib.hid hw1; have HB1 := Lib.hid hb1; have HX1 := Lib.hid hx1; have HN1 := Lib.hid hn1; have HS1 := Lib.hid hs1; have HP1 := Lib.hid hp1; clear hn hs hp hw1 hb1 hx1 hn1 hs1 hp1
  go_enter Try.func13, Try.ntmps13
  go_upto_region 1 with fail
  rw [← HW1.out]
  have c0 := cell_of_row _ _ 0 _ _ _ HX1.out
  simp only [List.getElem?_toArray, List.getElem?_cons_zero] at c0
  have l0 := lt_of_block HX1.out
  go_wp2_with fail
  refine (bWrong_ NA SA nc sc needs spools _ HN1.out HS1.out).mono ?_
  rintro e w2 ⟨rfl, b2⟩
  have hb2 := HB1.out.trans (b2.mono HB1.out.size)
  have hx2 := (b2.block _ (lt_of_block HX1.out)).trans HX1.out
  have hn2 := HN1.out.later b2 (Nat.le_refl _)
  have hs2 := HS1.out.later b2 (Nat.le_refl _)
  have hp2 := HP1.out.later b2 (Nat.le_refl _)
  clear b2 c0 l0
  have hok := @wrg_ok needs spools
  by_cases hz : wrgE needs spools = 0
  rotate_left
  · rw [if_pos hz] at hE
    generalize wrgE needs spools = E0 at *
    have e1 : (E0 == 0) = false := by rw [beq_eq_false_iff_ne]; exact hz
    have e2 : (E0 != 0) = true := by simp [hz]
    rw [if_neg (by omega)] at hl
    have ho := own_nilI w2 w.heap.size 2
    have HB2 := Lib.hid hb2; have HX2 := Lib.hid hx2; have HN2 := Lib.hid hn2; have HS2 := Lib.hid hs2; have HP2 := Lib.hid hp2; have HE := Lib.hid hE; have HL := Lib.hid hl; have HZ := Lib.hid hz; have HOK := Lib.hid hok; have HO := Lib.hid ho; clear hb2 hx2 hn2 hs2 hp2 hE hl hz hok ho
    go_wp2
    go_ret2
    rw [← HLQ.out, ← HEQ.out, HL.out, HE.out]
    exact ⟨_, rfl, HO.out, HB2.out⟩
  rw [if_neg (fun h => h hz)] at hE
  obtain ⟨hn8, hs6, hnr, hsr⟩ := hok hz
  clear hok
  rw [hz]
  by_cases hlen : plan.length = needs.length
  rotate_left
  · have q1 : (plan.length == needs.length) = false := by rw [beq_eq_false_iff_ne]; exact hlen
    have q2 : ((plan.length : Int) == (needs.length : Int)) = false := by rw [beq_eq_false_iff_ne]; omega
    have q3 : ((plan.length : Int) != (needs.length : Int)) = true := by rw [bne, q2]; rfl
    have q4 : (plan.length != needs.length) = true := by rw [bne, q1]; rfl
    rw [if_pos (.inl hlen)] at hE
    rw [if_neg (by omega)] at hl
    have ho := own_nilI w2 w.heap.size 2
    have HB2 := Lib.hid hb2; have HX2 := Lib.hid hx2; have HN2 := Lib.hid hn2; have HS2 := Lib.hid hs2; have HP2 := Lib.hid hp2; have HE := Lib.hid hE; have HL := Lib.hid hl; have HZ := Lib.hid hz; have HNR := Lib.hid hnr; have HSR := Lib.hid hsr; have HO := Lib.hid ho; have HLEN := Lib.hid hlen; clear hb2 hx2 hn2 hs2 hp2 hE hl hz hnr hsr ho hlen
    go_wp2
    go_ret2
    rw [← HLQ.out, ← HEQ.out, HL.out, HE.out]
    exact ⟨_, rfl, HO.out, HB2.out⟩
  have q1 : (plan.length == needs.length) = true := by rw [hlen]; simp
  have q2 : ((plan.length : Int) == (needs.length : Int)) = true := by rw [hlen]; simp
  have q3 : ((plan.length : Int) != (needs.length : Int)) = false := by rw [bne, q2]; rfl
  have q4 : (plan.length != needs.length) = false := by rw [bne, q1]; rfl
  have hcont := contK_ w.heap.size spools.length sc SA PA pc plan w2 hp2 hx2
  have hnat := @nats_of plan spools.length
  obtain ⟨ob, hob⟩ : ∃ ob, ob = plan.any (offI spools.length) := ⟨_, rfl⟩
  rw [← hob] at hE hcont hnat
  cases ob with
  | true =>
    rw [if_pos (.inr rfl)] at hE
    rw [if_neg (by omega)] at hl
    have HB2 := Lib.hid hb2; have HX2 := Lib.hid hx2; have HN2 := Lib.hid hn2; have HS2 := Lib.hid hs2; have HP2 := Lib.hid hp2; have HE := Lib.hid hE; have HL := Lib.hid hl; have HZ := Lib.hid hz; have HNR := Lib.hid hnr; have HSR := Lib.hid hsr; have HLEN := Lib.hid hlen; have HCONT := Lib.hid hcont; have HNAT := Lib.hid hnat; have HOB := Lib.hid hob; clear hb2 hx2 hn2 hs2 hp2 hE hl hz hnr hsr hlen hcont hnat hob
    go_wp2_with fail
    refine HCONT.out.mono ?_
    rintro e w3 ⟨rfl, b3⟩
    have hb3 := HB2.out.trans (b3.mono HB2.out.size)
    clear b3
    have ho := own_nilI w3 w.heap.size 2
    have HB3 := Lib.hid hb3; have HO := Lib.hid ho; clear hb3 ho
    go_wp2
    go_ret2
    rw [← HLQ.out, ← HEQ.out, HL.out, HE.out]
    exact ⟨_, rfl, HO.out, HB3.out⟩
  | false =>
    rw [if_neg (by rintro (h | h); exact h hlen; cases h)] at hE
    obtain ⟨pl, rfl, hpk⟩ := hnat rfl
    unfold leftL at hE hl
    rw [nats_toNat] at hE hl
    rw [nats_len] at *
    have hpl8 : pl.length ≤ 8 := by omega
    have HB2 := Lib.hid hb2; have HX2 := Lib.hid hx2; have HN2 := Lib.hid hn2; have HS2 := Lib.hid hs2; have HP2 := Lib.hid hp2; have HE := Lib.hid hE; have HL := Lib.hid hl; have HZ := Lib.hid hz; have HNR := Lib.hid hnr; have HSR := Lib.hid hsr; have HLEN := Lib.hid hlen; have HCONT := Lib.hid hcont; have HOB := Lib.hid hob; have HPK := Lib.hid hpk; clear hb2 hx2 hn2 hs2 hp2 hE hl hz hnr hsr hlen hcont hob hpk
    go_wp2_with fail
    refine HCONT.out.mono ?_
    rintro e w3 ⟨rfl, b3⟩
    have hb3 := HB2.out.trans (b3.mono HB2.out.size)
    have hx3 := (b3.block _ (lt_of_block HX2.out)).trans HX2.out
    have hn3 := HN2.out.later b3 (Nat.le_refl _)
    have hs3 := HS2.out.later b3 (Nat.le_refl _)
    have hp3 := HP2.out.later b3 (Nat.le_refl _)
    clear b3
    have c0 := cell_of_row _ _ 0 _ _ _ hx3
    simp only [List.getElem?_toArray, List.getElem?_cons_zero] at c0
    have l0 := lt_of_block hx3
    have hclone := CloneL_ SA sc spools w3 (by omega) hs3
    have HB3 := Lib.hid hb3; have HX3 := Lib.hid hx3; have HN3 := Lib.hid hn3; have HS3 := Lib.hid hs3; have HP3 := Lib.hid hp3; have HCLONE := Lib.hid hclone; clear hb3 hx3 hn3 hs3 hp3 hclone
    go_wp2_with fail
    refine HCLONE.out.mono ?_
    rintro e w4 ⟨LA, lc, rfl, hown, b4⟩
    have hown2 : w4.ownsRow w3.heap.size 2 1 (.slice LA spools.length lc) spools.length (ints (lfl needs spools pl 0)) := by rw [lfl_0]; exact hown
    clear hown c0 l0
    have HOWN2 := Lib.hid hown2; have B4 := Lib.hid b4; clear hown2 b4
    go_wp2
    go_loopw [10, 11, 32] (fun _ _ iv wr => ∃ i : Nat, iv = .int .i64 (i : Int) ∧ i ≤ pl.length ∧ wr.ownsRow w3.heap.size 2 1 (.slice LA spools.length lc) spools.length (ints (lfl needs spools pl i)) ∧ Below w3.heap.size w3 wr) (fun _ _ iv _ => pl.length - (intOf iv).toNat)
    case atStart => exact ⟨0, rfl, Nat.zero_le _, HOWN2.out, B4.out⟩
    case round =>
      clear HOWN2 B4
      obtain ⟨i, rfl, hi, hown, hbw⟩ := hrel
      by_cases hlt : i < pl.length
      · have hmem : pl[i] ∈ pl := List.getElem_mem hlt
        have hks := HPK.out _ hmem
        have hgd : pl.getD i 0 = pl[i] := by simp [List.getD_eq_getElem?_getD, hlt]
        obtain ⟨bl, ol, rfl, hbl, l1⟩ := (HP3.out.later hbw (Nat.le_refl _)).at_ (k := i) (by rw [nats_len]; exact hlt)
        rw [nats_get pl hlt] at l1
        have hin : i < needs.length := by have := HLEN.out; omega
        obtain ⟨bn, on, rfl, hbn, l2⟩ := (HN3.out.later hbw (Nat.le_refl _)).at_ hin
        have hng : needs.getD i 0 = needs[i] := by simp [List.getD_eq_getElem?_getD, hin]
        have hnrg := HNR.out _ (List.getElem_mem hin)
        have hset := lfl_set needs spools pl i hgd
        have hget := lfl_get needs spools pl i hks
        have hrng := lft_rng (plan := pl) HNR.out HSR.out i pl[i]
        rw [hng] at hset
        obtain ⟨g, cap, hv, hgw, hgl⟩ := hown.form (by omega)
        injection hv with hv1 hv2 hv3
        subst hv1
        subst hv3
        have c3 := hown.cellAt pl[i] (by omega)
        have f3 := hown.frozenAt pl[i]
        have hstd := fun z => (show wr.drew.ownsRow w3.heap.size 2 1 (.slice (some ⟨g, 0, none⟩) spools.length _) spools.length (ints (lfl needs spools pl i)) from hown).stored pl[i] (.int .i64 z)
        rw [hget] at c3
        generalize pl[i] = k at *
        generalize needs[i] = nd at *
        generalize lftF needs spools pl i k = lv at *
        have hwr : IntKind.i64.wrap (lv - nd) = lv - nd := IntWalk.i64_in _ (by omega)
        have x1 : (0 : Int) ≤ (i : Int) := by omega
        have x2 : (i : Int) < (pl.length : Int) := by omega
        have x3 : (0 : Int) ≤ (k : Int) := by omega
        have x4 : (k : Int) < (spools.length : Int) := by omega
        have x5 : (i : Int) < (needs.length : Int) := by omega
        have HOWN := Lib.hid hown; have HBW := Lib.hid hbw; have HMEM := Lib.hid hmem; have HGD := Lib.hid hgd; have HNG := Lib.hid hng; have HSET := Lib.hid hset; have HGET := Lib.hid hget; have HRNG := Lib.hid hrng; have HSTD := Lib.hid hstd; have HNRG := Lib.hid hnrg; clear hown hbw hmem hgd hng hset hget hrng hstd hnrg
        go_upto_region 10 with fail
        go_still_tail 10, (by kernel_rfl)
        change wpList _ _ _ _ _ wr.drew
        go_wp2
        go_roundw
        case rel => exact ⟨i + 1, by go_num, by omega, by rw [← HSET.out]; exact (HSTD.out _).1, HBW.out.drew.setCell (p := ⟨g, k, none⟩) hgw _⟩
        case measure => simp [intOf]; omega
      · have hin : i = needs.length := by have := HLEN.out; omega
        rw [hin] at hown
        have hb9 := HB3.out.trans (hbw.mono HB3.out.size)
        have hs9 := HB3.out.size
        have hrl : RdI wr LA (lfl needs spools pl needs.length) := rdI_of_own9 hown (by rw [lfl_len]; omega)
        have hcd := contD_ LA lc (lfl needs spools pl needs.length) wr hrl
        rw [lfl_len] at hcd
        obtain ⟨nb, hnb⟩ : ∃ nb, nb = (lfl needs spools pl needs.length).any negI := ⟨_, rfl⟩
        have hE1 := HE.out
        rw [← hnb] at hcd hE1
        obtain ⟨w5, rfl⟩ : ∃ w5, w5 = wr := ⟨_, rfl⟩
        cases nb with
        | true =>
          have hE2 : E = 9 := by rw [hE1]; rfl
          have hl2 : l = [] := by rw [HL.out, if_neg (by omega)]
          have HOWN := Lib.hid hown; have HBW := Lib.hid hbw; have HIN := Lib.hid hin; have HB9 := Lib.hid hb9; have HRL := Lib.hid hrl; have HCD := Lib.hid hcd; have HNB := Lib.hid hnb; have HE1 := Lib.hid hE1; have HE2 := Lib.hid hE2; have HL2 := Lib.hid hl2; clear hown hbw hin hb9 hrl hcd hnb hE1 hE2 hl2
          go_wp2_with fail
          refine HCD.out.mono ?_
          rintro e w6 ⟨rfl, b6⟩
          have hb6 := HB9.out.trans (b6.mono HB9.out.size)
          clear b6
          have ho := own_nilI w6 w.heap.size 2
          have HB6 := Lib.hid hb6; have HO := Lib.hid ho; clear hb6 ho
          go_wp2
          go_ret2
          rw [← HLQ.out, ← HEQ.out, HL2.out, HE2.out]
          exact ⟨_, rfl, HO.out, HB6.out⟩
        | false =>
          have hE2 : E = 0 := by rw [hE1]; rfl
          have hl2 : l = lfl needs spools pl needs.length := by rw [HL.out, if_pos hE2]
          have HOWN := Lib.hid hown; have HBW := Lib.hid hbw; have HIN := Lib.hid hin; have HB9 := Lib.hid hb9; have HRL := Lib.hid hrl; have HCD := Lib.hid hcd; have HNB := Lib.hid hnb; have HE1 := Lib.hid hE1; have HE2 := Lib.hid hE2; have HL2 := Lib.hid hl2; clear hown hbw hin hb9 hrl hcd hnb hE1 hE2 hl2
          go_wp2_with fail
          refine HCD.out.mono ?_
          rintro e w6 ⟨rfl, b6⟩
          have hb6 := HB9.out.trans (b6.mono HB9.out.size)
          have ho := own_base (base' := w.heap.size) (own_below3 HOWN.out b6) hs9
          have ho2 : w6.ownsRow w.heap.size 2 1 (.slice LA spools.length lc) (lfl needs spools pl needs.length).length (ints (lfl needs spools pl needs.length)) := by rw [lfl_len]; exact ho
          clear b6 ho
          have HB6 := Lib.hid hb6; have HO2 := Lib.hid ho2; clear hb6 ho2
          go_wp2
          go_ret2
          rw [← HLQ.out, ← HEQ.out, HL2.out, HE2.out]
          exact ⟨_, rfl, HO2.out, HB6.out⟩
end Go.Proofs.Ytdimaapiloojeaa
/- The reference's Plan; total. -/
namespace Go.Proofs.Ytdimaapiloojeaa
open Go.RowKit

/-- These numbers are a plan. -/
def PlT (needs spools plan : List Int) : Prop := plan.length = needs.length ∧ plan.any (offI spools.length) = false ∧ GoodP needs spools (plan.map Int.toNat)
def PlanPost (needs spools plan : List Int) (w : World) (e : Ending) (w' : World) : Prop :=
  (PlT needs spools plan → e = .returned (.tuple #[.int .i64 (begP needs spools (plan.map Int.toNat)), .int .i64 (lonP needs spools (plan.map Int.toNat)), .bool true])) ∧ (¬ PlT needs spools plan → e = .returned (.tuple #[.int .i64 0, .int .i64 0, .bool false])) ∧ Below w.heap.size w w'
set_option maxRecDepth 100000 in
set_option maxHeartbeats 4000000 in
theorem rPlan20_ (NA SA PA : Option Addr) (nc sc pc : Nat) (needs spools plan : List Int) (w : World) (hn : RdI w NA needs) (hs : RdI w SA spools) (hp : RdI w PA plan) (hn8 : needs.length ≤ 8) (hs6 : spools.length ≤ 6)
    (hnr : ∀ x, x ∈ needs → 1 ≤ x ∧ x ≤ 1000000000000) (hsr : ∀ x, x ∈ spools → 1 ≤ x ∧ x ≤ 1000000000000) :
    Calls Try.prog 12 #[.slice NA needs.length nc, .slice SA spools.length sc, .slice PA plan.length pc] w (PlanPost needs spools plan w) := by
  have hpl := hp.1
  have hb := Below.refl w.heap.size w
  by_cases hlen : plan.length = needs.length
  rotate_left
  · have q1 : (plan.length == needs.length) = false := by rw [beq_eq_false_iff_ne]; exact hlen
    have q2 : ((plan.length : Int) == (needs.length : Int)) = false := by rw [beq_eq_false_iff_ne]; omega
    have q3 : ((plan.length : Int) != (needs.length : Int)) = true := by rw [bne, q2]; rfl
    have q4 : (plan.length != needs.length) = true := by rw [bne, q1]; rfl
    have hno : ¬ PlT needs spools plan := fun h => hlen h.1
    have HN := Lib.hid hn; have HS := Lib.hid hs; have HP := Lib.hid hp; have HB := Lib.hid hb; have HNR := Lib.hid hnr; have HSR := Lib.hid hsr; have HLEN := Lib.hid hlen; have HNO := Lib.hid hno; clear hn hs hp hb hnr hsr hlen hno
    go_enter Try.func12, Try.ntmps12
    go_wp2
    go_ret3
    exact ⟨fun h => absurd h HNO.out, fun _ => rfl, HB.out⟩
  have q1 : (plan.length == needs.length) = true := by rw [hlen]; simp
  have q2 : ((plan.length : Int) == (needs.length : Int)) = true := by rw [hlen]; simp
  have q3 : ((plan.length : Int) != (needs.length : Int)) = false := by rw [bne, q2]; rfl
  have q4 : (plan.length != needs.length) = false := by rw [bne, q1]; rfl
  have hp8 : plan.length ≤ 8 := by omega
  have hmk := run_make_row' (P := Try.prog) 22 2 (.int .i64 0) 8 Try.underlying22 info_i64_Try rfl .i64 .i64 spools.length (by omega) (by omega)
  obtain ⟨pl, hple⟩ : ∃ pl, pl = plan.map Int.toNat := ⟨_, rfl⟩
  have hbw := (Below.refl w.heap.size w).alloc (Nat.le_refl _) (.cells (madeCells #[.int .i64 0] spools.length) 2)
  have hU : BI (w.alloc (.cells (madeCells #[.int .i64 0] spools.length) 2)) w.heap.size 2 spools.length (fun k => usdF needs pl k 0) := bI_zero w spools.length 2
  have HN := Lib.hid hn; have HS := Lib.hid hs; have HP := Lib.hid hp; have HB := Lib.hid hb; have HNR := Lib.hid hnr; have HSR := Lib.hid hsr; have HLEN := Lib.hid hlen; have HPLE := Lib.hid hple; have HBW := Lib.hid hbw; have HU := Lib.hid hU; clear hn hs hp hb hnr hsr hlen hple hbw hU
  go_enter Try.func12, Try.ntmps12
  go_wp2
  clear q1 q2 q3 q4 hmk
  go_loopw [10] (fun iv wr => ∃ i : Nat, iv = .int .i64 (i : Int) ∧ i ≤ plan.length ∧ (∀ j (hj : j < plan.length), j < i → offI spools.length plan[j] = false) ∧ BI wr w.heap.size 2 spools.length (fun k => usdF needs pl k i) ∧ Below w.heap.size w wr) (fun iv _ => plan.length - (intOf iv).toNat)
  case atStart => exact ⟨0, rfl, Nat.zero_le _, fun j _ hj => absurd hj (by omega), HU.out, HBW.out⟩
  case round =>
    clear HU HBW
    obtain ⟨i, rfl, hi, hoff, hU, hbw⟩ := hrel
    by_cases hlt : i < plan.length
    · have hin : i < needs.length := by have := HLEN.out; omega
      obtain ⟨bp, op, rfl, hbp, l1⟩ := (HP.out.later hbw (Nat.le_refl _)).at_ hlt
      have hoi : offI spools.length plan[i] = (decide (plan[i] < 0) || decide ((spools.length : Int) ≤ plan[i])) := rfl
      have hany : offI spools.length plan[i] = true → ¬ PlT needs spools plan := fun h h' => by
        have h2 := h'.2.1
        rw [List.any_eq_true.2 ⟨_, List.getElem_mem hlt, h⟩] at h2
        cases h2
      have hnext : offI spools.length plan[i] = false → ∀ j (hj : j < plan.length), j < i + 1 → offI spools.length plan[j] = false := fun h j hj hj2 => by
        rcases Nat.lt_or_ge j i with h3 | h3
        · exact hoff j hj h3
        · have : j = i := by omega
          subst this; exact h
      have hgd : pl.getD i 0 = plan[i].toNat := by rw [HPLE.out]; simp [List.getD_eq_getElem?_getD, hlt]
      have hus : ∀ k, usdF needs pl k (i + 1) = usdF needs pl k i + if pl.getD i 0 = k then needs.getD i 0 else 0 := fun k => rfl
      have hng : needs.getD i 0 = needs[i] := by simp [List.getD_eq_getElem?_getD, hin]
      have hnrg := HNR.out _ (List.getElem_mem hin)
      obtain ⟨bn, on, rfl, hbn, l2⟩ := (HN.out.later hbw (Nat.le_refl _)).at_ hin
      rw [hng] at hus
      generalize plan[i] = pv at *
      generalize needs[i] = nd at *
      have x1 : (0 : Int) ≤ (i : Int) := by omega
      have x2 : (i : Int) < (plan.length : Int) := by omega
      have x3 : (i : Int) < (needs.length : Int) := by omega
      by_cases h1 : pv < 0
      · have d1 : decide (pv < 0) = true := decide_eq_true h1
        have hno := hany (by rw [hoi, d1]; rfl)
        clear hany hnext
        have HOFF := Lib.hid hoff; have HU := Lib.hid hU; have HBW := Lib.hid hbw; have HOI := Lib.hid hoi; have HGD := Lib.hid hgd; have HUS := Lib.hid hus; have HNG := Lib.hid hng; have HNRG := Lib.hid hnrg; have HNO := Lib.hid hno; have H1 := Lib.hid h1; clear hoff hU hbw hoi hgd hus hng hnrg hno h1
        go_wp2
        go_ret3
        exact ⟨fun h => absurd h HNO.out, fun _ => rfl, HBW.out⟩
      have d1 : decide (pv < 0) = false := decide_eq_false h1
      by_cases h2 : (spools.length : Int) ≤ pv
      · have d2 : decide ((spools.length : Int) ≤ pv) = true := decide_eq_true h2
        have hno := hany (by rw [hoi, d2, Bool.or_true])
        clear hany hnext
        have HOFF := Lib.hid hoff; have HU := Lib.hid hU; have HBW := Lib.hid hbw; have HOI := Lib.hid hoi; have HGD := Lib.hid hgd; have HUS := Lib.hid hus; have HNG := Lib.hid hng; have HNRG := Lib.hid hnrg; have HNO := Lib.hid hno; have H1 := Lib.hid h1; have H2 := Lib.hid h2; clear hoff hU hbw hoi hgd hus hng hnrg hno h1 h2
        go_wp2
        go_ret3
        exact ⟨fun h => absurd h HNO.out, fun _ => rfl, HBW.out⟩
      have d2 : decide ((spools.length : Int) ≤ pv) = false := decide_eq_false h2
      have hoff2 := hnext (by rw [hoi, d1, d2]; rfl)
      obtain ⟨k, rfl⟩ := Int.eq_ofNat_of_zero_le (show 0 ≤ pv by omega)
      have hks : k < spools.length := by omega
      rw [Int.toNat_natCast] at hgd
      have hu9 := usd_rng (plan := pl) HNR.out k i
      have c3 := hU.at_ hks
      have f3 := hU.free k
      obtain ⟨uv, huv⟩ : ∃ uv, uv = usdF needs pl k i := ⟨_, rfl⟩
      rw [← huv] at c3 hu9
      have hput := ((show BI wr.drew w.heap.size 2 spools.length (fun k => usdF needs pl k i) from hU).put k (uv + nd)).eqv (g' := fun k => usdF needs pl k (i + 1)) (fun a ha => by
        by_cases e : a = k
        · rw [e, upD_same, hus, if_pos hgd, huv]
        · rw [upD_other _ _ e, hus, if_neg (by rw [hgd]; exact fun h => e h.symm), Int.add_zero])
      have hwr : IntKind.i64.wrap (uv + nd) = uv + nd := IntWalk.i64_in _ (by omega)
      have x4 : (0 : Int) ≤ (k : Int) := by omega
      have x5 : (k : Int) < (spools.length : Int) := by omega
      have lU := hU.lt
      clear hany hnext
      have HOFF := Lib.hid hoff; have HU := Lib.hid hU; have HBW := Lib.hid hbw; have HOI := Lib.hid hoi; have HGD := Lib.hid hgd; have HUS := Lib.hid hus; have HNG := Lib.hid hng; have HNRG := Lib.hid hnrg; have HOFF2 := Lib.hid hoff2; have HU9 := Lib.hid hu9; have HUV := Lib.hid huv; have HPUT := Lib.hid hput; have H1 := Lib.hid h1; have H2 := Lib.hid h2; clear hoff hU hbw hoi hgd hus hng hnrg hoff2 hu9 huv hput h1 h2
      go_upto_region 9 with fail
      go_still_tail 18, (by kernel_rfl)
      change wpList _ _ _ _ _ wr.drew
      go_wp2
      go_roundw
      case rel => exact ⟨i + 1, by go_num, by omega, HOFF2.out, HPUT.out, HBW.out.drew.setCell (p := ⟨w.heap.size, k, none⟩) (Nat.le_refl _) _⟩
      case measure => simp [intOf]; omega
    · have hin : i = needs.length := by have := HLEN.out; omega
      have hpk : plan.any (offI spools.length) = false := by
        cases ha : plan.any (offI spools.length) with
        | false => rfl
        | true =>
          obtain ⟨x, hx, h2⟩ := List.any_eq_true.1 ha
          obtain ⟨j, hj, rfl⟩ := List.mem_iff_getElem.1 hx
          rw [hoff j hj (by omega)] at h2
          cases h2
      rw [hin] at hU
      obtain ⟨lf, hlf⟩ : ∃ lf, lf = lftF needs spools pl needs.length := ⟨_, rfl⟩
      have hlu : ∀ k, usdF needs pl k needs.length = spools.getD k 0 - lf k := fun k => by rw [hlf]; unfold lftF; omega
      have hlr : ∀ k, -8000000000000 ≤ lf k ∧ lf k ≤ 1000000000000 := fun k => by
        have := lft_rng (plan := pl) HNR.out HSR.out needs.length k
        rw [hlf]
        omega
      have hU2 := hU.eqv (g' := fun k => spools.getD k 0 - lf k) (fun a _ => hlu a)
      obtain ⟨w4, rfl⟩ : ∃ w4, w4 = wr := ⟨_, rfl⟩
      have hbF := beg_rng spools lf
      have hlN := lon_rng HSR.out lf
      have hlens := HLEN.out
      have HOFF := Lib.hid hoff; have HU := Lib.hid hU; have HBW := Lib.hid hbw; have HIN := Lib.hid hin; have HPK := Lib.hid hpk; have HLF := Lib.hid hlf; have HLU := Lib.hid hlu; have HLR := Lib.hid hlr; have HU2 := Lib.hid hU2; have HBF := Lib.hid hbF; have HLN := Lib.hid hlN; clear hoff hU hbw hin hpk hlf hlu hlr hU2 hbF hlN
      clear hlens
      go_wp2
      go_loopw [11, 12, 13] (fun bv lv iv wr => ∃ k : Nat, iv = .int .i64 (k : Int) ∧ k ≤ spools.length ∧ bv = .int .i64 (begF spools lf k) ∧ lv = .int .i64 (lonF spools lf k) ∧ (∀ j, j < k → 0 ≤ lf j) ∧ Below w4.heap.size w4 wr) (fun _ _ iv _ => spools.length - (intOf iv).toNat)
      case atStart => exact ⟨0, rfl, Nat.zero_le _, rfl, rfl, fun j hj => absurd hj (by omega), Below.refl _ _⟩
      case round =>
        obtain ⟨k, rfl, hk, rfl, rfl, hpos, hbk⟩ := hrel
        have hb9 := HBW.out.trans (hbk.mono HBW.out.size)
        by_cases hlt : k < spools.length
        · have hlk := HLR.out k
          have hUk := BI.later HU2.out hbk
          have c5 := hUk.at_ hlt
          have l5 := hUk.lt
          obtain ⟨bs, os, rfl, hbs, l2⟩ := (HS.out.later hb9 (Nat.le_refl _)).at_ hlt
          have hsg : spools.getD k 0 = spools[k] := by simp [List.getD_eq_getElem?_getD, hlt]
          have hsrk := HSR.out _ (List.getElem_mem hlt)
          have hBs : begF spools lf (k + 1) = begF spools lf k + if lf k < spools.getD k 0 then 1 else 0 := rfl
          have hLs : lonF spools lf (k + 1) = lonF spools lf k + if lf k < spools.getD k 0 then spools.getD k 0 else 0 := rfl
          rw [hsg] at hBs hLs c5
          have hb1 := HBF.out k
          have hl1 := HLN.out k
          have x1 : (0 : Int) ≤ (k : Int) := by omega
          have x2 : (k : Int) < (spools.length : Int) := by omega
          generalize hlke : lf k = lk at *
          generalize spools[k] = sk at *
          generalize begF spools lf k = bk at *
          generalize lonF spools lf k = ok at *
          obtain ⟨us, hus⟩ : ∃ us, us = sk - lk := ⟨_, rfl⟩
          rw [← hus] at c5
          by_cases h0 : sk < us
          · have d0 : decide (sk < us) = true := decide_eq_true h0
            have hno : ¬ PlT needs spools plan := fun h => by
              have h2 := h.2.2 k hlt
              rw [← HPLE.out, ← HLF.out] at h2
              omega
            have HPOS := Lib.hid hpos; have HBK := Lib.hid hbk; have HB9 := Lib.hid hb9; have HLK := Lib.hid hlk; have HUK := Lib.hid hUk; have HSG := Lib.hid hsg; have HSRK := Lib.hid hsrk; have HBS := Lib.hid hBs; have HLS := Lib.hid hLs; have HB1 := Lib.hid hb1; have HL1 := Lib.hid hl1; have HLKE := Lib.hid hlke; have H0 := Lib.hid h0; have HNO := Lib.hid hno; have HUS := Lib.hid hus; clear hpos hbk hb9 hlk hUk hsg hsrk hBs hLs hb1 hl1 hlke h0 hno hus
            go_upto_region 14 with fail
            have hbelc : ∀ (u : Bel wr.heap.size wr) b o, b < wr.heap.size → u.wd.cell? ⟨b, o, none⟩ = wr.cell? ⟨b, o, none⟩ := fun u b o h => u.h.cell (p := ⟨b, o, none⟩) h
            have hbeln : Nonempty (Bel wr.heap.size wr) := ⟨⟨wr, Below.refl _ _⟩⟩
            refine wp_region_bel wr.heap.size (by kernel_rfl) (by kernel_rfl) ?_
            repeat (go_big_quiet_step ((fail)))
            refine wpQuiet_nil ?_
            intro wB hB0; obtain ⟨uB, hu⟩ := hB0; have hbB0 := uB.h; rw [← hu] at hbB0; clear hu uB hbelc hbeln
            obtain ⟨hbB, hcB, hsB⟩ := bcell2 hbB0; clear hbB0
            have hbX := HB9.out.trans (hbB.mono HB9.out.size)
            clear hbB hcB hsB c5 l2 l5
            have HBX := Lib.hid hbX; clear hbX
            go_wp2
            go_ret3
            exact ⟨fun h => absurd h HNO.out, fun _ => rfl, HBX.out⟩
          · have d0 : decide (sk < us) = false := decide_eq_false h0
            have hpos2 : ∀ j, j < k + 1 → 0 ≤ lf j := fun j hj => by
              rcases Nat.lt_or_ge j k with h | h
              · exact hpos j h
              · rw [show j = k by omega, hlke]; omega
            have hw1 : IntKind.i64.wrap (bk + 1) = bk + 1 := IntWalk.i64_in _ (by omega)
            have hw2 : IntKind.i64.wrap (ok + sk) = ok + sk := IntWalk.i64_in _ (by omega)
            by_cases h1 : 0 < us
            · have d1 : decide (0 < us) = true := decide_eq_true h1
              rw [if_pos (by omega)] at hBs hLs
              have HPOS := Lib.hid hpos; have HBK := Lib.hid hbk; have HB9 := Lib.hid hb9; have HLK := Lib.hid hlk; have HUK := Lib.hid hUk; have HSG := Lib.hid hsg; have HSRK := Lib.hid hsrk; have HBS := Lib.hid hBs; have HLS := Lib.hid hLs; have HB1 := Lib.hid hb1; have HL1 := Lib.hid hl1; have HLKE := Lib.hid hlke; have H0 := Lib.hid h0; have H1 := Lib.hid h1; have HPOS2 := Lib.hid hpos2; have HUS := Lib.hid hus; clear hpos hbk hb9 hlk hUk hsg hsrk hBs hLs hb1 hl1 hlke h0 h1 hpos2 hus
              go_upto_region 14 with fail
              have hbelc : ∀ (u : Bel wr.heap.size wr) b o, b < wr.heap.size → u.wd.cell? ⟨b, o, none⟩ = wr.cell? ⟨b, o, none⟩ := fun u b o h => u.h.cell (p := ⟨b, o, none⟩) h
              have hbeln : Nonempty (Bel wr.heap.size wr) := ⟨⟨wr, Below.refl _ _⟩⟩
              refine wp_region_bel wr.heap.size (by kernel_rfl) (by kernel_rfl) ?_
              repeat (go_big_quiet_step ((fail)))
              refine wpQuiet_nil ?_
              intro wB hB0; obtain ⟨uB, hu⟩ := hB0; have hbB0 := uB.h; rw [← hu] at hbB0; clear hu uB hbelc hbeln
              obtain ⟨hbB, hcB, hsB⟩ := bcell2 hbB0; clear hbB0
              have hbk2 := HBK.out.trans (hbB.mono HBK.out.size)
              have c5 := (hcB _ _ l5).trans c5
              have l2 := (hcB _ _ hbs).trans l2
              have l5 := Nat.lt_of_lt_of_le l5 hsB
              have hbs := Nat.lt_of_lt_of_le hbs hsB
              clear hbB hcB hsB
              have HBK2 := Lib.hid hbk2; clear hbk2
              go_wp2
              go_roundw
              case rel => exact ⟨k + 1, by go_num, by omega, by rw [HBS.out], by rw [HLS.out], HPOS2.out, HBK2.out⟩
              case measure => simp [intOf]; omega
            · have d1 : decide (0 < us) = false := decide_eq_false h1
              rw [if_neg (by omega)] at hBs hLs
              rw [Int.add_zero] at hBs hLs
              have HPOS := Lib.hid hpos; have HBK := Lib.hid hbk; have HB9 := Lib.hid hb9; have HLK := Lib.hid hlk; have HUK := Lib.hid hUk; have HSG := Lib.hid hsg; have HSRK := Lib.hid hsrk; have HBS := Lib.hid hBs; have HLS := Lib.hid hLs; have HB1 := Lib.hid hb1; have HL1 := Lib.hid hl1; have HLKE := Lib.hid hlke; have H0 := Lib.hid h0; have H1 := Lib.hid h1; have HPOS2 := Lib.hid hpos2; have HUS := Lib.hid hus; clear hpos hbk hb9 hlk hUk hsg hsrk hBs hLs hb1 hl1 hlke h0 h1 hpos2 hus
              go_upto_region 14 with fail
              have hbelc : ∀ (u : Bel wr.heap.size wr) b o, b < wr.heap.size → u.wd.cell? ⟨b, o, none⟩ = wr.cell? ⟨b, o, none⟩ := fun u b o h => u.h.cell (p := ⟨b, o, none⟩) h
              have hbeln : Nonempty (Bel wr.heap.size wr) := ⟨⟨wr, Below.refl _ _⟩⟩
              refine wp_region_bel wr.heap.size (by kernel_rfl) (by kernel_rfl) ?_
              repeat (go_big_quiet_step ((fail)))
              refine wpQuiet_nil ?_
              intro wB hB0; obtain ⟨uB, hu⟩ := hB0; have hbB0 := uB.h; rw [← hu] at hbB0; clear hu uB hbelc hbeln
              obtain ⟨hbB, hcB, hsB⟩ := bcell2 hbB0; clear hbB0
              have hbk2 := HBK.out.trans (hbB.mono HBK.out.size)
              have c5 := (hcB _ _ l5).trans c5
              have l5 := Nat.lt_of_lt_of_le l5 hsB
              clear hbB hcB hsB l2
              have HBK2 := Lib.hid hbk2; clear hbk2
              go_wp2
              go_roundw
              case rel => exact ⟨k + 1, by go_num, by omega, by rw [HBS.out], by rw [HLS.out], HPOS2.out, HBK2.out⟩
              case measure => simp [intOf]; omega
        · have hks : k = spools.length := by omega
          have hyes : PlT needs spools plan := ⟨HLEN.out, HPK.out, fun j hj => by rw [← HPLE.out, ← HLF.out]; exact hpos j (by omega)⟩
          have hbe : begF spools lf k = begP needs spools (plan.map Int.toNat) := by rw [hks, HLF.out, HPLE.out]; rfl
          have hle : lonF spools lf k = lonP needs spools (plan.map Int.toNat) := by rw [hks, HLF.out, HPLE.out]; rfl
          have x3 : ¬ (k : Int) < (spools.length : Int) := by omega
          generalize begF spools lf k = bk at *
          generalize lonF spools lf k = ok at *
          have HPOS := Lib.hid hpos; have HBK := Lib.hid hbk; have HB9 := Lib.hid hb9; have HKS := Lib.hid hks; have HYES := Lib.hid hyes; have HBE := Lib.hid hbe; have HLE := Lib.hid hle; clear hpos hbk hb9 hks hyes hbe hle
          go_wp2
          go_ret3
          exact ⟨fun _ => by rw [← HBE.out, ← HLE.out]; rfl, fun h => absurd HYES.out h, HB9.out⟩
def sumI : List Int → Int
  | [] => 0
  | x :: l => x + sumI l
theorem sumI_snoc (x : Int) : ∀ l, sumI (l ++ [x]) = sumI l + x
  | [] => by simp [sumI]
  | y :: l => by rw [List.cons_append, sumI, sumI, sumI_snoc x l]; omega
theorem sumI_rng {l : List Int} (h : ∀ x, x ∈ l → -10000000000000 ≤ x ∧ x ≤ 10000000000000) : -(10000000000000 * (l.length : Int)) ≤ sumI l ∧ sumI l ≤ 10000000000000 * (l.length : Int) := by
  induction l with
  | nil => simp [sumI]
  | cons x l ih =>
    have h1 := ih fun y hy => h y (by simp [hy])
    have h2 := h x (by simp)
    rw [sumI, List.length_cons]
    omega
set_option maxRecDepth 100000 in
set_option maxHeartbeats 4000000 in
theorem lTotal20_ (A : Option Addr) (c : Nat) (xs : List Int) (w : World) (hr : RdI w A xs) (h8 : xs.length ≤ 20) (hx : ∀ x, x ∈ xs → -10000000000000 ≤ x ∧ x ≤ 10000000000000) : Calls Try.prog 14 #[.slice A xs.length c] w (IntPost (sumI xs) w) := by
  have hb := Below.refl w.heap.size w
  have HR := Lib.hid hr; have HX := Lib.hid hx; have HB := Lib.hid hb; clear hr hx hb
  go_enter Try.func14, Try.ntmps14
  go_wp2
  go_loopw [3, 4] (fun sv iv wr => ∃ k : Nat, iv = .int .i64 (k : Int) ∧ k ≤ xs.length ∧ sv = .int .i64 (sumI (xs.take k)) ∧ Below w.heap.size w wr) (fun _ iv _ => xs.length - (intOf iv).toNat)
  case atStart => exact ⟨0, rfl, Nat.zero_le _, rfl, HB.out⟩
  case round =>
    obtain ⟨k, rfl, hk, rfl, hbw⟩ := hrel
    by_cases hlt : k < xs.length
    · obtain ⟨bl, ol, rfl, hbl, l1⟩ := (HR.out.later hbw (Nat.le_refl _)).at_ hlt
      have hsn : sumI (xs.take (k + 1)) = sumI (xs.take k) + xs[k] := by rw [List.take_succ_eq_append_getElem hlt, sumI_snoc]
      have hrg := sumI_rng (l := xs.take k) (fun x hm => HX.out x (List.mem_of_mem_take hm))
      have hxr := HX.out _ (List.getElem_mem hlt)
      have htl : (xs.take k).length ≤ 20 := by rw [List.length_take]; omega
      generalize xs[k] = x at *
      generalize sumI (xs.take k) = s at *
      have hw : IntKind.i64.wrap (s + x) = s + x := IntWalk.i64_in _ (by omega)
      have x1 : (0 : Int) ≤ (k : Int) := by omega
      have x2 : (k : Int) < (xs.length : Int) := by omega
      have HBW := Lib.hid hbw; have HSN := Lib.hid hsn; have HRG := Lib.hid hrg; have HXR := Lib.hid hxr; have HTL := Lib.hid htl; clear hbw hsn hrg hxr htl
      go_wp2
      go_roundw
      case rel => exact ⟨k + 1, by go_num, by omega, by rw [HSN.out], HBW.out⟩
      case measure => simp [intOf]; omega
    · have hkl : sumI (xs.take k) = sumI xs := by rw [List.take_of_length_le (by omega)]
      rw [hkl]
      have x3 : ¬ (k : Int) < (xs.length : Int) := by omega
      generalize hs : sumI xs = s at *
      have HBW := Lib.hid hbw; have HKL := Lib.hid hkl; have HS := Lib.hid hs; clear hbw hkl hs
      go_wp2
      go_ret
      exact ⟨rfl, HBW.out⟩
end Go.Proofs.Ytdimaapiloojeaa
/- The best plan, pure: what the law asks of Spools. -/
namespace Go.Proofs.Ytdimaapiloojeaa
open Go.RowKit

theorem plT_mem {needs spools plan : List Int} (h : PlT needs spools plan) : ∃ pl : List Nat, plan = nats pl ∧ pl.length = needs.length ∧ (∀ k, k ∈ pl → k < spools.length) ∧ pl ∈ allD spools.length needs.length ∧ GoodP needs spools pl := by
  obtain ⟨h1, h2, h3⟩ := h
  obtain ⟨pl, rfl, h4⟩ := nats_of h2
  rw [nats_toNat] at h3
  rw [nats_len] at h1
  exact ⟨pl, rfl, h1, h4, (allD_mem _ _ _).2 ⟨h1, h4⟩, h3⟩
theorem plT_of {needs spools : List Int} {pl : List Nat} (h : pl ∈ allD spools.length needs.length) (hg : GoodP needs spools pl) : PlT needs spools (nats pl) := by
  obtain ⟨h1, h2⟩ := (allD_mem _ _ _).1 h
  refine ⟨by rw [nats_len]; exact h1, ?_, by rw [nats_toNat]; exact hg⟩
  cases ha : (nats pl).any (offI spools.length) with
  | false => rfl
  | true =>
    obtain ⟨x, hx, h3⟩ := List.any_eq_true.1 ha
    unfold nats at hx
    obtain ⟨k, hk, rfl⟩ := List.mem_map.1 hx
    have := h2 k hk
    unfold offI at h3
    simp at h3
    omega
/-- What Spools has found, when its error is 4 or none. -/
theorem sp_none {needs spools : List Int} (hz : wrgE needs spools = 0) (h : spE needs spools ≠ 0) : spE needs spools = 4 ∧ spL needs spools = [] ∧ ∀ plan, ¬ PlT needs spools plan := by
  unfold spE at h ⊢
  rw [if_neg (fun h => h hz)] at h ⊢
  by_cases hb : (spO needs spools).best = none ∧ 0 < needs.length
  · rw [if_pos hb]
    refine ⟨rfl, by unfold spL; rw [if_pos hz, hb.1]; rfl, fun plan hp => ?_⟩
    obtain ⟨pl, _, _, _, hm, hg⟩ := plT_mem hp
    have hs := spO_is needs spools
    unfold StIs at hs
    rw [hb.1] at hs
    exact hs pl hm hg
  · rw [if_neg hb] at h; exact absurd rfl h
theorem sp_some {needs spools : List Int} (hz : wrgE needs spools = 0) (h : spE needs spools = 0) : BestP needs spools (allD spools.length needs.length) (spL needs spools) := by
  have hs := spO_is needs spools
  obtain ⟨_, _, _, hsr⟩ := wrg_ok hz
  unfold spE at h
  rw [if_neg (fun h => h hz)] at h
  unfold StIs at hs
  unfold spL
  rw [if_pos hz]
  cases hb : (spO needs spools).best with
  | some p => rw [hb] at hs; exact hs.1
  | none =>
    rw [hb] at hs
    by_cases h0 : 0 < needs.length
    · rw [if_pos ⟨hb, h0⟩] at h; cases h
    · have e : needs = [] := List.eq_nil_of_length_eq_zero (by omega)
      subst e
      refine absurd ?_ (hs [] (by unfold allD; simp))
      intro k hk
      have := getD_rng hsr k
      show 0 ≤ spools.getD k 0 - 0
      omega
theorem lexLo_at : ∀ {p q : List Nat} {i : Nat} (hp : i < p.length) (hq : i < q.length), lexLo p q → p.take i = q.take i → p[i] ≠ q[i] → p[i] < q[i]
  | a :: p, b :: q, 0, _, _, h, _, hne => by
    unfold lexLo at h
    simp only [List.getElem_cons_zero] at hne ⊢
    rcases h with h | h
    · exact h
    · exact absurd h.1 hne
  | a :: p, b :: q, i + 1, hp, hq, h, ht, hne => by
    unfold lexLo at h
    simp only [List.take_succ_cons, List.cons.injEq] at ht
    rcases h with h | h
    · omega
    · exact lexLo_at (p := p) (q := q) (by simpa using hp) (by simpa using hq) h.2 ht.2 hne
  | [], _, _, hp, _, _, _, _ => absurd hp (by simp)
  | _ :: _, [], _, _, hq, _, _, _ => absurd hq (by simp)
/- What is left and what is needed add up. -/
theorem sumI_map_add (f g : Nat → Int) : ∀ l : List Nat, sumI (l.map fun k => f k + g k) = sumI (l.map f) + sumI (l.map g)
  | [] => by simp [sumI]
  | k :: l => by simp only [List.map_cons, sumI]; rw [sumI_map_add f g l]; omega
theorem sumI_map_sub (f g : Nat → Int) : ∀ l : List Nat, sumI (l.map fun k => f k - g k) = sumI (l.map f) - sumI (l.map g)
  | [] => by simp [sumI]
  | k :: l => by simp only [List.map_cons, sumI]; rw [sumI_map_sub f g l]; omega
theorem sumI_zero : ∀ l : List Nat, sumI (l.map fun _ => (0 : Int)) = 0
  | [] => rfl
  | k :: l => by simp only [List.map_cons, sumI]; rw [sumI_zero l]; rfl
theorem sumI_one (a : Nat) (x : Int) (n : Nat) : sumI ((List.range n).map fun k => if a = k then x else 0) = if a < n then x else 0 := by
  induction n with
  | zero => simp [sumI]
  | succ n ih =>
    rw [List.range_succ, List.map_append, List.map_singleton, sumI_snoc, ih]
    by_cases h : a < n
    · rw [if_pos h, if_neg (by omega), if_pos (by omega)]; omega
    · by_cases h2 : a = n
      · rw [if_neg h, if_pos h2, if_pos (by omega)]; omega
      · rw [if_neg h, if_neg h2, if_neg (by omega)]; rfl
theorem usd_sum (needs : List Int) (plan : List Nat) (n : Nat) (h : ∀ i, i < needs.length → plan.getD i 0 < n) : ∀ i, i ≤ needs.length → sumI ((List.range n).map fun k => usdF needs plan k i) = sumI (needs.take i)
  | 0, _ => by
    have : (fun k => usdF needs plan k 0) = fun _ => (0 : Int) := rfl
    rw [this, sumI_zero]; rfl
  | i + 1, hi => by
    have e : (fun k => usdF needs plan k (i + 1)) = fun k => usdF needs plan k i + if plan.getD i 0 = k then needs.getD i 0 else 0 := rfl
    rw [e, sumI_map_add, usd_sum needs plan n h i (by omega), sumI_one, if_pos (h i (by omega)), List.take_succ_eq_append_getElem (show i < needs.length by omega), sumI_snoc]
    simp [List.getD_eq_getElem?_getD, show i < needs.length by omega]
theorem left_sum {needs spools : List Int} {pl : List Nat} (h : pl ∈ allD spools.length needs.length) : sumI (lfl needs spools pl needs.length) + sumI needs = sumI spools := by
  obtain ⟨h1, h2⟩ := (allD_mem _ _ _).1 h
  have h3 := usd_sum needs pl spools.length (fun i hi => by
    have : pl.getD i 0 = pl[i]'(by omega) := by simp [List.getD_eq_getElem?_getD, show i < pl.length by omega]
    rw [this]
    exact h2 _ (List.getElem_mem _)) needs.length (Nat.le_refl _)
  rw [List.take_length] at h3
  unfold lfl
  have e : lftF needs spools pl needs.length = fun k => spools.getD k 0 - usdF needs pl k needs.length := rfl
  rw [e, sumI_map_sub, h3]
  have h4 : (List.range spools.length).map (fun k => spools.getD k 0) = spools := by
    apply List.ext_getElem
    · simp
    · intro j h1 h2
      simp only [List.getElem_map, List.getElem_range]
      simp [List.getD_eq_getElem?_getD, h2]
  rw [h4]
  omega
theorem rs_ok {needs spools : List Int} {pl : List Nat} (hz : wrgE needs spools = 0) (h : pl ∈ allD spools.length needs.length) (hg : GoodP needs spools pl) : rsE needs spools (nats pl) = 0 ∧ rsL needs spools (nats pl) = lfl needs spools pl needs.length := by
  have hp := plT_of h hg
  have e : rsE needs spools (nats pl) = 0 := by
    unfold rsE
    rw [if_neg (fun h => h hz), if_neg, if_neg]
    · unfold leftL
      rw [nats_toNat]
      intro ha
      obtain ⟨x, hx, h3⟩ := List.any_eq_true.1 ha
      unfold lfl at hx
      obtain ⟨k, hk, rfl⟩ := List.mem_map.1 hx
      have := hg k (List.mem_range.1 hk)
      unfold negI at h3
      simp at h3
      omega
    · rintro (h' | h')
      · exact h' hp.1
      · rw [hp.2.1] at h'; cases h'
  refine ⟨e, ?_⟩
  unfold rsL
  rw [if_pos e]
  unfold leftL
  rw [nats_toNat]
end Go.Proofs.Ytdimaapiloojeaa
/- The law's comparisons of lists. -/
namespace Go.Proofs.Ytdimaapiloojeaa
open Go.RowKit

set_option maxRecDepth 100000 in
set_option maxHeartbeats 4000000 in
theorem lSame20_ (A B : Option Addr) (c d : Nat) (xs ys : List Int) (w : World) (hx : RdI w A xs) (hy : RdI w B ys) : Calls Try.prog 29 #[.slice A xs.length c, .slice B ys.length d] w (BoolPost (decide (xs = ys)) w) := by
  have hln := hx.1
  have hb := Below.refl w.heap.size w
  obtain ⟨R, hR⟩ : ∃ R, R = decide (xs = ys) := ⟨_, rfl⟩
  rw [← hR]
  by_cases hl : xs.length = ys.length
  rotate_left
  · have q1 : (xs.length == ys.length) = false := by rw [beq_eq_false_iff_ne]; exact hl
    have q2 : ((xs.length : Int) == (ys.length : Int)) = false := by rw [beq_eq_false_iff_ne]; omega
    have q3 : ((xs.length : Int) != (ys.length : Int)) = true := by rw [bne, q2]; rfl
    have q4 : (xs.length != ys.length) = true := by rw [bne, q1]; rfl
    rw [decide_eq_false (fun h => hl (by rw [h]))] at hR
    have HX := Lib.hid hx; have HY := Lib.hid hy; have HB := Lib.hid hb; have HR := Lib.hid hR; have HL := Lib.hid hl; clear hx hy hb hR hl
    go_enter Try.func29, Try.ntmps29
    go_wp2
    go_ret
    exact ⟨by rw [HR.out]; rfl, HB.out⟩
  have q1 : (xs.length == ys.length) = true := by rw [hl]; simp
  have q2 : ((xs.length : Int) == (ys.length : Int)) = true := by rw [hl]; simp
  have q3 : ((xs.length : Int) != (ys.length : Int)) = false := by rw [bne, q2]; rfl
  have q4 : (xs.length != ys.length) = false := by rw [bne, q1]; rfl
  have HX := Lib.hid hx; have HY := Lib.hid hy; have HB := Lib.hid hb; have HR := Lib.hid hR; have HL := Lib.hid hl; clear hx hy hb hR hl
  go_enter Try.func29, Try.ntmps29
  go_wp2
  clear q1 q2 q3 q4
  go_loopw [5] (fun iv wr => ∃ k : Nat, iv = .int .i64 (k : Int) ∧ k ≤ xs.length ∧ xs.take k = ys.take k ∧ Below w.heap.size w wr) (fun iv _ => xs.length - (intOf iv).toNat)
  case atStart => exact ⟨0, rfl, Nat.zero_le _, rfl, HB.out⟩
  case round =>
    obtain ⟨k, rfl, hk, ht, hbw⟩ := hrel
    by_cases hlt : k < xs.length
    · have hly : k < ys.length := by have := HL.out; omega
      obtain ⟨b1, o1, rfl, hb1, l1⟩ := (HX.out.later hbw (Nat.le_refl _)).at_ hlt
      obtain ⟨b2, o2, rfl, hb2, l2⟩ := (HY.out.later hbw (Nat.le_refl _)).at_ hly
      have hne : xs[k] ≠ ys[k] → xs ≠ ys := fun h e => h (by simp [e])
      have heq : xs[k] = ys[k] → xs.take (k + 1) = ys.take (k + 1) := fun h => by
        rw [List.take_succ_eq_append_getElem hlt, List.take_succ_eq_append_getElem hly, ht, h]
      have x1 : (0 : Int) ≤ (k : Int) := by omega
      have x2 : (k : Int) < (xs.length : Int) := by omega
      have x3 : (k : Int) < (ys.length : Int) := by omega
      generalize xs[k] = x at *
      generalize ys[k] = y at *
      by_cases he : x = y
      · have e1 : (x == y) = true := by rw [he]; simp
        have e2 : (x != y) = false := by rw [bne, e1]; rfl
        have ht2 := heq he
        clear hne heq
        have HT := Lib.hid ht; have HBW := Lib.hid hbw; have HT2 := Lib.hid ht2; have HE := Lib.hid he; clear ht hbw ht2 he
        go_upto_region 6 with fail
        have hbelc : ∀ (u : Bel wr.heap.size wr) b o, b < wr.heap.size → u.wd.cell? ⟨b, o, none⟩ = wr.cell? ⟨b, o, none⟩ := fun u b o h => u.h.cell (p := ⟨b, o, none⟩) h
        have hbeln : Nonempty (Bel wr.heap.size wr) := ⟨⟨wr, Below.refl _ _⟩⟩
        refine wp_region_bel wr.heap.size (by kernel_rfl) (by kernel_rfl) ?_
        repeat (go_big_quiet_step ((fail)))
        refine wpQuiet_nil ?_
        intro wB hB0; obtain ⟨uB, hu⟩ := hB0; have hbB0 := uB.h; rw [← hu] at hbB0; clear hu uB hbelc hbeln
        obtain ⟨hbB, hcB, hsB⟩ := bcell2 hbB0; clear hbB0
        have hbw2 := HBW.out.trans (hbB.mono HBW.out.size)
        clear hbB hcB hsB l1 l2
        have HBW2 := Lib.hid hbw2; clear hbw2
        go_wp2
        go_roundw
        case rel => exact ⟨k + 1, by go_num, by omega, HT2.out, HBW2.out⟩
        case measure => simp [intOf]; omega
      · have e1 : (x == y) = false := by rw [beq_eq_false_iff_ne]; exact he
        have e2 : (x != y) = true := by rw [bne, e1]; rfl
        have hres : R = false := by rw [HR.out, decide_eq_false (hne he)]
        clear hne heq
        have HT := Lib.hid ht; have HBW := Lib.hid hbw; have HE := Lib.hid he; have HRES := Lib.hid hres; clear ht hbw he hres
        go_upto_region 6 with fail
        have hbelc : ∀ (u : Bel wr.heap.size wr) b o, b < wr.heap.size → u.wd.cell? ⟨b, o, none⟩ = wr.cell? ⟨b, o, none⟩ := fun u b o h => u.h.cell (p := ⟨b, o, none⟩) h
        have hbeln : Nonempty (Bel wr.heap.size wr) := ⟨⟨wr, Below.refl _ _⟩⟩
        refine wp_region_bel wr.heap.size (by kernel_rfl) (by kernel_rfl) ?_
        repeat (go_big_quiet_step ((fail)))
        refine wpQuiet_nil ?_
        intro wB hB0; obtain ⟨uB, hu⟩ := hB0; have hbB0 := uB.h; rw [← hu] at hbB0; clear hu uB hbelc hbeln
        obtain ⟨hbB, hcB, hsB⟩ := bcell2 hbB0; clear hbB0
        have hbw2 := HBW.out.trans (hbB.mono HBW.out.size)
        clear hbB hcB hsB l1 l2
        have HBW2 := Lib.hid hbw2; clear hbw2
        go_wp2
        go_ret
        exact ⟨by rw [HRES.out]; rfl, HBW2.out⟩
    · have hres : R = true := by
        rw [HR.out]
        rw [List.take_of_length_le (by omega), List.take_of_length_le (by have := HL.out; omega)] at ht
        exact decide_eq_true ht
      have x3 : ¬ (k : Int) < (xs.length : Int) := by omega
      have HT := Lib.hid ht; have HBW := Lib.hid hbw; have HRES := Lib.hid hres; clear ht hbw hres
      go_wp2
      go_ret
      exact ⟨by rw [HRES.out]; rfl, HBW.out⟩
set_option maxRecDepth 100000 in
set_option maxHeartbeats 4000000 in
theorem lInts20_ (A B : Option Addr) (c d : Nat) (xs ys : List Int) (w : World) (hx : RdI w A xs) (hy : RdI w B ys) : Calls Try.prog 21 #[.slice A xs.length c, .slice B ys.length d] w (BoolPost (decide (xs = ys)) w) := by
  have hln := hx.1
  have hb := Below.refl w.heap.size w
  obtain ⟨R, hR⟩ : ∃ R, R = decide (xs = ys) := ⟨_, rfl⟩
  rw [← hR]
  by_cases hl : xs.length = ys.length
  rotate_left
  · have q1 : (xs.length == ys.length) = false := by rw [beq_eq_false_iff_ne]; exact hl
    have q2 : ((xs.length : Int) == (ys.length : Int)) = false := by rw [beq_eq_false_iff_ne]; omega
    have q3 : ((xs.length : Int) != (ys.length : Int)) = true := by rw [bne, q2]; rfl
    have q4 : (xs.length != ys.length) = true := by rw [bne, q1]; rfl
    rw [decide_eq_false (fun h => hl (by rw [h]))] at hR
    have HX := Lib.hid hx; have HY := Lib.hid hy; have HB := Lib.hid hb; have HR := Lib.hid hR; have HL := Lib.hid hl; clear hx hy hb hR hl
    go_enter Try.func21, Try.ntmps21
    go_wp2
    go_ret
    exact ⟨by rw [HR.out]; rfl, HB.out⟩
  have q1 : (xs.length == ys.length) = true := by rw [hl]; simp
  have q2 : ((xs.length : Int) == (ys.length : Int)) = true := by rw [hl]; simp
  have q3 : ((xs.length : Int) != (ys.length : Int)) = false := by rw [bne, q2]; rfl
  have q4 : (xs.length != ys.length) = false := by rw [bne, q1]; rfl
  have HX := Lib.hid hx; have HY := Lib.hid hy; have HB := Lib.hid hb; have HR := Lib.hid hR; have HL := Lib.hid hl; clear hx hy hb hR hl
  go_enter Try.func21, Try.ntmps21
  go_wp2
  clear q1 q2 q3 q4
  go_loopw [5] (fun iv wr => ∃ k : Nat, iv = .int .i64 (k : Int) ∧ k ≤ xs.length ∧ xs.take k = ys.take k ∧ Below w.heap.size w wr) (fun iv _ => xs.length - (intOf iv).toNat)
  case atStart => exact ⟨0, rfl, Nat.zero_le _, rfl, HB.out⟩
  case round =>
    obtain ⟨k, rfl, hk, ht, hbw⟩ := hrel
    by_cases hlt : k < xs.length
    · have hly : k < ys.length := by have := HL.out; omega
      obtain ⟨b1, o1, rfl, hb1, l1⟩ := (HX.out.later hbw (Nat.le_refl _)).at_ hlt
      obtain ⟨b2, o2, rfl, hb2, l2⟩ := (HY.out.later hbw (Nat.le_refl _)).at_ hly
      have hne : xs[k] ≠ ys[k] → xs ≠ ys := fun h e => h (by simp [e])
      have heq : xs[k] = ys[k] → xs.take (k + 1) = ys.take (k + 1) := fun h => by
        rw [List.take_succ_eq_append_getElem hlt, List.take_succ_eq_append_getElem hly, ht, h]
      have x1 : (0 : Int) ≤ (k : Int) := by omega
      have x2 : (k : Int) < (xs.length : Int) := by omega
      have x3 : (k : Int) < (ys.length : Int) := by omega
      generalize xs[k] = x at *
      generalize ys[k] = y at *
      by_cases he : x = y
      · have e1 : (x == y) = true := by rw [he]; simp
        have e2 : (x != y) = false := by rw [bne, e1]; rfl
        have ht2 := heq he
        clear hne heq
        have HT := Lib.hid ht; have HBW := Lib.hid hbw; have HT2 := Lib.hid ht2; have HE := Lib.hid he; clear ht hbw ht2 he
        go_upto_region 6 with fail
        have hbelc : ∀ (u : Bel wr.heap.size wr) b o, b < wr.heap.size → u.wd.cell? ⟨b, o, none⟩ = wr.cell? ⟨b, o, none⟩ := fun u b o h => u.h.cell (p := ⟨b, o, none⟩) h
        have hbeln : Nonempty (Bel wr.heap.size wr) := ⟨⟨wr, Below.refl _ _⟩⟩
        refine wp_region_bel wr.heap.size (by kernel_rfl) (by kernel_rfl) ?_
        repeat (go_big_quiet_step ((fail)))
        refine wpQuiet_nil ?_
        intro wB hB0; obtain ⟨uB, hu⟩ := hB0; have hbB0 := uB.h; rw [← hu] at hbB0; clear hu uB hbelc hbeln
        obtain ⟨hbB, hcB, hsB⟩ := bcell2 hbB0; clear hbB0
        have hbw2 := HBW.out.trans (hbB.mono HBW.out.size)
        clear hbB hcB hsB l1 l2
        have HBW2 := Lib.hid hbw2; clear hbw2
        go_wp2
        go_roundw
        case rel => exact ⟨k + 1, by go_num, by omega, HT2.out, HBW2.out⟩
        case measure => simp [intOf]; omega
      · have e1 : (x == y) = false := by rw [beq_eq_false_iff_ne]; exact he
        have e2 : (x != y) = true := by rw [bne, e1]; rfl
        have hres : R = false := by rw [HR.out, decide_eq_false (hne he)]
        clear hne heq
        have HT := Lib.hid ht; have HBW := Lib.hid hbw; have HE := Lib.hid he; have HRES := Lib.hid hres; clear ht hbw he hres
        go_upto_region 6 with fail
        have hbelc : ∀ (u : Bel wr.heap.size wr) b o, b < wr.heap.size → u.wd.cell? ⟨b, o, none⟩ = wr.cell? ⟨b, o, none⟩ := fun u b o h => u.h.cell (p := ⟨b, o, none⟩) h
        have hbeln : Nonempty (Bel wr.heap.size wr) := ⟨⟨wr, Below.refl _ _⟩⟩
        refine wp_region_bel wr.heap.size (by kernel_rfl) (by kernel_rfl) ?_
        repeat (go_big_quiet_step ((fail)))
        refine wpQuiet_nil ?_
        intro wB hB0; obtain ⟨uB, hu⟩ := hB0; have hbB0 := uB.h; rw [← hu] at hbB0; clear hu uB hbelc hbeln
        obtain ⟨hbB, hcB, hsB⟩ := bcell2 hbB0; clear hbB0
        have hbw2 := HBW.out.trans (hbB.mono HBW.out.size)
        clear hbB hcB hsB l1 l2
        have HBW2 := Lib.hid hbw2; clear hbw2
        go_wp2
        go_ret
        exact ⟨by rw [HRES.out]; rfl, HBW2.out⟩
    · have hres : R = true := by
        rw [HR.out]
        rw [List.take_of_length_le (by omega), List.take_of_length_le (by have := HL.out; omega)] at ht
        exact decide_eq_true ht
      have x3 : ¬ (k : Int) < (xs.length : Int) := by omega
      have HT := Lib.hid ht; have HBW := Lib.hid hbw; have HRES := Lib.hid hres; clear ht hbw hres
      go_wp2
      go_ret
      exact ⟨by rw [HRES.out]; rfl, HBW.out⟩
end Go.Proofs.Ytdimaapiloojeaa
