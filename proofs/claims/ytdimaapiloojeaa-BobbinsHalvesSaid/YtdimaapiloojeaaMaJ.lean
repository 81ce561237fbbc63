/- Texts of this claim, laid together: BoCat, BoCap, BoAwP, BoAwake, BoLBest. -/
import Derived.Test.YtdimaapiloojeaaMaG
import Derived.Test.YtdimaapiloojeaaMaH
import Derived.Test.YtdimaapiloojeaaMaI
import Derived.Lib.AppendZeros
/- Concat (how long its result is), Grow of nil. -/
namespace Go.Proofs.Ytdimaapiloojeaa
open Go.RowKit

def totL : List (List Nat) → Nat
  | [] => 0
  | l :: r => l.length + totL r
theorem totL_app : ∀ (a b : List (List Nat)), totL (a ++ b) = totL a + totL b
  | [], b => by simp [totL]
  | l :: a, b => by rw [List.cons_append, totL, totL, totL_app a b]; omega
theorem totL_take (ls : List (List Nat)) {k : Nat} (hk : k < ls.length) : totL (ls.take (k + 1)) = totL (ls.take k) + (ls.getD k []).length := by
  rw [List.take_succ_eq_append_getElem hk, totL_app, totL, totL, List.getD_eq_getElem?_getD, List.getElem?_eq_getElem hk]; simp
theorem totL_le (ls : List (List Nat)) (k : Nat) : totL (ls.take k) ≤ totL ls := by
  have h := totL_app (ls.take k) (ls.drop k)
  rw [List.take_append_drop] at h
  omega
theorem LLV.at_ {w : World} {base n c : Nat} {A : Option Addr} {ls : List (List Nat)} (h : LLV w base (.slice A n c) ls) {k : Nat} (hk : k < ls.length) (hl : (ls.getD k []).length ≤ 1000000) :
    ∃ b, A = some ⟨b, 0, none⟩ ∧ b < w.heap.size ∧ ∃ VA vc, w.cell? ⟨b, k, none⟩ = some (.slice VA (outI (ls.getD k [])).length vc) ∧ RdI w VA (outI (ls.getD k [])) := by
  obtain ⟨vs, ho, hv⟩ := h
  have hv1 := hv.1
  obtain ⟨g, cap, e, _, hlt⟩ := ho.form (by omega)
  injection e with e1 e2 e3
  subst e1
  subst e2
  have hc := ho.cellAt k (by omega)
  have h1 : vs[k]? = some (vs[k]'(by rw [hv.1]; exact hk)) := List.getElem?_eq_getElem _
  have h2 := hv.2 k _ h1
  obtain ⟨VA, vc, e4⟩ := own_slice1 h2
  rw [h1] at hc
  rw [e4] at hc h2
  exact ⟨g, rfl, hlt, VA, vc, hc, by rw [outI_len]; omega, own_rd h2⟩
theorem LLV.later {w w' : World} {base : Nat} {v : Value} {ls : List (List Nat)} (h : LLV w base v ls) (hb : Below w.heap.size w w') : LLV w' base v ls := by
  obtain ⟨vs, h1, h2⟩ := h
  exact ⟨vs, own_below3 h1 hb, h2.later hb⟩
theorem wpList_zeros_Try {ops : Array Oper} {rest : List Oper} {o : Oper} {a : Act} {Q : Exit → Act → World → Prop} {w : World} (hgd : o.guard = none) (s x : Operand)
    (ho : o.op = .call { callee := .builtin .append, args := #[s, x], argTypes := #[23, 3] }) (n : Nat) (hs : a.eval s = .slice none 0 0) (hx : a.eval x = .int .i64 (n : Int)) (h0 : 0 < n) (hn : n ≤ 1000000)
    (h : ∀ G w', n ≤ G → G ≤ 9223372036854775807 → w'.ownsRow w.heap.size 3 1 (.slice (some ⟨w.heap.size, 0, none⟩) 0 G) ([] : List Int).length (ints []) → Below w.heap.size w w' → wpList Try.prog ops Q rest (a.put o.dst (.slice (some ⟨w.heap.size, 0, none⟩) n G)) w') :
    wpList Try.prog ops Q (o :: rest) a w :=
  wpList_plain hgd fun _ hK => by
    obtain ⟨i0, hi, hz0, hz1, hz2⟩ := info_parts info_int_Try
    have happ := Lib.run_append_nil_zeros (P := Try.prog) w 23 3 o.type 3 i0 (.int .i64 0) .i64 .i64 Try.underlying23 Try.underlying3 hi hz0 n h0 (by omega) (by omega) (by rw [hz2]; omega)
    have hge := grownCap_ge w n 0 3
    have hle := grownCap_le_maxLen w n 0 3 (by unfold maxLen; omega)
    obtain ⟨G, hG⟩ : ∃ G, G = grownCap w n 0 3 := ⟨_, rfl⟩
    rw [← hG] at happ hge hle
    have hb : Below w.heap.size w (w.drew.alloc (.cells (Builtin.zeroCells (Value.int .i64 0).cells n ++ Builtin.zeroCells (Value.int .i64 0).cells (G - n)) 3)) := (Below.refl _ _).drew.alloc (Nat.le_refl _) _
    have hown : (w.drew.alloc (.cells (Builtin.zeroCells (Value.int .i64 0).cells n ++ Builtin.zeroCells (Value.int .i64 0).cells (G - n)) 3)).ownsRow w.heap.size 3 1 (.slice (some ⟨w.heap.size, 0, none⟩) 0 G) ([] : List Int).length (ints []) :=
      ⟨rfl, .inr ⟨w.heap.size, G, _, rfl, Nat.le_refl _, heap_alloc_new w.drew _, Nat.zero_le _, hle, by
        have hzl : ∀ m, (Builtin.zeroCells (Value.int .i64 0).cells m).size = m := fun m => by unfold Builtin.zeroCells; simp [Value.cells]
        rw [Array.size_append, hzl, hzl]; omega, rfl⟩⟩
    unfold Oper.wp execOp
    simp only [ho, resolve, invoke, builtin, Sem.run_bind, Sem.run_pure, Result.andThen_ok, List.map_toArray, List.map_cons, List.map_nil, hs, hx, happ]
    exact hK _ _ (h G _ hge (by unfold maxLen at hle; omega) hown hb)
set_option maxRecDepth 100000 in
set_option maxHeartbeats 4000000 in
theorem grow_ (n : Nat) (w : World) (hn : n ≤ 1000000) : Calls Try.prog 78 #[.slice none 0 0, .int .i64 (n : Int)] w fun e w' => ∃ v, e = .returned v ∧ w'.ownsRow w.heap.size 3 1 v ([] : List Int).length (ints []) ∧ Below w.heap.size w w' := by
  have hw0 : IntKind.i64.wrap ((n : Int) - 0) = (n : Int) := by rw [IntWalk.i64_in _ (by omega)]; omega
  have hw1 : IntKind.i64.wrap (n : Int) = (n : Int) := IntWalk.i64_in _ (by omega)
  have d0 : decide ((n : Int) < 0) = false := decide_eq_false (by omega)
  rcases Nat.eq_zero_or_pos n with h0 | h0
  · subst h0
    have hb := Below.refl w.heap.size w
    have ho := own_nilI w w.heap.size 3
    have HB := Lib.hid hb; have HO := Lib.hid ho; clear hb ho
    go_enter Try.func78, Try.ntmps78
    go_wp2
    go_ret
    exact ⟨_, rfl, HO.out, HB.out⟩
  · have d1 : decide ((0 : Int) < (n : Int)) = true := decide_eq_true (by omega)
    have d2 : decide (0 < n) = true := decide_eq_true h0
    go_enter Try.func78, Try.ntmps78
    go_wp2_with (at_builtin; go_must (refine wpList_zeros_Try (by rfl) _ _ (by rfl) n (by rfl) (by rfl) h0 hn ?_); intro G w1 hG hG2 ho hb; have HO := Lib.hid ho; have HB := Lib.hid hb; clear ho hb)
    go_ret
    exact ⟨_, rfl, HO.out, HB.out⟩
/-- A slice that is so long. -/
def LenV (n : Nat) (w : World) (e : Ending) (w' : World) : Prop := ∃ A c, e = .returned (.slice A n c) ∧ Below w.heap.size w w'
set_option maxRecDepth 100000 in
set_option maxHeartbeats 4000000 in
theorem concat_ (A : Option Addr) (c base : Nat) (ls : List (List Nat)) (w : World) (h : LLV w base (.slice A ls.length c) ls) (hn : totL ls ≤ 100000) (hl : ls.length ≤ 100000) :
    Calls Try.prog 50 #[.slice A ls.length c] w (LenV (totL ls) w) := by
  have hb := Below.refl w.heap.size w
  have hlk : ∀ k, k < ls.length → (ls.getD k []).length ≤ 100000 := fun k hk => by
    have h1 := totL_take ls hk
    have h2 := totL_le ls (k + 1)
    omega
  have H := Lib.hid h; have HB := Lib.hid hb; have HLK := Lib.hid hlk; clear h hb hlk
  go_enter Try.func50, Try.ntmps50
  go_wp2
  go_loopw [3, 5, 11] (fun sv _ iv wr => ∃ k : Nat, iv = .int .i64 (k : Int) ∧ k ≤ ls.length ∧ sv = .int .i64 (totL (ls.take k) : Int) ∧ w = wr) (fun _ _ iv _ => ls.length - (intOf iv).toNat)
  case atStart => exact ⟨0, rfl, Nat.zero_le _, rfl, rfl⟩
  case round =>
    obtain ⟨k, rfl, hk, rfl, rfl⟩ := hrel
    have ht := totL_take ls (k := k)
    have htl := totL_le ls k
    have htl2 := totL_le ls (k + 1)
    by_cases hlt : k < ls.length
    · obtain ⟨bl, rfl, hbl, VA, vc, l1, hrv⟩ := H.out.at_ hlt (Nat.le_trans (HLK.out k hlt) (by omega))
      have ht := ht hlt
      rw [outI_len] at l1
      obtain ⟨q, hq⟩ : ∃ q, q = (ls.getD k []).length := ⟨_, rfl⟩
      obtain ⟨s, hs⟩ : ∃ s, s = totL (ls.take k) := ⟨_, rfl⟩
      rw [← hq] at l1 ht
      rw [← hs] at ht htl ⊢
      have hw : IntKind.i64.wrap ((s : Int) + (q : Int)) = ((s + q : Nat) : Int) := by rw [IntWalk.i64_in _ (by omega)]; omega
      have hw2 : IntKind.i64.wrap ((s : Int) + (q : Int)) = (s : Int) + (q : Int) := by rw [hw]; omega
      clear hw
      have d0 : decide ((s : Int) + (q : Int) < 0) = false := decide_eq_false (by omega)
      have x1 : (0 : Int) ≤ (k : Int) := by omega
      have x2 : (k : Int) < (ls.length : Int) := by omega
      have hsq : s + q ≤ 100000 := by omega
      have HRV := Lib.hid hrv; have HQ := Lib.hid hq; have HS := Lib.hid hs; have HT := Lib.hid ht; have HTL := Lib.hid htl; have HTL2 := Lib.hid htl2; clear hrv hq hs ht htl htl2
      go_wp2
      go_roundw
      case rel => exact ⟨k + 1, by go_num, by omega, by rw [HT.out]; simp, trivial⟩
      case measure => simp [intOf]; omega
    · have hkl : k = ls.length := by omega
      have hte : totL (ls.take k) = totL ls := by rw [hkl, List.take_length]
      rw [hte]
      obtain ⟨N, hN⟩ : ∃ N, N = totL ls := ⟨_, rfl⟩
      have HNQ := Lib.hid hN
      rw [← hN] at hn ⊢
      have hg := grow_ N w (by omega)
      clear ht htl htl2 hte
      have HN := Lib.hid hN; have HG := Lib.hid hg; have HKL := Lib.hid hkl; clear hN hg hkl
      go_wp2_with fail
      refine HG.out.mono ?_
      rintro e w1 ⟨v, rfl, ho, hb1⟩
      have HB1 := Lib.hid hb1
      clear hb1
      have HO := Lib.hid ho; clear ho
      go_wp2
      go_loopw [6, 8, 27] (fun sv _ iv wr => ∃ (k : Nat) (xs : List Int), iv = .int .i64 (k : Int) ∧ k ≤ ls.length ∧ wr.ownsRow w.heap.size 3 1 sv xs.length (ints xs) ∧ xs.length = totL (ls.take k) ∧ Below w.heap.size w wr) (fun _ _ iv _ => ls.length - (intOf iv).toNat)
      case atStart => exact ⟨0, [], rfl, Nat.zero_le _, HO.out, rfl, HB1.out⟩
      case round =>
        clear HO HB1
        obtain ⟨k, xs, rfl, hk, hown, hxs, hbw⟩ := hrel
        obtain ⟨OA, oc, rfl⟩ := own_slice1 hown
        have ht := totL_take ls (k := k)
        have htl2 := totL_le ls (k + 1)
        have htl := totL_le ls k
        have hn2 : totL ls ≤ 100000 := by rw [← HN.out]; exact hn
        by_cases hlt : k < ls.length
        · obtain ⟨bl, rfl, hbl, VA, vc, l1, hrv⟩ := (H.out.later hbw).at_ hlt (Nat.le_trans (HLK.out k hlt) (by omega))
          have ht := ht hlt
          have x1 : (0 : Int) ≤ (k : Int) := by omega
          have x2 : (k : Int) < (ls.length : Int) := by omega
          have hq : (outI (ls.getD k [])).length = (ls.getD k []).length := outI_len _
          obtain ⟨ys, hys⟩ : ∃ ys, ys = outI (ls.getD k []) := ⟨_, rfl⟩
          rw [← hys] at l1 hrv hq
          have hbs : xs.length + ys.length ≤ 1000000 := by omega
          have hwz := hbw.size
          have HOWN := Lib.hid hown; have HXS := Lib.hid hxs; have HBW := Lib.hid hbw; have HRV := Lib.hid hrv; have HQ := Lib.hid hq; have HYS := Lib.hid hys; have HT := Lib.hid ht; have HTL := Lib.hid htl; have HTL2 := Lib.hid htl2; have HN2 := Lib.hid hn2; clear hown hxs hbw hrv hq hys ht htl htl2 hn2
          go_wp2_with (
            at_builtin
            go_must (refine wpList_appAllI_Try (by rfl) _ _ (by rfl) w.heap.size (.slice OA xs.length oc) xs (by rfl) HOWN.out VA vc ys (by rfl) HRV.out hbs hwz ?_)
            intro A1 c1 w2 hown2 hg2 hat2
            have hb2 := HBW.out.grown hg2 hwz (fun j hj => (HOWN.out.lt j hj).1)
            clear hg2 hat2
            have HOWN2 := Lib.hid hown2; have HB2 := Lib.hid hb2; clear hown2 hb2
            skip)
          go_roundw
          case rel => exact ⟨k + 1, xs ++ ys, by go_num, by omega, by have h9 := HOWN2.out; rw [show (Value.slice A1 (xs ++ ys).length c1) = Value.slice A1 (xs.length + ys.length) c1 by rw [List.length_append]] at h9; exact h9, by rw [List.length_append, HXS.out, HQ.out, HT.out], HB2.out⟩
          case measure => simp [intOf]; omega
        · have hkl2 : k = ls.length := by omega
          have hxl : xs.length = N := by rw [hxs, hkl2, List.take_length, HN.out]
          rw [hxl] at hown ⊢
          clear ht htl htl2
          have HOWN := Lib.hid hown; have HXS := Lib.hid hxs; have HBW := Lib.hid hbw; have HKL2 := Lib.hid hkl2; have HN2 := Lib.hid hn2; have HXL := Lib.hid hxl; clear hown hxs hbw hkl2 hn2 hxl
          go_wp2
          go_ret
          rw [← HNQ.out]
          exact ⟨_, _, rfl, HBW.out⟩
end Go.Proofs.Ytdimaapiloojeaa
/- Capacity. -/
namespace Go.Proofs.Ytdimaapiloojeaa
open Go.RowKit

/-- All threads can be wound with so few knots. -/
noncomputable def enB (l : List (Int × List Int)) (knots : Int) (most : Int) : Bool := decide (wlE l most = 0) && decide ((totL (wlL l most) : Int) ≤ knots)
theorem wlL_len (l : List (Int × List Int)) (most : Int) (h : wlE l most = 0) : (wlL l most).length = l.length := by
  unfold wlL; rw [if_pos h, List.length_map]
theorem knO_len {need : Int} {ps : List Int} {most : Int} {q : List Nat} (h : knO need ps most = some q) : q.length ≤ ps.length + 1 := by
  have h1 := knO_some.1 h
  have h2 := wdP_len q 0 (by omega) h1.1
  omega
theorem wlL_tot (l : List (Int × List Int)) (most : Int) (hz : thsE l = 0) : totL (wlL l most) ≤ 201 * l.length := by
  unfold wlL
  split
  · have hok := thsE_ok hz
    have h : ∀ (m : List (Int × List Int)), (∀ t, t ∈ m → thrE t.1 t.2 = 0) → totL (m.map fun t => (knM most t).getD []) ≤ 201 * m.length := by
      intro m
      induction m with
      | nil => exact fun _ => by simp [totL]
      | cons t m ih =>
        intro hm
        have h1 := ih fun t ht => hm t (by simp [ht])
        have h2 := (thrE_ok (hm t (by simp))).2.1
        have h3 : ((knM most t).getD []).length ≤ 201 := by
          unfold knM
          cases hk : knO t.1 t.2 most with
          | none => simp
          | some q => have := knO_len hk; simp; omega
        rw [List.map_cons, totL, List.length_cons]
        omega
    refine h l fun t ht => ?_
    obtain ⟨k, hk, rfl⟩ := List.mem_iff_getElem.1 ht
    exact hok k hk
  · simp [totL]
theorem wlE_ths {l : List (Int × List Int)} {most : Int} (h : wlE l most = 0) : thsE l = 0 := by
  unfold wlE at h
  by_cases h1 : thsE l = 0
  · exact h1
  · rw [if_pos h1] at h; exact absurd h h1
theorem thsE_len {l : List (Int × List Int)} (h : thsE l = 0) : l.length ≤ 48 := by
  unfold thsE at h
  split at h
  · omega
  · omega
set_option maxRecDepth 100000 in
set_option maxHeartbeats 4000000 in
theorem capacity1_ (X Y c : Nat) (A : Option Addr) (l : List (Int × List Int)) (knots i : Int) (w : World) (hr : RdTh w A l) (hX : w.heap[X]? = some (.cells #[.slice A l.length c] 49 (0, 0))) (hY : w.heap[Y]? = some (.cells #[.int .i64 knots] 3 (0, 0))) (hi : 0 ≤ i ∧ i ≤ 1000000000000) :
    Calls Try.prog 49 #[.int .i64 i, .pointer (some ⟨X, 0, none⟩), .pointer (some ⟨Y, 0, none⟩)] w (BoolPost (enB l knots (i + 1)) w) := by
  have c0 := cell_of_row _ _ 0 _ _ _ hX
  simp only [List.getElem?_toArray, List.getElem?_cons_zero] at c0
  have l0 := lt_of_block hX
  have hw : IntKind.i64.wrap (i + 1) = i + 1 := IntWalk.i64_in _ (by omega)
  obtain ⟨R, hR⟩ : ∃ R, R = enB l knots (i + 1) := ⟨_, rfl⟩
  have HRQ := Lib.hid hR
  unfold enB at hR
  have hcall := bWindAll_ A c l (i + 1) w hr
  have hlt := wlL_tot l (i + 1)
  have hle := @wlE_ths l (i + 1)
  have hln := @thsE_len l
  have HR := Lib.hid hr; have HX := Lib.hid hX; have HY := Lib.hid hY; have HI := Lib.hid hi; have HCALL := Lib.hid hcall; have HR := Lib.hid hR; have HLT := Lib.hid hlt; have HLE := Lib.hid hle; have HLN := Lib.hid hln; clear hr hX hY hi hcall hR hlt hle hln
  go_enter Try.func49, Try.ntmps49
  go_wp2_with fail
  refine HCALL.out.mono ?_
  rintro e w1 ⟨v, rfl, hv, hb1⟩
  have hY1 := (hb1.block _ (lt_of_block HY.out)).trans HY.out
  have c1 := cell_of_row _ _ 0 _ _ _ hY1
  simp only [List.getElem?_toArray, List.getElem?_cons_zero] at c1
  have l1 := lt_of_block hY1
  obtain ⟨vs, hov, _⟩ := id hv
  obtain ⟨VA, vc, rfl⟩ := own_slice1 hov
  clear hov c0
  by_cases he : wlE l (i + 1) = 0
  rotate_left
  · rw [decide_eq_false he, Bool.false_and] at HR
    generalize wlE l (i + 1) = E at *
    have e1 : (E == 0) = false := by rw [beq_eq_false_iff_ne]; exact he
    have HB1 := Lib.hid hb1; have HY1 := Lib.hid hY1; have HV := Lib.hid hv; have HE := Lib.hid he; clear hb1 hY1 hv he
    go_upto_region 2 with fail
    have hbelc : ∀ (u : Bel w1.heap.size w1) b o, b < w1.heap.size → u.wd.cell? ⟨b, o, none⟩ = w1.cell? ⟨b, o, none⟩ := fun u b o h => u.h.cell (p := ⟨b, o, none⟩) h
    have hbeln : Nonempty (Bel w1.heap.size w1) := ⟨⟨w1, Below.refl _ _⟩⟩
    refine wp_region_bel w1.heap.size (by kernel_rfl) (by kernel_rfl) ?_
    repeat (go_big_quiet_step ((fail)))
    refine wpQuiet_nil ?_
    intro wB hB0; obtain ⟨uB, hu⟩ := hB0; have hbB0 := uB.h; rw [← hu] at hbB0; clear hu uB hbelc hbeln
    obtain ⟨hbB, hcB, hsB⟩ := bcell2 hbB0; clear hbB0
    have hb2 := HB1.out.trans (hbB.mono HB1.out.size)
    clear hbB hcB hsB
    have HB2 := Lib.hid hb2; clear hb2
    go_wp2
    go_ret
    exact ⟨by rw [← HRQ.out, HR.out]; rfl, HB2.out⟩
  · rw [he]
    obtain ⟨n, hn⟩ : ∃ n, n = totL (wlL l (i + 1)) := ⟨_, rfl⟩
    have hths := HLE.out he
    have hlen := wlL_len l (i + 1) he
    have h48 := HLN.out hths
    have htot := HLT.out hths
    have hcat := concat_ VA vc w.heap.size (wlL l (i + 1)) w1 hv (by omega) (by omega)
    rw [decide_eq_true he, Bool.true_and] at HR
    rw [← hn] at hcat HR
    obtain ⟨ln, hln⟩ : ∃ ln, ln = (wlL l (i + 1)).length := ⟨_, rfl⟩
    rw [← hln] at hcat ⊢
    have e1 : ((0 : Int) == 0) = true := rfl
    have hcat2 := fun W (hW : Below w1.heap.size w1 W) => concat_ VA vc w.heap.size (wlL l (i + 1)) W (hv.later hW) (by omega) (by omega)
    rw [← hn, ← hln] at hcat2
    by_cases hle : (n : Int) ≤ knots
    · have d1 : decide ((n : Int) ≤ knots) = true := decide_eq_true hle
      rw [d1] at HR
      have HB1 := Lib.hid hb1; have HY1 := Lib.hid hY1; have HV := Lib.hid hv; have HE := Lib.hid he; have HN := Lib.hid hn; have HTHS := Lib.hid hths; have HLEN := Lib.hid hlen; have H48 := Lib.hid h48; have HTOT := Lib.hid htot; have HCAT := Lib.hid hcat; have HLN := Lib.hid hln; have HCAT2 := Lib.hid hcat2; have HLE := Lib.hid hle; clear hb1 hY1 hv he hn hths hlen h48 htot hcat hln hcat2 hle
      go_upto_region 2 with fail
      go_region_held3 (fun wX => Below w1.heap.size w1 wX ∧ (∀ b o, b < w1.heap.size → wX.cell? ⟨b, o, none⟩ = w1.cell? ⟨b, o, none⟩) ∧ w1.heap.size ≤ wX.heap.size) ((refine bcell2 ?_; first | exact (Below.refl _ _).drew | exact ‹Below w1.heap.size w1 _ ∧ _›.1.trans (hbH.mono ‹Below w1.heap.size w1 _ ∧ _›.1.size) | exact ‹Below w1.heap.size w1 _ ∧ _›.1.alloc ‹Below w1.heap.size w1 _ ∧ _›.1.size _ | exact ‹Below w1.heap.size w1 _ ∧ _›.1)) ((go_at_call 50; refine (HCAT2.out _ (‹Below w1.heap.size w1 _ ∧ _›.1)).mono ?_; rintro e w2 ⟨A2, c2, rfl, hbH⟩))
      all_goals
        have hbX := HB1.out.trans (‹Below w1.heap.size w1 _ ∧ _›.1.mono HB1.out.size)
        go_wp2
        go_ret
        exact ⟨by rw [← HRQ.out, HR.out]; rfl, hbX⟩
    · have d1 : decide ((n : Int) ≤ knots) = false := decide_eq_false hle
      rw [d1] at HR
      have HB1 := Lib.hid hb1; have HY1 := Lib.hid hY1; have HV := Lib.hid hv; have HE := Lib.hid he; have HN := Lib.hid hn; have HTHS := Lib.hid hths; have HLEN := Lib.hid hlen; have H48 := Lib.hid h48; have HTOT := Lib.hid htot; have HCAT := Lib.hid hcat; have HLN := Lib.hid hln; have HCAT2 := Lib.hid hcat2; have HLE := Lib.hid hle; clear hb1 hY1 hv he hn hths hlen h48 htot hcat hln hcat2 hle
      go_upto_region 2 with fail
      go_region_held3 (fun wX => Below w1.heap.size w1 wX ∧ (∀ b o, b < w1.heap.size → wX.cell? ⟨b, o, none⟩ = w1.cell? ⟨b, o, none⟩) ∧ w1.heap.size ≤ wX.heap.size) ((refine bcell2 ?_; first | exact (Below.refl _ _).drew | exact ‹Below w1.heap.size w1 _ ∧ _›.1.trans (hbH.mono ‹Below w1.heap.size w1 _ ∧ _›.1.size) | exact ‹Below w1.heap.size w1 _ ∧ _›.1.alloc ‹Below w1.heap.size w1 _ ∧ _›.1.size _ | exact ‹Below w1.heap.size w1 _ ∧ _›.1)) ((go_at_call 50; refine (HCAT2.out _ (‹Below w1.heap.size w1 _ ∧ _›.1)).mono ?_; rintro e w2 ⟨A2, c2, rfl, hbH⟩))
      all_goals
        have hbX := HB1.out.trans (‹Below w1.heap.size w1 _ ∧ _›.1.mono HB1.out.size)
        go_wp2
        go_ret
        exact ⟨by rw [← HRQ.out, HR.out]; rfl, hbX⟩
/-- What the search finds. -/
def SrchPost (P : Int → Bool) (n : Int) (w : World) (e : Ending) (w' : World) : Prop := ∃ r : Int, e = .returned (.int .i64 r) ∧ 0 ≤ r ∧ r ≤ n ∧ (0 < r → P (r - 1) = false) ∧ (r < n → P r = true) ∧ Below w.heap.size w w'
set_option maxRecDepth 100000 in
set_option maxHeartbeats 4000000 in
theorem search_ (X Y : Nat) (P : Int → Bool) (n : Int) (w : World) (hn : 0 ≤ n ∧ n ≤ 1000000000000) (hf : ∀ i W, 0 ≤ i → i < n → Below w.heap.size w W → Calls Try.prog 49 #[.int .i64 i, .pointer (some ⟨X, 0, none⟩), .pointer (some ⟨Y, 0, none⟩)] W (BoolPost (P i) W)) :
    Calls Try.prog 48 #[.int .i64 n, .func (.func 49) #[] #[.pointer (some ⟨X, 0, none⟩), .pointer (some ⟨Y, 0, none⟩)]] w (SrchPost P n w) := by
  have hb := Below.refl w.heap.size w
  obtain ⟨N, rfl⟩ := Int.eq_ofNat_of_zero_le hn.1
  have hn2 : N ≤ 1000000000000 := by omega
  have HB := Lib.hid hb; have HF := Lib.hid hf; have HN := Lib.hid hn; have HN2 := Lib.hid hn2; clear hb hf hn hn2
  go_enter Try.func48, Try.ntmps48
  go_wp2
  go_loopw [5, 6, 7] (fun iv jv _ wr => ∃ i j : Nat, iv = .int .i64 (i : Int) ∧ jv = .int .i64 (j : Int) ∧ i ≤ j ∧ j ≤ N ∧ (0 < i → P ((i : Int) - 1) = false) ∧ (j < N → P (j : Int) = true) ∧ Below w.heap.size w wr) (fun iv jv _ _ => (intOf jv).toNat - (intOf iv).toNat)
  case atStart => exact ⟨0, N, rfl, rfl, by omega, Nat.le_refl _, fun h => absurd h (by omega), fun h => absurd h (by omega), HB.out⟩
  case round =>
    obtain ⟨i, j, rfl, rfl, hij, hjN, hi, hj, hbw⟩ := hrel
    by_cases hlt : i < j
    · have d1 : decide ((i : Int) < (j : Int)) = true := decide_eq_true (by omega)
      have d2 : decide (i < j) = true := decide_eq_true hlt
      have hN := HN2.out
      obtain ⟨s, hs⟩ : ∃ s, s = i + j := ⟨_, rfl⟩
      obtain ⟨m, hm⟩ : ∃ m, m = s / 2 := ⟨_, rfl⟩
      have hw : IntKind.i64.wrap ((i : Int) + (j : Int)) = (s : Int) := by rw [IntWalk.i64_in _ (by omega)]; omega
      have hwu : IntKind.u64.wrap (s : Int) = (s : Int) := by rw [IntKind.wrap_u64]; omega
      have hwd : wrap64 ((s : Int) / 2) = (m : Int) := by unfold wrap64; omega
      have hwm : IntKind.i64.wrap ((m : Int) + 1) = ((m + 1 : Nat) : Int) := by rw [IntWalk.i64_in _ (by omega)]; omega
      have hcall := HF.out (m : Int) wr (by omega) (by omega) hbw
      obtain ⟨p, hp⟩ : ∃ p, p = P (m : Int) := ⟨_, rfl⟩
      rw [← hp] at hcall
      cases p with
      | true =>
        have HI := Lib.hid hi; have HJ := Lib.hid hj; have HBW := Lib.hid hbw; have HLT := Lib.hid hlt; have HN := Lib.hid hN; have HCALL := Lib.hid hcall; have HS := Lib.hid hs; have HM := Lib.hid hm; have HP := Lib.hid hp; clear hi hj hbw hlt hN hcall hs hm hp
        go_wp2_with fail
        refine HCALL.out.mono ?_
        rintro e w1 ⟨rfl, b1⟩
        have hb1 := HBW.out.trans (b1.mono HBW.out.size)
        clear b1
        have HB1 := Lib.hid hb1; clear hb1
        go_wp2
        go_roundw
        case rel => exact ⟨i, m, rfl, rfl, by have := HS.out; have := HM.out; have := HLT.out; omega, by have := HS.out; have := HM.out; have := HLT.out; omega, HI.out, fun _ => HP.out.symm, HB1.out⟩
        case measure => have := HS.out; have := HM.out; have := HLT.out; simp [intOf]; omega
      | false =>
        have HI := Lib.hid hi; have HJ := Lib.hid hj; have HBW := Lib.hid hbw; have HLT := Lib.hid hlt; have HN := Lib.hid hN; have HCALL := Lib.hid hcall; have HS := Lib.hid hs; have HM := Lib.hid hm; have HP := Lib.hid hp; clear hi hj hbw hlt hN hcall hs hm hp
        go_wp2_with fail
        refine HCALL.out.mono ?_
        rintro e w1 ⟨rfl, b1⟩
        have hb1 := HBW.out.trans (b1.mono HBW.out.size)
        clear b1
        have HB1 := Lib.hid hb1; clear hb1
        go_wp2
        go_roundw
        case rel => exact ⟨m + 1, j, by go_num, rfl, by have := HS.out; have := HM.out; have := HLT.out; omega, hjN, fun _ => by rw [show ((m + 1 : Nat) : Int) - 1 = (m : Int) by omega]; exact HP.out.symm, HJ.out, HB1.out⟩
        case measure => have := HS.out; have := HM.out; have := HLT.out; simp [intOf]; omega
    · have d1 : decide ((i : Int) < (j : Int)) = false := decide_eq_false (by omega)
      have d2 : decide (i < j) = false := decide_eq_false hlt
      have HI := Lib.hid hi; have HJ := Lib.hid hj; have HBW := Lib.hid hbw; have HLT := Lib.hid hlt; clear hi hj hbw hlt
      go_wp2
      go_ret
      exact ⟨_, rfl, by omega, by omega, fun h => HI.out (by omega), fun h => by have := HLT.out; have e : j = i := by omega
                                                                                 rw [← e]; exact HJ.out (by omega), HBW.out⟩
/-- The error of Capacity. -/
def cpE (l : List (Int × List Int)) (knots : Int) : Int := if thsE l ≠ 0 then thsE l else if knots < 0 ∨ 10000 < knots then 2 else 0
/-- What Capacity gives: the first capacity that is enough, and the one below is not. -/
def CapPost (l : List (Int × List Int)) (knots : Int) (w : World) (e : Ending) (w' : World) : Prop := ∃ r : Int, e = .returned (.tuple #[.int .i64 r, .int .i64 (cpE l knots)]) ∧ (cpE l knots ≠ 0 → r = 0) ∧ (cpE l knots = 0 → 1 ≤ r ∧ r ≤ 1000000000000 ∧ (1 < r → enB l knots (r - 1) = false) ∧ (r < 1000000000000 → enB l knots r = true)) ∧ Below w.heap.size w w'
set_option maxRecDepth 100000 in
set_option maxHeartbeats 4000000 in
theorem bCapacity_ (A : Option Addr) (c : Nat) (l : List (Int × List Int)) (knots : Int) (w : World) (hr : RdTh w A l) :
    Calls Try.prog 25 #[.slice A l.length c, .int .i64 knots] w (CapPost l knots w) := by
  obtain ⟨w2, hw2⟩ : ∃ w2, w2 = (w.alloc (.cells #[.slice A l.length c] 49)).alloc (.cells #[.int .i64 knots] 3) := ⟨_, rfl⟩
  have hb : Below w.heap.size w w2 := by rw [hw2]; exact ((Below.refl _ _).alloc (Nat.le_refl _) _).alloc (by simp) _
  have hX : w2.heap[w.heap.size]? = some (.cells #[.slice A l.length c] 49 (0, 0)) := by rw [hw2]; exact heap_alloc2_old _ _ _
  have hY : w2.heap[w.heap.size + 1]? = some (.cells #[.int .i64 knots] 3 (0, 0)) := by rw [hw2]; exact heap_alloc2_new _ _ _
  have hr2 := hr.later hb (Nat.le_refl _)
  obtain ⟨E, hE⟩ : ∃ E, E = cpE l knots := ⟨_, rfl⟩
  have HEQ := Lib.hid hE
  unfold cpE at hE
  have HR := Lib.hid hr; have HB := Lib.hid hb; have HX := Lib.hid hX; have HY := Lib.hid hY; have HR2 := Lib.hid hr2; have HW2 := Lib.hid hw2; clear hr hb hX hY hr2 hw2
  go_enter Try.func25, Try.ntmps25
  go_upto_region 1 with fail
  rw [← HW2.out]
  have c0 := cell_of_row _ _ 0 _ _ _ HX.out
  simp only [List.getElem?_toArray, List.getElem?_cons_zero] at c0
  have l0 := lt_of_block HX.out
  go_wp2_with fail
  refine (bCheckAll_ A c l _ HR2.out).mono ?_
  rintro e w3 ⟨rfl, b1⟩
  have hb3 := HB.out.trans (b1.mono HB.out.size)
  have hX3 := (b1.block _ (lt_of_block HX.out)).trans HX.out
  have hY3 := (b1.block _ (lt_of_block HY.out)).trans HY.out
  have hr3 := HR2.out.later b1 (Nat.le_refl _)
  clear b1 c0 l0
  by_cases hz : thsE l = 0
  rotate_left
  · rw [if_pos hz] at hE
    generalize thsE l = E0 at *
    have e1 : (E0 == 0) = false := by rw [beq_eq_false_iff_ne]; exact hz
    have e2 : (E0 != 0) = true := by simp [hz]
    have HB3 := Lib.hid hb3; have HX3 := Lib.hid hX3; have HY3 := Lib.hid hY3; have HR3 := Lib.hid hr3; have HE := Lib.hid hE; have HZ := Lib.hid hz; clear hb3 hX3 hY3 hr3 hE hz
    go_wp2
    go_ret2
    refine ⟨0, ?_, fun _ => rfl, fun h => ?_, HB3.out⟩
    · rw [← HEQ.out, HE.out]; rfl
    · rw [← HEQ.out, HE.out] at h; exact absurd h HZ.out
  rw [if_neg (fun h => h hz)] at hE
  rw [hz]
  have c1 := cell_of_row _ _ 0 _ _ _ hY3
  simp only [List.getElem?_toArray, List.getElem?_cons_zero] at c1
  have l1 := lt_of_block hY3
  by_cases hk : knots < 0
  · have d1 : decide (knots < 0) = true := decide_eq_true hk
    rw [if_pos (.inl hk)] at hE
    have HB3 := Lib.hid hb3; have HX3 := Lib.hid hX3; have HY3 := Lib.hid hY3; have HR3 := Lib.hid hr3; have HE := Lib.hid hE; have HZ := Lib.hid hz; have HK := Lib.hid hk; clear hb3 hX3 hY3 hr3 hE hz hk
    go_wp2
    go_ret2
    refine ⟨0, ?_, fun _ => rfl, fun h => ?_, HB3.out⟩
    · rw [← HEQ.out, HE.out]; rfl
    · rw [← HEQ.out, HE.out] at h; cases h
  have d1 : decide (knots < 0) = false := decide_eq_false hk
  by_cases hk2 : 10000 < knots
  · have d2 : decide (10000 < knots) = true := decide_eq_true hk2
    rw [if_pos (.inr hk2)] at hE
    have HB3 := Lib.hid hb3; have HX3 := Lib.hid hX3; have HY3 := Lib.hid hY3; have HR3 := Lib.hid hr3; have HE := Lib.hid hE; have HZ := Lib.hid hz; have HK := Lib.hid hk; clear hb3 hX3 hY3 hr3 hE hz hk
    go_wp2
    go_ret2
    refine ⟨0, ?_, fun _ => rfl, fun h => ?_, HB3.out⟩
    · rw [← HEQ.out, HE.out]; rfl
    · rw [← HEQ.out, HE.out] at h; cases h
  have d2 : decide (10000 < knots) = false := decide_eq_false hk2
  rw [if_neg (by omega)] at hE
  have hcall := search_ w.heap.size (w.heap.size + 1) (fun i => enB l knots (i + 1)) 999999999999 w3 ⟨by omega, by omega⟩ (fun i W h1 h2 hW => capacity1_ _ _ c A l knots i W (hr3.later hW (Nat.le_refl _)) ((hW.block _ (lt_of_block hX3)).trans hX3) ((hW.block _ (lt_of_block hY3)).trans hY3) ⟨h1, by omega⟩)
  have HB3 := Lib.hid hb3; have HX3 := Lib.hid hX3; have HY3 := Lib.hid hY3; have HR3 := Lib.hid hr3; have HE := Lib.hid hE; have HZ := Lib.hid hz; have HK := Lib.hid hk; have HK2 := Lib.hid hk2; have HCALL := Lib.hid hcall; clear hb3 hX3 hY3 hr3 hE hz hk hk2 hcall
  go_wp2_with fail
  refine HCALL.out.mono ?_
  rintro e w4 ⟨r, rfl, h1, h2, h3, h4, b4⟩
  have hb4 := HB3.out.trans (b4.mono HB3.out.size)
  clear b4
  have hw1 : IntKind.i64.wrap (1 + r) = r + 1 := by rw [IntWalk.i64_in _ (by omega)]; omega
  have HB4 := Lib.hid hb4; have H3 := Lib.hid h3; have H4 := Lib.hid h4; have H2 := Lib.hid h2; clear hb4 h3 h4 h2
  go_wp2
  go_ret2
  refine ⟨r + 1, ?_, fun h => ?_, fun _ => ⟨by omega, by have := H2.out; omega, fun h => ?_, fun h => H4.out (by omega)⟩, HB4.out⟩
  · rw [← HEQ.out, HE.out]; rfl
  · rw [← HEQ.out, HE.out] at h; exact absurd rfl h
  · have h5 := H3.out (by omega)
    rw [show r - 1 + 1 = r + 1 - 1 by omega] at h5
    exact h5
end Go.Proofs.Ytdimaapiloojeaa
/- The law's own check, pure: what the document's examples come to. -/
namespace Go.Proofs.Ytdimaapiloojeaa
open Go.RowKit

/- The path. -/
theorem sqF_1 : SqF 1 := ⟨by decide, fun d hd h => by
  have := Nat.le_of_dvd (by decide) h
  have := Nat.mul_le_mul (show 2 ≤ d from hd) (show 2 ≤ d from hd)
  omega⟩
theorem sqF_2 : SqF 2 := ⟨by decide, fun d hd h => by
  have := Nat.le_of_dvd (by decide) h
  have := Nat.mul_le_mul (show 2 ≤ d from hd) (show 2 ≤ d from hd)
  omega⟩
theorem aw_len : lenR 1 0 1 [(0, 0), (3, 4), (4, 5)] = ([(5, 1), (1, 2)], 0) := by
  have e1 : sqsK 1 0 1 [(0, 0), (3, 4), (4, 5)] 3 = [0, 25, 2] := by decide
  have e2 : nrt 25 = (5, 1) := nrt_is (K := 5) (S := 1) (by decide) ⟨by decide, sqF_1⟩
  have e3 : nrt 2 = (1, 2) := nrt_is (K := 1) (S := 2) (by decide) ⟨by decide, sqF_2⟩
  have s0 : stepL [] 0 (nrt 0) = [] := by unfold stepL; rw [if_neg (by decide)]
  have s1 : stepL [] 25 (nrt 25) = [(5, 1)] := by rw [e2]; unfold stepL; rw [if_pos (by decide), mg_nil]; rfl
  have s2 : stepL [(5, 1)] 2 (nrt 2) = [(5, 1), (1, 2)] := by rw [e3]; unfold stepL; rw [if_pos (by decide)]; unfold mg; rw [if_pos (by decide), mg_nil]; rfl
  have e4 : lenF [0, 25, 2] [] = [(5, 1), (1, 2)] := by rw [lenF, s0, lenF, s1, lenF, s2, lenF]
  unfold lenR
  rw [show ([(0, 0), (3, 4), (4, 5)] : List (Int × Int)).length = 3 from rfl, e1, e4]
  rfl
theorem aw_root {q r : Nat} (hq : 32 ≤ q) (hr : r = Nat.sqrt (2 * 4 ^ q)) : 1414 * 2 ^ q ≤ 1000 * r ∧ 1000 * (r + 1) ≤ 1415 * 2 ^ q := by
  have h1 := Nat.sqrt_le (2 * 4 ^ q)
  have h2 := Nat.lt_succ_sqrt (2 * 4 ^ q)
  rw [← hr] at h1 h2
  have h4 : 4 ^ q = 2 ^ q * 2 ^ q := by rw [show (4 : Nat) = 2 * 2 by decide, Nat.mul_pow]
  have hP : 2 ^ 32 ≤ 2 ^ q := Nat.pow_le_pow_right (by decide) hq
  rw [h4] at h1 h2
  generalize 2 ^ q = P at *
  clear h4 hr
  constructor
  · rcases Nat.lt_or_ge (1000 * r) (1414 * P) with h | h
    · have h5 : 10000 * (r + 1) ≤ 14142 * P := by omega
      have h6 := Nat.mul_le_mul h5 h5
      rw [Nat.mul_mul_mul_comm 10000 (r + 1) 10000 (r + 1), Nat.mul_mul_mul_comm 14142 P 14142 P] at h6
      generalize (r + 1) * (r + 1) = X at *
      generalize P * P = Y at *
      omega
    · exact h
  · rcases Nat.lt_or_ge (1415 * P) (1000 * (r + 1)) with h | h
    · have h5 : 2829 * P ≤ 2000 * r := by omega
      have h6 := Nat.mul_le_mul h5 h5
      rw [Nat.mul_mul_mul_comm 2829 P 2829 P, Nat.mul_mul_mul_comm 2000 r 2000 r] at h6
      have hY : 0 < P * P := Nat.mul_pos (by omega) (by omega)
      generalize r * r = X at *
      generalize P * P = Y at *
      omega
    · exact h
theorem aw_q {q : Nat} (hq : 32 ≤ q) : lsV 1000 [(5, 1), (1, 2)] q = 6414 ∧ lsB 1000 [(5, 1), (1, 2)] q = false ∧ mrV 1000 [(5, 1), (1, 2)] q = 6414 ∧ mrB 1000 [(5, 1), (1, 2)] q = false := by
  obtain ⟨r, hr⟩ : ∃ r, r = Nat.sqrt (2 * 4 ^ q) := ⟨_, rfl⟩
  obtain ⟨h1, h2⟩ := aw_root hq hr
  have hP : 2 ^ 32 ≤ 2 ^ q := Nat.pow_le_pow_right (by decide) hq
  have e1 : rtN 1 q = 2 ^ q := by
    unfold rtN
    refine isq ?_ ?_
    · rw [show (4 : Nat) = 2 * 2 by decide, Nat.mul_pow, Nat.one_mul]; exact Nat.le_refl _
    · rw [show (4 : Nat) = 2 * 2 by decide, Nat.mul_pow, Nat.one_mul, Nat.add_mul, Nat.mul_add]; omega
  have e2 : rtN 2 q = r := hr.symm
  have g0 : gF 1000 q [(5, 1), (1, 2)] 0 = 5000 * 2 ^ q + 1000 * r := by
    unfold gF vF loS loS loS
    simp only [sdR]
    rw [show ((1 : Int)).toNat = 1 from rfl, show ((2 : Int)).toNat = 2 from rfl, e1, e2]
    simp
  have g1 : gF 1000 q [(5, 1), (1, 2)] 1 = 1 := by
    unfold gF vF loS loS loS intB
    simp [sdR]
  have g2 : gF 1000 q [(5, 1), (1, 2)] 2 = 5000 * 2 ^ q + 1000 * (r + 1) := by
    unfold gF vF hiS hiS hiS
    simp only [sdR]
    rw [show ((1 : Int)).toNat = 1 from rfl, show ((2 : Int)).toNat = 2 from rfl]
    unfold moN
    rw [e1, e2]
    simp
  have g3 : gF 1000 q [(5, 1), (1, 2)] 3 = 0 := by
    unfold gF vF hiS hiS hiS
    simp [sdR]
  unfold lsV lsB mrV mrB
  rw [g0, g1, g2, g3]
  unfold flV flB
  generalize 2 ^ q = P at *
  refine ⟨?_, decide_eq_false (by omega), ?_, decide_eq_false (by omega)⟩
  · rw [if_pos (by omega)]
    refine Nat.div_eq_of_lt_le ?_ ?_
    · omega
    · omega
  · rw [if_pos (by omega)]
    refine Nat.div_eq_of_lt_le ?_ ?_
    · omega
    · omega
theorem aw_halts : Halts 1000 [(5, 1), (1, 2)] := ⟨0, by decide, by
  obtain ⟨h1, h2, h3, h4⟩ := aw_q (q := 32) (Nat.le_refl _)
  unfold stopQ
  rw [show 32 * 2 ^ 0 = 32 from rfl, h1, h2, h3, h4]
  rfl⟩
theorem aw_hi {q : Nat} (hq : 32 ≤ q) : needV (hiOf 1000 [(5, 1), (1, 2)] q) 100 50 = 7107 := by
  obtain ⟨h1, h2, h3, h4⟩ := aw_q hq
  unfold hiOf
  rw [h1, h2]
  decide
/- The knots. -/
def awPs : List Int := [30, 50, 60, 90]
theorem aw_thr : thrE 100 awPs = 0 := by decide
theorem aw_asc : AscP 100 awPs := (thrE_ok aw_thr).1
def awB (j : Nat) : Int := if j = 0 then 2 else if j = 1 then 1 else if j = 2 then 1 else 0
theorem aw_bh : BhIs (alF 100 awPs) 6 40 awB := by
  refine ⟨rfl, fun j hj => ?_, fun i j h1 h2 => alF_mono aw_asc i j h1 h2⟩
  have h : ∀ t, ((∀ s, s < t → (j + 1 + s < 6 ∧ alF 100 awPs (j + 1 + s) - alF 100 awPs j ≤ 40)) ∧ ¬ (j + 1 + t < 6 ∧ alF 100 awPs (j + 1 + t) - alF 100 awPs j ≤ 40)) → Fl (alF 100 awPs) 6 40 j t := fun t h => h
  obtain rfl | rfl | rfl | rfl | rfl : j = 0 ∨ j = 1 ∨ j = 2 ∨ j = 3 ∨ j = 4 := by omega
  · exact ⟨1, h 1 (by decide), by decide⟩
  · exact ⟨2, h 2 (by decide), by decide⟩
  · exact ⟨2, h 2 (by decide), by decide⟩
  · exact ⟨2, h 2 (by decide), by decide⟩
  · exact ⟨1, h 1 (by decide), by decide⟩
theorem aw_kn : knO 100 awPs 40 = some [1, 3] := by
  refine knO_some.2 (ChT.bestW aw_bh (by decide) (by decide) ?_ (by decide))
  have hn : ∀ i q, (i < q ∧ q + 1 < 6 ∧ alF 100 awPs q - alF 100 awPs i ≤ 40 ∧ awB q = awB i - 1) → (∀ k, k < 5 → i < k → alF 100 awPs k - alF 100 awPs i ≤ 40 → awB k = awB i - 1 → q ≤ k) → Nxt (alF 100 awPs) 6 40 awB i q := fun i q h1 h2 =>
    ⟨h1.1, h1.2.1, h1.2.2.1, h1.2.2.2, fun k k1 k2 k3 k4 => h2 k (by omega) k1 k3 k4⟩
  exact .cons (by decide) (hn 0 1 (by decide) (by decide)) (.cons (by decide) (hn 1 3 (by decide) (by decide)) (.nil rfl))
theorem aw_knE : knE 100 awPs 40 = 0 := by
  unfold knE
  rw [if_neg (by rw [aw_thr]; decide), if_neg (by decide), if_neg (by rw [aw_kn]; simp)]
theorem aw_knL : knL 100 awPs 40 = [0, 2] := by
  unfold knL
  rw [if_pos ⟨aw_thr, by decide⟩, aw_kn]
  rfl
/- The capacity. -/
def awTs : List (Int × List Int) := [(100, awPs)]
theorem aw_en {m : Int} (h1 : 1 ≤ m) (h2 : m ≤ 1000000000000) : enB awTs 1 m = decide (50 ≤ m) := by
  have ht : thsE awTs = 0 := by decide
  have ho : outR m 1 1000000000000 = false := by unfold outR; simp; omega
  have hE : wlE awTs m = if knO 100 awPs m = none then 4 else 0 := by
    unfold wlE
    rw [if_neg (by rw [ht]; simp), ho, if_neg (by simp)]
    have : (none ∈ awTs.map (knM m)) ↔ knO 100 awPs m = none := by
      unfold awTs knM
      simp only [List.map_cons, List.map_nil, List.mem_singleton]
      exact eq_comm
    by_cases h : knO 100 awPs m = none
    · rw [if_pos (this.2 h), if_pos h]
    · rw [if_neg (fun h' => h (this.1 h')), if_neg h]
  have hal : ∀ a, a < 6 → alF 100 awPs a = [0, 30, 50, 60, 90, 100].getD a 0 := fun a _ => rfl
  by_cases h50 : 50 ≤ m
  · rw [decide_eq_true h50]
    have hw : WdP (alF 100 awPs) 6 m 0 [2] := ⟨by decide, by decide, (by show (50 : Int) - 0 ≤ m; omega), (by show (100 : Int) - 50 ≤ m; omega)⟩
    obtain ⟨q, hq⟩ := best_ex (by omega) (by decide) (by decide) (alF_mono aw_asc) ⟨_, hw⟩
    have hk : knO 100 awPs m = some q := knO_some.2 hq
    have hl := (hq.2 _ hw).1
    have hE2 : wlE awTs m = 0 := by rw [hE, if_neg (by rw [hk]; simp)]
    have hL : wlL awTs m = [q] := by unfold wlL; rw [if_pos hE2]; unfold awTs knM; simp [hk]
    unfold enB
    rw [hE2, hL]
    have h9 : ((totL [q] : Nat) : Int) ≤ 1 := by
      unfold totL totL
      simp only [List.length_cons, List.length_nil] at hl
      omega
    rw [decide_eq_true h9]
    rfl
  · rw [decide_eq_false h50]
    unfold enB
    cases hk : knO 100 awPs m with
    | none => rw [hE, if_pos hk]; rfl
    | some q =>
      have hE2 : wlE awTs m = 0 := by rw [hE, if_neg (by rw [hk]; simp)]
      have hL : wlL awTs m = [q] := by unfold wlL; rw [if_pos hE2]; unfold awTs knM; simp [hk]
      have hq := (knO_some.1 hk).1
      rw [hE2, hL]
      have hlen : 2 ≤ q.length := by
        cases q with
        | nil =>
          have : (100 : Int) - 0 ≤ m := hq
          omega
        | cons a q =>
          cases q with
          | nil =>
            obtain ⟨k1, k2, k3, k4⟩ := hq
            have k5 : alF 100 awPs 5 - alF 100 awPs a ≤ m := k4
            have k6 : alF 100 awPs a - alF 100 awPs 0 ≤ m := k3
            rw [hal 5 (by decide), hal a (by show a < 6; have : a + 1 < 6 := k2; omega)] at k5
            rw [hal 0 (by decide), hal a (by show a < 6; have : a + 1 < 6 := k2; omega)] at k6
            have : a + 1 < 6 := k2
            obtain rfl | rfl | rfl | rfl | rfl : a = 0 ∨ a = 1 ∨ a = 2 ∨ a = 3 ∨ a = 4 := by omega
            all_goals simp at k5 k6; omega
          | cons b q => simp
      have h9 : ¬ ((totL [q] : Nat) : Int) ≤ 1 := by
        unfold totL totL
        omega
      rw [decide_eq_false h9]
      rfl
theorem aw_cpE : cpE awTs 1 = 0 := by decide
theorem aw_cap {r : Int} (h1 : 1 ≤ r) (h2 : r ≤ 1000000000000) (h3 : 1 < r → enB awTs 1 (r - 1) = false) (h4 : r < 1000000000000 → enB awTs 1 r = true) : r = 50 := by
  rcases Int.lt_trichotomy r 50 with h | h | h
  · have := h4 (by omega)
    rw [aw_en h1 h2] at this
    simp at this
    omega
  · exact h
  · have := h3 (by omega)
    rw [aw_en (by omega) (by omega)] at this
    simp at this
    omega
/- The spools. -/
theorem BestP.uniq {needs spools : List Int} {L : List (List Nat)} {p q : List Nat} (h : BestP needs spools L p) (h' : BestP needs spools L q) : p = q := by
  have h1 := h.2.2 q h'.1 h'.2.1
  have h2 := h'.2.2 p h.1 h.2.1
  rcases h1 with h1 | ⟨h1, h3⟩
  · rcases h2 with h2 | ⟨h2, _⟩ <;> omega
  · rcases h2 with h2 | ⟨h2, h4⟩
    · omega
    · rcases h3 with h3 | ⟨h3, h5⟩
      · rcases h4 with h4 | ⟨h4, _⟩ <;> omega
      · rcases h4 with h4 | ⟨h4, h6⟩
        · omega
        · rcases h5 with h5 | h5
          · exact h5
          · rcases h6 with h6 | h6
            · exact h6.symm
            · exact (lexLo_asym h5 h6).elim
def lexB : List Nat → List Nat → Bool
  | a :: l, b :: m => decide (a < b) || (decide (a = b) && lexB l m)
  | _, _ => false
theorem lexB_lo : ∀ l m, lexB l m = true → lexLo l m
  | [], _, h => by unfold lexB at h; cases h
  | _ :: _, [], h => by unfold lexB at h; cases h
  | a :: l, b :: m, h => by
    unfold lexB at h
    simp only [Bool.or_eq_true, Bool.and_eq_true, decide_eq_true_eq] at h
    rcases h with h | ⟨h, h2⟩
    · exact .inl h
    · exact .inr ⟨h, lexB_lo l m h2⟩
theorem aw_best : BestP [5, 4, 3] [6, 8, 7] (allD 3 3) [0, 2, 2] := by
  have h : ∀ q, q ∈ allD 3 3 → (∀ k, k < 3 → 0 ≤ lftF [5, 4, 3] [6, 8, 7] q 3 k) → begP [5, 4, 3] [6, 8, 7] [0, 2, 2] < begP [5, 4, 3] [6, 8, 7] q ∨ begP [5, 4, 3] [6, 8, 7] [0, 2, 2] = begP [5, 4, 3] [6, 8, 7] q ∧ (lonP [5, 4, 3] [6, 8, 7] [0, 2, 2] < lonP [5, 4, 3] [6, 8, 7] q ∨ lonP [5, 4, 3] [6, 8, 7] [0, 2, 2] = lonP [5, 4, 3] [6, 8, 7] q ∧ ([0, 2, 2] = q ∨ lexB [0, 2, 2] q = true)) := by decide
  have hg : ∀ k, k < 3 → 0 ≤ lftF [5, 4, 3] [6, 8, 7] [0, 2, 2] 3 k := by decide
  refine ⟨by decide, hg, fun q hq hgq => ?_⟩
  rcases h q hq hgq with h1 | ⟨h1, h2⟩
  · exact .inl h1
  · refine .inr ⟨h1, ?_⟩
    rcases h2 with h2 | ⟨h2, h3⟩
    · exact .inl h2
    · refine .inr ⟨h2, ?_⟩
      rcases h3 with h3 | h3
      · exact .inl h3
      · exact .inr (lexB_lo _ _ h3)
theorem aw_spO : (spO [5, 4, 3] [6, 8, 7]).best = some [0, 2, 2] := by
  have h : StIs [5, 4, 3] [6, 8, 7] (allD 3 3) (spO [5, 4, 3] [6, 8, 7]) := spO_is _ _
  unfold StIs at h
  cases hb : (spO [5, 4, 3] [6, 8, 7]).best with
  | none =>
    rw [hb] at h
    exact absurd aw_best.2.1 (h _ aw_best.1)
  | some p =>
    rw [hb] at h
    rw [h.1.uniq aw_best]
theorem aw_spE : spE [5, 4, 3] [6, 8, 7] = 0 := by
  unfold spE
  rw [if_neg (by decide), aw_spO, if_neg (by simp)]
theorem aw_spL : spL [5, 4, 3] [6, 8, 7] = [0, 2, 2] := by
  unfold spL
  rw [if_pos (by decide), aw_spO]
  rfl
theorem aw_rsE : rsE [5, 4, 3] [6, 8, 7] [0, 2, 2] = 0 := by decide
theorem aw_rsL : rsL [5, 4, 3] [6, 8, 7] [0, 2, 2] = [1, 8, 0] := by decide
end Go.Proofs.Ytdimaapiloojeaa
/- The law's own check is true. -/
namespace Go.Proofs.Ytdimaapiloojeaa
open Go.RowKit

theorem rdI_block {w : World} {g t : Nat} {xs : List Int} {cs : Array Value} (hg : w.heap[g]? = some (.cells cs t (0, 0))) (hc : cs = (ints xs).toArray) (hn : xs.length ≤ 1000) : RdI w (some ⟨g, 0, none⟩) xs :=
  ⟨by omega, fun _ => ⟨g, 0, rfl, lt_of_block hg, fun j hj => by
    rw [Nat.zero_add, cell_of_row w g j _ _ _ hg, hc]
    have hj' : j < xs.length := by omega
    simp [ints, List.getD_eq_getElem?_getD, hj']⟩⟩
theorem rdR_path {w : World} {g t : Nat} (hg : w.heap[g]? = some (.cells #[.int .i64 0, .int .i64 0, .int .i64 3, .int .i64 4, .int .i64 4, .int .i64 5] t (0, 0))) : RdR w (some ⟨g, 0, none⟩) [(0, 0), (3, 4), (4, 5)] :=
  ⟨by decide, fun _ => ⟨g, 0, rfl, lt_of_block hg, fun j hj => by
    rw [Nat.zero_add, cell_of_row w g j _ _ _ hg]
    obtain rfl | rfl | rfl | rfl | rfl | rfl : j = 0 ∨ j = 1 ∨ j = 2 ∨ j = 3 ∨ j = 4 ∨ j = 5 := by simp at hj; omega
    all_goals rfl⟩⟩
theorem rdTh_one {w : World} {g t : Nat} {PA : Option Addr} {pc : Nat} {need : Int} {ps : List Int} (hg : w.heap[g]? = some (.cells #[.int .i64 need, .slice PA ps.length pc] t (0, 0))) (hr : RdI w PA ps) : RdTh w (some ⟨g, 0, none⟩) [(need, ps)] :=
  ⟨by simp, fun _ => ⟨g, 0, rfl, lt_of_block hg, fun k hk => by
    obtain rfl : k = 0 := by simp at hk; omega
    exact ⟨by rw [cell_of_row w g _ _ _ _ hg]; rfl, PA, pc, by rw [cell_of_row w g _ _ _ _ hg]; rfl, hr⟩⟩⟩
set_option maxRecDepth 100000 in
set_option maxHeartbeats 4000000 in
theorem awake20_ (w : World) : Calls Try.prog 10 #[] w (BoolPost true w) := by
  go_enter Try.func10, Try.ntmps10
  go_upto_region 2 with fail
  obtain ⟨w1, hw1⟩ : ∃ w1, w1 = w.alloc (.cells #[.int .i64 0, .int .i64 0, .int .i64 3, .int .i64 4, .int .i64 4, .int .i64 5] 59) := ⟨_, rfl⟩
  have hp1 : RdR w1 (some ⟨w.heap.size, 0, none⟩) [(0, 0), (3, 4), (4, 5)] := rdR_path (by rw [hw1]; exact heap_alloc_new _ _)
  have hb1 : Below w.heap.size w w1 := by rw [hw1]; exact (Below.refl _ _).alloc (Nat.le_refl _) _
  rw [← hw1]
  clear hw1
  have HP1 := Lib.hid hp1; have HB1 := Lib.hid hb1; clear hp1 hb1
  go_wp2_with fail
  have hneed := bNeed_ (some ⟨w.heap.size, 0, none⟩) 3 1 0 1 1000 100 50 [(0, 0), (3, 4), (4, 5)] w1 HP1.out (by decide) (fun _ => by rw [aw_len]; exact aw_halts)
  refine hneed.mono ?_
  clear hneed
  intro e w2 hnp
  have hnp2 := hnp.2 (by rw [aw_len])
  clear hnp
  rw [aw_len] at hnp2
  obtain ⟨q, hq, _, he, b2⟩ := hnp2
  rw [aw_hi hq] at he
  subst he
  have hb2 := HB1.out.trans (b2.mono HB1.out.size)
  clear b2 hq HB1 HP1
  have HB2 := Lib.hid hb2; clear hb2
  go_upto_region 4 with fail
  obtain ⟨w3, hw3⟩ : ∃ w3, w3 = (w2.alloc (.cells #[.int .i64 30, .int .i64 50, .int .i64 60, .int .i64 90] 2)).alloc (.cells #[.int .i64 100, .slice (some ⟨w2.heap.size, 0, none⟩) 4 4] 43) := ⟨_, rfl⟩
  have hT3 : w3.heap[w2.heap.size + 1]? = some (.cells #[.int .i64 100, .slice (some ⟨w2.heap.size, 0, none⟩) 4 4] 43 (0, 0)) := by rw [hw3]; exact heap_alloc2_new _ _ _
  have hp3 : RdI w3 (some ⟨w2.heap.size, 0, none⟩) awPs := rdI_block (by rw [hw3]; exact heap_alloc2_old _ _ _) rfl (by decide)
  have hb3 : Below w.heap.size w w3 := by rw [hw3]; exact (HB2.out.alloc HB2.out.size _).alloc (by have := HB2.out.size; simp; omega) _
  rw [← hw3]
  clear hw3 HB2
  have c0 := cell_of_row _ _ 0 _ _ _ hT3
  have c1 := cell_of_row _ _ 1 _ _ _ hT3
  simp only [List.getElem?_toArray, List.getElem?_cons_zero, List.getElem?_cons_succ] at c0 c1
  have l1 := lt_of_block hT3
  have hkn := bKnots_ 100 40 (some ⟨w2.heap.size, 0, none⟩) 4 awPs w3 hp3
  rw [aw_knL, aw_knE] at hkn
  have HT3 := Lib.hid hT3; have HP3 := Lib.hid hp3; have HB3 := Lib.hid hb3; have HKN := Lib.hid hkn; clear hT3 hp3 hb3 hkn
  go_wp2_with fail
  refine HKN.out.mono ?_
  rintro e w4 ⟨kv, rfl, hko, b4⟩
  obtain ⟨KA, kc, rfl⟩ := own_slice1 hko
  have hkr : RdI w4 KA [0, 2] := rdI_of_own9 hko (by decide)
  have hb4 := HB3.out.trans (b4.mono HB3.out.size)
  have hT4 := (b4.block _ (lt_of_block HT3.out)).trans HT3.out
  have hp4 := HP3.out.later b4 (Nat.le_refl _)
  clear b4 hko HB3 HT3 HP3 c0 c1 l1 HKN
  have c0 := cell_of_row _ _ 0 _ _ _ hT4
  have c1 := cell_of_row _ _ 1 _ _ _ hT4
  simp only [List.getElem?_toArray, List.getElem?_cons_zero, List.getElem?_cons_succ] at c0 c1
  have l1 := lt_of_block hT4
  obtain ⟨w5, hw5⟩ : ∃ w5, w5 = w4.alloc (.cells #[.int .i64 100, .slice (some ⟨w2.heap.size, 0, none⟩) 4 4] 43) := ⟨_, rfl⟩
  have hb45 : Below w4.heap.size w4 w5 := by rw [hw5]; exact (Below.refl _ _).alloc (Nat.le_refl _) _
  have hth : RdTh w5 (some ⟨w4.heap.size, 0, none⟩) awTs := rdTh_one (by rw [hw5]; exact heap_alloc_new _ _) (hp4.later hb45 (Nat.le_refl _))
  have hcap := bCapacity_ (some ⟨w4.heap.size, 0, none⟩) 1 awTs 1 w5 hth
  have hb5 := hb4.trans (hb45.mono hb4.size)
  have hkr5 := hkr.later hb45 (Nat.le_refl _)
  have HT4 := Lib.hid hT4; have HP4 := Lib.hid hp4; have HB4 := Lib.hid hb4; have HKR := Lib.hid hkr; have HB45 := Lib.hid hb45; have HTH := Lib.hid hth; have HCAP := Lib.hid hcap; have HB5 := Lib.hid hb5; have HKR5 := Lib.hid hkr5; have HW5 := Lib.hid hw5; clear hT4 hp4 hb4 hkr hb45 hth hcap hb5 hkr5 hw5
  go_wp2_with fail
  rw [← HW5.out]
  refine HCAP.out.mono ?_
  rintro e w6 ⟨r, rfl, _, hr2, b6⟩
  obtain ⟨r1, r2, r3, r4⟩ := hr2 aw_cpE
  obtain rfl := aw_cap r1 r2 r3 r4
  rw [aw_cpE]
  have hb6 := HB5.out.trans (b6.mono HB5.out.size)
  have hkr6 := HKR5.out.later b6 (Nat.le_refl _)
  clear b6 hr2 r1 r2 r3 r4 HT4 HP4 HB4 HKR HB45 HTH HCAP HB5 HKR5 HW5 c0 c1 l1
  obtain ⟨w7, hw7⟩ : ∃ w7, w7 = (w6.alloc (.cells #[.int .i64 5, .int .i64 4, .int .i64 3] 2)).alloc (.cells #[.int .i64 6, .int .i64 8, .int .i64 7] 2) := ⟨_, rfl⟩
  have hb67 : Below w6.heap.size w6 w7 := by rw [hw7]; exact ((Below.refl _ _).alloc (Nat.le_refl _) _).alloc (by simp) _
  have hn7 : RdI w7 (some ⟨w6.heap.size, 0, none⟩) [5, 4, 3] := rdI_block (by rw [hw7]; exact heap_alloc2_old _ _ _) rfl (by decide)
  have hs7 : RdI w7 (some ⟨w6.heap.size + 1, 0, none⟩) [6, 8, 7] := rdI_block (by rw [hw7]; exact heap_alloc2_new _ _ _) rfl (by decide)
  have hsp := bSpools_ (some ⟨w6.heap.size, 0, none⟩) (some ⟨w6.heap.size + 1, 0, none⟩) 3 3 [5, 4, 3] [6, 8, 7] w7 hn7 hs7
  rw [aw_spL, aw_spE] at hsp
  have hb7 := hb6.trans (hb67.mono hb6.size)
  have hkr7 := hkr6.later hb67 (Nat.le_refl _)
  have HB6 := Lib.hid hb6; have HKR6 := Lib.hid hkr6; have HB67 := Lib.hid hb67; have HN7 := Lib.hid hn7; have HS7 := Lib.hid hs7; have HSP := Lib.hid hsp; have HB7 := Lib.hid hb7; have HKR7 := Lib.hid hkr7; have HW7 := Lib.hid hw7; clear hb6 hkr6 hb67 hn7 hs7 hsp hb7 hkr7 hw7
  go_wp2_with fail
  rw [← HW7.out]
  refine HSP.out.mono ?_
  rintro e w8 ⟨pv, rfl, hpo, b8⟩
  obtain ⟨PA, pc, rfl⟩ := own_slice1 hpo
  have hpr : RdI w8 PA [0, 2, 2] := rdI_of_own9 hpo (by decide)
  have hb8 := HB7.out.trans (b8.mono HB7.out.size)
  have hkr8 := HKR7.out.later b8 (Nat.le_refl _)
  clear b8 hpo HB6 HKR6 HB67 HN7 HS7 HSP HB7 HKR7 HW7
  obtain ⟨w9, hw9⟩ : ∃ w9, w9 = (w8.alloc (.cells #[.int .i64 5, .int .i64 4, .int .i64 3] 2)).alloc (.cells #[.int .i64 6, .int .i64 8, .int .i64 7] 2) := ⟨_, rfl⟩
  have hb89 : Below w8.heap.size w8 w9 := by rw [hw9]; exact ((Below.refl _ _).alloc (Nat.le_refl _) _).alloc (by simp) _
  have hn9 : RdI w9 (some ⟨w8.heap.size, 0, none⟩) [5, 4, 3] := rdI_block (by rw [hw9]; exact heap_alloc2_old _ _ _) rfl (by decide)
  have hs9 : RdI w9 (some ⟨w8.heap.size + 1, 0, none⟩) [6, 8, 7] := rdI_block (by rw [hw9]; exact heap_alloc2_new _ _ _) rfl (by decide)
  have hpr9 := hpr.later hb89 (Nat.le_refl _)
  have hrs := bRest_ (some ⟨w8.heap.size, 0, none⟩) (some ⟨w8.heap.size + 1, 0, none⟩) PA 3 3 pc [5, 4, 3] [6, 8, 7] [0, 2, 2] w9 hn9 hs9 hpr9
  rw [aw_rsL, aw_rsE] at hrs
  have hb9 := hb8.trans (hb89.mono hb8.size)
  have hkr9 := hkr8.later hb89 (Nat.le_refl _)
  have HPR := Lib.hid hpr; have HB8 := Lib.hid hb8; have HKR8 := Lib.hid hkr8; have HB89 := Lib.hid hb89; have HN9 := Lib.hid hn9; have HS9 := Lib.hid hs9; have HPR9 := Lib.hid hpr9; have HRS := Lib.hid hrs; have HB9 := Lib.hid hb9; have HKR9 := Lib.hid hkr9; have HW9 := Lib.hid hw9; clear hpr hb8 hkr8 hb89 hn9 hs9 hpr9 hrs hb9 hkr9 hw9
  go_wp2_with fail
  rw [← HW9.out]
  refine HRS.out.mono ?_
  rintro e w10 ⟨rv, rfl, hro, b10⟩
  obtain ⟨RA, rc, rfl⟩ := own_slice1 hro
  have hrr10 : RdI w10 RA [1, 8, 0] := rdI_of_own9 hro (by decide)
  have hb10 := HB9.out.trans (b10.mono HB9.out.size)
  have hkr10 := HKR9.out.later b10 (Nat.le_refl _)
  have hpr10 := HPR9.out.later b10 (Nat.le_refl _)
  clear b10 hro HPR HB8 HKR8 HB89 HN9 HS9 HPR9 HRS HB9 HKR9 HW9
  obtain ⟨w11, hw11⟩ : ∃ w11, w11 = w10.alloc (.cells #[.int .i64 0, .int .i64 2] 3) := ⟨_, rfl⟩
  have hbA : Below w10.heap.size w10 w11 := by rw [hw11]; exact (Below.refl _ _).alloc (Nat.le_refl _) _
  have hnew : RdI w11 (some ⟨w10.heap.size, 0, none⟩) [0, 2] := rdI_block (by rw [hw11]; exact heap_alloc_new _ _) rfl (by decide)
  have hcall := lInts20_ KA (some ⟨w10.heap.size, 0, none⟩) kc 2 [0, 2] [0, 2] w11 (hkr10.later hbA (Nat.le_refl _)) hnew
  rw [decide_eq_true rfl] at hcall
  have hbX := hb10.trans (hbA.mono hb10.size)
  have hprX := hpr10.later hbA (Nat.le_refl _)
  have hrrX := hrr10.later hbA (Nat.le_refl _)
  have HBA := Lib.hid hbA; have HNEW := Lib.hid hnew; have HCALL := Lib.hid hcall; have HBX := Lib.hid hbX; have HW11 := Lib.hid hw11; have HB10 := Lib.hid hb10; have HPRX := Lib.hid hprX; have HPR10 := Lib.hid hpr10; have HRRX := Lib.hid hrrX; have HRR10 := Lib.hid hrr10; have HKR10 := Lib.hid hkr10; clear hbA hnew hcall hbX hw11 hb10 hprX hpr10 hrrX hrr10 hkr10
  go_wp2_with fail
  rw [← HW11.out]
  refine HCALL.out.mono ?_
  rintro e w12 ⟨rfl, b12⟩
  have hb12 := HBX.out.trans (b12.mono HBX.out.size)
  have hpr12 := HPRX.out.later b12 (Nat.le_refl _)
  have hrr12 := HRRX.out.later b12 (Nat.le_refl _)
  clear b12 HBA HNEW HCALL HBX HW11 HB10 HPRX HPR10 HRRX HRR10 HKR10
  obtain ⟨w13, hw13⟩ : ∃ w13, w13 = w12.alloc (.cells #[.int .i64 0, .int .i64 2, .int .i64 2] 3) := ⟨_, rfl⟩
  have hbA : Below w12.heap.size w12 w13 := by rw [hw13]; exact (Below.refl _ _).alloc (Nat.le_refl _) _
  have hnew : RdI w13 (some ⟨w12.heap.size, 0, none⟩) [0, 2, 2] := rdI_block (by rw [hw13]; exact heap_alloc_new _ _) rfl (by decide)
  have hcall := lInts20_ PA (some ⟨w12.heap.size, 0, none⟩) pc 3 [0, 2, 2] [0, 2, 2] w13 (hpr12.later hbA (Nat.le_refl _)) hnew
  rw [decide_eq_true rfl] at hcall
  have hbX := hb12.trans (hbA.mono hb12.size)
  have hrrX := hrr12.later hbA (Nat.le_refl _)
  have HBA := Lib.hid hbA; have HNEW := Lib.hid hnew; have HCALL := Lib.hid hcall; have HBX := Lib.hid hbX; have HW13 := Lib.hid hw13; have HB12 := Lib.hid hb12; have HRRX := Lib.hid hrrX; have HRR12 := Lib.hid hrr12; have HPR12 := Lib.hid hpr12; clear hbA hnew hcall hbX hw13 hb12 hrrX hrr12 hpr12
  go_wp2_with fail
  rw [← HW13.out]
  refine HCALL.out.mono ?_
  rintro e w14 ⟨rfl, b14⟩
  have hb14 := HBX.out.trans (b14.mono HBX.out.size)
  have hrr14 := HRRX.out.later b14 (Nat.le_refl _)
  clear b14 HBA HNEW HCALL HBX HW13 HB12 HRRX HRR12 HPR12
  obtain ⟨w15, hw15⟩ : ∃ w15, w15 = w14.alloc (.cells #[.int .i64 1, .int .i64 8, .int .i64 0] 2) := ⟨_, rfl⟩
  have hbA : Below w14.heap.size w14 w15 := by rw [hw15]; exact (Below.refl _ _).alloc (Nat.le_refl _) _
  have hnew : RdI w15 (some ⟨w14.heap.size, 0, none⟩) [1, 8, 0] := rdI_block (by rw [hw15]; exact heap_alloc_new _ _) rfl (by decide)
  have hcall := lSame20_ RA (some ⟨w14.heap.size, 0, none⟩) rc 3 [1, 8, 0] [1, 8, 0] w15 (hrr14.later hbA (Nat.le_refl _)) hnew
  rw [decide_eq_true rfl] at hcall
  have hbX := hb14.trans (hbA.mono hb14.size)
  have HBA := Lib.hid hbA; have HNEW := Lib.hid hnew; have HCALL := Lib.hid hcall; have HBX := Lib.hid hbX; have HW15 := Lib.hid hw15; have HB14 := Lib.hid hb14; have HRR14 := Lib.hid hrr14; clear hbA hnew hcall hbX hw15 hb14 hrr14
  go_wp2_with fail
  rw [← HW15.out]
  refine HCALL.out.mono ?_
  rintro e w16 ⟨rfl, b16⟩
  have hb16 := HBX.out.trans (b16.mono HBX.out.size)
  clear b16 HBA HNEW HCALL HBX HW15 HB14  HRR14
  have HB16 := Lib.hid hb16; clear hb16
  go_wp2
  go_ret
  exact ⟨rfl, HB16.out⟩
end Go.Proofs.Ytdimaapiloojeaa
/- The law BobbinsBest. -/
namespace Go.Proofs.Ytdimaapiloojeaa
open Go.RowKit

set_option maxRecDepth 100000 in
set_option maxHeartbeats 8000000 in
theorem lawBest_ (NA SA MA : Option Addr) (nc sc mc : Nat) (needs spools mine : List Int) (w : World) (hn : RdI w NA needs) (hs : RdI w SA spools) (hm : RdI w MA mine) :
    Calls Try.prog 3 #[.slice NA needs.length nc, .slice SA spools.length sc, .slice MA mine.length mc] w (BoolPost true w) := by
  have hb := Below.refl w.heap.size w
  have hln1 := hn.1
  have hln2 := hs.1
  have hln3 := hm.1
  have haw := fun W => awake20_ W
  by_cases h1 : 8 < needs.length
  · have d1 : decide ((8 : Int) < (needs.length : Int)) = true := decide_eq_true (by omega)
    have HN := Lib.hid hn; have HS := Lib.hid hs; have HM := Lib.hid hm; have HB := Lib.hid hb; have HAW := Lib.hid haw; clear hn hs hm hb haw
    go_enter Try.func3, Try.ntmps3
    go_wp2_with fail
    refine (HAW.out _).mono ?_
    rintro e w1 ⟨rfl, b1⟩
    have B1 := Lib.hid b1; clear b1
    go_wp2
    go_ret
    exact ⟨rfl, B1.out⟩
  have d1 : decide ((8 : Int) < (needs.length : Int)) = false := decide_eq_false (by omega)
  by_cases h2 : 6 < spools.length
  · have d2 : decide ((6 : Int) < (spools.length : Int)) = true := decide_eq_true (by omega)
    have HN := Lib.hid hn; have HS := Lib.hid hs; have HM := Lib.hid hm; have HB := Lib.hid hb; have HAW := Lib.hid haw; clear hn hs hm hb haw
    go_enter Try.func3, Try.ntmps3
    go_wp2_with fail
    refine (HAW.out _).mono ?_
    rintro e w1 ⟨rfl, b1⟩
    have B1 := Lib.hid b1; clear b1
    go_wp2
    go_ret
    exact ⟨rfl, B1.out⟩
  have d2 : decide ((6 : Int) < (spools.length : Int)) = false := decide_eq_false (by omega)
  by_cases h3 : 20 < mine.length
  · have d3 : decide ((20 : Int) < (mine.length : Int)) = true := decide_eq_true (by omega)
    have HN := Lib.hid hn; have HS := Lib.hid hs; have HM := Lib.hid hm; have HB := Lib.hid hb; have HAW := Lib.hid haw; clear hn hs hm hb haw
    go_enter Try.func3, Try.ntmps3
    go_wp2_with fail
    refine (HAW.out _).mono ?_
    rintro e w1 ⟨rfl, b1⟩
    have B1 := Lib.hid b1; clear b1
    go_wp2
    go_ret
    exact ⟨rfl, B1.out⟩
  have d3 : decide ((20 : Int) < (mine.length : Int)) = false := decide_eq_false (by omega)
  have hsp := bSpools_ NA SA nc sc needs spools w hn hs
  have hsn := @sp_none needs spools
  have hss := @sp_some needs spools
  have hwz : wrgE needs spools = 0 ∨ (wrgE needs spools = 2 ∧ spE needs spools = 2 ∧ spL needs spools = []) := by
    by_cases h : wrgE needs spools = 0
    · exact .inl h
    · refine .inr ?_
      have e : wrgE needs spools = 2 := by
        unfold wrgE at h ⊢
        rw [if_neg (by omega)] at h ⊢
        split at h
        · rename_i h4; rw [if_pos h4]
        · exact absurd rfl h
      refine ⟨e, ?_, ?_⟩
      · unfold spE; rw [if_pos h, e]
      · unfold spL; rw [if_neg h]
  rcases hwz with hz | ⟨hz, hE, hL⟩
  rotate_left
  · rw [hE, hL] at hsp
    have HN := Lib.hid hn; have HS := Lib.hid hs; have HM := Lib.hid hm; have HB := Lib.hid hb; have HAW := Lib.hid haw; have HSP := Lib.hid hsp; have HSN := Lib.hid hsn; have HSS := Lib.hid hss; have HZ := Lib.hid hz; have HE := Lib.hid hE; have HL := Lib.hid hL; clear hn hs hm hb haw hsp hsn hss hz hE hL
    go_enter Try.func3, Try.ntmps3
    go_wp2_with fail
    refine HSP.out.mono ?_
    rintro e w1 ⟨v, rfl, ho, b1⟩
    obtain ⟨A, c, rfl⟩ := own_slice1 ho
    have B1 := Lib.hid b1; have HO := Lib.hid ho; clear b1 ho
    go_wp2_with fail
    refine (HAW.out _).mono ?_
    rintro e w2 ⟨rfl, b2⟩
    have hb2 := B1.out.trans (b2.mono B1.out.size)
    have B2 := Lib.hid b2; have HB2 := Lib.hid hb2; clear b2 hb2
    go_wp2
    go_ret
    exact ⟨rfl, HB2.out⟩
  obtain ⟨hn8, hs6, hnr, hsr⟩ := wrg_ok hz
  have hplan := fun (A : Option Addr) (c : Nat) (plan : List Int) (W : World) (hW : Below w.heap.size w W) (hp : RdI W A plan) => rPlan20_ NA SA A nc sc c needs spools plan W (hn.later hW (Nat.le_refl _)) (hs.later hW (Nat.le_refl _)) hp hn8 hs6 hnr hsr
  by_cases hE : spE needs spools = 0
  rotate_left
  · obtain ⟨e4, el, hno⟩ := hsn hz hE
    rw [e4, el] at hsp
    have HN := Lib.hid hn; have HS := Lib.hid hs; have HM := Lib.hid hm; have HB := Lib.hid hb; have HAW := Lib.hid haw; have HSP := Lib.hid hsp; have HSS := Lib.hid hss; have HZ := Lib.hid hz; have HE := Lib.hid hE; have E4 := Lib.hid e4; have EL := Lib.hid el; have HNO := Lib.hid hno; have HPLAN := Lib.hid hplan; have HNR := Lib.hid hnr; have HSR := Lib.hid hsr; clear hn hs hm hb haw hsp hss hz hE e4 el hno hplan hnr hsr
    go_enter Try.func3, Try.ntmps3
    go_wp2_with fail
    refine HSP.out.mono ?_
    rintro e w1 ⟨v, rfl, ho, b1⟩
    obtain ⟨A, c, rfl⟩ := own_slice1 ho
    have hcall := HPLAN.out MA mc mine w1 b1 (HM.out.later b1 (Nat.le_refl _))
    have B1 := Lib.hid b1; have HO := Lib.hid ho; have HCALL := Lib.hid hcall; clear b1 ho hcall
    go_wp2_with fail
    refine HCALL.out.mono ?_
    rintro e w2 ⟨_, hr2, b2⟩
    obtain rfl := hr2 (HNO.out mine)
    have hb2 := B1.out.trans (b2.mono B1.out.size)
    clear hr2 b2
    have HB2 := Lib.hid hb2; clear hb2
    go_wp2_with fail
    refine (HAW.out _).mono ?_
    rintro e w3 ⟨rfl, b3⟩
    have hb3 := HB2.out.trans (b3.mono HB2.out.size)
    clear b3
    have HB3 := Lib.hid hb3; clear hb3
    go_wp2
    go_ret
    exact ⟨rfl, HB3.out⟩
  have hbest := hss hz hE
  obtain ⟨p, hpe⟩ : ∃ p, p = spL needs spools := ⟨_, rfl⟩
  rw [← hpe] at hbest hsp
  rw [hE] at hsp
  have hpT := plT_of hbest.1 hbest.2.1
  obtain ⟨hrs1, hrs2⟩ := rs_ok hz hbest.1 hbest.2.1
  have hrest := fun (A : Option Addr) (c : Nat) (W : World) (hW : Below w.heap.size w W) (hp : RdI W A (nats p)) => bRest_ NA SA A nc sc c needs spools (nats p) W (hn.later hW (Nat.le_refl _)) (hs.later hW (Nat.le_refl _)) hp
  rw [hrs1, hrs2] at hrest
  have hsum := left_sum hbest.1
  have hplen : p.length = needs.length := ((allD_mem _ _ _).1 hbest.1).1
  have hlr : ∀ x, x ∈ lfl needs spools p needs.length → -10000000000000 ≤ x ∧ x ≤ 10000000000000 := fun x hx => by
    unfold lfl at hx
    obtain ⟨k, hk, rfl⟩ := List.mem_map.1 hx
    have := lft_rng (plan := p) hnr hsr needs.length k
    omega
  have htot1 := fun (A : Option Addr) (c : Nat) (W : World) (h : RdI W A (lfl needs spools p needs.length)) => lTotal20_ A c (lfl needs spools p needs.length) W h (by rw [lfl_len]; omega) hlr
  have htot2 := fun (W : World) (hW : Below w.heap.size w W) => lTotal20_ NA nc needs W (hn.later hW (Nat.le_refl _)) (by omega) (fun x hx => by have := hnr x hx; omega)
  have htot3 := fun (W : World) (hW : Below w.heap.size w W) => lTotal20_ SA sc spools W (hs.later hW (Nat.le_refl _)) (by omega) (fun x hx => by have := hsr x hx; omega)
  have hsr1 := sumI_rng hlr
  have hsr2 := sumI_rng (l := needs) (fun x hx => by have := hnr x hx; omega)
  rw [lfl_len] at htot1 hsr1
  generalize sumI (lfl needs spools p needs.length) = s1 at *
  generalize sumI needs = s2 at *
  generalize sumI spools = s3 at *
  have hws : IntKind.i64.wrap (s1 + s2) = s3 := by rw [IntWalk.i64_in _ (by omega)]; exact hsum
  have hs33 : (s3 != s3) = false := by simp
  have hcmp := fun q hq hg => hbest.2.2 q hq hg
  have hbp := hplan
  obtain ⟨bp, hbpe⟩ : ∃ bp, bp = begP needs spools p := ⟨_, rfl⟩
  obtain ⟨lp, hlpe⟩ : ∃ lp, lp = lonP needs spools p := ⟨_, rfl⟩
  rw [← hbpe, ← hlpe] at hcmp
  have hl8 : p.length ≤ 8 := by omega
  have hnl : (nats p).length = p.length := nats_len p
  have HN := Lib.hid hn; have HS := Lib.hid hs; have HM := Lib.hid hm; have HB := Lib.hid hb; have HAW := Lib.hid haw; have HSP := Lib.hid hsp; have HSN := Lib.hid hsn; have HSS := Lib.hid hss; have HZ := Lib.hid hz; have HE := Lib.hid hE; have HPE := Lib.hid hpe; have HBEST := Lib.hid hbest; have HPT := Lib.hid hpT; have HRS1 := Lib.hid hrs1; have HRS2 := Lib.hid hrs2; have HREST := Lib.hid hrest; have HSUM := Lib.hid hsum; have HPLEN := Lib.hid hplen; have HLR := Lib.hid hlr; have HTOT1 := Lib.hid htot1; have HTOT2 := Lib.hid htot2; have HTOT3 := Lib.hid htot3; have HSR1 := Lib.hid hsr1; have HSR2 := Lib.hid hsr2; have HCMP := Lib.hid hcmp; have HPLAN := Lib.hid hplan; have HBPE := Lib.hid hbpe; have HLPE := Lib.hid hlpe; have HNR := Lib.hid hnr; have HSR := Lib.hid hsr; have HBP := Lib.hid hbp; have HNL := Lib.hid hnl; clear hn hs hm hb haw hsp hsn hss hz hE hpe hbest hpT hrs1 hrs2 hrest hsum hplen hlr htot1 htot2 htot3 hsr1 hsr2 hcmp hplan hbpe hlpe hnr hsr hbp hnl
  by_cases hM : PlT needs spools mine
  rotate_left
  · have HMM := Lib.hid hM
    clear hM
    go_enter Try.func3, Try.ntmps3
    go_wp2_with fail
    refine HSP.out.mono ?_
    rintro e w1 ⟨v, rfl, ho, b1⟩
    obtain ⟨A, c, rfl⟩ := own_slice1 ho
    have hr1 : RdI w1 A (nats p) := rdI_of_own9 ho (by rw [nats_len]; omega)
    have hc1 := HPLAN.out MA mc mine w1 b1 (HM.out.later b1 (Nat.le_refl _))
    clear ho
    rw [HNL.out]
    have B1 := Lib.hid b1; have HR1 := Lib.hid hr1; have HC1 := Lib.hid hc1; clear b1 hr1 hc1
    go_wp2_with fail
    refine HC1.out.mono ?_
    rintro e w2 ⟨_, hy2, b2⟩
    have he2 := hy2 HMM.out
    subst he2
    clear hy2
    have hb2 := B1.out.trans (b2.mono B1.out.size)
    have hr2 := HR1.out.later b2 (Nat.le_refl _)
    have hc2 := HPLAN.out A c (nats p) w2 hb2 hr2
    rw [HNL.out] at hc2
    clear b2 HR1 HC1 B1
    have HB2 := Lib.hid hb2; have HR2 := Lib.hid hr2; have HC2 := Lib.hid hc2; clear hb2 hr2 hc2
    go_wp2_with fail
    refine HC2.out.mono ?_
    rintro e w3 ⟨hy3, _, b3⟩
    have he3 := hy3 HPT.out
    rw [nats_toNat, ← HBPE.out, ← HLPE.out] at he3
    subst he3
    have hb3 := HB2.out.trans (b3.mono HB2.out.size)
    have hr3 := HR2.out.later b3 (Nat.le_refl _)
    have hc3 := HREST.out A c w3 hb3 hr3
    rw [HNL.out] at hc3
    clear b3 HR2 HC2 HB2 hy3
    have HB3 := Lib.hid hb3; have HR3 := Lib.hid hr3; have HC3 := Lib.hid hc3; clear hb3 hr3 hc3
    go_wp2_with fail
    refine HC3.out.mono ?_
    rintro e w4 ⟨rv, rfl, hro, b4⟩
    obtain ⟨RA, rc, rfl⟩ := own_slice1 hro
    have hrr4 : RdI w4 RA (lfl needs spools p needs.length) := rdI_of_own9 hro (by rw [lfl_len]; omega)
    have hb4 := HB3.out.trans (b4.mono HB3.out.size)
    have hr4 := HR3.out.later b4 (Nat.le_refl _)
    have hc4 := HTOT1.out RA rc w4 hrr4
    rw [lfl_len]
    clear b4 HR3 HC3 HB3 hro
    have HB4 := Lib.hid hb4; have HR4 := Lib.hid hr4; have HC4 := Lib.hid hc4; have HRR4 := Lib.hid hrr4; clear hb4 hr4 hc4 hrr4
    go_wp2_with fail
    refine HC4.out.mono ?_
    rintro e w5 ⟨rfl, b5⟩
    have hb5 := HB4.out.trans (b5.mono HB4.out.size)
    have hr5 := HR4.out.later b5 (Nat.le_refl _)
    clear b5 HR4 HC4 HB4 HRR4
    have HB5 := Lib.hid hb5; have HR5 := Lib.hid hr5; clear hb5 hr5
    go_wp2_with fail
    refine (HTOT2.out w5 HB5.out).mono ?_
    rintro e w6 ⟨rfl, b6⟩
    have hb6 := HB5.out.trans (b6.mono HB5.out.size)
    have hr6 := HR5.out.later b6 (Nat.le_refl _)
    clear b6 HR5 HB5
    have HB6 := Lib.hid hb6; have HR6 := Lib.hid hr6; clear hb6 hr6
    go_wp2_with fail
    refine (HTOT3.out w6 HB6.out).mono ?_
    rintro e w7 ⟨rfl, b7⟩
    have hb7 := HB6.out.trans (b7.mono HB6.out.size)
    have hr7 := HR6.out.later b7 (Nat.le_refl _)
    clear b7 HR6 HB6
    have HB7 := Lib.hid hb7; have HR7 := Lib.hid hr7; clear hb7 hr7
    go_wp2_with fail
    refine (HAW.out _).mono ?_
    rintro e w8 ⟨rfl, b8⟩
    have hb8 := HB7.out.trans (b8.mono HB7.out.size)
    clear b8
    have HB8 := Lib.hid hb8; clear hb8
    go_wp2
    go_ret
    exact ⟨rfl, HB8.out⟩
  obtain ⟨q, rfl, hql, hqs, hqm, hqg⟩ := plT_mem hM
  have hqn : (nats q).map Int.toNat = q := nats_toNat q
  have hcq := HCMP.out q hqm hqg
  obtain ⟨bq, hbq⟩ : ∃ bq, bq = begP needs spools q := ⟨_, rfl⟩
  obtain ⟨lq, hlq⟩ : ∃ lq, lq = lonP needs spools q := ⟨_, rfl⟩
  rw [← hbq, ← hlq] at hcq
  have HMM := Lib.hid hM
  clear hM
  have HQL := Lib.hid hql; have HQS := Lib.hid hqs; have HQM := Lib.hid hqm; have HQG := Lib.hid hqg; have HQN := Lib.hid hqn; have HCQ := Lib.hid hcq; have HBQ := Lib.hid hbq; have HLQ := Lib.hid hlq; clear hql hqs hqm hqg hqn hcq hbq hlq
  go_enter Try.func3, Try.ntmps3
  go_wp2_with fail
  refine HSP.out.mono ?_
  rintro e w1 ⟨v, rfl, ho, b1⟩
  obtain ⟨A, c, rfl⟩ := own_slice1 ho
  have hr1 : RdI w1 A (nats p) := rdI_of_own9 ho (by rw [nats_len]; omega)
  have hc1 := HPLAN.out MA mc (nats q) w1 b1 (HM.out.later b1 (Nat.le_refl _))
  clear ho
  rw [HNL.out]
  have B1 := Lib.hid b1; have HR1 := Lib.hid hr1; have HC1 := Lib.hid hc1; clear b1 hr1 hc1
  go_wp2_with fail
  refine HC1.out.mono ?_
  rintro e w2 ⟨hy2, _, b2⟩
  have he2 := hy2 HMM.out
  rw [HQN.out, ← HBQ.out, ← HLQ.out] at he2
  subst he2
  clear hy2
  have hb2 := B1.out.trans (b2.mono B1.out.size)
  have hr2 := HR1.out.later b2 (Nat.le_refl _)
  have hc2 := HPLAN.out A c (nats p) w2 hb2 hr2
  rw [HNL.out] at hc2
  clear b2 HR1 HC1 B1
  have HB2 := Lib.hid hb2; have HR2 := Lib.hid hr2; have HC2 := Lib.hid hc2; clear hb2 hr2 hc2
  go_wp2_with fail
  refine HC2.out.mono ?_
  rintro e w3 ⟨hy3, _, b3⟩
  have he3 := hy3 HPT.out
  rw [nats_toNat, ← HBPE.out, ← HLPE.out] at he3
  subst he3
  have hb3 := HB2.out.trans (b3.mono HB2.out.size)
  have hr3 := HR2.out.later b3 (Nat.le_refl _)
  have hc3 := HREST.out A c w3 hb3 hr3
  rw [HNL.out] at hc3
  clear b3 HR2 HC2 HB2 hy3
  have HB3 := Lib.hid hb3; have HR3 := Lib.hid hr3; have HC3 := Lib.hid hc3; clear hb3 hr3 hc3
  go_wp2_with fail
  refine HC3.out.mono ?_
  rintro e w4 ⟨rv, rfl, hro, b4⟩
  obtain ⟨RA, rc, rfl⟩ := own_slice1 hro
  have hrr4 : RdI w4 RA (lfl needs spools p needs.length) := rdI_of_own9 hro (by rw [lfl_len]; omega)
  have hb4 := HB3.out.trans (b4.mono HB3.out.size)
  have hr4 := HR3.out.later b4 (Nat.le_refl _)
  have hc4 := HTOT1.out RA rc w4 hrr4
  rw [lfl_len]
  clear b4 HR3 HC3 HB3 hro
  have HB4 := Lib.hid hb4; have HR4 := Lib.hid hr4; have HC4 := Lib.hid hc4; have HRR4 := Lib.hid hrr4; clear hb4 hr4 hc4 hrr4
  go_wp2_with fail
  refine HC4.out.mono ?_
  rintro e w5 ⟨rfl, b5⟩
  have hb5 := HB4.out.trans (b5.mono HB4.out.size)
  have hr5 := HR4.out.later b5 (Nat.le_refl _)
  clear b5 HR4 HC4 HB4 HRR4
  have HB5 := Lib.hid hb5; have HR5 := Lib.hid hr5; clear hb5 hr5
  go_wp2_with fail
  refine (HTOT2.out w5 HB5.out).mono ?_
  rintro e w6 ⟨rfl, b6⟩
  have hb6 := HB5.out.trans (b6.mono HB5.out.size)
  have hr6 := HR5.out.later b6 (Nat.le_refl _)
  clear b6 HR5 HB5
  have HB6 := Lib.hid hb6; have HR6 := Lib.hid hr6; clear hb6 hr6
  go_wp2_with fail
  refine (HTOT3.out w6 HB6.out).mono ?_
  rintro e w7 ⟨rfl, b7⟩
  have hb7 := HB6.out.trans (b7.mono HB6.out.size)
  have hr7 := HR6.out.later b7 (Nat.le_refl _)
  clear b7 HR6 HB6
  have HB7 := Lib.hid hb7; have HR7 := Lib.hid hr7; clear hb7 hr7
  go_upto_region 13 with fail
  rcases HCQ.out with hlt | ⟨heq, hlt | ⟨heq2, hpq⟩⟩
  · have f1 : decide (bp < bq) = true := decide_eq_true hlt
    have HLT := Lib.hid hlt; clear hlt
    go_wp2_with fail
    refine (HAW.out _).mono ?_
    rintro e w8 ⟨rfl, b8⟩
    have hb8 := HB7.out.trans (b8.mono HB7.out.size)
    clear b8
    have HB8 := Lib.hid hb8; clear hb8
    go_wp2
    go_ret
    exact ⟨rfl, HB8.out⟩
  · have f1 : decide (bp < bq) = false := decide_eq_false (by omega)
    have f2 : (bp == bq) = true := by rw [heq]; simp
    have f3 : decide (lp < lq) = true := decide_eq_true hlt
    have HLT := Lib.hid hlt; have HEQ := Lib.hid heq; clear hlt heq
    go_wp2_with fail
    refine (HAW.out _).mono ?_
    rintro e w8 ⟨rfl, b8⟩
    have hb8 := HB7.out.trans (b8.mono HB7.out.size)
    clear b8
    have HB8 := Lib.hid hb8; clear hb8
    go_wp2
    go_ret
    exact ⟨rfl, HB8.out⟩
  · have f1 : decide (bp < bq) = false := decide_eq_false (by omega)
    have f2 : (bp == bq) = true := by rw [heq]; simp
    have f3 : decide (lp < lq) = false := decide_eq_false (by omega)
    have f4 : (bp != bq) = false := by rw [heq]; simp
    have f5 : (lp != lq) = false := by rw [heq2]; simp
    have HEQ := Lib.hid heq; have HEQ2 := Lib.hid heq2; have HPQ := Lib.hid hpq; clear heq heq2 hpq
    go_wp2
    clear f1 f2 f3 f4 f5
    go_loopw [17] (fun iv wr => ∃ i : Nat, iv = .int .i64 (i : Int) ∧ i ≤ p.length ∧ p.take i = q.take i ∧ Below w7.heap.size w7 wr) (fun iv _ => p.length - (intOf iv).toNat)
    case atStart => exact ⟨0, rfl, Nat.zero_le _, rfl, Below.refl _ _⟩
    case round =>
      obtain ⟨i, rfl, hi, ht, hbw⟩ := hrel
      by_cases hlt : i < p.length
      · have hq9 : i < q.length := by have := HQL.out; have := HPLEN.out; omega
        have hrw := HB7.out.trans (hbw.mono HB7.out.size)
        obtain ⟨b1, o1, rfl, hb1, l1⟩ := (HR7.out.later hbw (Nat.le_refl _)).at_ (k := i) (by rw [nats_len]; exact hlt)
        obtain ⟨b2, o2, rfl, hb2, l2⟩ := (HM.out.later hrw (Nat.le_refl _)).at_ (k := i) (by rw [nats_len]; exact hq9)
        rw [nats_get p hlt] at l1
        rw [nats_get q hq9] at l2
        have hat : p[i] ≠ q[i] → p[i] < q[i] := fun h => by
          rcases HPQ.out with h9 | h9
          · subst h9; exact absurd rfl h
          · exact lexLo_at hlt hq9 h9 ht h
        have hnx : p[i] = q[i] → p.take (i + 1) = q.take (i + 1) := fun h => by
          rw [List.take_succ_eq_append_getElem hlt, List.take_succ_eq_append_getElem hq9, ht, h]
        have x1 : (0 : Int) ≤ (i : Int) := by omega
        have x2 : (i : Int) < (p.length : Int) := by omega
        have x3 : (i : Int) < ((nats q).length : Int) := by rw [nats_len]; omega
        have x4 : i < (nats q).length := by rw [nats_len]; exact hq9
        generalize p[i] = x at *
        generalize q[i] = y at *
        by_cases he : x = y
        · have e1 : (x == y) = true := by rw [he]; simp
          have e2 : ((x : Int) == (y : Int)) = true := by rw [he]; simp
          have e3 : ((x : Int) != (y : Int)) = false := by rw [bne, e2]; rfl
          have e4 : (x != y) = false := by rw [bne, e1]; rfl
          have ht2 := hnx he
          clear hat hnx
          have HT := Lib.hid ht; have HBW := Lib.hid hbw; have HT2 := Lib.hid ht2; have HE := Lib.hid he; have HRW := Lib.hid hrw; clear ht hbw ht2 he hrw
          go_upto_region 20 with fail
          have hbelc : ∀ (u : Bel wr.heap.size wr) b o, b < wr.heap.size → u.wd.cell? ⟨b, o, none⟩ = wr.cell? ⟨b, o, none⟩ := fun u b o h => u.h.cell (p := ⟨b, o, none⟩) h
          have hbeln : Nonempty (Bel wr.heap.size wr) := ⟨⟨wr, Below.refl _ _⟩⟩
          refine wp_region_bel wr.heap.size (by kernel_rfl) (by kernel_rfl) ?_
          repeat (go_big_quiet_step ((fail)))
          refine wpQuiet_nil ?_
          intro wB hB0; obtain ⟨uB, hu⟩ := hB0; have hbB0 := uB.h; rw [← hu] at hbB0; clear hu uB hbelc hbeln
          obtain ⟨hbB, hcB, hsB⟩ := bcell2 hbB0; clear hbB0
          have hbw2 := HBW.out.trans (hbB.mono HBW.out.size)
          clear hbB hcB hsB l1 l2
          have HBW2 := Lib.hid hbw2; clear hbw2
          go_wp2
          go_roundw
          case rel => exact ⟨i + 1, by go_num, by omega, HT2.out, HBW2.out⟩
          case measure => simp [intOf]; omega
        · have e1 : (x == y) = false := by rw [beq_eq_false_iff_ne]; exact he
          have e2 : ((x : Int) == (y : Int)) = false := by rw [beq_eq_false_iff_ne]; omega
          have e3 : ((x : Int) != (y : Int)) = true := by rw [bne, e2]; rfl
          have e4 : (x != y) = true := by rw [bne, e1]; rfl
          have hxy := hat he
          have e5 : decide ((x : Int) < (y : Int)) = true := decide_eq_true (by omega)
          have e6 : decide (x < y) = true := decide_eq_true hxy
          clear hat hnx
          have HT := Lib.hid ht; have HBW := Lib.hid hbw; have HE := Lib.hid he; have HXY := Lib.hid hxy; have HRW := Lib.hid hrw; clear ht hbw he hxy hrw
          go_upto_region 20 with fail
          have hbelc : ∀ (u : Bel wr.heap.size wr) b o, b < wr.heap.size → u.wd.cell? ⟨b, o, none⟩ = wr.cell? ⟨b, o, none⟩ := fun u b o h => u.h.cell (p := ⟨b, o, none⟩) h
          have hbeln : Nonempty (Bel wr.heap.size wr) := ⟨⟨wr, Below.refl _ _⟩⟩
          refine wp_region_bel wr.heap.size (by kernel_rfl) (by kernel_rfl) ?_
          repeat (go_big_quiet_step ((fail)))
          refine wpQuiet_nil ?_
          intro wB hB0; obtain ⟨uB, hu⟩ := hB0; have hbB0 := uB.h; rw [← hu] at hbB0; clear hu uB hbelc hbeln
          obtain ⟨hbB, hcB, hsB⟩ := bcell2 hbB0; clear hbB0
          have hbw2 := HRW.out.trans (hbB.mono HRW.out.size)
          have l1 := (hcB _ _ hb1).trans l1
          have l2 := (hcB _ _ hb2).trans l2
          have hb1 := Nat.lt_of_lt_of_le hb1 hsB
          have hb2 := Nat.lt_of_lt_of_le hb2 hsB
          clear hbB hcB hsB
          obtain ⟨wz, rfl⟩ : ∃ wz, wz = wB := ⟨_, rfl⟩
          have HBW2 := Lib.hid hbw2; clear hbw2
          go_upto_region 21 with fail
          have hbelc : ∀ (u : Bel wz.heap.size wz) b o, b < wz.heap.size → u.wd.cell? ⟨b, o, none⟩ = wz.cell? ⟨b, o, none⟩ := fun u b o h => u.h.cell (p := ⟨b, o, none⟩) h
          have hbeln : Nonempty (Bel wz.heap.size wz) := ⟨⟨wz, Below.refl _ _⟩⟩
          refine wp_region_bel wz.heap.size (by kernel_rfl) (by kernel_rfl) ?_
          repeat (go_big_quiet_step ((go_at_call 10; exact quiet_bel (Nat.le_refl _) (awake20_ _))))
          refine wpQuiet_nil ?_
          intro wB hB0; obtain ⟨uB, hu⟩ := hB0; have hbB0 := uB.h; rw [← hu] at hbB0; clear hu uB hbelc hbeln
          obtain ⟨hbB, hcB, hsB⟩ := bcell2 hbB0; clear hbB0
          have hbw3 := HBW2.out.trans (hbB.mono HBW2.out.size)
          clear hbB hcB hsB
          have HBW3 := Lib.hid hbw3; clear hbw3
          go_wp2
          go_ret
          exact ⟨rfl, HBW3.out⟩
      · have hrw := HB7.out.trans (hbw.mono HB7.out.size)
        have x3 : ¬ (i : Int) < (p.length : Int) := by omega
        have HT := Lib.hid ht; have HBW := Lib.hid hbw; have HRW := Lib.hid hrw; clear ht hbw hrw
        go_wp2_with fail
        refine (HAW.out _).mono ?_
        rintro e w8 ⟨rfl, b8⟩
        have hb8 := HRW.out.trans (b8.mono HRW.out.size)
        clear b8
        have HB8 := Lib.hid hb8; clear hb8
        go_wp2
        go_ret
        exact ⟨rfl, HB8.out⟩
end Go.Proofs.Ytdimaapiloojeaa
