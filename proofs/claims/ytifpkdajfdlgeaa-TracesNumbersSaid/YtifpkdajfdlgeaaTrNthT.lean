/- Package traces: Nth. -/
import Derived.Test.YtifpkdajfdlgeaaTrNth1
import Derived.Test.YtifpkdajfdlgeaaTrLevR
namespace Go.Proofs.Ytifpkdajfdlgeaa
open Go.RowKit

def TcOk (ws : List GW) (w : World) (e : Ending) (w' : World) : Prop :=
  ∃ cb b mb, e = .returned (.tuple #[.pointer (some ⟨cb, 0, none⟩), .int .i64 (cntN ws.length (befW ws) 0), .int .i64 0]) ∧ Below w.heap.size w w' ∧ CtrAt w' cb b mb ws.length (befW ws) ∧ w.heap.size ≤ mb
theorem tcounted_ok (ba : Nat) (p : Int) (A : Option Addr) (c : Nat) (ws : List GW) (w : World) (ha : ShIn w p A ws) (hcap : ws.length ≤ c)
    (a0 : w.cell? ⟨ba, 0, none⟩ = some (.int .i64 p)) (a1 : w.cell? ⟨ba, 1, none⟩ = some (.slice A ws.length c)) (he : cntdErr p ws = 0) :
    Calls Try.prog 49 #[.pointer (some ⟨ba, 0, none⟩)] w (TcOk ws w) :=
  (tcounted_ ba p A c ws w ha hcap a0 a1).mono fun e w' ⟨v, h1, h2, h3, _⟩ => by
    obtain ⟨cb, b, mb, rfl, h4, h5⟩ := h3 he
    rw [he, (cntd_ok he).2.2.2] at h1
    exact ⟨cb, b, mb, h1, h2, h4, h5⟩

set_option maxRecDepth 100000 in
set_option maxHeartbeats 2000000 in
theorem tNth_ (p : Int) (A : Option Addr) (c : Nat) (ws : List GW) (k : Int) (w : World) (ha : ShIn w p A ws) (hcap : ws.length ≤ c) (hk1 : -9223372036854775808 ≤ k) (hk2 : k ≤ 9223372036854775807) :
    Calls Try.prog 35 #[.agg #[.int .i64 p, .slice A ws.length c], .int .i64 k] w (ListPost (nthL p ws k) (nthX p ws k) w) := by
  have hb2 : Below w.heap.size w ((w.alloc (.cells #[.int .i64 p, .slice A ws.length c] 24)).alloc (.cells #[.int .i64 k] 2)) := ((Below.refl _ _).alloc (Nat.le_refl _) _).alloc (by simp) _
  have HK1 := Lib.hid hk1; have HK2 := Lib.hid hk2; clear hk1 hk2
  by_cases he : cntdErr p ws = 0
  rotate_left
  · have hx : nthX p ws k = cntdErr p ws := by unfold nthX; rw [if_pos he]
    have hl : nthL p ws k = [] := by unfold nthL; rw [if_neg (by rw [hx]; exact he)]
    have heb : (cntdErr p ws != 0) = true := by simpa using he
    rw [hl, hx]
    have HA := Lib.hid ha; have HB2 := Lib.hid hb2; have HE := Lib.hid he; have HL := Lib.hid hl; have HX := Lib.hid hx; clear ha hb2 he hl hx
    go_enter Try.func35, Try.ntmps35
    go_wp2_with fail
    refine (tcounted_ _ p A c ws _ (HA.out.later HB2.out (Nat.le_refl _)) hcap (by go_simp) (by go_simp)).mono ?_
    rintro e w1 ⟨v, rfl, hb1, _, hv⟩
    obtain rfl := hv HE.out
    go_wp2
    go_ret2
    exact ⟨.slice none 0 0, rfl, RdV.nil _, (HB2.out.trans (hb1.mono (by simp; omega))).alloc (by have := hb1.size; simp at this; omega) _⟩
  · obtain ⟨hes, hn16, hle, hnum⟩ := cntd_ok he
    have hnb := cntN_bounds ws.length (befW ws) 0
    by_cases hkn : k < 0
    · have hx : nthX p ws k = 7 := by unfold nthX; rw [if_neg (by rw [he]; simp), if_pos hkn]
      have hl : nthL p ws k = [] := by unfold nthL; rw [if_neg (by rw [hx]; simp)]
      rw [hl, hx]
      have HA := Lib.hid ha; have HB2 := Lib.hid hb2; have HE := Lib.hid he; have HL := Lib.hid hl; have HX := Lib.hid hx; have HES := Lib.hid hes; have HNB := Lib.hid hnb; have HLE := Lib.hid hle; have HNUM := Lib.hid hnum; clear ha hb2 he hl hx hes hnb hle hnum
      go_enter Try.func35, Try.ntmps35
      go_wp2_with fail
      refine (tcounted_ok _ p A c ws _ (HA.out.later HB2.out (Nat.le_refl _)) hcap (by go_simp) (by go_simp) HE.out).mono ?_
      rintro e w1 ⟨cb, b, mb, rfl, hb1, _⟩
      have ck : w1.cell? ⟨w.heap.size + 1, 0, none⟩ = some (.int .i64 k) := below_at hb1 (Nat.le_refl _) (by go_simp)
      have hs1 : w.heap.size + 1 < w1.heap.size := by have := hb1.size; simp at this; omega
      go_wp2
      go_ret2
      exact ⟨.slice none 0 0, rfl, RdV.nil _, (HB2.out.trans (hb1.mono (by simp; omega))).alloc (by omega) _⟩
    by_cases hkb : cntN ws.length (befW ws) 0 ≤ k
    · have hx : nthX p ws k = 4 := by unfold nthX; rw [if_neg (by rw [he]; simp), if_neg hkn, if_pos (by rw [hnum]; exact hkb)]
      have hl : nthL p ws k = [] := by unfold nthL; rw [if_neg (by rw [hx]; simp)]
      rw [hl, hx]
      have HA := Lib.hid ha; have HB2 := Lib.hid hb2; have HE := Lib.hid he; have HL := Lib.hid hl; have HX := Lib.hid hx; have HES := Lib.hid hes; have HNB := Lib.hid hnb; have HLE := Lib.hid hle; have HNUM := Lib.hid hnum; clear ha hb2 he hl hx hes hnb hle hnum
      go_enter Try.func35, Try.ntmps35
      go_wp2_with fail
      refine (tcounted_ok _ p A c ws _ (HA.out.later HB2.out (Nat.le_refl _)) hcap (by go_simp) (by go_simp) HE.out).mono ?_
      rintro e w1 ⟨cb, b, mb, rfl, hb1, _⟩
      have ck : w1.cell? ⟨w.heap.size + 1, 0, none⟩ = some (.int .i64 k) := below_at hb1 (Nat.le_refl _) (by go_simp)
      have hs1 : w.heap.size + 1 < w1.heap.size := by have := hb1.size; simp at this; omega
      go_wp2
      go_ret2
      exact ⟨.slice none 0 0, rfl, RdV.nil _, (HB2.out.trans (hb1.mono (by simp; omega))).alloc (by omega) _⟩
    · have hx : nthX p ws k = 0 := by unfold nthX; rw [if_neg (by rw [he]; simp), if_neg hkn, if_neg (by rw [hnum]; exact hkb)]
      have hl : nthL p ws k = nthRun ws.length (befW ws) ws.length 0 k := by unfold nthL; rw [if_pos hx]
      rw [hl, hx]
      have hNI := NI.init (n := ws.length) (bef := befW ws) (k := k) (by omega) (by omega) hle
      have t1 : decide (k < 0) = false := by simpa using hkn
      have t2 : decide (cntN ws.length (befW ws) 0 ≤ k) = false := by simpa using hkb
      have hk0 : 0 ≤ k := by omega
      have hk9 : k ≤ 1000000001 := by omega
      have HA := Lib.hid ha; have HB2 := Lib.hid hb2; have HE := Lib.hid he; have HL := Lib.hid hl; have HX := Lib.hid hx; have HES := Lib.hid hes; have HNB := Lib.hid hnb; have HLE := Lib.hid hle; have HNUM := Lib.hid hnum; have HNI := Lib.hid hNI; clear ha hb2 he hl hx hes hnb hle hnum hNI
      clear hkn hkb
      go_enter Try.func35, Try.ntmps35
      go_wp2_with fail
      refine (tcounted_ok _ p A c ws _ (HA.out.later HB2.out (Nat.le_refl _)) hcap (by go_simp) (by go_simp) HE.out).mono ?_
      rintro e w1 ⟨cb, b, mb, rfl, hb1, hC, hmb⟩
      have ck : w1.cell? ⟨w.heap.size + 1, 0, none⟩ = some (.int .i64 k) := below_at hb1 (Nat.le_refl _) (by go_simp)
      have hs1 : w.heap.size + 1 < w1.heap.size := by have := hb1.size; simp at this; omega
      have hkb : w1.heap[w.heap.size + 1]? = some (.cells #[.int .i64 k] 2 (0, 0)) := (hb1.block _ (by simp)).trans (heap_alloc2_new _ _ _)
      have hmb2 : w.heap.size + 2 ≤ mb := by simpa using hmb
      have Y1 := Lib.hid (HB2.out.trans (hb1.mono (by simp; omega))); clear hb1 hmb
      have HC := Lib.hid hC; have HKB := Lib.hid hkb; clear hC hkb
      obtain ⟨A9, cap9, hcb9, _⟩ := HC.out.cells
      have hcblt := lt_of_block hcb9
      have hmblt := HC.out.good.lt
      have hblt : ws.length = 0 ∨ b < w1.heap.size := by
        rcases Nat.eq_zero_or_pos ws.length with h0 | h0
        · exact .inl h0
        · exact .inr (World.block_lt_of_cell? w1 _ (HC.out.befs 0 h0).2)
      have hbk : ws.length = 0 ∨ b ≠ w.heap.size + 1 := by
        rcases Nat.eq_zero_or_pos ws.length with h0 | h0
        · exact .inl h0
        · refine .inr fun h => ?_
          have h1 := (HC.out.befs 0 h0).2
          rw [h, cell_of_row w1 _ 0 _ _ _ HKB.out] at h1
          simp at h1
      obtain ⟨W2, hW2⟩ : ∃ W2, W2 = (w1.alloc (.cells #[.pointer (some ⟨cb, 0, none⟩)] 70)).alloc (.cells #[.int .u32 0] 55) := ⟨_, rfl⟩
      have hW2b : Below w1.heap.size w1 W2 := by rw [hW2]; exact ((Below.refl _ _).alloc (Nat.le_refl _) _).alloc (by simp) _
      have hC2 : CtrAt W2 cb b mb ws.length (befW ws) := HC.out.kept (gb_none hW2b _) (HC.out.good.kept (gb_none hW2b none) (by simp))
      have h6 : W2.heap[w1.heap.size]? = some (.cells #[.pointer (some ⟨cb, 0, none⟩)] 70 (0, 0)) := by rw [hW2]; exact heap_alloc2_old _ _ _
      have h10 : W2.heap[w1.heap.size + 1]? = some (.cells #[.int .u32 ((0 : Nat) : Int)] 55 (0, 0)) := by rw [hW2]; exact heap_alloc2_new _ _ _
      have hkb2 : W2.heap[w.heap.size + 1]? = some (.cells #[.int .i64 k] 2 (0, 0)) := (hW2b.block _ hs1).trans HKB.out
      have hs2 : W2.heap.size = w1.heap.size + 2 := by rw [hW2]; simp
      have Y2 := Lib.hid (Y1.out.trans (hW2b.mono Y1.out.size))
      have hw1s := Y1.out.size
      have HCB9 := Lib.hid hcb9; have HW2B := Lib.hid hW2b; have HC2 := Lib.hid hC2; have H6 := Lib.hid h6; have H10 := Lib.hid h10; have HKB2 := Lib.hid hkb2; have HS2 := Lib.hid hs2; clear hcb9 hW2b hC2 h6 h10 hkb2 hs2
      go_wp2_with fail
      clear ck t1 t2
      rw [← hW2]
      clear hW2
      refine (tNth1_ w1.heap.size (w1.heap.size + 1) (w.heap.size + 1) cb b mb ws.length 0 (befW ws) k W2 hn16 (Nat.two_pow_pos _) hk0 hk9 H6.out H10.out HKB2.out HC2.out hbk).mono ?_
      intro e w3 hpost
      obtain ⟨rfl, hkb3, hC3, hg3⟩ := hpost.one
      have hB3 : Below w.heap.size w w3 := Y2.out.trans (hg3.below (by omega) (by omega) Y2.out.size)
      have h63 := (hg3.block w1.heap.size (by have := HS2.out; omega) (by omega) (by omega)).trans H6.out
      have h103 := (hg3.block (w1.heap.size + 1) (by have := HS2.out; omega) (by omega) (by omega)).trans H10.out
      have hs3 : w1.heap.size + 2 ≤ w3.heap.size := by have := hg3.size; have := HS2.out; omega
      have HKB3 := Lib.hid hkb3; have HC3 := Lib.hid hC3; have HG3 := Lib.hid hg3; have HB3 := Lib.hid hB3; have H63 := Lib.hid h63; have H103 := Lib.hid h103; clear hkb3 hC3 hg3 hB3 h63 h103
      clear hpost
      generalize hpk0 : pkTo (cntN ws.length (befW ws)) (befW ws) 0 k ws.length = pk0 at *
      have HPK0 := Lib.hid hpk0; clear hpk0
      go_wp2
      go_loopw [9, 12, 13] (fun o iv zv wr => ∃ (s : Nat) (r : Int) (out : List Int), iv = .int .i64 (((pkTo (cntN ws.length (befW ws)) (befW ws) s r ws.length).1.getD 0 : Nat) : Int) ∧ zv = .bool (pkTo (cntN ws.length (befW ws)) (befW ws) s r ws.length).1.isSome ∧ NI ws.length (befW ws) k s r out ∧
        wr.ownsRow (w1.heap.size + 2) 3 1 o out.length (ints out) ∧ CtrAt wr cb b mb ws.length (befW ws) ∧ wr.heap[w1.heap.size]? = some (.cells #[.pointer (some ⟨cb, 0, none⟩)] 70 (0, 0)) ∧ wr.heap[w1.heap.size + 1]? = some (.cells #[.int .u32 (s : Int)] 55 (0, 0)) ∧
        wr.heap[w.heap.size + 1]? = some (.cells #[.int .i64 (pkTo (cntN ws.length (befW ws)) (befW ws) s r ws.length).2] 2 (0, 0)) ∧ Below w.heap.size w wr ∧ w1.heap.size + 2 ≤ wr.heap.size) (fun o _ _ _ => ws.length - sLen o)
      case atStart => exact ⟨0, k, [], by rw [HPK0.out], by rw [HPK0.out], HNI.out, World.ownsRow_nil _ _ _ _, HC3.out, H63.out, H103.out, by rw [HPK0.out]; exact HKB3.out, HB3.out, hs3⟩
      case round =>
        obtain ⟨s, r, out, rfl, rfl, hNI, hown, hCr, hc6, hc10, hck, hbw, hsr⟩ := hrel
        obtain ⟨OA, oc, rfl⟩ := own_slice hown
        have hol := hNI.ms
        by_cases hlt : out.length < ws.length
        · obtain ⟨i, r', hpk, hil, hfi, hNI2⟩ := hNI.step hlt
          rw [hpk] at hck ⊢
          simp only [Option.getD_some, Option.isSome_some]
          have hs16 : s < 2 ^ 16 := Nat.lt_of_lt_of_le hNI.lt (Nat.pow_le_pow_right (by decide) hn16)
          have hor := bit_set .u32 16 (by decide) (fun n h h' => wraps_u32 n h (by omega)) s i hs16 (by omega)
          have hk16 : (2 : Int) ^ i % 4294967296 = 2 ^ i := by
            have h1 : 2 ^ i < 2 ^ 16 := Nat.pow_lt_pow_right (by decide) (by omega)
            have h2 : (2 : Int) ^ i = ((2 ^ i : Nat) : Int) := by simp
            rw [h2]; exact Int.emod_eq_of_lt (Int.natCast_nonneg _) (by omega)
          rw [← hk16] at hor
          clear hk16
          have hi32 : (i : Int) < 32 := by omega
          have hi0 : (0 : Int) ≤ (i : Int) := by omega
          have hs2lt := hNI2.lt
          have hr1 := hNI2.lo
          have hr2 : r' ≤ 1000000001 := by have := hNI2.hi; have := hNI2.le; omega
          have hbo := hown.lt
          have hN6 : some w1.heap.size ≠ (Value.slice OA out.length oc).ownBlock := fun h => by have := (hbo _ h.symm).1; omega
          have hN10 : some (w1.heap.size + 1) ≠ (Value.slice OA out.length oc).ownBlock := fun h => by have := (hbo _ h.symm).1; omega
          have hNk : some (w.heap.size + 1) ≠ (Value.slice OA out.length oc).ownBlock := fun h => by have := (hbo _ h.symm).1; omega
          generalize hg : s ||| 2 ^ i = s2 at *
          have HNI := Lib.hid hNI; have HOWN := Lib.hid hown; have HCR := Lib.hid hCr; have HC6 := Lib.hid hc6; have HC10 := Lib.hid hc10; have HCK := Lib.hid hck; have HBW := Lib.hid hbw; have HPK := Lib.hid hpk; have HFI := Lib.hid hfi; have HNI2 := Lib.hid hNI2; have HS16 := Lib.hid hs16; have HG := Lib.hid hg; have HS2LT := Lib.hid hs2lt; have HBO := Lib.hid hbo; have HN6 := Lib.hid hN6; have HN10 := Lib.hid hN10; have HNK := Lib.hid hNk; have HOL := Lib.hid hol; have HR2 := Lib.hid hr2; clear hNI hown hCr hc6 hc10 hck hbw hpk hfi hNI2 hs16 hg hs2lt hbo hN6 hN10 hNk hol hr2
          go_wp2_with (at_builtin; go_must (refine wpList_app1_Try rfl _ _ rfl (w1.heap.size + 2) (.slice OA out.length oc) out rfl (by repeat (first | exact HOWN.out | refine World.ownsRow.alloc ?_ _ | refine own_drewN ?_ _)) wr.heap.size i rfl (heap_new_at _ _ _ (by simp)) (by omega) (by simp; omega) ?_); intro g cap w4 hown4 hgrow hat4 hlt4)
          have k6 : w4.heap[w1.heap.size]? = some (.cells #[.pointer (some ⟨cb, 0, none⟩)] 70 (0, 0)) := (hgrow.block _ (by simp; omega) HN6.out).trans ((Below.heap_alloc wr _ _ (by omega)).trans HC6.out)
          have k10 : w4.heap[w1.heap.size + 1]? = some (.cells #[.int .u32 (s : Int)] 55 (0, 0)) := (hgrow.block _ (by simp; omega) HN10.out).trans ((Below.heap_alloc wr _ _ (by omega)).trans HC10.out)
          have kk : w4.heap[w.heap.size + 1]? = some (.cells #[.int .i64 r'] 2 (0, 0)) := (hgrow.block _ (by simp; omega) HNK.out).trans ((Below.heap_alloc wr _ _ (by omega)).trans HCK.out)
          have kC : CtrAt w4 cb b mb ws.length (befW ws) := (HCR.out.beyond (base := w1.heap.size + 2) (World.grownBy_alloc wr _ none) (fun k hk => by cases hk) (by omega) (by omega) (by omega)).beyond (base := w1.heap.size + 2) hgrow (fun k hk => (HBO.out k hk).1) (by omega) (by omega) (by omega)
          have kB : Below w.heap.size w w4 := (HBW.out.alloc HBW.out.size _).grown hgrow (by simp; omega) (fun k' hk' => by have := (HBO.out k' hk').1; omega)
          have q1 : w4.cell? ⟨w1.heap.size + 1, 0, none⟩ = some (.int .u32 (s : Int)) := cell_of_row w4 _ 0 _ _ _ k10
          have q2 : w4.frozen? ⟨w1.heap.size + 1, 0, none⟩ = false := frozen_of_row w4 _ 0 _ _ k10
          have q3 := lt_of_block k10
          have K6 := Lib.hid k6; have K10 := Lib.hid k10; have KK := Lib.hid kk; have KC := Lib.hid kC; have KB := Lib.hid kB; have HOWN4 := Lib.hid hown4; have HGROW := Lib.hid hgrow; clear k6 k10 kk kC kB hown4 hgrow
          go_region
          go_wp2_with fail
          obtain ⟨W5, hW5⟩ : ∃ W5, W5 = (w4.setCell ⟨w1.heap.size + 1, 0, none⟩ (.int .u32 (s2 : Int))).drew := ⟨_, rfl⟩
          have m6 : W5.heap[w1.heap.size]? = some (.cells #[.pointer (some ⟨cb, 0, none⟩)] 70 (0, 0)) := by rw [hW5]; exact (heap_setCell_other _ _ _ _ (by simp)).trans K6.out
          have m10 : W5.heap[w1.heap.size + 1]? = some (.cells #[.int .u32 (s2 : Int)] 55 (0, 0)) := by rw [hW5]; exact one_set K10.out
          have mk : W5.heap[w.heap.size + 1]? = some (.cells #[.int .i64 r'] 2 (0, 0)) := by rw [hW5]; exact (heap_setCell_other _ _ _ _ (by simp; omega)).trans KK.out
          have mC : CtrAt W5 cb b mb ws.length (befW ws) := by
            rw [hW5]
            have h := KC.out.store K10.out (by decide) (by omega) (.int .u32 (s2 : Int))
            exact ⟨h.cells, h.befs, h.good, h.ne⟩
          have mB : Below w.heap.size w W5 := by rw [hW5]; exact (KB.out.setCell (by show w.heap.size ≤ w1.heap.size + 1; omega) _).drew
          have mo : W5.ownsRow (w1.heap.size + 2) 3 1 (.slice (some ⟨g, 0, none⟩) (out.length + 1) cap) (out ++ [(i : Int)]).length (ints (out ++ [(i : Int)])) := by rw [hW5]; exact (ownsRow_setCell_below HOWN4.out (by show w1.heap.size + 1 < w1.heap.size + 2; omega) _).drew
          have ms : w1.heap.size + 2 ≤ W5.heap.size := by rw [hW5]; have := HGROW.out.size; simp at this; simp; omega
          have M6 := Lib.hid m6; have M10 := Lib.hid m10; have MK := Lib.hid mk; have MC := Lib.hid mC; have MB := Lib.hid mB; have MO := Lib.hid mo; clear m6 m10 mk mC mB mo
          rw [← hW5]
          clear hW5
          refine (tNth1_ w1.heap.size (w1.heap.size + 1) (w.heap.size + 1) cb b mb ws.length s2 (befW ws) r' W5 hn16 HS2LT.out hr1 HR2.out M6.out M10.out MK.out MC.out hbk).mono ?_
          intro e w6 hpost
          obtain ⟨rfl, hkb6, hC6, hg6⟩ := hpost.one
          have hB6 : Below w.heap.size w w6 := MB.out.trans (hg6.below (by omega) (by omega) MB.out.size)
          have h66 := (hg6.block w1.heap.size (by omega) (by omega) (by omega)).trans M6.out
          have h106 := (hg6.block (w1.heap.size + 1) (by omega) (by omega) (by omega)).trans M10.out
          have ho6 := own_gr2 MO.out hg6 (by omega) (by omega)
          have hs6 : w1.heap.size + 2 ≤ w6.heap.size := by have := hg6.size; omega
          have HKB6 := Lib.hid hkb6; have HC6 := Lib.hid hC6; have HG6 := Lib.hid hg6; have HB6 := Lib.hid hB6; have H66 := Lib.hid h66; have H106 := Lib.hid h106; have HO6 := Lib.hid ho6; clear hkb6 hC6 hg6 hB6 h66 h106 ho6
          clear hpost
          generalize hpk6 : pkTo (cntN ws.length (befW ws)) (befW ws) s2 r' ws.length = pk6 at *
          have HPK6 := Lib.hid hpk6; clear hpk6
          go_wp2
          go_roundw
          case rel => exact ⟨s2, r', out ++ [(i : Int)], by rw [HPK6.out], by rw [HPK6.out], HNI2.out, HO6.out, HC6.out, H66.out, H106.out, by rw [HPK6.out]; exact HKB6.out, HB6.out, hs6⟩
          case measure => simp [sLen]; omega
        · obtain ⟨hsf, hfin, hln⟩ := hNI.done hlt
          have hpf : pkTo (cntN ws.length (befW ws)) (befW ws) s r ws.length = (none, r) := by rw [hsf]; exact pkTo_full _ _ (Nat.le_refl _)
          rw [hpf] at hck ⊢
          simp only [Option.getD_none, Option.isSome_none]
          have hl16 : out.length ≤ 16 := by omega
          have HFIN := Lib.hid hfin; have HNI := Lib.hid hNI; have HCR := Lib.hid hCr; have HSF := Lib.hid hsf; have HPF := Lib.hid hpf; have HCK := Lib.hid hck; have HOL := Lib.hid hol; have HLN := Lib.hid hln; clear hfin hNI hCr hsf hpf hck hol hln
          go_wp2
          go_ret2
          rw [HFIN.out]
          exact ⟨_, rfl, RdV.of_own hown (by omega), hbw⟩
end Go.Proofs.Ytifpkdajfdlgeaa
