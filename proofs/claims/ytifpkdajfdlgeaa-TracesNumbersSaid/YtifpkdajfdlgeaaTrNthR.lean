/- The reference's Nth. -/
import Derived.Test.YtifpkdajfdlgeaaTrNth2
import Derived.Test.YtifpkdajfdlgeaaTrCtrC
namespace Go.Proofs.Ytifpkdajfdlgeaa
open Go.RowKit

def RcOk (p : Int) (A : Option Addr) (c : Nat) (ws : List GW) (w : World) (e : Ending) (w' : World) : Prop :=
  ∃ cb D, e = .returned (.tuple #[.pointer (some ⟨cb, 0, none⟩), .int .i64 (cntN ws.length (befW ws) 0), .int .i64 0]) ∧ Below w.heap.size w w' ∧ RC w' cb D p A c ws ∧ w.heap.size ≤ D
theorem rcounted_ok (p : Int) (A : Option Addr) (c : Nat) (ws : List GW) (w : World) (ha : ShIn w p A ws) (hne : 0 < ws.length → ∀ b off, A = some ⟨b, off, none⟩ → b < w.heap.size) (he : cntdErr p ws = 0) :
    Calls Try.prog 53 #[.agg #[.int .i64 p, .slice A ws.length c]] w (RcOk p A c ws w) :=
  (rcounted_ p A c ws w ha hne).mono fun e w' ⟨v, h1, h2, h3⟩ => by
    obtain ⟨cb, D, rfl, h4, h5⟩ := h3 he
    rw [he, (cntd_ok he).2.2.2] at h1
    exact ⟨cb, D, h1, h2, h4, h5⟩

set_option maxRecDepth 100000 in
set_option maxHeartbeats 1500000 in
theorem rNth_ (p : Int) (A : Option Addr) (c : Nat) (ws : List GW) (k : Int) (w : World) (ha : ShIn w p A ws) (hne : 0 < ws.length → ∀ b off, A = some ⟨b, off, none⟩ → b < w.heap.size) (hk1 : -9223372036854775808 ≤ k) (hk2 : k ≤ 9223372036854775807) :
    Calls Try.prog 36 #[.agg #[.int .i64 p, .slice A ws.length c], .int .i64 k] w (ListPost (nthL p ws k) (nthX p ws k) w) := by
  have hb2 : Below w.heap.size w (w.alloc (.cells #[.int .i64 p, .slice A ws.length c] 24)) := (Below.refl _ _).alloc (Nat.le_refl _) _
  have HK1 := Lib.hid hk1; have HK2 := Lib.hid hk2; clear hk1 hk2
  by_cases he : cntdErr p ws = 0
  rotate_left
  · have hx : nthX p ws k = cntdErr p ws := by unfold nthX; rw [if_pos he]
    have hl : nthL p ws k = [] := by unfold nthL; rw [if_neg (by rw [hx]; exact he)]
    have heb : (cntdErr p ws != 0) = true := by simpa using he
    rw [hl, hx]
    have HA := Lib.hid ha; have HB2 := Lib.hid hb2; have HE := Lib.hid he; have HL := Lib.hid hl; have HX := Lib.hid hx; have HNE := Lib.hid hne; clear ha hb2 he hl hx hne
    go_enter Try.func36, Try.ntmps36
    go_wp2_with fail
    refine (rcounted_ p A c ws _ (HA.out.later HB2.out (Nat.le_refl _)) (fun h0 b off hA => Nat.lt_of_lt_of_le (HNE.out h0 b off hA) HB2.out.size)).mono ?_
    rintro e w1 ⟨v, rfl, hb1, _⟩
    go_wp2
    go_ret2
    exact ⟨.slice none 0 0, rfl, RdV.nil _, HB2.out.trans (hb1.mono (by simp))⟩
  · obtain ⟨hes, hn16, hle, hnum⟩ := cntd_ok he
    have hok : OkS p ws := hes
    obtain ⟨_, hp24, hlen, hall⟩ := hok.all
    have hwsd : ∀ x ∈ ws, 0 ≤ x.pl ∧ x.pl ≤ 22 := fun x hx => by
      obtain ⟨_, h1, h2, _⟩ := hall x hx
      exact ⟨h1, by omega⟩
    have hnb := cntN_bounds ws.length (befW ws) 0
    have hec := he
    by_cases hkn : k < 0
    · have hx : nthX p ws k = 7 := by unfold nthX; rw [if_neg (by rw [he]; simp), if_pos hkn]
      have hl : nthL p ws k = [] := by unfold nthL; rw [if_neg (by rw [hx]; simp)]
      rw [hl, hx]
      have HA := Lib.hid ha; have HB2 := Lib.hid hb2; have HE := Lib.hid he; have HL := Lib.hid hl; have HX := Lib.hid hx; have HNE := Lib.hid hne; have HOK := Lib.hid hok; have HALL := Lib.hid hall; have HWSD := Lib.hid hwsd; have HES := Lib.hid hes; have HNB := Lib.hid hnb; have HLE := Lib.hid hle; clear ha hb2 he hl hx hne hok hall hwsd hes hnb hle
      go_enter Try.func36, Try.ntmps36
      go_wp2_with fail
      refine (rcounted_ok p A c ws _ (HA.out.later HB2.out (Nat.le_refl _)) (fun h0 b off hA => Nat.lt_of_lt_of_le (HNE.out h0 b off hA) HB2.out.size) HE.out).mono ?_
      rintro e w1 ⟨cb, D, rfl, hb1, _⟩
      clear hec hnum
      go_wp2
      go_ret2
      exact ⟨.slice none 0 0, rfl, RdV.nil _, HB2.out.trans (hb1.mono (by simp))⟩
    by_cases hkb : cntN ws.length (befW ws) 0 ≤ k
    · have hx : nthX p ws k = 4 := by unfold nthX; rw [if_neg (by rw [he]; simp), if_neg hkn, if_pos (by rw [hnum]; exact hkb)]
      have hl : nthL p ws k = [] := by unfold nthL; rw [if_neg (by rw [hx]; simp)]
      rw [hl, hx]
      have HA := Lib.hid ha; have HB2 := Lib.hid hb2; have HE := Lib.hid he; have HL := Lib.hid hl; have HX := Lib.hid hx; have HNE := Lib.hid hne; have HOK := Lib.hid hok; have HALL := Lib.hid hall; have HWSD := Lib.hid hwsd; have HES := Lib.hid hes; have HNB := Lib.hid hnb; have HLE := Lib.hid hle; clear ha hb2 he hl hx hne hok hall hwsd hes hnb hle
      go_enter Try.func36, Try.ntmps36
      go_wp2_with fail
      refine (rcounted_ok p A c ws _ (HA.out.later HB2.out (Nat.le_refl _)) (fun h0 b off hA => Nat.lt_of_lt_of_le (HNE.out h0 b off hA) HB2.out.size) HE.out).mono ?_
      rintro e w1 ⟨cb, D, rfl, hb1, _⟩
      clear hec hnum
      go_wp2
      go_ret2
      exact ⟨.slice none 0 0, rfl, RdV.nil _, HB2.out.trans (hb1.mono (by simp))⟩
    · have hx : nthX p ws k = 0 := by unfold nthX; rw [if_neg (by rw [he]; simp), if_neg hkn, if_neg (by rw [hnum]; exact hkb)]
      have hl : nthL p ws k = nthRun ws.length (befW ws) ws.length 0 k := by unfold nthL; rw [if_pos hx]
      rw [hl, hx]
      have hNI := NI.init (n := ws.length) (bef := befW ws) (k := k) (by omega) (by omega) hle
      have HA := Lib.hid ha; have HB2 := Lib.hid hb2; have HE := Lib.hid he; have HL := Lib.hid hl; have HX := Lib.hid hx; have HNE := Lib.hid hne; have HOK := Lib.hid hok; have HALL := Lib.hid hall; have HWSD := Lib.hid hwsd; have HES := Lib.hid hes; have HNB := Lib.hid hnb; have HLE := Lib.hid hle; have HNI := Lib.hid hNI; clear ha hb2 he hl hx hne hok hall hwsd hes hnb hle hNI
      have t1 : decide (k < 0) = false := by simpa using hkn
      have t2 : decide (cntN ws.length (befW ws) 0 ≤ k) = false := by simpa using hkb
      have hl64 : (ws.length : Int) < 64 := by omega
      clear hkn hkb
      go_enter Try.func36, Try.ntmps36
      go_wp2_with fail
      refine (rcounted_ok p A c ws _ (HA.out.later HB2.out (Nat.le_refl _)) (fun h0 b off hA => Nat.lt_of_lt_of_le (HNE.out h0 b off hA) HB2.out.size) HE.out).mono ?_
      rintro e w1 ⟨cb, D, rfl, hb1, hC, hD⟩
      have a1 : w1.cell? ⟨w.heap.size, 1, none⟩ = some (.slice A ws.length c) := below_at hb1 (Nat.le_refl _) (by go_simp)
      have hs1 : w.heap.size < w1.heap.size := by have := hb1.size; simp at this; omega
      have hD2 : w.heap.size + 1 ≤ D := by simpa using hD
      have Y1 := Lib.hid (HB2.out.trans (hb1.mono (by simp)))
      clear hb1 hec hnum hD
      have HC := Lib.hid hC; clear hC
      go_wp2
      clear t1 t2
      go_loopw [1, 9, 10] (fun kv o sv wr => ∃ (s : Nat) (r : Int) (out : List Int), kv = .int .i64 r ∧ sv = .int .i64 s ∧ NI ws.length (befW ws) k s r out ∧ wr.ownsRow w1.heap.size 3 1 o out.length (ints out) ∧ RC wr cb D p A c ws ∧ w1.grownBy wr (some D)) (fun _ o _ _ => ws.length - sLen o)
      case atStart => exact ⟨0, k, [], rfl, rfl, HNI.out, World.ownsRow_nil _ _ _ _, HC.out, World.grownBy.refl _ _⟩
      case round =>
        obtain ⟨s, r, out, rfl, rfl, hNI, hown, hCr, hgr⟩ := hrel
        obtain ⟨wo, rfl⟩ : ∃ wo : World, wo = wr := ⟨_, rfl⟩
        obtain ⟨OA, oc, rfl⟩ := own_slice hown
        have a2 : wo.cell? ⟨w.heap.size, 1, none⟩ = some (.slice A ws.length c) := GB.cell hgr a1 (by show w.heap.size ≠ D; omega)
        have hs2 : w.heap.size < wo.heap.size := Nat.lt_of_lt_of_le hs1 hgr.size
        have hw1o := hgr.size
        by_cases hlt : out.length < ws.length
        · obtain ⟨i, r', hpk, hil, hfi, hNI2⟩ := hNI.step hlt
          have hslt := hNI.lt
          have hs16 : s < 65536 := Nat.lt_of_lt_of_le hslt (Nat.pow_le_pow_right (by decide) hn16)
          have hr0 := hNI.lo
          have hr1 := hNI.hi
          have hr2 := hNI.le
          have hr3 : r ≤ 1000000000 := by omega
          have hbo := hown.lt
          have HNI := Lib.hid hNI; have HOWN := Lib.hid hown; have HCR := Lib.hid hCr; have HGR := Lib.hid hgr; have HPK := Lib.hid hpk; have HFI := Lib.hid hfi; have HNI2 := Lib.hid hNI2; have HSLT := Lib.hid hslt; have HS16 := Lib.hid hs16; have HR1 := Lib.hid hr1; have HR2 := Lib.hid hr2; have HBO := Lib.hid hbo; clear hNI hown hCr hgr hpk hfi hNI2 hslt hs16 hr1 hr2 hbo
          go_wp2
          go_loopw [1, 9, 10, 11] (fun kv ov sv iv wr => ∃ (j : Nat) (q : Int), iv = .int .i64 j ∧ j ≤ ws.length ∧ kv = .int .i64 q ∧ ov = .slice OA out.length oc ∧ sv = .int .i64 s ∧ pkTo (cntN ws.length (befW ws)) (befW ws) s r j = (none, q) ∧ q ≤ r ∧ 0 ≤ q ∧ RC wr cb D p A c ws ∧ wo.grownBy wr (some D)) (fun _ _ _ iv _ => ws.length - (intOf iv).toNat)
          case atStart => exact ⟨0, r, rfl, Nat.zero_le _, rfl, rfl, rfl, rfl, Int.le_refl _, hr0, HCR.out, World.grownBy.refl _ _⟩
          case round =>
            obtain ⟨j, q, rfl, hj, rfl, rfl, rfl, hpj, hq1, hq2, hCx, hgx⟩ := hrel
            have a3 : wr.cell? ⟨w.heap.size, 1, none⟩ = some (.slice A ws.length c) := GB.cell hgx a2 (by show w.heap.size ≠ D; omega)
            have hs3 : w.heap.size < wr.heap.size := Nat.lt_of_lt_of_le hs2 hgx.size
            have hwx := hgx.size
            by_cases hjl : j < ws.length
            · have hstep : pkTo (cntN ws.length (befW ws)) (befW ws) s r (j + 1) = if freeB (befW ws) s j = true then (if q < cntN ws.length (befW ws) (s ||| 2 ^ j) then (some j, q) else (none, q - cntN ws.length (befW ws) (s ||| 2 ^ j))) else (none, q) := by rw [pkTo, hpj]
              by_cases hf : freeB (befW ws) s j = true
              · have hcb2 := cntN_bounds ws.length (befW ws) (s ||| 2 ^ j)
                have hor : (s : Int) + 2 ^ j = ((s ||| 2 ^ j : Nat) : Int) := by rw [pw_cast, ← add_set (freeB_bit hf)]; simp
                have hs2' : s ||| 2 ^ j < 2 ^ ws.length := Nat.or_lt_two_pow HSLT.out (Nat.pow_lt_pow_right (by decide) hjl)
                have hp1 : (0 : Int) ≤ 2 ^ j := by rw [pw_cast]; exact Int.natCast_nonneg _
                have hp2 : (2 : Int) ^ j ≤ 65536 := by
                  have h1 : 2 ^ j ≤ 2 ^ 16 := Nat.pow_le_pow_right (by decide) (by omega)
                  rw [pw_cast]; omega
                have hsi : (s : Int) ≤ 65536 := by have := HS16.out; omega
                have hj64 : (j : Int) < 64 := by omega
                have hml := miss_le ws.length (s ||| 2 ^ j)
                rw [if_pos hf] at hstep
                obtain ⟨hcb3, hcb4⟩ := hcb2
                by_cases hqc : q < cntN ws.length (befW ws) (s ||| 2 ^ j)
                · rw [if_pos hqc] at hstep
                  have heq : (i, r') = (j, q) := by
                    obtain ⟨_, _, _, _, h9⟩ := pkTo_found hstep
                    have := (h9 ws.length (by omega)).symm.trans HPK.out
                    simp only [Prod.mk.injEq, Option.some.injEq] at this
                    rw [this.1, this.2]
                  obtain ⟨rfl, rfl⟩ := Prod.mk.inj heq
                  clear heq
                  generalize hg : s ||| 2 ^ i = s2 at *
                  generalize hcn : cntN ws.length (befW ws) s2 = cn at *
                  have hownx : wr.ownsRow w1.heap.size 3 1 (.slice OA out.length oc) out.length (ints out) := HOWN.out.kept hgx (by
                    cases hb : (Value.slice OA out.length oc).ownBlock with
                    | none => exact .inl rfl
                    | some b0 =>
                      refine .inr fun h => ?_
                      injection h with h
                      subst h
                      have h1 := (HBO.out _ hb).1
                      have h2 := (HCR.out.known.choose_spec.2.1).lt
                      have h3 := lt_of_block HC.out.blk
                      have h4 := (HC.out.known.choose_spec.2.1).lt
                      omega)
                  have HS2p := Lib.hid hs2'; have HF := Lib.hid hf; have HG := Lib.hid hg; have HCN := Lib.hid hcn; have HPJ := Lib.hid hpj; have HSTEP := Lib.hid hstep; have HCX := Lib.hid hCx; have HGX := Lib.hid hgx; have HOWNX := Lib.hid hownx; have HML := Lib.hid hml; clear hs2' hf hg hcn hpj hstep hCx hgx hownx hml
                  go_wp2_with fail
                  refine (rfree_ cb D p A c s i ws _ HCX.out hn16 HS16.out hjl HWSD.out).mono ?_
                  rw [HF.out]
                  rintro e w2 ⟨rfl, hb1⟩
                  have hC1 := HCX.out.later hb1
                  have HC1 := Lib.hid hC1; have HB1 := Lib.hid hb1; clear hC1 hb1
                  go_wp2_with fail
                  refine (rorders_ cb D p A c ws hn16 HWSD.out ws.length s2 _ HML.out HS2p.out HC1.out).mono ?_
                  rw [HCN.out]
                  rintro e w3 ⟨rfl, hC2, hg2⟩
                  have hown3 : w3.ownsRow w1.heap.size 3 1 (.slice OA out.length oc) out.length (ints out) := (own_below HOWNX.out HB1.out).kept hg2 (by
                    cases hb : (Value.slice OA out.length oc).ownBlock with
                    | none => exact .inl rfl
                    | some b0 =>
                      refine .inr fun h => ?_
                      injection h with h
                      subst h
                      have h1 := (HBO.out _ hb).1
                      have h4 := (HC.out.known.choose_spec.2.1).lt
                      omega)
                  have hw3 : w1.heap.size ≤ w3.heap.size := Nat.le_trans (Nat.le_trans (by omega) HB1.out.size) hg2.size
                  have HC2 := Lib.hid hC2; have HG2 := Lib.hid hg2; have HOWN3 := Lib.hid hown3; clear hC2 hg2 hown3
                  go_wp2_with (at_builtin; go_must (refine wpList_app1_Try rfl _ _ rfl w1.heap.size (.slice OA out.length oc) out rfl (by repeat (first | exact HOWN3.out | refine World.ownsRow.alloc ?_ _ | refine own_drewN ?_ _)) w3.heap.size i rfl (heap_new_at _ _ _ (by simp)) (by omega) (by simp; omega) ?_); intro g cap w4 hown4 hgrow hat4 hlt4)
                  go_roundw
                  case rel =>
                    have hgall : w1.grownBy w4 (some D) := by
                      have h1 := gb_trans (gb_trans (gb_trans HGR.out HGX.out) (gb_none HB1.out _)) HG2.out
                      exact GB.grown (GB.alloc h1 _) hgrow (fun k' hk' => by have := (HBO.out k' hk').1; omega)
                    have hDne : some D ≠ (Value.slice OA out.length oc).ownBlock := fun h => by
                      have h1 := (HBO.out _ h.symm).1
                      have h4 := (HC.out.known.choose_spec.2.1).lt
                      omega
                    have hCne : some cb ≠ (Value.slice OA out.length oc).ownBlock := fun h => by
                      have h1 := (HBO.out _ h.symm).1
                      have h4 := lt_of_block HC.out.blk
                      omega
                    refine ⟨s2, r', out ++ [(i : Int)], rfl, by first | rfl | go_num, HNI2.out, hown4, ?_, hgall⟩
                    have hC3 := HC2.out.later ((Below.refl _ _).alloc (Nat.le_refl _) (.cells #[.int .i64 (i : Int)] 3))
                    obtain ⟨zs, z1, z2, z3⟩ := hC3.known
                    refine ⟨(hgrow.block _ (lt_of_block hC3.blk) hCne).trans hC3.blk, ?_, ⟨zs, z1, z2.kept hgrow hDne, z3⟩, hC3.ne⟩
                    exact HA.out.rd.later ((Y1.out.trans ((GB.below hgall (by omega) Y1.out.size)))) (Nat.le_refl _)
                  case measure => simp [sLen]; omega
                · rw [if_neg hqc] at hstep
                  have hqn : decide (q < cntN ws.length (befW ws) (s ||| 2 ^ j)) = false := by simpa using hqc
                  have hq3 : 0 ≤ q - cntN ws.length (befW ws) (s ||| 2 ^ j) := by omega
                  have hq4 : q - cntN ws.length (befW ws) (s ||| 2 ^ j) ≤ r := by omega
                  generalize hg : s ||| 2 ^ j = s2 at *
                  generalize hcn : cntN ws.length (befW ws) s2 = cn at *
                  have HS2p := Lib.hid hs2'; have HF := Lib.hid hf; have HG := Lib.hid hg; have HCN := Lib.hid hcn; have HPJ := Lib.hid hpj; have HSTEP := Lib.hid hstep; have HCX := Lib.hid hCx; have HGX := Lib.hid hgx; have HML := Lib.hid hml; clear hs2' hf hg hcn hpj hstep hCx hgx hml
                  clear hqc
                  go_wp2_with fail
                  refine (rfree_ cb D p A c s j ws _ HCX.out hn16 HS16.out hjl HWSD.out).mono ?_
                  rw [HF.out]
                  rintro e w2 ⟨rfl, hb1⟩
                  have hC1 := HCX.out.later hb1
                  have HC1 := Lib.hid hC1; have HB1 := Lib.hid hb1; clear hC1 hb1
                  go_wp2_with fail
                  refine (rorders_ cb D p A c ws hn16 HWSD.out ws.length s2 _ HML.out HS2p.out HC1.out).mono ?_
                  rw [HCN.out]
                  rintro e w3 ⟨rfl, hC2, hg2⟩
                  have HC2 := Lib.hid hC2; have HG2 := Lib.hid hg2; clear hC2 hg2
                  go_wp2
                  go_roundw
                  case rel => exact ⟨j + 1, q - cn, by go_num, by omega, rfl, rfl, rfl, HSTEP.out, hq4, hq3, HC2.out, gb_trans (gb_trans HGX.out (gb_none HB1.out _)) HG2.out⟩
                  case measure => simp [intOf]; omega
              · rw [if_neg hf] at hstep
                have hf' : freeB (befW ws) s j = false := by simpa using hf
                clear hf
                have HFp := Lib.hid hf'; have HSTEP := Lib.hid hstep; have HCX := Lib.hid hCx; have HGX := Lib.hid hgx; have HPJ := Lib.hid hpj; clear hf' hstep hCx hgx hpj
                go_wp2_with fail
                refine (rfree_ cb D p A c s j ws _ HCX.out hn16 HS16.out hjl HWSD.out).mono ?_
                rw [HFp.out]
                rintro e w2 ⟨rfl, hb1⟩
                have hC1 := HCX.out.later hb1
                have HC1 := Lib.hid hC1; have HB1 := Lib.hid hb1; clear hC1 hb1
                go_wp2
                go_roundw
                case rel => exact ⟨j + 1, q, by go_num, by omega, rfl, rfl, rfl, HSTEP.out, hq1, hq2, HC1.out, gb_trans HGX.out (gb_none HB1.out _)⟩
                case measure => simp [intOf]; omega
            · exfalso
              obtain rfl : j = ws.length := by omega
              have := HPK.out
              rw [hpj] at this
              simp at this
        · obtain ⟨_, hfin, hln⟩ := hNI.done hlt
          have HFIN := Lib.hid hfin; have HNI := Lib.hid hNI; have HGR := Lib.hid hgr; have HCR := Lib.hid hCr; clear hfin hNI hgr hCr
          go_wp2
          go_ret2
          rw [HFIN.out]
          exact ⟨_, rfl, RdV.of_own hown (by omega), Y1.out.trans (GB.below HGR.out (by omega) Y1.out.size)⟩
end Go.Proofs.Ytifpkdajfdlgeaa
