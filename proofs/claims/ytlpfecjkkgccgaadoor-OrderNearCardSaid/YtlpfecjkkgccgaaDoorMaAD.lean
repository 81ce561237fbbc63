/- Texts of this claim, laid together: OrRRs. -/
import Derived.Test.YtlpfecjkkgccgaaDoorMaA
import Derived.Test.YtlpfecjkkgccgaaDoorMaAA
import Derived.Test.YtlpfecjkkgccgaaDoorMaAC
/- The reference's search for the fewest steps aside. -/
namespace Go.Proofs.YtlpfecjkkgccgaaDoor
open Go.RowKit
attribute [local go_sem] Oper.semAt_some

set_option maxRecDepth 100000 in
set_option maxHeartbeats 4000000 in
theorem rstep13_ (X : Nat) (p : Int) (A : Option Addr) (c : Nat) (ws : List GW) (TA : Option Addr) (tc : Nat) (M : Nat → Nat → Bool) (last : Int) (b : Nat) (w : World) (hpl : ∀ x ∈ ws, 0 ≤ x.pl ∧ x.pl ≤ 22) (hlast : last < ws.length) (hb : b < ws.length) (h : SeC w X p A c ws TA tc M) :
    Calls Tryd.prog 49 #[.pointer (some ⟨X, 0, none⟩), .int .i64 last, .int .i64 (b : Int)] w fun e w' => e = .returned (.int .i64 (stp (tcO ws) last b : Int)) ∧ Below w.heap.size w w' := by
  have hwn := h.rd.1
  have d1 := h.wk
  have hXl := World.block_lt_of_cell? w _ d1
  by_cases hneg : last < 0
  · have hr : stp (tcO ws) last b = 0 := by unfold stp; rw [if_pos hneg]
    have f1 : decide (last < 0) = true := by simpa using hneg
    have hb0 := Below.refl w.heap.size w
    have HR := Lib.hid hr; have H := Lib.hid h; have HPL := Lib.hid hpl; have HB0 := Lib.hid hb0; clear hr h hpl hb0
    go_enter Tryd.func49, Tryd.ntmps49
    go_wp2
    have hbelc : ∀ (u : Bel w.heap.size w) b o, b < w.heap.size → u.wd.cell? ⟨b, o, none⟩ = w.cell? ⟨b, o, none⟩ := fun u b o h => u.h.cell (p := ⟨b, o, none⟩) h
    have hbeln : Nonempty (Bel w.heap.size w) := ⟨⟨w, Below.refl _ _⟩⟩
    refine wp_region_bel w.heap.size (by kernel_rfl) (by kernel_rfl) ?_
    repeat (go_big_quiet_step ((fail)))
    refine wpQuiet_nil ?_
    intro wB hB0; obtain ⟨uB, hu⟩ := hB0; have hbB0 := uB.h; rw [← hu] at hbB0; clear hu uB hbelc hbeln
    obtain ⟨hbB, hcB, hsB⟩ := bcell2 hbB0; clear hbB0
    have HBB := Lib.hid hbB; have HCB := Lib.hid hcB; clear hbB hcB
    go_wp2
    go_ret
    exact ⟨by rw [HR.out]; rfl, HBB.out⟩
  · obtain ⟨a, rfl⟩ := Int.eq_ofNat_of_zero_le (show 0 ≤ last by omega)
    have han : a < ws.length := by omega
    obtain ⟨bl, off, rfl, hbL, g1, g2, g3⟩ := h.rd.at_ han
    obtain ⟨b', off', hAe, _, k1, k2, k3⟩ := h.rd.at_ hb
    injection hAe with hAe; injection hAe with hA1 hA2; subst hA1; subst hA2
    have p1 := hpl _ (List.getElem_mem han)
    have p2 := hpl _ (List.getElem_mem hb)
    have htc : tcO ws a b = touchB ws[a].pl ws[b].pl := by
      unfold tcO plO
      simp [List.getD_eq_getElem?_getD, han, hb]
    have hst : stp (tcO ws) (a : Int) b = if tcO ws a b = true then 0 else 1 := by unfold stp; rw [if_neg (by omega), Int.toNat_natCast]
    have f1 : decide ((a : Int) < 0) = false := by simp
    generalize ws[a].kind = yk at *
    generalize ws[a].pl = yp at *
    generalize ws[a].word = yw at *
    generalize ws[b].kind = zk at *
    generalize ws[b].pl = zp at *
    generalize ws[b].word = zw at *
    have y1 : (0 : Int) ≤ (a : Int) := by omega
    have y2 : (a : Int) < (ws.length : Int) := by omega
    have y3 : (0 : Int) ≤ (b : Int) := by omega
    have y4 : (b : Int) < (ws.length : Int) := by omega
    have hcall := fun W => touch_isO yk yp zk zp yw zw W (by omega) (by omega) (by omega) (by omega) htc.symm
    cases hbt : tcO ws a b with
    | true =>
      rw [hbt] at hcall hst
      rw [if_pos rfl] at hst
      have HST := Lib.hid hst; have H := Lib.hid h; have HPL := Lib.hid hpl; have HCALL := Lib.hid hcall; have HTC := Lib.hid htc; have HBT := Lib.hid hbt; clear hst h hpl hcall htc hbt
      go_enter Tryd.func49, Tryd.ntmps49
      go_wp2
      have hbelc : ∀ (u : Bel w.heap.size w) b o, b < w.heap.size → u.wd.cell? ⟨b, o, none⟩ = w.cell? ⟨b, o, none⟩ := fun u b o h => u.h.cell (p := ⟨b, o, none⟩) h
      have hbeln : Nonempty (Bel w.heap.size w) := ⟨⟨w, Below.refl _ _⟩⟩
      refine wp_region_bel w.heap.size (by kernel_rfl) (by kernel_rfl) ?_
      repeat (go_big_quiet_step ((go_at_call 57; exact quiet_bel (Nat.le_refl _) (HCALL.out _))))
      refine wpQuiet_nil ?_
      intro wB hB0; obtain ⟨uB, hu⟩ := hB0; have hbB0 := uB.h; rw [← hu] at hbB0; clear hu uB hbelc hbeln
      obtain ⟨hbB, hcB, hsB⟩ := bcell2 hbB0; clear hbB0
      have HBB := Lib.hid hbB; have HCB := Lib.hid hcB; clear hbB hcB
      go_wp2
      go_ret
      exact ⟨by rw [HST.out]; rfl, HBB.out⟩
    | false =>
      rw [hbt] at hcall hst
      rw [if_neg (by simp)] at hst
      have HST := Lib.hid hst; have H := Lib.hid h; have HPL := Lib.hid hpl; have HCALL := Lib.hid hcall; have HTC := Lib.hid htc; have HBT := Lib.hid hbt; clear hst h hpl hcall htc hbt
      go_enter Tryd.func49, Tryd.ntmps49
      go_wp2
      have hbelc : ∀ (u : Bel w.heap.size w) b o, b < w.heap.size → u.wd.cell? ⟨b, o, none⟩ = w.cell? ⟨b, o, none⟩ := fun u b o h => u.h.cell (p := ⟨b, o, none⟩) h
      have hbeln : Nonempty (Bel w.heap.size w) := ⟨⟨w, Below.refl _ _⟩⟩
      refine wp_region_bel w.heap.size (by kernel_rfl) (by kernel_rfl) ?_
      repeat (go_big_quiet_step ((go_at_call 57; exact quiet_bel (Nat.le_refl _) (HCALL.out _))))
      refine wpQuiet_nil ?_
      intro wB hB0; obtain ⟨uB, hu⟩ := hB0; have hbB0 := uB.h; rw [← hu] at hbB0; clear hu uB hbelc hbeln
      obtain ⟨hbB, hcB, hsB⟩ := bcell2 hbB0; clear hbB0
      have HBB := Lib.hid hbB; have HCB := Lib.hid hcB; clear hbB hcB
      go_wp2
      go_ret
      exact ⟨by rw [HST.out]; rfl, HBB.out⟩
/-- What the search knows: its sheet and table, and the rows of what is known. -/
structure RsC (w2 w : World) (X kb kc N : Nat) (R : Nat → Nat) (p : Int) (A : Option Addr) (c : Nat) (ws : List GW) (TA : Option Addr) (tc : Nat) (M : Nat → Nat → Bool) (L : Nat → Nat) : Prop where
  sz : w2.heap.size = X
  bl : Below X w2 w
  ps : w.cell? ⟨X, 0, none⟩ = some (.int .i64 p)
  wk : w.cell? ⟨X, 1, none⟩ = some (.slice A ws.length c)
  tb : w.cell? ⟨X, 2, none⟩ = some (.slice TA ws.length tc)
  kn : w.cell? ⟨X, 3, none⟩ = some (.slice (some ⟨kb, 0, none⟩) N kc)
  rw_ : ∀ r, r < N → w.cell? ⟨kb, r, none⟩ = some (.slice (some ⟨R r, 0, none⟩) (ws.length + 1) (ws.length + 1))
  vl : ∀ r, r < N → ∃ g, IdB w (R r) (ws.length + 1) g ∧ ∀ k, k ≤ ws.length → g k = -1 ∨ g k = (rsU ws.length (tcO ws) L r ((k : Int) - 1) : Int)
  inj : ∀ r r', r < N → r' < N → R r = R r' → r = r'
  nX : ∀ r, r < N → X < R r
  nK : ∀ r, r < N → R r ≠ kb
section
variable {w2 w w' : World} {X kb kc N : Nat} {R : Nat → Nat} {p : Int} {A : Option Addr} {c : Nat} {ws : List GW} {TA : Option Addr} {tc : Nat} {M : Nat → Nat → Bool} {L : Nat → Nat}
def RwC (N : Nat) (R : Nat → Nat) (i : Nat) : Prop := ∃ r, r < N ∧ i = R r
theorem RsC.se (h : RsC w2 w X kb kc N R p A c ws TA tc M L) (hrd : RdW w2 A ws) (hM : MatB w2 TA ws.length M) : SeC w X p A c ws TA tc M :=
  ⟨h.ps, h.wk, h.tb, hrd.later h.bl (by rw [h.sz]; exact Nat.le_refl _), hM.later (by rw [h.sz]; exact h.bl)⟩
theorem RsC.later (h : RsC w2 w X kb kc N R p A c ws TA tc M L) (hb : Below w.heap.size w w') : RsC w2 w' X kb kc N R p A c ws TA tc M L :=
  ⟨h.sz, h.bl.trans (hb.mono (by have := World.block_lt_of_cell? w _ h.ps; exact Nat.le_of_lt this)), below_at hb (Nat.le_refl _) h.ps, below_at hb (Nat.le_refl _) h.wk, below_at hb (Nat.le_refl _) h.tb, below_at hb (Nat.le_refl _) h.kn, fun r hr => below_at hb (Nat.le_refl _) (h.rw_ r hr), fun r hr => by
    obtain ⟨g, h1, h2⟩ := h.vl r hr
    exact ⟨g, (hb.block _ (lt_of_block h1)).trans h1, h2⟩, h.inj, h.nX, h.nK⟩
theorem RsC.store (h : RsC w2 w X kb kc N R p A c ws TA tc M L) {S t : Nat} (hS : S < N) (ht : t ≤ ws.length) :
    RsC w2 (w.setCell ⟨R S, t, none⟩ (.int .i64 (rsU ws.length (tcO ws) L S ((t : Int) - 1) : Int))) X kb kc N R p A c ws TA tc M L ∧ Kp (RwC N R) w (w.setCell ⟨R S, t, none⟩ (.int .i64 (rsU ws.length (tcO ws) L S ((t : Int) - 1) : Int))) := by
  have hX := h.nX S hS
  have hk := h.nK S hS
  have fX : ∀ j, (w.setCell ⟨R S, t, none⟩ (.int .i64 (rsU ws.length (tcO ws) L S ((t : Int) - 1) : Int))).cell? ⟨X, j, none⟩ = w.cell? ⟨X, j, none⟩ := fun j => World.cell?_setCell_far _ _ _ _ (by show R S ≠ X; omega)
  refine ⟨⟨h.sz, h.bl.setCell (by show X ≤ R S; omega) _, (fX 0).trans h.ps, (fX 1).trans h.wk, (fX 2).trans h.tb, (fX 3).trans h.kn, fun r hr => (World.cell?_setCell_far _ _ _ _ (by show R S ≠ kb; omega)).trans (h.rw_ r hr), fun r hr => ?_, h.inj, h.nX, h.nK⟩, (Kp.refl _ _).setCell (.inl ⟨S, hS, rfl⟩) _⟩
  obtain ⟨g, h1, h2⟩ := h.vl r hr
  by_cases e : r = S
  · subst e
    refine ⟨_, h1.put t _, fun k hk => ?_⟩
    unfold updF
    by_cases e2 : k = t
    · subst e2; rw [if_pos rfl]; exact .inr rfl
    · rw [if_neg e2]; exact h2 k hk
  · exact ⟨g, (heap_setCell_other w ⟨R S, t, none⟩ (R r) _ (fun e2 => e (h.inj r S hr hS e2))).trans h1, h2⟩
end
set_option maxRecDepth 100000 in
set_option maxHeartbeats 4000000 in
theorem rrest13_ (w2 : World) (X kb kc N : Nat) (R : Nat → Nat) (p : Int) (A : Option Addr) (c : Nat) (ws : List GW) (TA : Option Addr) (tc : Nat) (M : Nat → Nat → Bool) (L : Nat → Nat) (hn : ws.length ≤ 12) (hN : N = 2 ^ ws.length) (hpl : ∀ x ∈ ws, 0 ≤ x.pl ∧ x.pl ≤ 22) (hL : ∀ b a, (L b).testBit a = (decide (a < ws.length) && M b a)) (hrd : RdW w2 A ws) (hM : MatB w2 TA ws.length M) : ∀ (m S t : Nat) (last : Int) (w : World), miss ws.length S ≤ m → S < N → t ≤ ws.length → last + 1 = (t : Int) → RsC w2 w X kb kc N R p A c ws TA tc M L →
    Calls Tryd.prog 48 #[.pointer (some ⟨X, 0, none⟩), .int .i64 (S : Int), .int .i64 last] w fun e w' => e = .returned (.int .i64 (rsU ws.length (tcO ws) L S last : Int)) ∧ RsC w2 w' X kb kc N R p A c ws TA tc M L ∧ Kp (RwC N R) w w' := by
  intro m
  induction m using Nat.strongRecOn with
  | _ m ih =>
    intro S t last w hms hS ht hlt hC
    have IH := Lib.hid ih; clear ih
    have hN12 : N ≤ 2 ^ 12 := by rw [hN]; exact Nat.pow_le_pow_right (by decide) hn
    have hS2 : S < 2 ^ ws.length := by rw [← hN]; exact hS
    obtain ⟨g, hg1, hg2⟩ := hC.vl S hS
    have hgt := hg2 t ht
    rw [show ((t : Int) - 1) = last by omega] at hgt
    have c0 := hC.kn
    have c1 := hC.rw_ S hS
    have c2 := hg1.at_ (show t < ws.length + 1 by omega)
    have hXl := World.block_lt_of_cell? w _ c0
    have z1 : (0 : Int) ≤ (S : Int) := by omega
    have z2 : (S : Int) < (N : Int) := by omega
    have z3 : (0 : Int) ≤ (t : Int) := by omega
    have z4 : (t : Int) < (ws.length : Int) + 1 := by omega
    have z5 : IntKind.i64.wrap (last + 1) = (t : Int) := by rw [hlt]; exact IntWalk.i64_in _ (by omega)
    rcases hgt with hgs | hgs
    rotate_left
    · rw [hgs] at c2
      generalize rsU ws.length (tcO ws) L S last = r at *
      have z6 : (0 : Int) ≤ (r : Int) := by omega
      have HC := Lib.hid hC; have HN12 := Lib.hid hN12; have HS2 := Lib.hid hS2; have HG1 := Lib.hid hg1; have HN := Lib.hid hN; have HLT := Lib.hid hlt; have HPL := Lib.hid hpl; have HL := Lib.hid hL; have HRD := Lib.hid hrd; have HM := Lib.hid hM; clear hC hN12 hS2 hg1 hN hlt hpl hL hrd hM
      clear hg2 hgs hms hS ht
      go_enter Tryd.func48, Tryd.ntmps48
      go_wp2
      go_ret
      exact ⟨rfl, HC.out, Kp.refl _ _⟩
    · rw [hgs] at c2
      have hS60 : S < 2 ^ 60 := by omega
      have hbe : rsU ws.length (tcO ws) L S last = valO (bstB (tcO ws) L (fun T b => rsU ws.length (tcO ws) L T b) S last ws.length) := rsU_step S last
      have HC := Lib.hid hC; have HN12 := Lib.hid hN12; have HS2 := Lib.hid hS2; have HG1 := Lib.hid hg1; have HN := Lib.hid hN; have HMS := Lib.hid hms; have HS := Lib.hid hS; have HPL := Lib.hid hpl; have HS60 := Lib.hid hS60; have HBE := Lib.hid hbe; have HLT := Lib.hid hlt; have HL := Lib.hid hL; have HRD := Lib.hid hrd; have HM := Lib.hid hM; have HT := Lib.hid ht; clear hC hN12 hS2 hg1 hN hms hS hpl hS60 hbe hlt hL hrd hM ht
      clear hg2 hgs
      go_enter Tryd.func48, Tryd.ntmps48
      go_wp2
      clear c0 c1 c2 hXl z2 z5
      go_loopw [7, 8, 9, 10] (fun bv fv kv _ wr => ∃ k : Nat, kv = .int .i64 k ∧ k ≤ ws.length ∧ fv = .bool (bstB (tcO ws) L (fun T b => rsU ws.length (tcO ws) L T b) S last k).isSome ∧ bv = .int .i64 (valO (bstB (tcO ws) L (fun T b => rsU ws.length (tcO ws) L T b) S last k) : Int) ∧ RsC w2 wr X kb kc N R p A c ws TA tc M L ∧ Kp (RwC N R) w wr) (fun _ _ kv _ _ => ws.length - (intOf kv).toNat)
      case atStart => exact ⟨0, rfl, Nat.zero_le _, rfl, rfl, HC.out, Kp.refl _ _⟩
      case round =>
        obtain ⟨k, rfl, hk, rfl, rfl, hP, hgr⟩ := hrel
        obtain ⟨wx, rfl⟩ : ∃ wx : World, wx = wr := ⟨_, rfl⟩
        have d0 := hP.tb
        have hXl := World.block_lt_of_cell? wx _ d0
        by_cases hkn : k < ws.length
        · have hmay := rmay13_ X p A c ws TA tc S k L M wx (by omega) HS60.out (HL.out k) hkn (hP.se HRD.out HM.out)
          have y1 : (k : Int) < (ws.length : Int) := by omega
          cases hf : freeB L S k with
          | false =>
            have n1 : bstB (tcO ws) L (fun T b => rsU ws.length (tcO ws) L T b) S last (k + 1) = bstB (tcO ws) L (fun T b => rsU ws.length (tcO ws) L T b) S last k := by rw [bstB, hf]; rfl
            rw [hf] at hmay
            clear hf
            generalize hb1e : bstB (tcO ws) L (fun T b => rsU ws.length (tcO ws) L T b) S last (k + 1) = b1 at *
            generalize bstB (tcO ws) L (fun T b => rsU ws.length (tcO ws) L T b) S last k = b0 at *
            generalize hfl : b0.isSome = fl at *
            generalize hvl : valO b0 = vl at *
            have HP := Lib.hid hP; have HGR := Lib.hid hgr; have N1 := Lib.hid n1; have HMAY := Lib.hid hmay; have HB1E := Lib.hid hb1e; have HFL := Lib.hid hfl; have HVL := Lib.hid hvl; clear hP hgr n1 hmay hb1e hfl hvl
            go_wp2_with (go_at_call 39; refine HMAY.out.mono ?_; rintro e w3 ⟨rfl, rfl⟩)
            go_roundw
            case rel => exact ⟨k + 1, by go_num, by omega, by rw [HB1E.out, N1.out, HFL.out], by rw [HB1E.out, N1.out, HVL.out], HP.out, HGR.out⟩
            case measure => simp [intOf]; omega
          | true =>
            have hs2 : S ||| 2 ^ k < 2 ^ ws.length := Nat.or_lt_two_pow HS2.out (Nat.pow_lt_pow_right (by decide) hkn)
            have hs2N : S ||| 2 ^ k < N := by rw [HN.out]; exact hs2
            have hmi := miss_set hkn (freeB_bit hf)
            have hrs := rsU_le (n := ws.length) (tc := tcO ws) (L := L) _ (S ||| 2 ^ k) (k : Int) rfl
            have hm12 := miss_le ws.length (S ||| 2 ^ k)
            have hst1 := stp_le (tc := tcO ws) last k
            have hstep := rstep13_ X p A c ws TA tc M last k wx HPL.out (by have := HLT.out; have := HT.out; omega) hkn (hP.se HRD.out HM.out)
            have hrest := fun W h => IH.out (miss ws.length (S ||| 2 ^ k)) (by have := HMS.out; omega) (S ||| 2 ^ k) (k + 1) (k : Int) W (Nat.le_refl _) hs2N (by omega) (by push_cast; rfl) h
            have hb1 : bstB (tcO ws) L (fun T b => rsU ws.length (tcO ws) L T b) S last (k + 1) = (match bstB (tcO ws) L (fun T b => rsU ws.length (tcO ws) L T b) S last k with
              | none => some (stp (tcO ws) last k + rsU ws.length (tcO ws) L (S ||| 2 ^ k) k, k)
              | some (v, b) => if stp (tcO ws) last k + rsU ws.length (tcO ws) L (S ||| 2 ^ k) k < v then some (stp (tcO ws) last k + rsU ws.length (tcO ws) L (S ||| 2 ^ k) k, k) else some (v, b)) := by
              rw [bstB, if_pos hf]
              rcases bstB (tcO ws) L (fun T b => rsU ws.length (tcO ws) L T b) S last k with _ | ⟨v, b⟩ <;> rfl
            rw [hf] at hmay
            have e4 : IntKind.i64.wrap (2 ^ k) = 2 ^ k := by
              have h1 : 2 ^ k < 2 ^ 12 := Nat.pow_lt_pow_right (by decide) (by omega)
              rw [show (2 : Int) ^ k = ((2 ^ k : Nat) : Int) by simp]
              exact wraps62 _ (Int.natCast_nonneg _) (by omega)
            have e5 := bit_set .i64 62 (by decide) wraps62 S k (by have := HS60.out; omega) (by omega)
            have z3 : IntKind.u64.wrap (k : Int) = (k : Int) := wraps64 _ (by omega) (by omega)
            have z4 : (0 : Int) ≤ (k : Int) := by omega
            have z5 : (k : Int) < 64 := by omega
            generalize S ||| 2 ^ k = T at *
            generalize stp (tcO ws) last k = sv at *
            generalize rsU ws.length (tcO ws) L T (k : Int) = rv at *
            generalize hb1e : bstB (tcO ws) L (fun T b => rsU ws.length (tcO ws) L T b) S last (k + 1) = b1 at *
            have HB1E := Lib.hid hb1e; clear hb1e
            generalize bstB (tcO ws) L (fun T b => rsU ws.length (tcO ws) L T b) S last k = b0 at *
            have q1 : IntKind.i64.wrap ((sv : Int) + (rv : Int)) = ((sv + rv : Nat) : Int) := by rw [IntWalk.i64_in _ (by omega)]; push_cast; rfl
            generalize sv + rv = nv at *
            clear hf hmi hs2 hs2N hrs hm12 hst1
            cases b0 with
            | none =>
              have n1 : b1 = some (nv, k) := hb1
              clear hb1
              have HP := Lib.hid hP; have HGR := Lib.hid hgr; have N1 := Lib.hid n1; have HMAY := Lib.hid hmay; have HSTEP := Lib.hid hstep; have HREST := Lib.hid hrest; clear hP hgr n1 hmay hstep hrest
              dsimp only [Option.isSome, valO]
              go_wp2_with (first | (go_at_call 39; refine HMAY.out.mono ?_; rintro e w3 ⟨rfl, rfl⟩) | (go_at_call 49; refine HSTEP.out.mono ?_; rintro e w3 ⟨rfl, hb3⟩) | (go_at_call 48; refine (HREST.out _ (HP.out.later hb3)).mono ?_; rintro e w4 ⟨rfl, hP4, hk4⟩))
              go_roundw
              case rel => exact ⟨k + 1, by go_num, by omega, by rw [HB1E.out, N1.out], by rw [HB1E.out, N1.out], hP4, (HGR.out.trans (Kp.of_below _ hb3)).trans hk4⟩
              case measure => simp [intOf]; omega
            | some vb =>
              obtain ⟨v, b⟩ := vb
              dsimp only [Option.isSome, valO]
              have hb2 : b1 = if nv < v then some (nv, k) else some (v, b) := hb1
              clear hb1
              by_cases hnv : nv < v
              · have n1 : b1 = some (nv, k) := by rw [hb2, if_pos hnv]
                have f1 : decide ((nv : Int) < (v : Int)) = true := by simp; omega
                clear hb2
                have HP := Lib.hid hP; have HGR := Lib.hid hgr; have N1 := Lib.hid n1; have HMAY := Lib.hid hmay; have HSTEP := Lib.hid hstep; have HREST := Lib.hid hrest; clear hP hgr n1 hmay hstep hrest
                go_wp2_with (first | (go_at_call 39; refine HMAY.out.mono ?_; rintro e w3 ⟨rfl, rfl⟩) | (go_at_call 49; refine HSTEP.out.mono ?_; rintro e w3 ⟨rfl, hb3⟩) | (go_at_call 48; refine (HREST.out _ (HP.out.later hb3)).mono ?_; rintro e w4 ⟨rfl, hP4, hk4⟩))
                go_roundw
                case rel => exact ⟨k + 1, by go_num, by omega, by rw [HB1E.out, N1.out], by rw [HB1E.out, N1.out], hP4, (HGR.out.trans (Kp.of_below _ hb3)).trans hk4⟩
                case measure => simp [intOf]; omega
              · have n1 : b1 = some (v, b) := by rw [hb2, if_neg hnv]
                have f1 : decide ((nv : Int) < (v : Int)) = false := by simp; omega
                clear hb2
                have HP := Lib.hid hP; have HGR := Lib.hid hgr; have N1 := Lib.hid n1; have HMAY := Lib.hid hmay; have HSTEP := Lib.hid hstep; have HREST := Lib.hid hrest; clear hP hgr n1 hmay hstep hrest
                go_wp2_with (first | (go_at_call 39; refine HMAY.out.mono ?_; rintro e w3 ⟨rfl, rfl⟩) | (go_at_call 49; refine HSTEP.out.mono ?_; rintro e w3 ⟨rfl, hb3⟩) | (go_at_call 48; refine (HREST.out _ (HP.out.later hb3)).mono ?_; rintro e w4 ⟨rfl, hP4, hk4⟩))
                go_roundw
                case rel => exact ⟨k + 1, by go_num, by omega, by rw [HB1E.out, N1.out], by rw [HB1E.out, N1.out], hP4, (HGR.out.trans (Kp.of_below _ hb3)).trans hk4⟩
                case measure => simp [intOf]; omega
        · obtain rfl : k = ws.length := by omega
          obtain ⟨gx, hgx1, hgx2⟩ := hP.vl S HS.out
          have c0 := hP.kn
          have c1 := hP.rw_ S HS.out
          have c2 := hgx1.at_ (show t < ws.length + 1 by have := HT.out; omega)
          have f2 := hgx1.free t
          have lR := lt_of_block hgx1
          have z2 : (S : Int) < (N : Int) := by have := HS.out; omega
          have z5 : IntKind.i64.wrap (last + 1) = (t : Int) := by rw [HLT.out]; exact IntWalk.i64_in _ (by have := HT.out; omega)
          have z6 : ¬ (ws.length : Int) < (ws.length : Int) := by omega
          obtain ⟨hst1, hst2⟩ := hP.store HS.out HT.out
          rw [show ((t : Int) - 1) = last by have := HLT.out; omega] at hst1 hst2
          have hbe := HBE.out
          rw [← hbe]
          clear hbe
          generalize (bstB (tcO ws) L (fun T b => rsU ws.length (tcO ws) L T b) S last ws.length).isSome = fl at *
          generalize hnd : rsU ws.length (tcO ws) L S last = nd at *
          have HST1 := Lib.hid hst1; have HST2 := Lib.hid hst2; have HP := Lib.hid hP; have HGR := Lib.hid hgr; have HGX1 := Lib.hid hgx1; have HND := Lib.hid hnd; clear hst1 hst2 hP hgr hgx1 hnd
          clear hgx2 hk hkn
          go_wp2
          go_ret
          exact ⟨by rw [HND.out]; rfl, HST1.out, HGR.out.trans HST2.out⟩
end Go.Proofs.YtlpfecjkkgccgaaDoor
