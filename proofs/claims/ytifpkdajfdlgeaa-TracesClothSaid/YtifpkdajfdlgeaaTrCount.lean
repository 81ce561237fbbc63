/- Package traces: free, count, counted, Orders. -/
import Derived.Test.YtifpkdajfdlgeaaTrSame
import Derived.Test.YtifpkdajfdlgeaaMap
import Derived.Test.YtifpkdajfdlgeaaBits
import Derived.Test.YtifpkdajfdlgeaaCnt
import Derived.Maps.Own
namespace Go.Proofs.Ytifpkdajfdlgeaa
open Go.RowKit

def freeOf (bi s i : Nat) : Bool := !s.testBit i && decide (bi &&& s = bi)

set_option maxHeartbeats 400000 in
theorem tfree_ (cb b off cap n s i bi : Nat) (w : World) (hi : i < n) (hn : n ≤ 16) (hs : s < 65536) (hbi : bi < 65536)
    (c0 : w.cell? ⟨cb, 0, none⟩ = some (.slice (some ⟨b, off, none⟩) n cap)) (c1 : w.cell? ⟨b, off + i, none⟩ = some (.int .u32 (bi : Int))) :
    Calls Try.prog 55 #[.pointer (some ⟨cb, 0, none⟩), .int .u32 (s : Int), .int .i64 (i : Int)] w fun e w' => e = .returned (.bool (freeOf bi s i)) ∧ w = w' := by
  have h0 : (0 : Int) ≤ (i : Int) := by omega
  have h1 : (i : Int) < (n : Int) := by omega
  have h2 : (i : Int) < 32 := by omega
  have h3 : (0 : Int) ≤ (s : Int) := by omega
  have HS := Lib.hid hs; have HBI := Lib.hid hbi; clear hs hbi
  have e1 := bit_at .u32 16 (by decide) (by decide) (fun n h h' => wraps_u32 n h (by omega)) s i HS.out
  have e2 := bits_andnot .u32 16 (by decide) (fun n h h' => wraps_u32 n h (by omega)) bi s HBI.out HS.out
  by_cases hb : s.testBit i = true
  · rw [hb] at e1
    have E2 := Lib.hid e2; clear e2
    go_enter Try.func55, Try.ntmps55
    go_wp2
    go_ret
    exact ⟨ret_bool (by unfold freeOf; rw [hb]; rfl), rfl⟩
  · have hb' : s.testBit i = false := by simpa using hb
    rw [hb'] at e1
    have E2 := Lib.hid e2; clear e2
    go_enter Try.func55, Try.ntmps55
    go_wp2
    go_ret
    exact ⟨ret_bool (by unfold freeOf; rw [hb', E2.out]; rfl), rfl⟩

theorem wpList_upd_good {P : Program} (w : World) {ops : Array Oper} {rest : List Oper} {o : Oper} {a : Act} {Q : Exit → Act → World → Prop} {kk ek : IntKind} {N : Int → Int} {mm : Int}
    (hg : o.guard = none) (m x v : Operand) (t : TypeId) (hop : o.op = Op.mapUpdate t m x v) (k e : TypeId) (ht : P.underlying t = some (.map k e)) (hk : P.underlying k = some (.int kk)) (b : Nat)
    (hm : a.eval m = .map (some b)) (hgood : MapGood w b kk ek N mm) (s : Int) (hx : a.eval x = .int kk s) (hv : a.eval v = .int ek (N s))
    (hK : ∀ w', MapGood w' b kk ek N mm → w.grownBy w' (some b) → wpList P ops Q rest (a.put o.dst undef) w') : wpList P ops Q (o :: rest) a w := by
  refine wpList_plain hg fun K' hK' => ?_
  obtain ⟨w', hrun, r1, r2⟩ := hgood.update ht hk s
  unfold Oper.wp
  simp [execOp, hop, hm, hx, hv, hrun, Result.andThen]
  exact hK' _ _ (hK w' r1 r2)

/-- A counter in memory: what must be done before each work, and what is known. -/
structure CtrAt (w : World) (cb b mb n : Nat) (bef : Nat → Nat) : Prop where
  cells : ∃ A cap, w.heap[cb]? = some (.cells #[.slice A n cap, .map (some mb)] 85 (0, 0)) ∧ (0 < n → A = some ⟨b, 0, none⟩)
  befs : ∀ i, i < n → bef i < 65536 ∧ w.cell? ⟨b, i, none⟩ = some (.int .u32 (bef i : Int))
  good : MapGood w mb .u32 .i64 (fun z => cntN n bef z.toNat) ((2 ^ n - 1 : Nat) : Int)
  ne : b ≠ mb
theorem CtrAt.kept {w w' : World} {cb b mb n : Nat} {bef : Nat → Nat} (h : CtrAt w cb b mb n bef) (hg : w.grownBy w' (some mb)) (hm : MapGood w' mb .u32 .i64 (fun z => cntN n bef z.toNat) ((2 ^ n - 1 : Nat) : Int)) : CtrAt w' cb b mb n bef := by
  obtain ⟨⟨A, cap, h1, hA⟩, h2, h3, h4⟩ := h
  refine ⟨⟨A, cap, ?_, hA⟩, fun i hi => ⟨(h2 i hi).1, hg.cell (h2 i hi).2 (by simpa using h4)⟩, hm, h4⟩
  rw [hg.block cb (lt_of_block h1) (fun e => ?_)]
  · exact h1
  · injection e with e
    obtain ⟨es, clock, h5, _⟩ := h3
    rw [← e, h1] at h5; cases h5

set_option maxRecDepth 100000 in
set_option maxHeartbeats 2000000 in
theorem tcount_ (cb b mb n : Nat) (bef : Nat → Nat) (hn : n ≤ 16) : ∀ (m s : Nat) (w : World), miss n s ≤ m → s < 2 ^ n → CtrAt w cb b mb n bef →
    Calls Try.prog 56 #[.pointer (some ⟨cb, 0, none⟩), .int .u32 (s : Int)] w fun e w' => e = .returned (.int .i64 (cntN n bef s)) ∧ CtrAt w' cb b mb n bef ∧ w.grownBy w' (some mb) := by
  intro m
  induction m using Nat.strongRecOn with
  | _ m ih =>
    intro s w hms hs hC
    have IH := Lib.hid ih; clear ih
    obtain ⟨A, cap, hcb, hA⟩ := hC.cells
    have c0 : w.cell? ⟨cb, 0, none⟩ = some (.slice A n cap) := cell_of_row w cb 0 _ _ _ hcb
    have c1 : w.cell? ⟨cb, 1, none⟩ = some (.map (some mb)) := cell_of_row w cb 1 _ _ _ hcb
    have hz : (zeroValue 2).run Try.prog w = .ok (.int .i64 0) w := by kernel_rfl
    rcases hC.good.lookup Try.underlying83 Try.underlying55 hz (s : Int) with hl | ⟨hl, hne⟩
    · simp only [Int.toNat_natCast] at hl
      have HC := Lib.hid hC; clear hC hcb
      clear hs
      go_enter Try.func56, Try.ntmps56
      go_wp2_with fail
      go_ret
      exact ⟨rfl, HC.out, World.grownBy.refl _ _⟩
    · have hn0 : 0 < n := by
        rcases Nat.eq_zero_or_pos n with h0 | h0
        · subst h0; exact absurd (by simp at hs ⊢; omega) hne
        · exact h0
      have hA' := hA hn0
      subst hA'
      have hns : s ≠ 2 ^ n - 1 := fun h => hne (by rw [h])
      have hstep := cntN_step n bef s hns
      have HST := Lib.hid hstep; clear hstep
      have HC := Lib.hid hC; clear hC hcb
      have hs16 : s < 2 ^ 16 := Nat.lt_of_lt_of_le hs (Nat.pow_le_pow_right (by decide) hn)
      have HS16 := Lib.hid hs16; clear hs16
      have HNE := Lib.hid hne; clear hne hns hA
      have HS := Lib.hid hs; clear hs
      go_enter Try.func56, Try.ntmps56
      go_wp2_with fail
      clear hl c0 c1 hz
      go_loopw [7, 25] (fun v i wr => ∃ k : Nat, i = .int .i64 k ∧ k ≤ n ∧ v = .int .i64 (accF (cntN n bef) bef s k) ∧ CtrAt wr cb b mb n bef ∧ w.grownBy wr (some mb)) (fun _ i _ => n - (intOf i).toNat)
      case atStart => exact ⟨0, rfl, Nat.zero_le _, rfl, HC.out, World.grownBy.refl _ _⟩
      case round =>
        obtain ⟨k, rfl, hk, rfl, hCr, hgr⟩ := hrel
        obtain ⟨A', cap', hcb', hA'⟩ := hCr.cells
        have hA'' := hA' hn0
        subst hA''
        have c0 : wr.cell? ⟨cb, 0, none⟩ = some (.slice (some ⟨b, 0, none⟩) n cap') := cell_of_row wr cb 0 _ _ _ hcb'
        have c1 : wr.cell? ⟨cb, 1, none⟩ = some (.map (some mb)) := cell_of_row wr cb 1 _ _ _ hcb'
        have hab := accF_bounds (g := cntN n bef) (bef := bef) (s := s) (fun t => (cntN_bounds n bef t).1) k
        have hac : accF (cntN n bef) bef s (k + 1) = if freeB bef s k = true then min (accF (cntN n bef) bef s k + cntN n bef (s ||| 2 ^ k)) 1000000001 else accF (cntN n bef) bef s k := rfl
        have HAC := Lib.hid hac; clear hac
        generalize hacc : accF (cntN n bef) bef s k = acc at *
        have HACC := Lib.hid hacc; clear hacc
        obtain ⟨hab1, hab2⟩ := hab
        have HCR := Lib.hid hCr; clear hCr hcb' hA'
        by_cases hlt : k < n
        · have hbef := (HCR.out.befs k hlt)
          have HBF := Lib.hid hbef; clear hbef
          by_cases hf : freeB bef s k = true
          · have hf' : freeOf (bef k) s k = true := hf
            have hmlt := miss_set hlt (freeB_bit hf)
            have hcb2 := cntN_bounds n bef (s ||| 2 ^ k)
            have hor := bit_set .u32 16 (by decide) (fun n h h' => wraps_u32 n h (by omega)) s k HS16.out (by omega)
            have hk16 : (2 : Int) ^ k % 4294967296 = 2 ^ k := by
              have h1 : 2 ^ k < 2 ^ 16 := Nat.pow_lt_pow_right (by decide) (by omega)
              have h2 : (2 : Int) ^ k = ((2 ^ k : Nat) : Int) := by simp
              rw [h2]; exact Int.emod_eq_of_lt (Int.natCast_nonneg _) (by omega)
            rw [← hk16] at hor
            clear hk16
            have hs2 : s ||| 2 ^ k < 2 ^ n := Nat.or_lt_two_pow HS.out (Nat.pow_lt_pow_right (by decide) hlt)
            have HS2 := Lib.hid hs2; clear hs2
            have HF := Lib.hid hf; clear hf
            generalize hg : s ||| 2 ^ k = s2 at *
            have HG := Lib.hid hg; clear hg
            obtain ⟨hcb3, hcb4⟩ := hcb2
            go_wp2_with (first | (go_at_call 55; refine (tfree_ cb b 0 cap' n s k (bef k) _ hlt hn HS16.out HBF.out.1 c0 (by simpa using HBF.out.2)).mono ?_; rintro e w1 ⟨rfl, rfl⟩) | (go_at_call 56; refine (IH.out (miss n s2) (by omega) s2 _ (Nat.le_refl _) HS2.out HCR.out).mono ?_; rintro e w2 ⟨rfl, hC2, hg2⟩))
            go_roundw
            case rel =>
              refine ⟨k + 1, by go_num, by omega, ?_, hC2, (?_ : w.grownBy w2 (some mb))⟩
              · rw [HAC.out, if_pos HF.out]
                congr 1
                split <;> omega
              · exact ⟨hg2.os.trans hgr.os, hg2.tape.trans hgr.tape, hg2.output.trans hgr.output, Nat.le_trans hgr.size hg2.size, fun i hi hne => (hg2.block i (Nat.lt_of_lt_of_le hi hgr.size) hne).trans (hgr.block i hi hne)⟩
            case measure => simp [intOf]; omega
          · have hf' : freeOf (bef k) s k = false := by have : ¬ freeOf (bef k) s k = true := hf; simpa using this
            have HF := Lib.hid hf; clear hf
            go_wp2_with (first | (go_at_call 55; refine (tfree_ cb b 0 cap' n s k (bef k) _ hlt hn HS16.out HBF.out.1 c0 (by simpa using HBF.out.2)).mono ?_; rintro e w1 ⟨rfl, rfl⟩))
            go_roundw
            case rel => exact ⟨k + 1, by go_num, by omega, by rw [HAC.out, if_neg HF.out], HCR.out, hgr⟩
            case measure => simp [intOf]; omega
        · obtain rfl : k = n := by omega
          go_wp2_with (at_mapUpdate; refine wpList_upd_good wr rfl _ _ _ 83 rfl 55 2 Try.underlying83 Try.underlying55 mb rfl HCR.out.good (s : Int) rfl (by show Value.int IntKind.i64 acc = _; rw [Int.toNat_natCast, HST.out, HACC.out]) ?_; intro w3 hgood3 hgr3)
          go_ret
          refine ⟨ret_int (by rw [HST.out, HACC.out]), HCR.out.kept hgr3 hgood3, ?_⟩
          exact ⟨hgr3.os.trans hgr.os, hgr3.tape.trans hgr.tape, hgr3.output.trans hgr.output, Nat.le_trans hgr.size hgr3.size, fun i hi hne => (hgr3.block i (Nat.lt_of_lt_of_le hi hgr.size) hne).trans (hgr.block i hi hne)⟩
end Go.Proofs.Ytifpkdajfdlgeaa
