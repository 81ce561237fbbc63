/- The laws' own ladder: of the levels it is true. -/
import Derived.Test.YtifpkdajfdlgeaaTrNum
import Derived.Test.YtifpkdajfdlgeaaTrAid
namespace Go.Proofs.Ytifpkdajfdlgeaa
open Go.RowKit

def blK (ws : List GW) (i : Nat) : Nat → Bool
  | 0 => decide (lvK ws i = 0)
  | k + 1 => if touchB (ws.getD k gw0).pl (ws.getD i gw0).pl = true then (blK ws i k || decide (lvK ws k = lvK ws i - 1)) else blK ws i k
theorem blK_true {ws : List GW} {i : Nat} (hi : 0 ≤ (ws.getD i gw0).pl) : blK ws i i = true := by
  have mono : ∀ n k, k ≤ n → blK ws i k = true → blK ws i n = true := by
    intro n
    induction n with
    | zero => intro k hk h; obtain rfl : k = 0 := by omega
              exact h
    | succ n ih =>
      intro k hk h
      rcases Nat.lt_or_ge k (n + 1) with h1 | h1
      · rw [blK, ih k (by omega) h]; split <;> rfl
      · obtain rfl : k = n + 1 := by omega
        exact h
  rcases lev_below hi with h | ⟨k, h1, h2, h3⟩
  · exact mono i 0 (by omega) (by simp [blK, h])
  · exact mono i (k + 1) (by omega) (by rw [blK, if_pos h2, decide_eq_true h3]; simp)

set_option maxRecDepth 100000 in
set_option maxHeartbeats 2000000 in
theorem ladder_ (p : Int) (A L : Option Addr) (c lc : Nat) (ws : List GW) (w : World) (ha : RdW w A ws) (hl : RdI w L (levL ws ws.length)) (hw : ws.length ≤ 400) (hat : ∀ x ∈ ws, 0 ≤ x.pl ∧ x.pl ≤ 22) :
    Calls Try.prog 39 #[.agg #[.int .i64 p, .slice A ws.length c], .slice L ws.length lc] w fun e w' => e = .returned (.bool true) ∧ Below w.heap.size w w' := by
  have hb2 : Below w.heap.size w (w.alloc (.cells #[.int .i64 p, .slice A ws.length c] 24)) := (Below.refl _ _).alloc (Nat.le_refl _) _
  have hne : ((ws.length : Int) != (ws.length : Int)) = false := by simp
  have HA := Lib.hid ha; have HL := Lib.hid hl; have HB2 := Lib.hid hb2; have HAT := Lib.hid hat; clear ha hl hb2 hat
  go_enter Try.func39, Try.ntmps39
  go_wp2
  go_loopw [5] (fun iv wr => ∃ i : Nat, iv = .int .i64 i ∧ i ≤ ws.length ∧ Below (w.heap.size + 1) (w.alloc (.cells #[.int .i64 p, .slice A ws.length c] 24)) wr) (fun iv _ => ws.length - (intOf iv).toNat)
  case atStart => exact ⟨0, rfl, Nat.zero_le _, Below.refl _ _⟩
  case round =>
    obtain ⟨i, rfl, hi, hbw⟩ := hrel
    obtain ⟨wo, rfl⟩ : ∃ wo : World, wo = wr := ⟨_, rfl⟩
    have a1 := box_cell hbw 1
    simp at a1
    have hsz : w.heap.size < wo.heap.size := by have := hbw.size; simp at this; omega
    have hbA := below_of_box hbw
    by_cases hlt : i < ws.length
    · have hll : (levL ws ws.length).length = ws.length := levL_length _ _
      have hlev : ∀ k (h : k < (levL ws ws.length).length), (levL ws ws.length)[k] = lvK ws k := fun k h => by
        have := levL_get ws (n := ws.length) (k := k) (by omega)
        rw [List.getD_eq_getElem?_getD, List.getElem?_eq_getElem h] at this
        exact this
      obtain ⟨bl, ol, hLA, hbl, l1⟩ := (HL.out.later hbA (Nat.le_refl _)).at_ (k := i) (by rw [hll]; exact hlt)
      subst hLA
      rw [hlev] at l1
      obtain ⟨q1, q2⟩ := HAT.out ws[i] (List.getElem_mem hlt)
      have hpi : 0 ≤ (ws.getD i gw0).pl := by rw [getD_pl hlt]; exact q1
      have htrue := blK_true hpi
      obtain ⟨n1, n2⟩ := lvK_bd ws i
      have x1 : (0 : Int) ≤ (i : Int) := by omega
      have x2 : (i : Int) < (ws.length : Int) := by omega
      have hless := fun k hk ht => lev_less (ws := ws) (i := i) (k := k) hpi hk ht
      have hstart : blK ws i 0 = decide (lvK ws i = 0) := rfl
      have heq0 : (lvK ws i == 0) = blK ws i 0 := by rw [hstart]; exact Bool.eq_iff_iff.2 (by simp)
      have hst : ∀ k, blK ws i (k + 1) = if touchB (ws.getD k gw0).pl (ws.getD i gw0).pl = true then (blK ws i k || decide (lvK ws k = lvK ws i - 1)) else blK ws i k := fun k => rfl
      clear hstart
      have HST := Lib.hid hst; have HLESS := Lib.hid hless; clear hst hless
      generalize hv : lvK ws i = v at *
      have HBW := Lib.hid hbw; have HLL := Lib.hid hll; have HLEV := Lib.hid hlev; have HTRUE := Lib.hid htrue; have HV := Lib.hid hv; have HPI := Lib.hid hpi; have HEQ0 := Lib.hid heq0; clear hbw hll hlev htrue hv hpi heq0
      go_wp2
      rw [HEQ0.out]
      go_loopw [6, 7] (fun bv kv wr => ∃ k : Nat, kv = .int .i64 k ∧ k ≤ i ∧ bv = .bool (blK ws i k) ∧ Below wo.heap.size wo wr) (fun _ kv _ => i - (intOf kv).toNat)
      case atStart => exact ⟨0, rfl, Nat.zero_le _, rfl, Below.refl _ _⟩
      case round =>
        obtain ⟨k, rfl, hk, rfl, hbx⟩ := hrel
        have a2 := below_at hbx (Nat.le_refl _) a1
        have hsx := hbx.size
        have hs2 : w.heap.size < wr.heap.size := by omega
        by_cases hki : k < i
        · have hkw : k < ws.length := by omega
          obtain ⟨b, off, rfl, hbL, g1, g2, g3⟩ := (HA.out.later (hbA.trans (hbx.mono hbA.size)) (Nat.le_refl _)).at_ hkw
          obtain ⟨b', off', hA', hbA', e1, e2, e3⟩ := (HA.out.later (hbA.trans (hbx.mono hbA.size)) (Nat.le_refl _)).at_ hlt
          injection hA' with hA'
          injection hA' with hA1 hA2
          subst hA1; subst hA2
          obtain ⟨bl', ol', hL', hbl', m1⟩ := (HL.out.later (hbA.trans (hbx.mono hbA.size)) (Nat.le_refl _)).at_ (k := k) (by rw [HLL.out]; exact hkw)
          injection hL' with hL'
          injection hL' with hL1 hL2
          subst hL1; subst hL2
          rw [HLEV.out] at m1
          have m2 := below_at hbx (Nat.le_refl _) l1
          obtain ⟨p1, p2⟩ := HAT.out ws[k] (List.getElem_mem hkw)
          obtain ⟨p3, p4⟩ := HAT.out ws[i] (List.getElem_mem hlt)
          obtain ⟨u1, u2⟩ := lvK_bd ws k
          have hsu := HST.out k
          rw [getD_pl hkw, getD_pl hlt] at hsu
          have hle2 := HLESS.out k hki
          rw [getD_pl hkw, getD_pl hlt] at hle2
          have z1 : (0 : Int) ≤ (k : Int) := by omega
          have z2 : (k : Int) < (ws.length : Int) := by omega
          generalize lvK ws k = u at *
          by_cases ht : touchB ws[k].pl ws[i].pl = true
          · have huv := hle2 ht
            have hge : decide (v ≤ u) = false := by simp; omega
            rw [if_pos ht] at hsu
            clear hle2
            by_cases hbl2 : blK ws i k = true
            · have hn : blK ws i (k + 1) = true := by rw [hsu, hbl2]; rfl
              rw [hbl2]
              have HBX := Lib.hid hbx; have HSU := Lib.hid hsu; have HN := Lib.hid hn; have HBL2 := Lib.hid hbl2; clear hbx hsu hn hbl2
              go_wp2
              have hbelc : ∀ (u : Bel wr.heap.size wr) b o, b < wr.heap.size → u.wd.cell? ⟨b, o, none⟩ = wr.cell? ⟨b, o, none⟩ := fun u b o h => u.h.cell (p := ⟨b, o, none⟩) h
              have hbeln : Nonempty (Bel wr.heap.size wr) := ⟨⟨wr, Below.refl _ _⟩⟩
              refine wp_region_bel wr.heap.size (by kernel_rfl) (by kernel_rfl) ?_
              repeat (go_big_quiet_step ((go_at_call 27; exact quiet_bel (Nat.le_refl _) (touch_is _ _ _ _ _ _ _ (by omega) (by omega) (by omega) (by omega) ht))))
              refine wpQuiet_nil ?_
              intro wB hB0; obtain ⟨uB, hu⟩ := hB0; have hbB0 := uB.h; rw [← hu] at hbB0; clear hu uB hbelc hbeln
              obtain ⟨hbB, hcB, hsB⟩ := bcell2 hbB0; clear hbB0
              go_wp2
              go_quiet (fail)
              go_wp2
              go_quiet (fail)
              go_wp2
              go_roundw
              case rel => exact ⟨k + 1, by go_num, by omega, by rw [HN.out], below_drewN (HBX.out.trans (hbB.mono HBX.out.size)) _⟩
              case measure => simp [intOf]; omega
            · have hbl3 : blK ws i k = false := by simpa using hbl2
              have hn : blK ws i (k + 1) = (u == v - 1) := by rw [hsu, hbl3, Bool.false_or]; exact Bool.eq_iff_iff.2 (by simp)
              rw [hbl3]
              clear hbl2
              have HBX := Lib.hid hbx; have HSU := Lib.hid hsu; have HN := Lib.hid hn; have HBL3 := Lib.hid hbl3; clear hbx hsu hn hbl3
              go_wp2
              have hbelc : ∀ (u : Bel wr.heap.size wr) b o, b < wr.heap.size → u.wd.cell? ⟨b, o, none⟩ = wr.cell? ⟨b, o, none⟩ := fun u b o h => u.h.cell (p := ⟨b, o, none⟩) h
              have hbeln : Nonempty (Bel wr.heap.size wr) := ⟨⟨wr, Below.refl _ _⟩⟩
              refine wp_region_bel wr.heap.size (by kernel_rfl) (by kernel_rfl) ?_
              repeat (go_big_quiet_step ((go_at_call 27; exact quiet_bel (Nat.le_refl _) (touch_is _ _ _ _ _ _ _ (by omega) (by omega) (by omega) (by omega) ht))))
              refine wpQuiet_nil ?_
              intro wB hB0; obtain ⟨uB, hu⟩ := hB0; have hbB0 := uB.h; rw [← hu] at hbB0; clear hu uB hbelc hbeln
              obtain ⟨hbB, hcB, hsB⟩ := bcell2 hbB0; clear hbB0
              go_wp2
              go_quiet (fail)
              go_wp2
              go_quiet (fail)
              go_wp2
              go_roundw
              case rel => exact ⟨k + 1, by go_num, by omega, by rw [HN.out], below_drewN (HBX.out.trans (hbB.mono HBX.out.size)) _⟩
              case measure => simp [intOf]; omega
          · have ht' : touchB ws[k].pl ws[i].pl = false := by simpa using ht
            rw [if_neg ht] at hsu
            clear ht hle2
            generalize hb0 : blK ws i k = b0 at *
            have HBX := Lib.hid hbx; have HSU := Lib.hid hsu; have HB0 := Lib.hid hb0; clear hbx hsu hb0
            go_wp2
            have hbelc : ∀ (u : Bel wr.heap.size wr) b o, b < wr.heap.size → u.wd.cell? ⟨b, o, none⟩ = wr.cell? ⟨b, o, none⟩ := fun u b o h => u.h.cell (p := ⟨b, o, none⟩) h
            have hbeln : Nonempty (Bel wr.heap.size wr) := ⟨⟨wr, Below.refl _ _⟩⟩
            refine wp_region_bel wr.heap.size (by kernel_rfl) (by kernel_rfl) ?_
            repeat (go_big_quiet_step ((go_at_call 27; exact quiet_bel (Nat.le_refl _) (touch_is _ _ _ _ _ _ _ (by omega) (by omega) (by omega) (by omega) ht'))))
            refine wpQuiet_nil ?_
            intro wB hB0; obtain ⟨uB, hu⟩ := hB0; have hbB0 := uB.h; rw [← hu] at hbB0; clear hu uB hbelc hbeln
            obtain ⟨hbB, hcB, hsB⟩ := bcell2 hbB0; clear hbB0
            go_wp2
            go_roundw
            case rel => exact ⟨k + 1, by go_num, by omega, by rw [HSU.out], HBX.out.trans (hbB.mono HBX.out.size)⟩
            case measure => simp [intOf]; omega
        · obtain rfl : k = i := by omega
          rw [HTRUE.out]
          have HBX := Lib.hid hbx; clear hbx
          go_wp2
          go_roundw
          case rel => exact ⟨k + 1, by go_num, by omega, HBW.out.trans (HBX.out.mono (by omega))⟩
          case measure => simp [intOf]; omega
    · have HBW := Lib.hid hbw; clear hbw
      go_wp2
      go_ret
      exact ⟨rfl, hbA⟩
end Go.Proofs.Ytifpkdajfdlgeaa
