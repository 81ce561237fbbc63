/- The reference's counter: free and orders. -/
import Derived.Test.YtifpkdajfdlgeaaTrNth
import Derived.Test.YtifpkdajfdlgeaaTrAid
namespace Go.Proofs.Ytifpkdajfdlgeaa
open Go.RowKit

/-- A counter of the reference in memory. -/
structure RC (w : World) (cb D : Nat) (p : Int) (A : Option Addr) (c : Nat) (ws : List GW) : Prop where
  blk : w.heap[cb]? = some (.cells #[.int .i64 p, .slice A ws.length c, .slice (some ⟨D, 0, none⟩) (2 ^ ws.length) (2 ^ ws.length)] 105 (0, 0))
  rd : RdW w A ws
  known : ∃ xs : List Int, xs.length = 2 ^ ws.length ∧ IntsAt w D 2 xs ∧ ∀ s, s < 2 ^ ws.length → xs.getD s 0 = -1 ∨ xs.getD s 0 = cntN ws.length (befW ws) s
  ne : 0 < ws.length → ∀ b off, A = some ⟨b, off, none⟩ → b ≠ D
theorem RC.neD {w : World} {cb D : Nat} {p : Int} {A : Option Addr} {c : Nat} {ws : List GW} (h : RC w cb D p A c ws) : cb ≠ D := by
  rintro rfl
  obtain ⟨xs, h1, h2, _⟩ := h.known
  have h3 := h.blk
  unfold IntsAt at h2
  rw [h2] at h3
  injection h3 with h3
  injection h3 with _ h4
  exact absurd h4 (by decide)
theorem RC.later {w w' : World} {cb D : Nat} {p : Int} {A : Option Addr} {c : Nat} {ws : List GW} (h : RC w cb D p A c ws) (hb : Below w.heap.size w w') : RC w' cb D p A c ws := by
  obtain ⟨xs, h1, h2, h3⟩ := h.known
  exact ⟨(hb.block _ (lt_of_block h.blk)).trans h.blk, h.rd.later hb (Nat.le_refl _), ⟨xs, h1, h2.later hb h2.lt, h3⟩, h.ne⟩

set_option maxRecDepth 100000 in
set_option maxHeartbeats 4000000 in
theorem rfree_ (cb D : Nat) (p : Int) (A : Option Addr) (c s i : Nat) (ws : List GW) (w : World) (hc : RC w cb D p A c ws) (hn : ws.length ≤ 16) (hs : s < 65536) (hi : i < ws.length) (hat : ∀ x ∈ ws, 0 ≤ x.pl ∧ x.pl ≤ 22) :
    Calls Try.prog 57 #[.pointer (some ⟨cb, 0, none⟩), .int .i64 (s : Int), .int .i64 (i : Int)] w fun e w' => e = .returned (.bool (freeB (befW ws) s i)) ∧ Below w.heap.size w w' := by
  have h0 : (0 : Int) ≤ (i : Int) := by omega
  have h1 : (i : Int) < 64 := by omega
  have h2 : (0 : Int) ≤ (s : Int) := by omega
  have hcb := lt_of_block hc.blk
  have c1 : w.cell? ⟨cb, 1, none⟩ = some (.slice A ws.length c) := cell_of_row w cb 1 _ _ _ hc.blk
  have e1 := bit_rem s i
  have e2 := bit_tmod s i
  have hspec := freeB_frK ws s i
  have HC := Lib.hid hc; have HS := Lib.hid hs; have HAT := Lib.hid hat; have HSPEC := Lib.hid hspec; clear hc hs hat hspec
  by_cases hb : s.testBit i = true
  · rw [if_pos hb] at e1 e2
    have hr : freeB (befW ws) s i = false := by rw [HSPEC.out, hb]; rfl
    have HR := Lib.hid hr; have HB := Lib.hid hb; clear hr hb
    go_enter Try.func57, Try.ntmps57
    go_wp2
    go_ret
    exact ⟨ret_bool HR.out.symm, Below.refl _ _⟩
  · have hb' : s.testBit i = false := by simpa using hb
    rw [if_neg hb] at e1 e2
    have hr : freeB (befW ws) s i = frK ws s i i := by rw [HSPEC.out, hb']; rfl
    clear hb
    have HR := Lib.hid hr; have HBp := Lib.hid hb'; clear hr hb'
    go_enter Try.func57, Try.ntmps57
    go_wp2
    clear e1 e2
    go_loopw [7] (fun kv wr => ∃ k : Nat, kv = .int .i64 k ∧ k ≤ i ∧ frK ws s i k = true ∧ Below w.heap.size w wr) (fun kv _ => i - (intOf kv).toNat)
    case atStart => exact ⟨0, rfl, Nat.zero_le _, rfl, Below.refl _ _⟩
    case round =>
      obtain ⟨k, rfl, hk, hfr, hbw⟩ := hrel
      have c2 := below_at hbw (Nat.le_refl _) c1
      have hcb2 : cb < wr.heap.size := Nat.lt_of_lt_of_le hcb hbw.size
      by_cases hki : k < i
      · have hkw : k < ws.length := by omega
        obtain ⟨b, off, rfl, hbL, g1, g2, g3⟩ := (HC.out.rd.later hbw (Nat.le_refl _)).at_ hkw
        obtain ⟨b', off', hA', hbA', f1, f2, f3⟩ := (HC.out.rd.later hbw (Nat.le_refl _)).at_ hi
        injection hA' with hA'
        injection hA' with hA1 hA2
        subst hA1; subst hA2
        obtain ⟨p1, p2⟩ := HAT.out ws[k] (List.getElem_mem hkw)
        obtain ⟨p3, p4⟩ := HAT.out ws[i] (List.getElem_mem hi)
        have hsu : frK ws s i (k + 1) = (s.testBit k || !touchB ws[k].pl ws[i].pl) := by rw [frK, hfr, getD_pl hkw, getD_pl hi, Bool.true_and]
        have z1 : (0 : Int) ≤ (k : Int) := by omega
        have z2 : (k : Int) < (ws.length : Int) := by omega
        have z3 : (i : Int) < (ws.length : Int) := by omega
        have z4 : (k : Int) < 64 := by omega
        have e1 := bit_rem s k
        have e2 := bit_tmod s k
        have e3 := bit_div0 s k
        have HBW := Lib.hid hbw; have HFR := Lib.hid hfr; have HSU := Lib.hid hsu; clear hbw hfr hsu
        by_cases hbk : s.testBit k = true
        · rw [if_pos hbk] at e1 e2
          have hn2 : frK ws s i (k + 1) = true := by rw [HSU.out, hbk]; rfl
          have HBK := Lib.hid hbk; have HN2 := Lib.hid hn2; clear hbk hn2
          go_wp2
          go_quiet (fail)
          go_wp2
          go_roundw
          case rel => exact ⟨k + 1, by go_num, by omega, HN2.out, below_drewN HBW.out _⟩
          case measure => simp [intOf]; omega
        · rw [if_neg hbk] at e1 e2
          have hbk' : s.testBit k = false := by simpa using hbk
          clear hbk
          by_cases ht : touchB ws[k].pl ws[i].pl = true
          · have hr2 : freeB (befW ws) s i = false := by rw [HR.out, frK_mono ws s i i (k + 1) (by omega) (by rw [HSU.out, hbk', ht]; rfl)]
            have HBKp := Lib.hid hbk'; have HR2 := Lib.hid hr2; clear hbk' hr2
            go_wp2
            have hbelc : ∀ (u : Bel wr.heap.size wr) b o, b < wr.heap.size → u.wd.cell? ⟨b, o, none⟩ = wr.cell? ⟨b, o, none⟩ := fun u b o h => u.h.cell (p := ⟨b, o, none⟩) h
            have hbeln : Nonempty (Bel wr.heap.size wr) := ⟨⟨wr, Below.refl _ _⟩⟩
            refine wp_region_bel wr.heap.size (by kernel_rfl) (by kernel_rfl) ?_
            repeat (go_big_quiet_step ((go_at_call 27; exact quiet_bel (Nat.le_refl _) (touch_is _ _ _ _ _ _ _ (by omega) (by omega) (by omega) (by omega) ht))))
            refine wpQuiet_nil ?_
            intro wB hB0; obtain ⟨uB, hu⟩ := hB0; have hbB0 := uB.h; rw [← hu] at hbB0; clear hu uB hbelc hbeln
            obtain ⟨hbB, hcB, hsB⟩ := bcell2 hbB0; clear hbB0
            go_wp2
            go_ret
            exact ⟨ret_bool HR2.out.symm, HBW.out.trans (hbB.mono HBW.out.size)⟩
          · have ht' : touchB ws[k].pl ws[i].pl = false := by simpa using ht
            have hn2 : frK ws s i (k + 1) = true := by rw [HSU.out, ht']; simp
            clear ht
            have HBKp := Lib.hid hbk'; have HN2 := Lib.hid hn2; clear hbk' hn2
            go_wp2
            have hbelc : ∀ (u : Bel wr.heap.size wr) b o, b < wr.heap.size → u.wd.cell? ⟨b, o, none⟩ = wr.cell? ⟨b, o, none⟩ := fun u b o h => u.h.cell (p := ⟨b, o, none⟩) h
            have hbeln : Nonempty (Bel wr.heap.size wr) := ⟨⟨wr, Below.refl _ _⟩⟩
            refine wp_region_bel wr.heap.size (by kernel_rfl) (by kernel_rfl) ?_
            repeat (go_big_quiet_step ((go_at_call 27; exact quiet_bel (Nat.le_refl _) (touch_is _ _ _ _ _ _ _ (by omega) (by omega) (by omega) (by omega) ht'))))
            refine wpQuiet_nil ?_
            intro wB hB0; obtain ⟨uB, hu⟩ := hB0; have hbB0 := uB.h; rw [← hu] at hbB0; clear hu uB hbelc hbeln
            obtain ⟨hbB, hcB, hsB⟩ := bcell2 hbB0; clear hbB0
            go_wp2
            go_roundw
            case rel => exact ⟨k + 1, by go_num, by omega, HN2.out, HBW.out.trans (hbB.mono HBW.out.size)⟩
            case measure => simp [intOf]; omega
      · obtain rfl : k = i := by omega
        have HFR := Lib.hid hfr; have HBW := Lib.hid hbw; clear hfr hbw
        go_wp2
        go_ret
        exact ⟨ret_bool (by rw [HR.out, HFR.out]), HBW.out⟩
end Go.Proofs.Ytifpkdajfdlgeaa
