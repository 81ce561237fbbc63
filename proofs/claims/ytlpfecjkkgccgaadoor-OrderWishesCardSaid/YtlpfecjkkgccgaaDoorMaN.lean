/- Texts of this claim, laid together: OrWays. -/
import Derived.Test.YtlpfecjkkgccgaaDoorMaA
import Derived.Test.YtlpfecjkkgccgaaDoorMaB
import Derived.Test.YtlpfecjkkgccgaaDoorMaE
import Derived.Test.YtlpfecjkkgccgaaDoorMaH
import Derived.Deep.RegionHeld3
import Derived.StillTailTactics
/- The program's ways: the works that may be next, ascending. -/
namespace Go.Proofs.YtlpfecjkkgccgaaDoor
open Go Go.RowKit Go.Shelf
attribute [local go_sem] Oper.semAt_some

/-- The works below k that may be next. -/
def wysL (L : Nat → Nat) (S k : Nat) : List Nat := (List.range k).filter fun b => freeB L S b
theorem wysL_succ (L : Nat → Nat) (S k : Nat) : wysL L S (k + 1) = wysL L S k ++ if freeB L S k = true then [k] else [] := by
  unfold wysL
  rw [List.range_succ, List.filter_append]
  congr 1
  by_cases h : freeB L S k = true
  · rw [if_pos h, List.filter_cons_of_pos (by simpa using h)]; rfl
  · rw [if_neg h, List.filter_cons_of_neg (by simpa using h)]; rfl
theorem wysL_pre (L : Nat → Nat) (S : Nat) : ∀ {k n}, k ≤ n → wysL L S k <+: wysL L S n := by
  intro k n h
  induction n with
  | zero => obtain rfl : k = 0 := by omega
            exact List.prefix_rfl
  | succ n ih =>
    rcases Nat.lt_or_ge k (n + 1) with h1 | h1
    · exact (ih (by omega)).trans (by rw [wysL_succ]; exact List.prefix_append _ _)
    · obtain rfl : k = n + 1 := by omega
      exact List.prefix_rfl
theorem wysL_mem {L : Nat → Nat} {S k b : Nat} (h : b ∈ wysL L S k) : b < k ∧ freeB L S b = true := by
  unfold wysL at h
  rw [List.mem_filter, List.mem_range] at h
  exact ⟨h.1, by simpa using h.2⟩
theorem win_free {F S : Nat} (hF : ∀ a, F.testBit a = true → a < 448) : winN F S 7 = decide (F &&& S = F) := by
  rw [Bool.eq_iff_iff, winN_iff, decide_eq_true_eq]
  constructor
  · intro h
    apply Nat.eq_of_testBit_eq
    intro i
    rw [Nat.testBit_and]
    cases hi : F.testBit i with
    | false => rfl
    | true =>
      have := hF i hi
      rw [h i (by omega) hi]; rfl
  · intro h i _ hi
    have := congrArg (fun z => z.testBit i) h
    simp only [Nat.testBit_and, hi, Bool.true_and] at this
    exact this
theorem SetAt.kept {w w' : World} {D off S : Nat} (h : SetAt w D off S) (hb : w'.heap[D]? = w.heap[D]?) : SetAt w' D off S := fun k hk => by
  obtain ⟨h1, h2⟩ := h k hk
  refine ⟨by rw [World.cell?_of_block hb]; exact h1, ?_⟩
  rw [← h2]
  unfold World.frozen?
  rw [hb]
theorem SetAt.lt {w : World} {D off S : Nat} (h : SetAt w D off S) : D < w.heap.size := World.block_lt_of_cell? w _ (h 0 (by omega)).1
/-- ways(l, done): a function over both. -/
theorem ways_ (A D : Option Addr) (n c : Nat) (w : World) : Calls Tryd.prog 37 #[.slice A n c, .pointer D] w fun e w' => e = .returned (.func (.func 55) #[] #[.pointer (some ⟨w.heap.size, 0, none⟩), .pointer (some ⟨w.heap.size + 1, 0, none⟩)]) ∧ w' = (w.alloc (.cells #[.slice A n c] 52)).alloc (.cells #[.pointer D] 74) := by
  go_enter Tryd.func37, Tryd.ntmps37
  go_wp2
  go_ret
  exact ⟨rfl, rfl⟩
set_option maxRecDepth 100000 in
set_option maxHeartbeats 4000000 in
theorem ways1_ (B1 B2 R c D off n S : Nat) (L : Nat → Nat) (w : World) (C : Nat → Prop) (hn : n ≤ 400) (hL : ∀ b, b < n → ∀ a, (L b).testBit a = true → a < n)
    (hb1 : w.heap[B1]? = some (.cells #[.slice (some ⟨R, 0, none⟩) n c] 52 (0, 0))) (hb2 : w.heap[B2]? = some (.cells #[.pointer (some ⟨D, off, none⟩)] 74 (0, 0)))
    (hR : SBo w R n L) (hD : SetAt w D off S) (hC : ∀ i, C i → i < w.heap.size ∧ i ≠ B1 ∧ i ≠ B2 ∧ i ≠ R ∧ i ≠ D) :
    IterS Tryd.prog 55 #[.pointer (some ⟨B1, 0, none⟩), .pointer (some ⟨B2, 0, none⟩)] (fun b : Nat => #[.int .i64 (b : Int)]) (wysL L S n) C w := by
  intro l J Jx Jp W hW hl1 hl2 hJ hJx hY h0
  have l1 := lt_of_block hb1
  have l2 := lt_of_block hb2
  have l3 := hR.lt
  have l4 := hD.lt
  have hWs := hW.size
  have same : ∀ w1 : World, Kp (fun i => C i ∨ i = l) W w1 → ∀ i, i < w.heap.size → (∀ j, C j → j ≠ i) → w1.heap[i]? = w.heap[i]? := fun w1 hk i hi hc =>
    (hk.same i (by omega) (fun h => by rcases h with h | h; exact hc i h rfl; omega)).trans (hW.block i hi)
  have mem : ∀ w1 : World, Kp (fun i => C i ∨ i = l) W w1 → w1.cell? ⟨B1, 0, none⟩ = some (.slice (some ⟨R, 0, none⟩) n c) ∧ w1.cell? ⟨B2, 0, none⟩ = some (.pointer (some ⟨D, off, none⟩)) ∧ SBo w1 R n L ∧ SetAt w1 D off S ∧ B1 < w1.heap.size ∧ B2 < w1.heap.size := fun w1 hk => by
    have hs := hk.size
    refine ⟨cell_of_row w1 B1 0 _ _ _ ((same w1 hk B1 l1 fun j h => (hC j h).2.1).trans hb1), cell_of_row w1 B2 0 _ _ _ ((same w1 hk B2 l2 fun j h => (hC j h).2.2.1).trans hb2), (same w1 hk R l3 fun j h => (hC j h).2.2.2.1).trans hR, hD.kept (same w1 hk D l4 fun j h => (hC j h).2.2.2.2), by omega, by omega⟩
  obtain ⟨m1, m2, _, _, m5, m6⟩ := mem W (Kp.refl _ W)
  clear same hb1 hb2 hR hD
  have MEM := Lib.hid mem; have HJ := Lib.hid hJ; have HJX := Lib.hid hJx; have HY := Lib.hid hY; have H0 := Lib.hid h0; have HW := Lib.hid hW; have HC := Lib.hid hC; have HL := Lib.hid hL; clear mem hJ hJx hY h0 hW hC hL
  refine (callsIn_wide (n := 2)).1 ?_
  refine callsIn_of_wp Tryd.func55 rfl trivial ?_ rfl
  simp only [Tryd.ntmps55, List.size_toArray, List.length_cons, List.length_nil, Nat.reduceAdd, Nat.reduceSub, Array.replicate_succ, Array.replicate_zero, List.push_toArray, List.append_toArray, List.nil_append, List.cons_append]
  have hmx : Tryd.prog.follows .mixedOrders = true := by kernel_rfl
  gi_wp2
  clear m1 m2 m5 m6
  gi_loopw [7] (fun v wr => ∃ k : Nat, v = .int .i64 k ∧ k ≤ n ∧ J (wysL L S k) wr ∧ Kp (fun i => C i ∨ i = l) W wr) (fun v _ => n - (intOf v).toNat)
  case atStart => exact ⟨0, rfl, Nat.zero_le _, H0.out, Kp.refl _ W⟩
  case round =>
    obtain ⟨k, rfl, hk, hj, hkp⟩ := hrel
    obtain ⟨m1, m2, m3, m4, m5, m6⟩ := MEM.out wr hkp
    by_cases hlt : k < n
    · have x1 : (0 : Int) ≤ (k : Int) := by omega
      have x2 : (k : Int) < (n : Int) := by omega
      have hsu := wysL_succ L S k
      have hwin := win_free (S := S) fun a ha => by have := HL.out k hlt a ha; omega
      have hLk := m3.at_ hlt
      have hhas : ∀ u : Bel wr.heap.size wr, Calls Tryd.prog 40 #[.pointer (some ⟨D, off, none⟩), .int .i64 (k : Int)] u.wd fun e w' => e = .returned (.bool (S.testBit k)) ∧ u.wd = w' := fun u => owHas_ D off S k u.wd (by omega) (m4.kept (u.h.block D m4.lt))
      have hwi : ∀ u : Bel wr.heap.size wr, Calls Tryd.prog 41 #[.pointer (some ⟨R, k * 7, none⟩), .pointer (some ⟨D, off, none⟩)] u.wd fun e w' => e = .returned (.bool (winN (L k) S 7)) ∧ Below u.wd.heap.size u.wd w' := fun u => owWithin_ R (k * 7) D off (L k) S u.wd (hLk.kept (u.h.block R m3.lt)) (m4.kept (u.h.block D m4.lt))
      cases hb : S.testBit k with
      | true =>
        have hfr : ¬ freeB L S k = true := fun h => by rw [freeB_bit h] at hb; cases hb
        have hj2 : ∀ W1, Below wr.heap.size wr W1 → J (wysL L S (k + 1)) W1 := fun W1 hb1 => by
          rw [hsu, if_neg hfr, List.append_nil]
          exact HJ.out _ wr W1 hj hkp.size (hb1.mono hkp.size)
        rw [hb] at hhas
        have HJ := Lib.hid hj; have HKP := Lib.hid hkp; have HSU := Lib.hid hsu; have HWIN := Lib.hid hwin; have HFR := Lib.hid hfr; have M3 := Lib.hid m3; have M4 := Lib.hid m4; have HLK := Lib.hid hLk; have HB := Lib.hid hb; have HJ2 := Lib.hid hj2; have HHAS := Lib.hid hhas; have HWI := Lib.hid hwi; clear hj hkp hsu hwin hfr m3 m4 hLk hb hj2 hhas hwi
        gi_wp2
        refine wpIn_wide.2 ?_
        have hbelc : ∀ (u : Bel wr.heap.size wr) b o, b < wr.heap.size → u.wd.cell? ⟨b, o, none⟩ = wr.cell? ⟨b, o, none⟩ := fun u b o h => u.h.cell (p := ⟨b, o, none⟩) h
        have hbeln : Nonempty (Bel wr.heap.size wr) := ⟨⟨wr, Below.refl _ _⟩⟩
        refine wp_region_bel wr.heap.size (by kernel_rfl) (by kernel_rfl) ?_
        repeat (go_big_quiet_step ((go_at_call 40; exact quiet_bel_same (HHAS.out _))))
        refine wpQuiet_nil ?_
        intro wB hB0; obtain ⟨uB, hu⟩ := hB0; have hbB0 := uB.h; rw [← hu] at hbB0; clear hu uB hbelc hbeln
        obtain ⟨hbB, hcB, hsB⟩ := bcell2 hbB0; clear hbB0
        gi_wp2
        go_roundw
        case rel => exact ⟨k + 1, by go_num, by omega, HJ2.out _ hbB, HKP.out.trans (Kp.of_below _ hbB)⟩
        case measure => simp [intOf]; omega
      | false =>
        cases hw : winN (L k) S 7 with
        | false =>
          have hfr : ¬ freeB L S k = true := fun h => by
            unfold freeB at h
            rw [hb, ← hwin, hw] at h; cases h
          have hj2 : ∀ W1, Below wr.heap.size wr W1 → J (wysL L S (k + 1)) W1 := fun W1 hb1 => by
            rw [hsu, if_neg hfr, List.append_nil]
            exact HJ.out _ wr W1 hj hkp.size (hb1.mono hkp.size)
          rw [hb] at hhas
          rw [hw] at hwi
          have HJ := Lib.hid hj; have HKP := Lib.hid hkp; have HSU := Lib.hid hsu; have HWIN := Lib.hid hwin; have HFR := Lib.hid hfr; have M3 := Lib.hid m3; have M4 := Lib.hid m4; have HLK := Lib.hid hLk; have HB := Lib.hid hb; have HW := Lib.hid hw; have HJ2 := Lib.hid hj2; have HHAS := Lib.hid hhas; have HWI := Lib.hid hwi; clear hj hkp hsu hwin hfr m3 m4 hLk hb hw hj2 hhas hwi
          gi_wp2
          refine wpIn_wide.2 ?_
          have hbelc : ∀ (u : Bel wr.heap.size wr) b o, b < wr.heap.size → u.wd.cell? ⟨b, o, none⟩ = wr.cell? ⟨b, o, none⟩ := fun u b o h => u.h.cell (p := ⟨b, o, none⟩) h
          have hbeln : Nonempty (Bel wr.heap.size wr) := ⟨⟨wr, Below.refl _ _⟩⟩
          refine wp_region_bel wr.heap.size (by kernel_rfl) (by kernel_rfl) ?_
          repeat (go_big_quiet_step ((first | (go_at_call 40; exact quiet_bel_same (HHAS.out _)) | (go_at_call 41; exact quiet_bel (Nat.le_refl _) (HWI.out _)))))
          refine wpQuiet_nil ?_
          intro wB hB0; obtain ⟨uB, hu⟩ := hB0; have hbB0 := uB.h; rw [← hu] at hbB0; clear hu uB hbelc hbeln
          obtain ⟨hbB, hcB, hsB⟩ := bcell2 hbB0; clear hbB0
          gi_wp2
          go_roundw
          case rel => exact ⟨k + 1, by go_num, by omega, HJ2.out _ hbB, HKP.out.trans (Kp.of_below _ hbB)⟩
          case measure => simp [intOf]; omega
        | true =>
          have hfr : freeB L S k = true := by unfold freeB; rw [hb, ← hwin, hw]; rfl
          have hpre : wysL L S k ++ [k] <+: wysL L S n := by
            have := wysL_pre L S (show k + 1 ≤ n by omega)
            rw [hsu, if_pos hfr] at this
            exact this
          have hcall := fun W1 (hb1 : Below wr.heap.size wr W1) => (HY.out (wysL L S k) k W1 hpre (HJ.out _ wr W1 hj hkp.size (hb1.mono hkp.size)) (Nat.le_trans hkp.size hb1.size)).mono (R' := fun e W' => (∃ t : Bool, e = .returned (.bool t) ∧ (t = true → J (wysL L S k ++ [k]) W' ∧ Kp (fun i => C i ∨ i = l) W1 W') ∧ (t = false → Jx (wysL L S k ++ [k]) W' ∧ W1.heap.size ≤ W'.heap.size)) ∨ ∃ ch, e = .panicked ch ∧ Jp ch (wysL L S k ++ [k]) W') (fun e W' h => by
            rcases h with ⟨rfl, h1, h2⟩ | ⟨rfl, h1, h2⟩ | ⟨ch, rfl, h1⟩
            · exact .inl ⟨true, rfl, fun _ => ⟨h1, h2⟩, fun h => by cases h⟩
            · exact .inl ⟨false, rfl, (fun h => by cases h), fun _ => ⟨h1, h2⟩⟩
            · exact .inr ⟨ch, rfl, h1⟩)
          clear hhas hwi
          have HJ := Lib.hid hj; have HKP := Lib.hid hkp; have HSU := Lib.hid hsu; have HWIN := Lib.hid hwin; have HFR := Lib.hid hfr; have HPRE := Lib.hid hpre; have M3 := Lib.hid m3; have M4 := Lib.hid m4; have HLK := Lib.hid hLk; have HB := Lib.hid hb; have HW := Lib.hid hw; clear hj hkp hsu hwin hfr hpre m3 m4 hLk hb hw
          gi_wp2
          gi_region_with_o (first
            | (refine ⟨trivial, ?_⟩; gi_at_call 40; go_must (refine (callsIn_wide.2 (owHas_ D off S k wr.drew (by omega) (SetAt.ext M4.out (fun _ => rfl) (fun _ => rfl)))).mono ?_); rw [HB.out]; rintro e w4 ⟨rfl, rfl⟩)
            | (refine ⟨trivial, ?_⟩; gi_at_call 41; go_must (refine (callsIn_wide.2 (owWithin_ R (k * 7) D off (L k) S wr.drew (SetAt.ext HLK.out (fun _ => rfl) (fun _ => rfl)) (SetAt.ext M4.out (fun _ => rfl) (fun _ => rfl)))).mono ?_); go_must (rw [HW.out]; rintro e w5 ⟨rfl, hb5⟩; obtain ⟨fnY, tmY, asY, boY, hy, hR⟩ := hcall w5 ((Below.refl wr.heap.size wr).drew.trans hb5)))
            | (refine hR.mono ?_; rintro e W3 (⟨t, rfl, ht1, ht2⟩ | ⟨ch, rfl, hp3⟩); rotate_left; (exact ⟨rfl, .inr ⟨ch, _, _, rfl, HPRE.out, hp3⟩⟩)))
          all_goals
            have hb6 := (Below.refl wr.heap.size wr).drew.trans hb5
            cases t
            · obtain ⟨hx3, hs3⟩ := ht2 rfl
              clear ht1 ht2
              gi_wp2
              refine bodyPost_ret (results_none rfl _ _ _) rfl ?_
              exact .inl ⟨_, rfl, .inr ⟨_, _, HPRE.out, hx3⟩⟩
            · obtain ⟨hj3, hk3⟩ := ht1 rfl
              clear ht1 ht2
              gi_wp2
              go_roundw
              case rel => exact ⟨k + 1, by go_num, by omega, by rw [HSU.out, if_pos HFR.out]; exact hj3, HKP.out.trans ((Kp.of_below _ hb6).trans hk3)⟩
              case measure => simp [intOf]; omega
    · obtain rfl : k = n := by omega
      have hjs := hj
      have HKP := Lib.hid hkp; have M3 := Lib.hid m3; have M4 := Lib.hid m4; clear hkp m3 m4
      gi_wp2
      go_end0
      exact .inl ⟨_, rfl, .inl hjs⟩
end Go.Proofs.YtlpfecjkkgccgaaDoor
