/- Texts of this claim, laid together: PrRBnd, PrRBd2. -/
import Derived.Test.YtnplcephmidjbaaDoorMaP
import Derived.Test.YtnplcephmidjbaaDoorMaS
import Derived.Test.YtnplcephmidjbaaDoorMaU
import Derived.Test.YtnplcephmidjbaaDoorMaV
/- The reference of package pairs: Mark and Bound. -/
namespace Go.Proofs.YtnplcephmidjbaaDoor
open Go.RowKit

theorem ask_ok {P : Nat} {ws : List GW} (hok : errSheet P ws = 0) {a b : Nat} (ha : a < ws.length) (hb : b < ws.length) : askErr P ws [(a : Int), (b : Int)] = 0 := by
  unfold askErr
  rw [if_pos hok, if_neg]
  have h1 : badI ws.length (a : Int) = false := by unfold badI; simp; omega
  have h2 : badI ws.length (b : Int) = false := by unfold badI; simp; omega
  simp [h1, h2]
/-- Of a work: those before it and itself; those behind it and itself. -/
def upB (P : Nat) (ws : List GW) (i k : Nat) : Bool := befB P ws (k : Int) (i : Int) || decide (k = i)
def dnB (P : Nat) (ws : List GW) (i k : Nat) : Bool := befB P ws (i : Int) (k : Int) || decide (k = i)
theorem tkAny_plL {P : Nat} {ws : List GW} (hok : errSheet P ws = 0) (f : Nat → Bool) (p : Nat) : tkAny ws (plL f ws.length) (p : Int) = true ↔ ∃ b, b < ws.length ∧ f b = true ∧ tkB (plsOf ws b) p = true := by
  have hk : ∀ b, b < ws.length → takesB (ws.getD ((b : Int)).toNat gwE).pl (p : Int) = tkB (plsOf ws b) p := fun b hb => by
    have h1 := pl22 hok _ (List.getElem_mem hb)
    have e : ws.getD ((b : Int)).toNat gwE = ws[b] := by simp [List.getD_eq_getElem?_getD, hb]
    have e2 : plsOf ws b = ws[b].pl.toNat := by unfold plsOf; simp [List.getD_eq_getElem?_getD, hb]
    rw [e, ← takes_tk, e2]
    congr 1
    omega
  unfold tkAny plL
  rw [List.any_eq_true]
  constructor
  · rintro ⟨x, hx, ht⟩
    obtain ⟨b, hb, rfl⟩ := List.mem_map.1 hx
    rw [List.mem_filter, List.mem_range] at hb
    rw [hk b hb.1] at ht
    exact ⟨b, hb.1, hb.2, ht⟩
  · rintro ⟨b, hb, hf, ht⟩
    refine ⟨(b : Int), List.mem_map.2 ⟨b, List.mem_filter.2 ⟨List.mem_range.2 hb, hf⟩, rfl⟩, ?_⟩
    rw [hk b hb]
    exact ht
theorem mark_ref {P : Nat} {ws : List GW} (hok : errSheet P ws = 0) {i : Nat} (hi : i < ws.length) (p : Nat) :
    (tkAny ws (plL (upB P ws i) ws.length) (p : Int) && tkAny ws (plL (dnB P ws i) ws.length) (p : Int)) = (bothN (plsOf ws) ws.length i).testBit p := by
  have hb : ∀ a b, a < ws.length → b < ws.length → (befB P ws (a : Int) (b : Int) = true ↔ Bef (plsOf ws) a b) := fun a b h1 h2 => befB_iff (ask_ok hok h1 h2)
  rw [Bool.eq_iff_iff, Bool.and_eq_true, tkAny_plL hok, tkAny_plL hok, bothN_bit hi]
  unfold MarkP upB dnB
  refine and_congr ?_ ?_
  · constructor
    · rintro ⟨b, h1, h2, h3⟩
      rw [Bool.or_eq_true, decide_eq_true_eq, hb b i h1 hi] at h2
      exact ⟨b, h2.symm, h3⟩
    · rintro ⟨b, h2, h3⟩
      have h1 : b < ws.length := by
        rcases h2 with rfl | h2
        · exact hi
        · have := h2.lt; omega
      refine ⟨b, h1, ?_, h3⟩
      rw [Bool.or_eq_true, decide_eq_true_eq, hb b i h1 hi]
      exact h2.symm
  · constructor
    · rintro ⟨b, h1, h2, h3⟩
      rw [Bool.or_eq_true, decide_eq_true_eq, hb i b hi h1] at h2
      exact ⟨b, h2.symm, h1, h3⟩
    · rintro ⟨b, h2, h1, h3⟩
      refine ⟨b, h1, ?_, h3⟩
      rw [Bool.or_eq_true, decide_eq_true_eq, hb i b hi h1]
      exact h2.symm
theorem plL_in (f : Nat → Bool) (n : Nat) : ∀ x ∈ plL f n, 0 ≤ x ∧ x < n := fun x hx => by
  unfold plL at hx
  obtain ⟨b, hb, rfl⟩ := List.mem_map.1 hx
  rw [List.mem_filter, List.mem_range] at hb
  omega
/-- Two rows of the call's own, apart. -/
def Two (w : World) (B : Nat) (v1 v2 : Value) (l1 l2 : List Int) : Prop :=
  w.ownsRow B 3 1 v1 l1.length (ints l1) ∧ w.ownsRow B 3 1 v2 l2.length (ints l2) ∧ ∀ k, v1.ownBlock = some k → v2.ownBlock ≠ some k
theorem Two.later {w w' : World} {B : Nat} {v1 v2 : Value} {l1 l2 : List Int} (h : Two w B v1 v2 l1 l2) (hb : Below w.heap.size w w') : Two w' B v1 v2 l1 l2 := ⟨own_below3 h.1 hb, own_below3 h.2.1 hb, h.2.2⟩
theorem Two.alloc {w : World} {B : Nat} {v1 v2 : Value} {l1 l2 : List Int} (h : Two w B v1 v2 l1 l2) (o : Obj) : Two (w.alloc o) B v1 v2 l1 l2 := ⟨h.1.alloc o, h.2.1.alloc o, h.2.2⟩
/-- The first one grows. -/
theorem Two.one {w w' : World} {B g n cap : Nat} {v1 v2 : Value} {l1 l1' l2 : List Int} (h : Two w B v1 v2 l1 l2) (hn : w'.ownsRow B 3 1 (.slice (some ⟨g, 0, none⟩) n cap) l1'.length (ints l1'))
    (hg : w.grownBy w' v1.ownBlock) (hat : v1.ownBlock = some g ∨ g = w.heap.size) : Two w' B (.slice (some ⟨g, 0, none⟩) n cap) v2 l1' l2 := by
  have h2 : v2.ownBlock = none ∨ v2.ownBlock ≠ v1.ownBlock := by
    rcases hv : v2.ownBlock with _ | k
    · exact .inl rfl
    · exact .inr fun e => h.2.2 k e.symm hv
  refine ⟨hn, h.2.1.kept hg h2, fun k hk e => ?_⟩
  have hk2 : g = k := Option.some.inj hk
  subst hk2
  rcases hat with h3 | h3
  · exact h.2.2 g h3 e
  · have := (h.2.1.lt g e).2; omega
theorem Two.swap {w : World} {B : Nat} {v1 v2 : Value} {l1 l2 : List Int} (h : Two w B v1 v2 l1 l2) : Two w B v2 v1 l2 l1 := ⟨h.2.1, h.1, fun k h1 h2 => h.2.2 k h2 h1⟩
theorem rdI_grb {w w' : World} {A : Option Addr} {l : List Int} {kb : Nat} (h : RdI w A l) (hg : w.grownBy w' (some kb)) (hne : ∀ b off, A = some ⟨b, off, none⟩ → b ≠ kb) : RdI w' A l := by
  refine ⟨h.1, fun h0 => ?_⟩
  obtain ⟨b, off, e, hlt, hc⟩ := h.2 h0
  exact ⟨b, off, e, Nat.lt_of_lt_of_le hlt hg.size, fun j hj => GB.cell hg (hc j hj) (hne b off e)⟩
/-- What Mark returns: in memory of its own. -/
def MarkPost (xs : List Int) (k : Nat) (w : World) (e : Ending) (w' : World) : Prop :=
  ∃ A c, e = .returned (.agg #[.int .i64 (k : Int), .slice A xs.length c]) ∧ RdI w' A xs ∧ (∀ b off, A = some ⟨b, off, none⟩ → w.heap.size ≤ b ∧ b < w'.heap.size) ∧ Below w.heap.size w w'

set_option maxRecDepth 100000 in
set_option maxHeartbeats 8000000 in
theorem rMark_ (P i : Nat) (A : Option Addr) (c : Nat) (ws : List GW) (w : World) (hok : errSheet P ws = 0) (hi : i < ws.length) (hsh : ShIn w P A ws) :
    Calls Tryd.prog 40 #[.agg #[.int .i64 (P : Int), .slice A ws.length c], .int .i64 (i : Int)] w (MarkPost (plL (fun p => (bothN (plsOf ws) ws.length i).testBit p) 24) i w) := by
  have hP24 : P ≤ 24 := by have := (okAll hok).2.1; omega
  have hn4 := (okAll hok).2.2.1
  have hpl := pl22 hok
  have hqP : ∀ i, i < ws.length → plsOf ws i + 2 ≤ P := fun i h => by
    have h1 := (okAll hok).2.2.2 _ (List.getElem_mem h)
    have e : plsOf ws i = ws[i].pl.toNat := by unfold plsOf; simp [List.getD_eq_getElem?_getD, h]
    omega
  have hmr := fun p => mark_ref hok hi p
  have HOK := Lib.hid hok; have HSH := Lib.hid hsh; have HPL := Lib.hid hpl; have HQP := Lib.hid hqP; have HMR := Lib.hid hmr; clear hok hsh hpl hqP hmr
  go_enter Tryd.func40, Tryd.ntmps40
  go_wp2
  obtain ⟨W2, hW2⟩ : ∃ W2, W2 = ((w.alloc (.cells #[.int .i64 (P : Int), .slice A ws.length c] 24)).alloc (.cells #[.int .i64 0, .slice none 0 0] 37)).alloc (.cells #[.int .i64 (i : Int), .slice none 0 0] 37) := ⟨_, rfl⟩
  rw [← hW2]
  have hb2 : Below w.heap.size w W2 := by rw [hW2]; exact (((Below.refl _ _).alloc (Nat.le_refl _) _).alloc (by simp) _).alloc (by simp; omega) _
  have hs2 : W2.heap.size = w.heap.size + 3 := by rw [hW2]; simp
  have k0 : W2.cell? ⟨w.heap.size, 0, none⟩ = some (.int .i64 (P : Int)) := by rw [hW2]; go_simp
  have k1 : W2.cell? ⟨w.heap.size, 1, none⟩ = some (.slice A ws.length c) := by rw [hW2]; go_simp
  have r0 : W2.cell? ⟨w.heap.size + 1, 0, none⟩ = some (.int .i64 0) := by rw [hW2]; go_simp
  have r1 : W2.cell? ⟨w.heap.size + 1, 1, none⟩ = some (.slice none 0 0) := by rw [hW2]; go_simp
  have f0 : W2.frozen? ⟨w.heap.size + 1, 0, none⟩ = false := by rw [hW2]; go_simp
  have f1 : W2.frozen? ⟨w.heap.size + 1, 1, none⟩ = false := by rw [hW2]; go_simp
  have hO : W2.heap[w.heap.size + 1 + 1]? = some (.cells #[.int .i64 (i : Int), .slice none 0 0] 37 (0, 0)) := by
    rw [hW2]
    have := heap_alloc_new ((w.alloc (.cells #[.int .i64 (P : Int), .slice A ws.length c] 24)).alloc (.cells #[.int .i64 0, .slice none 0 0] 37)) (.cells #[.int .i64 (i : Int), .slice none 0 0] 37)
    simpa using this
  clear hW2
  have hs3 : w.heap.size + 1 + 1 < W2.heap.size := by omega
  have hs4 : w.heap.size + 1 < W2.heap.size := by omega
  have hs5 : w.heap.size < W2.heap.size := by omega
  have HB2 := Lib.hid hb2; have HS2 := Lib.hid hs2; have K0 := Lib.hid k0; have K1 := Lib.hid k1; have R0 := Lib.hid r0; have R1 := Lib.hid r1; have F0 := Lib.hid f0; have F1 := Lib.hid f1; have HO := Lib.hid hO; clear hb2 hs2 k0 k1 r0 r1 f0 f1 hO
  go_loopw [6, 7, 8] (fun uv dv iv wr => ∃ (k : Nat) (v1 v2 : Value), v1 = uv ∧ v2 = dv ∧ iv = .int .i64 k ∧ k ≤ ws.length ∧ Two wr W2.heap.size v1 v2 (plL (upB P ws i) k) (plL (dnB P ws i) k) ∧ Below W2.heap.size W2 wr) (fun _ _ iv _ => ws.length - (intOf iv).toNat)
  case atStart => exact ⟨0, _, _, rfl, rfl, rfl, Nat.zero_le _, ⟨World.ownsRow_nil _ _ _ _, World.ownsRow_nil _ _ _ _, fun k h => by cases h⟩, Below.refl _ _⟩
  case round =>
    obtain ⟨k, v1, v2, rfl, rfl, rfl, hk, hTw, hbr⟩ := hrel
    obtain ⟨wx, rfl⟩ : ∃ wx : World, wx = wr := ⟨_, rfl⟩
    have d0 := below_at hbr (Nat.le_refl _) K0.out
    have d1 := below_at hbr (Nat.le_refl _) K1.out
    have hsx : w.heap.size < wx.heap.size := by have := hbr.size; omega
    have hbw : Below w.heap.size w wx := HB2.out.trans (hbr.mono (by omega))
    have hszx := hbr.size
    by_cases hkn : k < ws.length
    · have hc1 := fun W h => rBefore_ (P : Int) (k : Int) (i : Int) A c ws W h
      have hc2 := fun W h => rBefore_ (P : Int) (i : Int) (k : Int) A c ws W h
      rw [ask_ok HOK.out hkn hi] at hc1
      rw [ask_ok HOK.out hi hkn] at hc2
      have hu1 : upB P ws i k = (befB P ws (k : Int) (i : Int) || decide (k = i)) := rfl
      have hd1 : dnB P ws i k = (befB P ws (i : Int) (k : Int) || decide (k = i)) := rfl
      have e3 : ((k : Int) == (i : Int)) = decide (k = i) := by
        rw [Bool.eq_iff_iff]; simp; omega
      have hl1 := plL_le (upB P ws i) k
      have hl2 := plL_le (dnB P ws i) k
      have hup : ∀ b, upB P ws i k = b → plL (upB P ws i) (k + 1) = if b = true then plL (upB P ws i) k ++ [(k : Int)] else plL (upB P ws i) k := fun b hb => by
        cases b with
        | true => rw [if_pos rfl]; exact plL_yes hb
        | false => rw [if_neg (by decide)]; exact plL_no hb
      have hdn : ∀ b, dnB P ws i k = b → plL (dnB P ws i) (k + 1) = if b = true then plL (dnB P ws i) k ++ [(k : Int)] else plL (dnB P ws i) k := fun b hb => by
        cases b with
        | true => rw [if_pos rfl]; exact plL_yes hb
        | false => rw [if_neg (by decide)]; exact plL_no hb
      generalize befB P ws (k : Int) (i : Int) = b1 at *
      generalize befB P ws (i : Int) (k : Int) = b2 at *
      generalize hLU : plL (upB P ws i) (k + 1) = LU at *
      generalize hLD : plL (dnB P ws i) (k + 1) = LD at *
      generalize plL (upB P ws i) k = lu at *
      generalize plL (dnB P ws i) k = ld at *
      have HTW := Lib.hid hTw; have HBR := Lib.hid hbr; have HBW := Lib.hid hbw; have HC1 := Lib.hid hc1; have HC2 := Lib.hid hc2; clear hTw hbr hbw hc1 hc2
      cases b1 <;> cases b2 <;> cases hd : decide (k = i) <;> (rw [hd] at e3 hu1 hd1; clear hd)
      all_goals
        simp only [Bool.or_false, Bool.or_true] at hu1 hd1
        have hup2 := hup _ hu1
        have hdn2 := hdn _ hd1
        simp only [if_true, Bool.false_eq_true, if_false] at hup2 hdn2
        clear hup hdn hu1 hd1
        have HUP3 : Hid (plL (upB P ws i) (k + 1) = _) := hLU.trans hup2
        have HDN3 : Hid (plL (dnB P ws i) (k + 1) = _) := hLD.trans hdn2
        clear hup2 hdn2 hLU hLD
      · -- 0 0 0
        go_upto_region 9 with (go_at_call 51; refine (HC1.out _ (HSH.out.later HBW.out (Nat.le_refl _))).mono ?_; rintro e w2 ⟨rfl, hb2⟩)
        have hbw3 : Below W2.heap.size W2 w2 := HBR.out.trans (hb2.mono (by omega))
        have hT3 := HTW.out.later hb2
        have d0 := below_at hbw3 (Nat.le_refl _) K0.out
        have d1 := below_at hbw3 (Nat.le_refl _) K1.out
        have hs7 := hbw3.size
        have hsx7 : w.heap.size < w2.heap.size := by omega
        have hbz : Below w.heap.size w w2 := HB2.out.trans (hbw3.mono (by omega))
        clear hb2
        have HBW3 := Lib.hid hbw3; have HT3 := Lib.hid hT3; have HBZ := Lib.hid hbz; clear hbw3 hT3 hbz
        go_wp2_with (go_at_call 51; refine (HC2.out _ (HSH.out.later HBZ.out (Nat.le_refl _))).mono ?_; rintro e w4 ⟨rfl, hb4⟩)
        have hbw5 : Below W2.heap.size W2 w4 := HBW3.out.trans (hb4.mono (by omega))
        have hT5 := HT3.out.later hb4
        have HBW5 := Lib.hid hbw5; have HT5 := Lib.hid hT5; clear hbw5 hT5
        go_roundw
        case rel => exact ⟨k + 1, _, _, rfl, rfl, by go_num, by omega, by rw [HUP3.out, HDN3.out]; exact HT5.out, HBW5.out⟩
        case measure => simp [intOf]; omega
      · -- 0 0 1
        go_upto_region 9 with (first | (go_at_call 51; refine (HC1.out _ (HSH.out.later HBW.out (Nat.le_refl _))).mono ?_; rintro e w2 ⟨rfl, hb2⟩) | (at_builtin; go_must (refine wpList_app1_Tryd rfl _ _ rfl W2.heap.size v1 lu rfl ((HTW.out.later hb2).1.alloc _) _ (k : Int) rfl (heap_alloc_new _ _) (by omega) (by have := hb2.size; simp; omega) ?_); intro g cap w3 hown3 hgrow hat hlt))
        have hbw3 : Below W2.heap.size W2 w3 := ((HBR.out.trans (hb2.mono (by omega))).alloc (by have := hb2.size; omega) _).grown hgrow (by have := hb2.size; simp; omega) (fun j hj => by have := ((HTW.out.later hb2).1.lt j hj).1; omega)
        have hT3 := ((HTW.out.later hb2).alloc _).one hown3 hgrow hat
        clear hown3 hgrow hat
        have d0 := below_at hbw3 (Nat.le_refl _) K0.out
        have d1 := below_at hbw3 (Nat.le_refl _) K1.out
        have hs7 := hbw3.size
        have hsx7 : w.heap.size < w3.heap.size := by omega
        have hbz : Below w.heap.size w w3 := HB2.out.trans (hbw3.mono (by omega))
        clear hb2
        have HBW3 := Lib.hid hbw3; have HT3 := Lib.hid hT3; have HBZ := Lib.hid hbz; clear hbw3 hT3 hbz
        go_wp2_with (first | (go_at_call 51; refine (HC2.out _ (HSH.out.later HBZ.out (Nat.le_refl _))).mono ?_; rintro e w4 ⟨rfl, hb4⟩) | (at_builtin; go_must (refine wpList_app1_Tryd rfl _ _ rfl W2.heap.size v2 ld rfl ((HT3.out.later hb4).2.1.alloc _) _ (k : Int) rfl (heap_alloc_new _ _) (by omega) (by have := hb4.size; simp; omega) ?_); intro g2 cap2 w5 hown5 hgrow hat2 hlt2))
        have hbw5 : Below W2.heap.size W2 w5 := ((HBW3.out.trans (hb4.mono (by omega))).alloc (by have := hb4.size; omega) _).grown hgrow (by have := hb4.size; simp; omega) (fun j hj => by have := ((HT3.out.later hb4).2.1.lt j hj).1; omega)
        have hT5 := (((HT3.out.later hb4).alloc _).swap.one hown5 hgrow hat2).swap
        clear hown5 hgrow hat2
        have HBW5 := Lib.hid hbw5; have HT5 := Lib.hid hT5; clear hbw5 hT5
        go_roundw
        case rel => exact ⟨k + 1, _, _, rfl, rfl, by go_num, by omega, by rw [HUP3.out, HDN3.out]; exact HT5.out, HBW5.out⟩
        case measure => simp [intOf]; omega
      · -- 0 1 0
        go_upto_region 9 with (go_at_call 51; refine (HC1.out _ (HSH.out.later HBW.out (Nat.le_refl _))).mono ?_; rintro e w2 ⟨rfl, hb2⟩)
        have hbw3 : Below W2.heap.size W2 w2 := HBR.out.trans (hb2.mono (by omega))
        have hT3 := HTW.out.later hb2
        have d0 := below_at hbw3 (Nat.le_refl _) K0.out
        have d1 := below_at hbw3 (Nat.le_refl _) K1.out
        have hs7 := hbw3.size
        have hsx7 : w.heap.size < w2.heap.size := by omega
        have hbz : Below w.heap.size w w2 := HB2.out.trans (hbw3.mono (by omega))
        clear hb2
        have HBW3 := Lib.hid hbw3; have HT3 := Lib.hid hT3; have HBZ := Lib.hid hbz; clear hbw3 hT3 hbz
        go_wp2_with (first | (go_at_call 51; refine (HC2.out _ (HSH.out.later HBZ.out (Nat.le_refl _))).mono ?_; rintro e w4 ⟨rfl, hb4⟩) | (at_builtin; go_must (refine wpList_app1_Tryd rfl _ _ rfl W2.heap.size v2 ld rfl ((HT3.out.later hb4).2.1.alloc _) _ (k : Int) rfl (heap_alloc_new _ _) (by omega) (by have := hb4.size; simp; omega) ?_); intro g2 cap2 w5 hown5 hgrow hat2 hlt2))
        have hbw5 : Below W2.heap.size W2 w5 := ((HBW3.out.trans (hb4.mono (by omega))).alloc (by have := hb4.size; omega) _).grown hgrow (by have := hb4.size; simp; omega) (fun j hj => by have := ((HT3.out.later hb4).2.1.lt j hj).1; omega)
        have hT5 := (((HT3.out.later hb4).alloc _).swap.one hown5 hgrow hat2).swap
        clear hown5 hgrow hat2
        have HBW5 := Lib.hid hbw5; have HT5 := Lib.hid hT5; clear hbw5 hT5
        go_roundw
        case rel => exact ⟨k + 1, _, _, rfl, rfl, by go_num, by omega, by rw [HUP3.out, HDN3.out]; exact HT5.out, HBW5.out⟩
        case measure => simp [intOf]; omega
      · -- 0 1 1
        go_upto_region 9 with (first | (go_at_call 51; refine (HC1.out _ (HSH.out.later HBW.out (Nat.le_refl _))).mono ?_; rintro e w2 ⟨rfl, hb2⟩) | (at_builtin; go_must (refine wpList_app1_Tryd rfl _ _ rfl W2.heap.size v1 lu rfl ((HTW.out.later hb2).1.alloc _) _ (k : Int) rfl (heap_alloc_new _ _) (by omega) (by have := hb2.size; simp; omega) ?_); intro g cap w3 hown3 hgrow hat hlt))
        have hbw3 : Below W2.heap.size W2 w3 := ((HBR.out.trans (hb2.mono (by omega))).alloc (by have := hb2.size; omega) _).grown hgrow (by have := hb2.size; simp; omega) (fun j hj => by have := ((HTW.out.later hb2).1.lt j hj).1; omega)
        have hT3 := ((HTW.out.later hb2).alloc _).one hown3 hgrow hat
        clear hown3 hgrow hat
        have d0 := below_at hbw3 (Nat.le_refl _) K0.out
        have d1 := below_at hbw3 (Nat.le_refl _) K1.out
        have hs7 := hbw3.size
        have hsx7 : w.heap.size < w3.heap.size := by omega
        have hbz : Below w.heap.size w w3 := HB2.out.trans (hbw3.mono (by omega))
        clear hb2
        have HBW3 := Lib.hid hbw3; have HT3 := Lib.hid hT3; have HBZ := Lib.hid hbz; clear hbw3 hT3 hbz
        go_wp2_with (first | (go_at_call 51; refine (HC2.out _ (HSH.out.later HBZ.out (Nat.le_refl _))).mono ?_; rintro e w4 ⟨rfl, hb4⟩) | (at_builtin; go_must (refine wpList_app1_Tryd rfl _ _ rfl W2.heap.size v2 ld rfl ((HT3.out.later hb4).2.1.alloc _) _ (k : Int) rfl (heap_alloc_new _ _) (by omega) (by have := hb4.size; simp; omega) ?_); intro g2 cap2 w5 hown5 hgrow hat2 hlt2))
        have hbw5 : Below W2.heap.size W2 w5 := ((HBW3.out.trans (hb4.mono (by omega))).alloc (by have := hb4.size; omega) _).grown hgrow (by have := hb4.size; simp; omega) (fun j hj => by have := ((HT3.out.later hb4).2.1.lt j hj).1; omega)
        have hT5 := (((HT3.out.later hb4).alloc _).swap.one hown5 hgrow hat2).swap
        clear hown5 hgrow hat2
        have HBW5 := Lib.hid hbw5; have HT5 := Lib.hid hT5; clear hbw5 hT5
        go_roundw
        case rel => exact ⟨k + 1, _, _, rfl, rfl, by go_num, by omega, by rw [HUP3.out, HDN3.out]; exact HT5.out, HBW5.out⟩
        case measure => simp [intOf]; omega
      · -- 1 0 0
        go_upto_region 9 with (first | (go_at_call 51; refine (HC1.out _ (HSH.out.later HBW.out (Nat.le_refl _))).mono ?_; rintro e w2 ⟨rfl, hb2⟩) | (at_builtin; go_must (refine wpList_app1_Tryd rfl _ _ rfl W2.heap.size v1 lu rfl ((HTW.out.later hb2).1.alloc _) _ (k : Int) rfl (heap_alloc_new _ _) (by omega) (by have := hb2.size; simp; omega) ?_); intro g cap w3 hown3 hgrow hat hlt))
        have hbw3 : Below W2.heap.size W2 w3 := ((HBR.out.trans (hb2.mono (by omega))).alloc (by have := hb2.size; omega) _).grown hgrow (by have := hb2.size; simp; omega) (fun j hj => by have := ((HTW.out.later hb2).1.lt j hj).1; omega)
        have hT3 := ((HTW.out.later hb2).alloc _).one hown3 hgrow hat
        clear hown3 hgrow hat
        have d0 := below_at hbw3 (Nat.le_refl _) K0.out
        have d1 := below_at hbw3 (Nat.le_refl _) K1.out
        have hs7 := hbw3.size
        have hsx7 : w.heap.size < w3.heap.size := by omega
        have hbz : Below w.heap.size w w3 := HB2.out.trans (hbw3.mono (by omega))
        clear hb2
        have HBW3 := Lib.hid hbw3; have HT3 := Lib.hid hT3; have HBZ := Lib.hid hbz; clear hbw3 hT3 hbz
        go_wp2_with (go_at_call 51; refine (HC2.out _ (HSH.out.later HBZ.out (Nat.le_refl _))).mono ?_; rintro e w4 ⟨rfl, hb4⟩)
        have hbw5 : Below W2.heap.size W2 w4 := HBW3.out.trans (hb4.mono (by omega))
        have hT5 := HT3.out.later hb4
        have HBW5 := Lib.hid hbw5; have HT5 := Lib.hid hT5; clear hbw5 hT5
        go_roundw
        case rel => exact ⟨k + 1, _, _, rfl, rfl, by go_num, by omega, by rw [HUP3.out, HDN3.out]; exact HT5.out, HBW5.out⟩
        case measure => simp [intOf]; omega
      · -- 1 0 1
        go_upto_region 9 with (first | (go_at_call 51; refine (HC1.out _ (HSH.out.later HBW.out (Nat.le_refl _))).mono ?_; rintro e w2 ⟨rfl, hb2⟩) | (at_builtin; go_must (refine wpList_app1_Tryd rfl _ _ rfl W2.heap.size v1 lu rfl ((HTW.out.later hb2).1.alloc _) _ (k : Int) rfl (heap_alloc_new _ _) (by omega) (by have := hb2.size; simp; omega) ?_); intro g cap w3 hown3 hgrow hat hlt))
        have hbw3 : Below W2.heap.size W2 w3 := ((HBR.out.trans (hb2.mono (by omega))).alloc (by have := hb2.size; omega) _).grown hgrow (by have := hb2.size; simp; omega) (fun j hj => by have := ((HTW.out.later hb2).1.lt j hj).1; omega)
        have hT3 := ((HTW.out.later hb2).alloc _).one hown3 hgrow hat
        clear hown3 hgrow hat
        have d0 := below_at hbw3 (Nat.le_refl _) K0.out
        have d1 := below_at hbw3 (Nat.le_refl _) K1.out
        have hs7 := hbw3.size
        have hsx7 : w.heap.size < w3.heap.size := by omega
        have hbz : Below w.heap.size w w3 := HB2.out.trans (hbw3.mono (by omega))
        clear hb2
        have HBW3 := Lib.hid hbw3; have HT3 := Lib.hid hT3; have HBZ := Lib.hid hbz; clear hbw3 hT3 hbz
        go_wp2_with (first | (go_at_call 51; refine (HC2.out _ (HSH.out.later HBZ.out (Nat.le_refl _))).mono ?_; rintro e w4 ⟨rfl, hb4⟩) | (at_builtin; go_must (refine wpList_app1_Tryd rfl _ _ rfl W2.heap.size v2 ld rfl ((HT3.out.later hb4).2.1.alloc _) _ (k : Int) rfl (heap_alloc_new _ _) (by omega) (by have := hb4.size; simp; omega) ?_); intro g2 cap2 w5 hown5 hgrow hat2 hlt2))
        have hbw5 : Below W2.heap.size W2 w5 := ((HBW3.out.trans (hb4.mono (by omega))).alloc (by have := hb4.size; omega) _).grown hgrow (by have := hb4.size; simp; omega) (fun j hj => by have := ((HT3.out.later hb4).2.1.lt j hj).1; omega)
        have hT5 := (((HT3.out.later hb4).alloc _).swap.one hown5 hgrow hat2).swap
        clear hown5 hgrow hat2
        have HBW5 := Lib.hid hbw5; have HT5 := Lib.hid hT5; clear hbw5 hT5
        go_roundw
        case rel => exact ⟨k + 1, _, _, rfl, rfl, by go_num, by omega, by rw [HUP3.out, HDN3.out]; exact HT5.out, HBW5.out⟩
        case measure => simp [intOf]; omega
      · -- 1 1 0
        go_upto_region 9 with (first | (go_at_call 51; refine (HC1.out _ (HSH.out.later HBW.out (Nat.le_refl _))).mono ?_; rintro e w2 ⟨rfl, hb2⟩) | (at_builtin; go_must (refine wpList_app1_Tryd rfl _ _ rfl W2.heap.size v1 lu rfl ((HTW.out.later hb2).1.alloc _) _ (k : Int) rfl (heap_alloc_new _ _) (by omega) (by have := hb2.size; simp; omega) ?_); intro g cap w3 hown3 hgrow hat hlt))
        have hbw3 : Below W2.heap.size W2 w3 := ((HBR.out.trans (hb2.mono (by omega))).alloc (by have := hb2.size; omega) _).grown hgrow (by have := hb2.size; simp; omega) (fun j hj => by have := ((HTW.out.later hb2).1.lt j hj).1; omega)
        have hT3 := ((HTW.out.later hb2).alloc _).one hown3 hgrow hat
        clear hown3 hgrow hat
        have d0 := below_at hbw3 (Nat.le_refl _) K0.out
        have d1 := below_at hbw3 (Nat.le_refl _) K1.out
        have hs7 := hbw3.size
        have hsx7 : w.heap.size < w3.heap.size := by omega
        have hbz : Below w.heap.size w w3 := HB2.out.trans (hbw3.mono (by omega))
        clear hb2
        have HBW3 := Lib.hid hbw3; have HT3 := Lib.hid hT3; have HBZ := Lib.hid hbz; clear hbw3 hT3 hbz
        go_wp2_with (first | (go_at_call 51; refine (HC2.out _ (HSH.out.later HBZ.out (Nat.le_refl _))).mono ?_; rintro e w4 ⟨rfl, hb4⟩) | (at_builtin; go_must (refine wpList_app1_Tryd rfl _ _ rfl W2.heap.size v2 ld rfl ((HT3.out.later hb4).2.1.alloc _) _ (k : Int) rfl (heap_alloc_new _ _) (by omega) (by have := hb4.size; simp; omega) ?_); intro g2 cap2 w5 hown5 hgrow hat2 hlt2))
        have hbw5 : Below W2.heap.size W2 w5 := ((HBW3.out.trans (hb4.mono (by omega))).alloc (by have := hb4.size; omega) _).grown hgrow (by have := hb4.size; simp; omega) (fun j hj => by have := ((HT3.out.later hb4).2.1.lt j hj).1; omega)
        have hT5 := (((HT3.out.later hb4).alloc _).swap.one hown5 hgrow hat2).swap
        clear hown5 hgrow hat2
        have HBW5 := Lib.hid hbw5; have HT5 := Lib.hid hT5; clear hbw5 hT5
        go_roundw
        case rel => exact ⟨k + 1, _, _, rfl, rfl, by go_num, by omega, by rw [HUP3.out, HDN3.out]; exact HT5.out, HBW5.out⟩
        case measure => simp [intOf]; omega
      · -- 1 1 1
        go_upto_region 9 with (first | (go_at_call 51; refine (HC1.out _ (HSH.out.later HBW.out (Nat.le_refl _))).mono ?_; rintro e w2 ⟨rfl, hb2⟩) | (at_builtin; go_must (refine wpList_app1_Tryd rfl _ _ rfl W2.heap.size v1 lu rfl ((HTW.out.later hb2).1.alloc _) _ (k : Int) rfl (heap_alloc_new _ _) (by omega) (by have := hb2.size; simp; omega) ?_); intro g cap w3 hown3 hgrow hat hlt))
        have hbw3 : Below W2.heap.size W2 w3 := ((HBR.out.trans (hb2.mono (by omega))).alloc (by have := hb2.size; omega) _).grown hgrow (by have := hb2.size; simp; omega) (fun j hj => by have := ((HTW.out.later hb2).1.lt j hj).1; omega)
        have hT3 := ((HTW.out.later hb2).alloc _).one hown3 hgrow hat
        clear hown3 hgrow hat
        have d0 := below_at hbw3 (Nat.le_refl _) K0.out
        have d1 := below_at hbw3 (Nat.le_refl _) K1.out
        have hs7 := hbw3.size
        have hsx7 : w.heap.size < w3.heap.size := by omega
        have hbz : Below w.heap.size w w3 := HB2.out.trans (hbw3.mono (by omega))
        clear hb2
        have HBW3 := Lib.hid hbw3; have HT3 := Lib.hid hT3; have HBZ := Lib.hid hbz; clear hbw3 hT3 hbz
        go_wp2_with (first | (go_at_call 51; refine (HC2.out _ (HSH.out.later HBZ.out (Nat.le_refl _))).mono ?_; rintro e w4 ⟨rfl, hb4⟩) | (at_builtin; go_must (refine wpList_app1_Tryd rfl _ _ rfl W2.heap.size v2 ld rfl ((HT3.out.later hb4).2.1.alloc _) _ (k : Int) rfl (heap_alloc_new _ _) (by omega) (by have := hb4.size; simp; omega) ?_); intro g2 cap2 w5 hown5 hgrow hat2 hlt2))
        have hbw5 : Below W2.heap.size W2 w5 := ((HBW3.out.trans (hb4.mono (by omega))).alloc (by have := hb4.size; omega) _).grown hgrow (by have := hb4.size; simp; omega) (fun j hj => by have := ((HT3.out.later hb4).2.1.lt j hj).1; omega)
        have hT5 := (((HT3.out.later hb4).alloc _).swap.one hown5 hgrow hat2).swap
        clear hown5 hgrow hat2
        have HBW5 := Lib.hid hbw5; have HT5 := Lib.hid hT5; clear hbw5 hT5
        go_roundw
        case rel => exact ⟨k + 1, _, _, rfl, rfl, by go_num, by omega, by rw [HUP3.out, HDN3.out]; exact HT5.out, HBW5.out⟩
        case measure => simp [intOf]; omega
    · obtain rfl : k = ws.length := by omega
      have hl1 := plL_le (upB P ws i) ws.length
      have hl2 := plL_le (dnB P ws i) ws.length
      have hin1 := plL_in (upB P ws i) ws.length
      have hin2 := plL_in (dnB P ws i) ws.length
      have hb1 := hTw.1.lt
      have hb2 := hTw.2.1.lt
      obtain ⟨A1, c1, rfl⟩ := own_slice1 hTw.1
      obtain ⟨A2, c2, rfl⟩ := own_slice1 hTw.2.1
      have hU : RdI wx A1 (plL (upB P ws i) ws.length) := ⟨by omega, own_rd hTw.1⟩
      have hD : RdI wx A2 (plL (dnB P ws i) ws.length) := ⟨by omega, own_rd hTw.2.1⟩
      have hnU : ∀ b off, A1 = some ⟨b, off, none⟩ → b ≠ w.heap.size + 1 + 1 := fun b off e h => by subst e; have := (hb1 b rfl).1; omega
      have hnD : ∀ b off, A2 = some ⟨b, off, none⟩ → b ≠ w.heap.size + 1 + 1 := fun b off e h => by subst e; have := (hb2 b rfl).1; omega
      have hOx : wx.heap[w.heap.size + 1 + 1]? = some (.cells #[.int .i64 (i : Int), .slice none 0 0] 37 (0, 0)) := (hbr.block _ hs3).trans HO.out
      have hmr2 := HMR.out
      generalize plL (upB P ws i) ws.length = LU at *
      generalize plL (dnB P ws i) ws.length = LD at *
      have q0 := below_at hbr (Nat.le_refl _) R0.out
      have q1 := below_at hbr (Nat.le_refl _) R1.out
      have g0 := (hbr.frozen (p := ⟨w.heap.size + 1, 0, none⟩) hs4).trans F0.out
      have g1 := (hbr.frozen (p := ⟨w.heap.size + 1, 1, none⟩) hs4).trans F1.out
      have hsx5 : w.heap.size + 1 + 1 < wx.heap.size := by omega
      have HTW := Lib.hid hTw; have HBR := Lib.hid hbr; have HBW := Lib.hid hbw; have HU := Lib.hid hU; have HD := Lib.hid hD; have HNU := Lib.hid hnU; have HND := Lib.hid hnD; have HOX := Lib.hid hOx; have HMR2 := Lib.hid hmr2; have HIN1 := Lib.hid hin1; have HIN2 := Lib.hid hin2; have HB1 := Lib.hid hb1; have HB2 := Lib.hid hb2; have Q0 := Lib.hid q0; have Q1 := Lib.hid q1; have G0 := Lib.hid g0; have G1 := Lib.hid g1; clear hTw hbr hbw hU hD hnU hnD hOx hmr2 hin1 hin2 hb1 hb2 q0 q1 g0 g1
      have D0 := Lib.hid d0
      have D1 := Lib.hid d1
      go_wp2
      clear d0 d1
      go_loopw [11] (fun pv wr => ∃ (p : Nat) (v : Value), pv = .int .i64 p ∧ p ≤ P ∧ wr.heap[w.heap.size + 1 + 1]? = some (.cells #[.int .i64 (i : Int), v] 37 (0, 0)) ∧ wr.ownsRow wx.heap.size 3 1 v (plL (fun p => (bothN (plsOf ws) ws.length i).testBit p) p).length (ints (plL (fun p => (bothN (plsOf ws) ws.length i).testBit p) p)) ∧ wx.grownBy wr (some (w.heap.size + 1 + 1))) (fun pv _ => P - (intOf pv).toNat)
      case atStart => exact ⟨0, _, rfl, Nat.zero_le _, HOX.out, World.ownsRow_nil _ _ _ _, World.grownBy.refl _ _⟩
      case round =>
        obtain ⟨p, v, rfl, hp, hO, hown, hgr⟩ := hrel
        obtain ⟨wy, rfl⟩ : ∃ wy : World, wy = wr := ⟨_, rfl⟩
        have hsy := hgr.size
        have d0 := GB.cell hgr D0.out (by simp; omega)
        have d1 := GB.cell hgr D1.out (by simp; omega)
        have hby : Below w.heap.size w wy := HBW.out.trans (GB.below hgr (by omega) (by omega))
        have hvl := hown.lt
        have hsy0 : w.heap.size < wy.heap.size := by omega
        by_cases hpP : p < P
        · have hmp := HMR2.out p
          have hc1 := fun W h1 h2 => rtaken_ (P : Int) (p : Int) A A1 c c1 ws LU W h1 h2 HIN1.out HPL.out
          have hc2 := fun W h1 h2 => rtaken_ (P : Int) (p : Int) A A2 c c2 ws LD W h1 h2 HIN2.out HPL.out
          have hU2 := rdI_grb HU.out hgr HNU.out
          have hD2 := rdI_grb HD.out hgr HND.out
          have hyes := plL_yes (f := fun p => (bothN (plsOf ws) ws.length i).testBit p) (k := p)
          have hno := plL_no (f := fun p => (bothN (plsOf ws) ws.length i).testBit p) (k := p)
          have hlp := plL_le (fun p => (bothN (plsOf ws) ws.length i).testBit p) p
          generalize hL2 : plL (fun p => (bothN (plsOf ws) ws.length i).testBit p) (p + 1) = L2 at *
          generalize plL (fun p => (bothN (plsOf ws) ws.length i).testBit p) p = L at *
          generalize tkAny ws LU (p : Int) = t1 at *
          generalize tkAny ws LD (p : Int) = t2 at *
          cases t1 with
          | false =>
            have hno2 := hno (by show (bothN (plsOf ws) ws.length i).testBit p = false; rw [← hmp]; rfl)
            clear hyes hno
            have HO := Lib.hid hO; have HOWN := Lib.hid hown; have HGR := Lib.hid hgr; have HBY := Lib.hid hby; have HVL := Lib.hid hvl; have HMP := Lib.hid hmp; have HC1 := Lib.hid hc1; have HC2 := Lib.hid hc2; have HU2 := Lib.hid hU2; have HD2 := Lib.hid hD2; have HNO2 := Lib.hid hno2; have HL2 := Lib.hid hL2; clear hO hown hgr hby hvl hmp hc1 hc2 hU2 hD2 hno2 hL2
            go_wp2_with (go_at_call 29; refine (HC1.out _ (HSH.out.rd.later HBY.out (Nat.le_refl _)) HU2.out).mono ?_; rintro e w2 ⟨rfl, hb2⟩)
            go_roundw
            case rel => exact ⟨p + 1, v, by go_num, by omega, (hb2.block _ (by omega)).trans HO.out, by rw [HL2.out, HNO2.out]; exact own_below3 HOWN.out hb2, gtr HGR.out (gb_below hb2 _)⟩
            case measure => simp [intOf]; omega
          | true =>
            cases t2 with
            | false =>
              have hno2 := hno (by show (bothN (plsOf ws) ws.length i).testBit p = false; rw [← hmp]; rfl)
              clear hyes hno
              have HO := Lib.hid hO; have HOWN := Lib.hid hown; have HGR := Lib.hid hgr; have HBY := Lib.hid hby; have HVL := Lib.hid hvl; have HMP := Lib.hid hmp; have HC1 := Lib.hid hc1; have HC2 := Lib.hid hc2; have HU2 := Lib.hid hU2; have HD2 := Lib.hid hD2; have HNO2 := Lib.hid hno2; have HL2 := Lib.hid hL2; clear hO hown hgr hby hvl hmp hc1 hc2 hU2 hD2 hno2 hL2
              go_wp2_with (go_at_call 29; first | (with_reducible refine (HC1.out _ (HSH.out.rd.later HBY.out (Nat.le_refl _)) HU2.out).mono ?_; rintro e w2 ⟨rfl, hb2⟩; have n0 := below_at hb2 (Nat.le_refl _) d0; have n1 := below_at hb2 (Nat.le_refl _) d1; have ns := hb2.size; have ns0 : w.heap.size < w2.heap.size := (by omega)) | (with_reducible refine (HC2.out _ (HSH.out.rd.later (HBY.out.trans (hb2.mono HBY.out.size)) (Nat.le_refl _)) (HD2.out.later hb2 (Nat.le_refl _))).mono ?_; rintro e w3 ⟨rfl, hb3⟩))
              go_roundw
              case rel => exact ⟨p + 1, v, by go_num, by omega, (hb3.block _ (by omega)).trans ((hb2.block _ (by omega)).trans HO.out), by rw [HL2.out, HNO2.out]; exact own_below3 (own_below3 HOWN.out hb2) hb3, gtr (gtr HGR.out (gb_below hb2 _)) (gb_below hb3 _)⟩
              case measure => simp [intOf]; omega
            | true =>
              have hyes2 := hyes (by show (bothN (plsOf ws) ws.length i).testBit p = true; rw [← hmp]; rfl)
              clear hyes hno
              have HO := Lib.hid hO; have HOWN := Lib.hid hown; have HGR := Lib.hid hgr; have HBY := Lib.hid hby; have HVL := Lib.hid hvl; have HMP := Lib.hid hmp; have HC1 := Lib.hid hc1; have HC2 := Lib.hid hc2; have HU2 := Lib.hid hU2; have HD2 := Lib.hid hD2; have HYES2 := Lib.hid hyes2; have HL2 := Lib.hid hL2; clear hO hown hgr hby hvl hmp hc1 hc2 hU2 hD2 hyes2 hL2
              go_upto_region 16 with (go_at_call 29; first | (with_reducible refine (HC1.out _ (HSH.out.rd.later HBY.out (Nat.le_refl _)) HU2.out).mono ?_; rintro e w2 ⟨rfl, hb2⟩; have n0 := below_at hb2 (Nat.le_refl _) d0; have n1 := below_at hb2 (Nat.le_refl _) d1; have ns := hb2.size; have ns0 : w.heap.size < w2.heap.size := (by omega)) | (with_reducible refine (HC2.out _ (HSH.out.rd.later (HBY.out.trans (hb2.mono HBY.out.size)) (Nat.le_refl _)) (HD2.out.later hb2 (Nat.le_refl _))).mono ?_; rintro e w3 ⟨rfl, hb3⟩))
              have hO3 := (hb3.block _ (by omega)).trans ((hb2.block _ (by omega)).trans HO.out)
              have hown3 := own_below3 (own_below3 HOWN.out hb2) hb3
              have hg3 := gtr (gtr HGR.out (gb_below hb2 (some (w.heap.size + 1 + 1)))) (gb_below hb3 (some (w.heap.size + 1 + 1)))
              have hOl := lt_of_block hO3
              have c1 := cell_of_row w3 (w.heap.size + 1 + 1) 1 _ _ _ hO3
              have f1 := frozen_of_row w3 (w.heap.size + 1 + 1) 1 _ _ hO3
              simp only [List.getElem?_toArray, List.getElem?_cons_zero, List.getElem?_cons_succ] at c1
              have hN2 : Hid (some (w.heap.size + 1 + 1) ≠ v.ownBlock) := fun h => by have := (HVL.out _ h.symm).1; omega
              have hs33 := hg3.size
              clear hb2 hb3 n0 n1 ns ns0
              have HO3 := Lib.hid hO3; have HOWN3 := Lib.hid hown3; have HG3 := Lib.hid hg3; clear hO3 hown3 hg3
              go_wp2_with (at_builtin; go_must (refine wpList_app1_Tryd rfl _ _ rfl wx.heap.size v L rfl (HOWN3.out.alloc _) _ (p : Int) rfl (heap_alloc_new _ _) (by omega) (by simp; omega) ?_); intro g cap w6 hown6 hgrow hat6 hlt6; have q1 : w6.cell? ⟨w.heap.size + 1 + 1, 1, none⟩ = some v := (hgrow.cell_far ⟨w.heap.size + 1 + 1, 1, none⟩ (by simp; omega) hN2.out).trans (by go_simp); have q2 : w6.frozen? ⟨w.heap.size + 1 + 1, 1, none⟩ = false := (hgrow.frozen_far ⟨w.heap.size + 1 + 1, 1, none⟩ (by simp; omega) hN2.out).trans (by go_simp); have q3 : w.heap.size + 1 + 1 < w6.heap.size := (by have := hgrow.size; simp at this; omega))
              go_roundw
              case rel =>
                refine ⟨p + 1, _, by go_num, by omega, ?_, by rw [HL2.out, HYES2.out]; exact ownsRow_setCell_below (by simpa using hown6) (by show w.heap.size + 1 + 1 < wx.heap.size; omega) _, ?_⟩
                · exact heap_setCell_same _ _ 1 _ _ _ ((hgrow.block _ (by simp; omega) hN2.out).trans ((Below.heap_alloc w3 _ _ hOl).trans HO3.out))
                · exact GB.setCell (GB.grown (GB.alloc HG3.out _) hgrow (fun j hj => (HVL.out j hj).1)) (.inl rfl) _
              case measure => simp [intOf]; omega
        · obtain rfl : p = P := by omega
          have hfin : plL (fun p => (bothN (plsOf ws) ws.length i).testBit p) 24 = plL (fun p => (bothN (plsOf ws) ws.length i).testBit p) p := by
            have := plL_more (f := fun p => (bothN (plsOf ws) ws.length i).testBit p) (k := p) (24 - p) fun j h1 h2 => by
              cases h : (bothN (plsOf ws) ws.length i).testBit j with
              | false => rfl
              | true => have := mark_lt HQP.out ((bothN_bit hi).1 h); omega
            rwa [show p + (24 - p) = 24 by omega] at this
          have hlp := plL_le (fun p => (bothN (plsOf ws) ws.length i).testBit p) p
          obtain ⟨A3, c3, rfl⟩ := own_slice1 hown
          have c0 := cell_of_row wy (w.heap.size + 1 + 1) 0 _ _ _ hO
          have c1 := cell_of_row wy (w.heap.size + 1 + 1) 1 _ _ _ hO
          simp only [List.getElem?_toArray, List.getElem?_cons_zero, List.getElem?_cons_succ] at c0 c1
          have m0 := GB.cell hgr Q0.out (by simp)
          have m1 := GB.cell hgr Q1.out (by simp)
          have n0 : wy.frozen? ⟨w.heap.size + 1, 0, none⟩ = false := (hgr.frozen_far ⟨w.heap.size + 1, 0, none⟩ (by simp; omega) (by simp)).trans G0.out
          have n1 : wy.frozen? ⟨w.heap.size + 1, 1, none⟩ = false := (hgr.frozen_far ⟨w.heap.size + 1, 1, none⟩ (by simp; omega) (by simp)).trans G1.out
          have hsy1 : w.heap.size + 1 < wy.heap.size := by omega
          have hsy2 : w.heap.size + 1 + 1 < wy.heap.size := by omega
          generalize plL (fun p => (bothN (plsOf ws) ws.length i).testBit p) p = L at *
          have HO := Lib.hid hO; have HOWN := Lib.hid hown; have HGR := Lib.hid hgr; have HBY := Lib.hid hby; have HVL := Lib.hid hvl; have HFIN := Lib.hid hfin; clear hO hown hgr hby hvl hfin
          go_wp2
          have hown2 := ownsRow_setCell_below (ownsRow_setCell_below HOWN.out (a := ⟨w.heap.size + 1, 0, none⟩) (by show w.heap.size + 1 < wx.heap.size; omega) (.int .i64 (i : Int))) (a := ⟨w.heap.size + 1, 1, none⟩) (by show w.heap.size + 1 < wx.heap.size; omega) (.slice A3 L.length c3)
          refine bodyPost_ret (v := .agg #[.int .i64 (i : Int), .slice A3 L.length c3]) (by simp [results, Tryd.results40, go_sem, m0, m1]) rfl ⟨A3, c3, by rw [HFIN.out], by rw [HFIN.out]; exact ⟨by omega, own_rd hown2⟩, ?_, ?_⟩
          · intro b off hb
            subst hb
            have := hown2.lt b rfl
            exact ⟨by omega, this.2⟩
          · exact (HBY.out.setCell (by show w.heap.size ≤ w.heap.size + 1; omega) _).setCell (by show w.heap.size ≤ w.heap.size + 1; omega) _
end Go.Proofs.YtnplcephmidjbaaDoor
/- The reference of package pairs: Bound. -/
namespace Go.Proofs.YtnplcephmidjbaaDoor
open Go.RowKit

set_option maxRecDepth 100000 in
set_option maxHeartbeats 1000000 in
theorem rBound_bad (p : Int) (A : Option Addr) (c : Nat) (ws : List GW) (w : World) (hsh : ShIn w p A ws) (hx : bndX p ws ≠ 0) :
    Calls Tryd.prog 19 #[.agg #[.int .i64 p, .slice A ws.length c]] w (BndPost [] 0 (bndX p ws) w) := by
  have hb2 : Below w.heap.size w ((w.alloc (.cells #[.int .i64 p, .slice A ws.length c] 24)).alloc (.cells #[.int .i64 0, .slice none 0 0] 37)) := ((Below.refl _ _).alloc (Nat.le_refl _) _).alloc (by simp) _
  obtain ⟨hp1, hp2, ha⟩ := hsh
  by_cases he : errSheet p ws = 0
  · have hr : bndX p ws = 4 ∧ ws.length = 0 := by
      unfold bndX at hx ⊢
      rw [if_pos he] at hx ⊢
      by_cases h : ws.length = 0
      · rw [if_pos h]; exact ⟨rfl, h⟩
      · rw [if_neg h] at hx; exact absurd rfl hx
    obtain ⟨hr, hl0⟩ := hr
    have hl1 : ((ws.length : Int) == 0) = true := by simp [hl0]
    have HA := Lib.hid ha; have HB2 := Lib.hid hb2; have HE := Lib.hid he; have HR := Lib.hid hr; have HL0 := Lib.hid hl0; clear ha hb2 he hr hl0
    clear hx
    go_enter Tryd.func19, Tryd.ntmps19
    go_wp2_with fail
    refine (rCheck_ _ _ _ _ _ hp1 hp2 (HA.out.later HB2.out (Nat.le_refl _))).mono ?_
    rw [HE.out]
    rintro e w1 ⟨rfl, hb1⟩
    have a1 : w1.cell? ⟨w.heap.size, 1, none⟩ = some (.slice A ws.length c) := below_at hb1 (Nat.le_refl _) (by go_simp)
    have c0 : w1.cell? ⟨w.heap.size + 1, 0, none⟩ = some (.int .i64 0) := below_at hb1 (Nat.le_refl _) (by go_simp)
    have c1 : w1.cell? ⟨w.heap.size + 1, 1, none⟩ = some (.slice none 0 0) := below_at hb1 (Nat.le_refl _) (by go_simp)
    have f0 : w1.frozen? ⟨w.heap.size + 1, 0, none⟩ = false := (hb1.frozen (p := ⟨w.heap.size + 1, 0, none⟩) (by simp)).trans (by go_simp)
    have f1 : w1.frozen? ⟨w.heap.size + 1, 1, none⟩ = false := (hb1.frozen (p := ⟨w.heap.size + 1, 1, none⟩) (by simp)).trans (by go_simp)
    have hs1 : w.heap.size + 1 < w1.heap.size := by have := hb1.size; simp at this; omega
    have hs0 : w.heap.size < w1.heap.size := by omega
    have Y1 := Lib.hid (HB2.out.trans (hb1.mono (by simp; omega)))
    clear hb1
    go_wp2
    refine bodyPost_ret (v := .tuple #[.agg #[.int .i64 0, .slice none 0 0], .int .i64 4]) (by simp [results, Tryd.results19, go_sem, c0, c1]) rfl ⟨.slice none 0 0, by rw [HR.out]; rfl, RdV.nil _, ?_⟩
    exact (Y1.out.setCell (by show w.heap.size ≤ w.heap.size + 1; omega) _).setCell (by show w.heap.size ≤ w.heap.size + 1; omega) _
  · have hr : bndX p ws = errSheet p ws := by unfold bndX; rw [if_neg he]
    have HA := Lib.hid ha; have HB2 := Lib.hid hb2; have HR := Lib.hid hr; clear ha hb2 hr
    clear hx
    go_enter Tryd.func19, Tryd.ntmps19
    go_wp2_with fail
    refine (rCheck_ _ _ _ _ _ hp1 hp2 (HA.out.later HB2.out (Nat.le_refl _))).mono ?_
    rintro e w1 ⟨rfl, hb1⟩
    have c0 : w1.cell? ⟨w.heap.size + 1, 0, none⟩ = some (.int .i64 0) := below_at hb1 (Nat.le_refl _) (by go_simp)
    have c1 : w1.cell? ⟨w.heap.size + 1, 1, none⟩ = some (.slice none 0 0) := below_at hb1 (Nat.le_refl _) (by go_simp)
    have f0 : w1.frozen? ⟨w.heap.size + 1, 0, none⟩ = false := (hb1.frozen (p := ⟨w.heap.size + 1, 0, none⟩) (by simp)).trans (by go_simp)
    have f1 : w1.frozen? ⟨w.heap.size + 1, 1, none⟩ = false := (hb1.frozen (p := ⟨w.heap.size + 1, 1, none⟩) (by simp)).trans (by go_simp)
    have hs1 : w.heap.size + 1 < w1.heap.size := by have := hb1.size; simp at this; omega
    have Y1 := Lib.hid (HB2.out.trans (hb1.mono (by simp; omega)))
    clear hb1
    generalize hge : errSheet p ws = E at *
    have HGE := Lib.hid hge; clear hge
    go_wp2
    refine bodyPost_ret (v := .tuple #[.agg #[.int .i64 0, .slice none 0 0], .int .i64 E]) (by simp [results, Tryd.results19, go_sem, c0, c1]) rfl ⟨.slice none 0 0, by rw [HR.out]; rfl, RdV.nil _, ?_⟩
    exact (Y1.out.setCell (by show w.heap.size ≤ w.heap.size + 1; omega) _).setCell (by show w.heap.size ≤ w.heap.size + 1; omega) _
theorem two_set3 {w : World} {S : Nat} {x y : Value} {T : TypeId} (h : w.heap[S]? = some (.cells #[x, y] T (0, 0))) (a b : Value) : ((w.setCell ⟨S, 0, none⟩ a).setCell ⟨S, 1, none⟩ b).heap[S]? = some (.cells #[a, b] T (0, 0)) :=
  heap_setCell_same _ S 1 _ _ b (heap_setCell_same _ S 0 _ _ a h)
theorem rdI_off {w : World} {A : Option Addr} {l : List Int} {S : Nat} (h : RdI w A l) (hne : ∀ b off, A = some ⟨b, off, none⟩ → b ≠ S) (j : Nat) (u : Value) : RdI (w.setCell ⟨S, j, none⟩ u) A l := by
  refine ⟨h.1, fun h0 => ?_⟩
  obtain ⟨b, off, e, hlt, hc⟩ := h.2 h0
  refine ⟨b, off, e, by simpa using hlt, fun i hi => ?_⟩
  rw [World.cell?_setCell_other _ _ _ _ (by simp; intro h; exact absurd h.symm (hne b off e))]
  exact hc i hi
set_option maxRecDepth 100000 in
set_option maxHeartbeats 4000000 in
theorem rBound_ok (P : Nat) (A : Option Addr) (c : Nat) (ws : List GW) (w : World) (hok : errSheet P ws = 0) (hn0 : 0 < ws.length) (hsh : ShIn w P A ws) :
    Calls Tryd.prog 19 #[.agg #[.int .i64 (P : Int), .slice A ws.length c]] w (BndPost (plL (fun p => (bothN (plsOf ws) ws.length (bstW (mrkC (plsOf ws) ws.length) ws.length)).testBit p) 24) (bstW (mrkC (plsOf ws) ws.length) ws.length) 0 w) := by
  have hb2 : Below w.heap.size w ((w.alloc (.cells #[.int .i64 P, .slice A ws.length c] 24)).alloc (.cells #[.int .i64 0, .slice none 0 0] 37)) := ((Below.refl _ _).alloc (Nat.le_refl _) _).alloc (by simp) _
  have hP24 : P ≤ 24 := by have := (okAll hok).2.1; omega
  have hn4 := (okAll hok).2.2.1
  have hl1 : ((ws.length : Int) == 0) = false := by rw [beq_eq_false_iff_ne]; omega
  have HSH := Lib.hid hsh; have HB2 := Lib.hid hb2; have HOK := Lib.hid hok; clear hsh hb2 hok
  go_enter Tryd.func19, Tryd.ntmps19
  go_wp2_with fail
  refine (rCheck_ _ _ _ _ _ (by omega) (by omega) (HSH.out.rd.later HB2.out (Nat.le_refl _))).mono ?_
  rw [HOK.out]
  rintro e w1 ⟨rfl, hb1⟩
  have a0 : w1.cell? ⟨w.heap.size, 0, none⟩ = some (.int .i64 (P : Int)) := below_at hb1 (Nat.le_refl _) (by go_simp)
  have a1 : w1.cell? ⟨w.heap.size, 1, none⟩ = some (.slice A ws.length c) := below_at hb1 (Nat.le_refl _) (by go_simp)
  have C0 : Hid (w1.cell? ⟨w.heap.size + 1, 0, none⟩ = some (.int .i64 0)) := below_at hb1 (Nat.le_refl _) (by go_simp)
  have C1 : Hid (w1.cell? ⟨w.heap.size + 1, 1, none⟩ = some (.slice none 0 0)) := below_at hb1 (Nat.le_refl _) (by go_simp)
  have F0 : Hid (w1.frozen? ⟨w.heap.size + 1, 0, none⟩ = false) := (hb1.frozen (p := ⟨w.heap.size + 1, 0, none⟩) (by simp)).trans (by go_simp)
  have F1 : Hid (w1.frozen? ⟨w.heap.size + 1, 1, none⟩ = false) := (hb1.frozen (p := ⟨w.heap.size + 1, 1, none⟩) (by simp)).trans (by go_simp)
  have hs1 : w.heap.size + 1 < w1.heap.size := by have := hb1.size; simp at this; omega
  have hs0 : w.heap.size < w1.heap.size := by omega
  have Y1 := Lib.hid (HB2.out.trans (hb1.mono (by simp; omega)))
  have A0 := Lib.hid a0
  have A1 := Lib.hid a1
  clear hb1
  have hm0 := rMark_ P 0 A c ws w1 HOK.out hn0 (HSH.out.later Y1.out (Nat.le_refl _))
  rw [show ((0 : Nat) : Int) = 0 from rfl] at hm0
  have HM0 := Lib.hid hm0; clear hm0
  go_wp2_with fail
  refine HM0.out.mono ?_
  rintro e w2 ⟨M, mc, rfl, hM, hMb, hb1⟩
  rw [show ((0 : Nat) : Int) = 0 from rfl]
  have hs2 := hb1.size
  have hO2 : (w2.alloc (.cells #[.int .i64 0, .slice M (plL (fun p => (bothN (plsOf ws) ws.length 0).testBit p) 24).length mc] 37)).heap[w2.heap.size]? = some (.cells #[.int .i64 ((0 : Nat) : Int), .slice M (plL (fun p => (bothN (plsOf ws) ws.length 0).testBit p) 24).length mc] 37 (0, 0)) := heap_alloc_new _ _
  have hM2 : RdI (w2.alloc (.cells #[.int .i64 0, .slice M (plL (fun p => (bothN (plsOf ws) ws.length 0).testBit p) 24).length mc] 37)) M (plL (fun p => (bothN (plsOf ws) ws.length 0).testBit p) 24) := hM.later ((Below.refl _ _).alloc (Nat.le_refl _) _) (Nat.le_refl _)
  have hnb : ∀ b off, M = some ⟨b, off, none⟩ → b ≠ w2.heap.size ∧ b ≠ w.heap.size + 1 := fun b off e => by have := hMb b off e; omega
  have hb3 : Below w1.heap.size w1 (w2.alloc (.cells #[.int .i64 0, .slice M (plL (fun p => (bothN (plsOf ws) ws.length 0).testBit p) 24).length mc] 37)) := hb1.alloc hs2 _
  have hbw1 : bstW (mrkC (plsOf ws) ws.length) 1 = 0 := by unfold bstW bstW; split <;> rfl
  have HO2 := Lib.hid hO2; have HM2 := Lib.hid hM2; have HNB := Lib.hid hnb; have HB3 := Lib.hid hb3; have HBW1 := Lib.hid hbw1; clear hO2 hM2 hnb hb3 hbw1
  clear hM hMb hb1 HM0
  go_wp2
  clear a0 a1
  obtain ⟨PL, hPL⟩ : ∃ PL : Nat → List Int, PL = fun i => plL (fun p => (bothN (plsOf ws) ws.length i).testBit p) 24 := ⟨_, rfl⟩
  have hPL0 : plL (fun p => (bothN (plsOf ws) ws.length 0).testBit p) 24 = PL 0 := by rw [hPL]
  have hPLb : plL (fun p => (bothN (plsOf ws) ws.length (bstW (mrkC (plsOf ws) ws.length) ws.length)).testBit p) 24 = PL (bstW (mrkC (plsOf ws) ws.length) ws.length) := by rw [hPL]
  have hPLl : ∀ i, (PL i).length = mrkC (plsOf ws) ws.length i := fun i => by rw [hPL]; exact plL_len _ _
  have hmark := fun i hi W h => rMark_ P i A c ws W HOK.out hi h
  have hmark2 : ∀ i, i < ws.length → ∀ W, ShIn W P A ws → Calls Tryd.prog 40 #[.agg #[.int .i64 (P : Int), .slice A ws.length c], .int .i64 (i : Int)] W (MarkPost (PL i) i W) := fun i hi W h => by rw [hPL]; exact hmark i hi W h
  obtain ⟨W3, hW3⟩ : ∃ W3, W3 = w2.alloc (.cells #[.int .i64 0, .slice M (plL (fun p => (bothN (plsOf ws) ws.length 0).testBit p) 24).length mc] 37) := ⟨_, rfl⟩
  have hO3 := HO2.out
  have hM3 := HM2.out
  have hb4 := HB3.out
  rw [← hW3] at hO3 hM3 hb4
  rw [hPL0] at hO3 hM3
  rw [← hW3]
  have hs3 : W3.heap.size = w2.heap.size + 1 := by rw [hW3]; simp
  have HO3 := Lib.hid hO3; have HM3 := Lib.hid hM3; have HB4 := Lib.hid hb4; have HPL := Lib.hid hPL; have HPL0 := Lib.hid hPL0; have HPLB := Lib.hid hPLb; have HPLL := Lib.hid hPLl; have HMARK2 := Lib.hid hmark2; clear hO3 hM3 hb4 hPL hPL0 hPLb hPLl hmark2
  clear hmark HO2 HM2 HB3 hW3
  go_loopw [6] (fun iv wr => ∃ (k : Nat) (B : Option Addr) (d : Nat), iv = .int .i64 k ∧ 1 ≤ k ∧ k ≤ ws.length ∧ wr.heap[w2.heap.size]? = some (.cells #[.int .i64 (bstW (mrkC (plsOf ws) ws.length) k : Int), .slice B (PL (bstW (mrkC (plsOf ws) ws.length) k)).length d] 37 (0, 0)) ∧ RdI wr B (PL (bstW (mrkC (plsOf ws) ws.length) k)) ∧ (∀ b off, B = some ⟨b, off, none⟩ → b ≠ w2.heap.size ∧ b ≠ w.heap.size + 1) ∧ Below w1.heap.size w1 wr) (fun iv _ => ws.length - (intOf iv).toNat)
  case atStart => exact ⟨1, M, mc, rfl, Nat.le_refl _, hn0, by rw [HBW1.out]; exact HO3.out, by rw [HBW1.out]; exact HM3.out, HNB.out, HB4.out⟩
  case round =>
    obtain ⟨k, B, d, rfl, hk1, hk, hO, hB, hnB, hbr⟩ := hrel
    obtain ⟨wx, rfl⟩ : ∃ wx : World, wx = wr := ⟨_, rfl⟩
    have d0 := below_at hbr (Nat.le_refl _) A0.out
    have d1 := below_at hbr (Nat.le_refl _) A1.out
    have hsx := hbr.size
    have hsx0 : w.heap.size < wx.heap.size := by omega
    have hOl := lt_of_block hO
    have hbz := Y1.out.trans (hbr.mono (by omega))
    have hbs : bstW (mrkC (plsOf ws) ws.length) (k + 1) = if mrkC (plsOf ws) ws.length (bstW (mrkC (plsOf ws) ws.length) k) < mrkC (plsOf ws) ws.length k then k else bstW (mrkC (plsOf ws) ws.length) k := rfl
    by_cases hkn : k < ws.length
    · have hl1 := HPLL.out (bstW (mrkC (plsOf ws) ws.length) k)
      have hl2 := HPLL.out k
      generalize hbk : bstW (mrkC (plsOf ws) ws.length) k = bk at *
      generalize hbk1 : bstW (mrkC (plsOf ws) ws.length) (k + 1) = bk1 at *
      rw [← hl1, ← hl2] at hbs
      clear hl1 hl2
      have hmk := HMARK2.out k hkn wx (HSH.out.later hbz (Nat.le_refl _))
      have HNB2 := Lib.hid hnB
      have HO := Lib.hid hO; have HB := Lib.hid hB; have HBR := Lib.hid hbr; have HBZ := Lib.hid hbz; have HBK := Lib.hid hbk; have HBK1 := Lib.hid hbk1; have HMK := Lib.hid hmk; clear hO hB hbr hbz hbk hbk1 hmk
      clear hnB
      go_upto_region 11 with (go_at_call 40; refine HMK.out.mono ?_; rintro e w3 ⟨C, cc, rfl, hC, hCb, hb3⟩)
      have hO4 : (w3.alloc (.cells #[.int .i64 (k : Int), .slice C (PL k).length cc] 37)).heap[w2.heap.size]? = some (.cells #[.int .i64 (bk : Int), .slice B (PL bk).length d] 37 (0, 0)) := (Below.heap_alloc w3 _ _ (by have := hb3.size; omega)).trans ((hb3.block _ hOl).trans HO.out)
      have hO3b := (hb3.block _ hOl).trans HO.out
      have c0 := cell_of_row _ w2.heap.size 0 _ _ _ hO3b
      have c1 := cell_of_row _ w2.heap.size 1 _ _ _ hO3b
      have f0 := frozen_of_row _ w2.heap.size 0 _ _ hO3b
      have f1 := frozen_of_row _ w2.heap.size 1 _ _ hO3b
      simp only [List.getElem?_toArray, List.getElem?_cons_zero, List.getElem?_cons_succ] at c0 c1
      have hs33 := hb3.size
      have hbl : w2.heap.size < w3.heap.size := by omega
      have hbe5 : Below w1.heap.size w1 (w3.alloc (.cells #[.int .i64 (k : Int), .slice C (PL k).length cc] 37)) := (HBR.out.trans (hb3.mono hsx)).alloc (by omega) _
      have hC5 : RdI (w3.alloc (.cells #[.int .i64 (k : Int), .slice C (PL k).length cc] 37)) C (PL k) := hC.later ((Below.refl _ _).alloc (Nat.le_refl _) _) (Nat.le_refl _)
      have hB5 : RdI (w3.alloc (.cells #[.int .i64 (k : Int), .slice C (PL k).length cc] 37)) B (PL bk) := (HB.out.later hb3 (Nat.le_refl _)).later ((Below.refl _ _).alloc (Nat.le_refl _) _) (Nat.le_refl _)
      have hnC : ∀ b off, C = some ⟨b, off, none⟩ → b ≠ w2.heap.size ∧ b ≠ w.heap.size + 1 := fun b off e => by have := hCb b off e; omega
      by_cases hlt : (PL bk).length < (PL k).length
      · rw [if_pos hlt] at hbs
        have hpl2 : PL bk1 = PL k := by rw [hbs]
        have hset := two_set3 hO3b (.int .i64 (k : Int)) (.slice C (PL k).length cc)
        generalize hll : (PL k).length = LK at *
        generalize hlb : (PL bk).length = LB at *
        have hbw3 := HBR.out.trans (hb3.mono hsx)
        clear hCb hb3 hB5 hC5 hO4 hbe5
        have HC := Lib.hid hC; have HO3B := Lib.hid hO3b; have HBW3 := Lib.hid hbw3; have HNC := Lib.hid hnC; have HSET := Lib.hid hset; have HPL2 := Lib.hid hpl2; have HBS := Lib.hid hbs; have HLL := Lib.hid hll; have HLB := Lib.hid hlb; clear hC hO3b hbw3 hnC hset hpl2 hbs hll hlb
        go_wp2
        go_roundw
        case rel =>
          refine ⟨k + 1, C, cc, by go_num, by omega, by omega, ?_, ?_, HNC.out, ?_⟩
          · rw [HBK1.out, HPL2.out, HLL.out, HBS.out]; exact (heap_alloc_old _ _ (lt_of_block HSET.out)).trans HSET.out
          · rw [HBK1.out, HPL2.out]; exact (rdI_off (rdI_off HC.out (fun b off e => (HNC.out b off e).1) _ _) (fun b off e => (HNC.out b off e).1) _ _).later ((Below.refl _ _).alloc (Nat.le_refl _) _) (Nat.le_refl _)
          · exact ((HBW3.out.setCell (by show w1.heap.size ≤ w2.heap.size; omega) _).setCell (by show w1.heap.size ≤ w2.heap.size; omega) _).alloc (by simp; omega) _
        case measure => simp [intOf]; omega
      · rw [if_neg hlt] at hbs
        have hpl2 : PL bk1 = PL bk := by rw [hbs]
        generalize hll : (PL k).length = LK at *
        generalize hlb : (PL bk).length = LB at *
        clear hC hCb hb3 hO3b
        have HB5b := Lib.hid hB5
        have HO4 := Lib.hid hO4; have HBE5 := Lib.hid hbe5; have HC5 := Lib.hid hC5; have HNC := Lib.hid hnC; have HPL2 := Lib.hid hpl2; have HBS := Lib.hid hbs; have HLL := Lib.hid hll; have HLB := Lib.hid hlb; clear hO4 hbe5 hC5 hnC hpl2 hbs hll hlb
        clear hB5
        go_wp2
        go_roundw
        case rel =>
          refine ⟨k + 1, B, d, by go_num, by omega, by omega, ?_, ?_, HNB2.out, HBE5.out⟩
          · rw [HBK1.out, HPL2.out, HLB.out, HBS.out]; exact HO4.out
          · rw [HBK1.out, HPL2.out]; exact HB5b.out
        case measure => simp [intOf]; omega
    · obtain rfl : k = ws.length := by omega
      have c0 := cell_of_row _ w2.heap.size 0 _ _ _ hO
      have c1 := cell_of_row _ w2.heap.size 1 _ _ _ hO
      simp only [List.getElem?_toArray, List.getElem?_cons_zero, List.getElem?_cons_succ] at c0 c1
      have m0 := below_at hbr (Nat.le_refl _) C0.out
      have m1 := below_at hbr (Nat.le_refl _) C1.out
      have n0 : wx.frozen? ⟨w.heap.size + 1, 0, none⟩ = false := (hbr.frozen (p := ⟨w.heap.size + 1, 0, none⟩) hs1).trans F0.out
      have n1 : wx.frozen? ⟨w.heap.size + 1, 1, none⟩ = false := (hbr.frozen (p := ⟨w.heap.size + 1, 1, none⟩) hs1).trans F1.out
      have hsx1 : w.heap.size + 1 < wx.heap.size := by omega
      generalize hbk : bstW (mrkC (plsOf ws) ws.length) ws.length = bk at *
      generalize hLk : PL bk = L at *
      have HO := Lib.hid hO; have HB := Lib.hid hB; have HNB := Lib.hid hnB; have HBR := Lib.hid hbr; have HBZ := Lib.hid hbz; have HBK := Lib.hid hbk; have HLK := Lib.hid hLk; have HBS := Lib.hid hbs; clear hO hB hnB hbr hbz hbk hLk hbs
      go_wp2
      refine bodyPost_ret (v := .tuple #[.agg #[.int .i64 (bk : Int), .slice B L.length d], .int .i64 0]) (by simp [results, Tryd.results19, go_sem, m0, m1]) rfl ⟨.slice B L.length d, by rw [HBK.out], ?_, ?_⟩
      · rw [HBK.out, HPLB.out]
        exact ⟨B, d, rfl, rdI_off (rdI_off HB.out (fun b off e => (HNB.out b off e).2) _ _) (fun b off e => (HNB.out b off e).2) _ _⟩
      · exact (HBZ.out.setCell (by show w.heap.size ≤ w.heap.size + 1; omega) _).setCell (by show w.heap.size ≤ w.heap.size + 1; omega) _
theorem rBound_ (p : Int) (A : Option Addr) (c : Nat) (ws : List GW) (w : World) (hsh : ShIn w p A ws) :
    Calls Tryd.prog 19 #[.agg #[.int .i64 p, .slice A ws.length c]] w (BndPost (bndL p ws) (bndW p ws) (bndX p ws) w) := by
  by_cases hx : bndX p ws = 0
  · have hel : errSheet p ws = 0 ∧ 0 < ws.length := by
      have h := hx
      unfold bndX at h
      by_cases he : errSheet p ws = 0
      · rw [if_pos he] at h
        refine ⟨he, ?_⟩
        by_cases hl : ws.length = 0
        · rw [if_pos hl] at h; exact absurd h (by decide)
        · omega
      · rw [if_neg he] at h; exact absurd h he
    obtain ⟨he, hl⟩ := hel
    have hp2 := (okAll he).1
    obtain ⟨P, rfl⟩ := Int.eq_ofNat_of_zero_le (show 0 ≤ p by omega)
    unfold bndL bndW
    rw [if_pos hx, if_pos hx, hx]
    exact rBound_ok P A c ws w he hl hsh
  · unfold bndL bndW
    rw [if_neg hx, if_neg hx]
    exact rBound_bad p A c ws w hsh hx
end Go.Proofs.YtnplcephmidjbaaDoor
