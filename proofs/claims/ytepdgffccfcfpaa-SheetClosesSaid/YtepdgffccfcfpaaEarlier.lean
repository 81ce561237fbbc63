/- The program's earlier: for each work those that are before it. -/
import Derived.Test.YtepdgffccfcfpaaSEdges
import Derived.Test.YtepdgffccfcfpaaSetF
import Derived.Test.YtepdgffccfcfpaaRound
namespace Go.Proofs.Ytepdgffccfcfpaa
open Go Go.RowKit Go.Shelf
attribute [local go_sem] Oper.semAt_some

/-- One edge: what is before its end. -/
def eaStep (F : Nat → Nat) (x : El) : Nat → Nat :=
  if 0 ≤ x.fr ∧ 0 ≤ x.to then updS F x.to.toNat ((F x.to.toNat ||| 2 ^ x.fr.toNat) ||| F x.fr.toNat) else F
def eaF (l : List El) : Nat → Nat := l.foldl eaStep (fun _ => 0)
theorem eaF_snoc (l : List El) (x : El) : eaF (l ++ [x]) = eaStep (eaF l) x := by unfold eaF; rw [List.foldl_append]; rfl
theorem infoS_Try : (Try.prog.info? 67).map (fun i => (i.zero, i.size, i.bytes)) = some (some (.agg #[.int .u64 0, .int .u64 0, .int .u64 0, .int .u64 0, .int .u64 0, .int .u64 0, .int .u64 0]), 7, 56) := by kernel_rfl
def z7 : Array Value := #[.int .u64 0, .int .u64 0, .int .u64 0, .int .u64 0, .int .u64 0, .int .u64 0, .int .u64 0]
theorem run_makeS_Try (m : Nat) (hm : m ≤ 1000) (w : World) : (Instr.makeSlice 68 (.int .i64 (m : Int)) (.int .i64 (m : Int))).run Try.prog w =
    .ok (.slice (some ⟨w.heap.size, 0, none⟩) m m) (w.alloc (.cells (madeCells z7 (m * 7)) 67)) := by
  obtain ⟨i, hi, hzz⟩ := Option.map_eq_some_iff.1 infoS_Try
  simp only [Prod.mk.injEq] at hzz
  obtain ⟨hz, hs, hb⟩ := hzz
  have hr := run_make (P := Try.prog) w 68 67 i _ Try.underlying68 hi hz .i64 .i64 m m (by omega) (Int.le_refl _) (by rw [hb]; omega) (by omega)
  simp only [Int.toNat_natCast, hs] at hr
  exact hr
theorem z7_zero (m : Nat) : madeCells z7 (m * 7) = wCells m (fun _ _ => 0) := by
  apply Array.ext'
  apply List.ext_getElem
  · simp [madeCells, wCells]
  · intro j h1 h2
    have e : ∀ q, q < 7 → z7[q]! = .int .u64 0 := fun q hq => by
      obtain rfl | rfl | rfl | rfl | rfl | rfl | rfl : q = 0 ∨ q = 1 ∨ q = 2 ∨ q = 3 ∨ q = 4 ∨ q = 5 ∨ q = 6 := by omega
      all_goals rfl
    simp only [madeCells, wCells, Array.toList_map, Array.toList_range, List.getElem_map, List.getElem_range]
    rw [show z7.size = 7 from rfl, e (j % 7) (by omega)]
    rfl
theorem wd_zero (k : Nat) : wd 0 k = 0 := by unfold wd; simp
/-- Ends and beginnings of edges are works, and edges go forward. -/
theorem fr_work {P n : Nat} (pls : Nat → Nat) : ∀ k, k ≤ n → ∀ p, (eWork P pls k).fr p < k
  | 0, _ => fun p => by unfold eWork ln0; simp
  | k + 1, hk => fun p => by
    have ih := fr_work (P := P) (n := n) pls k (by omega) p
    unfold eWork sdS sdS sdS eStep Ln.put updF
    simp only
    split
    · omega
    · split <;> omega
theorem fr_side {P : Nat} (pls : Nat → Nat) (k : Nat) : (sdS P (pls k) k (eWork P pls k) 1).fr (pls k + 1) < k := by
  have ih := fr_work (P := P) (n := k) pls k (Nat.le_refl _) (pls k + 1)
  unfold sdS sdS eStep Ln.put updF
  simp only
  rw [if_neg (by omega)]
  exact ih
theorem ends_all {P n : Nat} (pls : Nat → Nat) : ∀ x ∈ eAll P pls n, x.to = -1 ∨ (x.fr < x.to ∧ x.to < n) := by
  have hl : ∀ k, k ≤ n → ∀ x ∈ eList P pls k, x.to = -1 ∨ (x.fr < x.to ∧ x.to < n) := by
    intro k
    induction k with
    | zero => intro _ x hx; cases hx
    | succ k ih =>
      intro hk x hx
      rw [eList, sdL, sdL, sdL] at hx
      rcases List.mem_append.1 hx with hx | hx
      · rcases List.mem_append.1 hx with hx | hx
        · exact ih (by omega) x hx
        · rw [List.mem_singleton.1 hx]
          have := fr_work (P := P) (n := k) pls k (Nat.le_refl _) (pls k + 0)
          exact .inr ⟨this, by show (k : Int) < n; omega⟩
      · rw [List.mem_singleton.1 hx]
        exact .inr ⟨fr_side pls k, by show (k : Int) < n; omega⟩
  intro x hx
  rcases List.mem_append.1 hx with hx | hx
  · exact hl n (Nat.le_refl _) x hx
  · obtain ⟨p, hp, rfl⟩ := List.mem_map.1 hx
    exact .inl rfl
/-- What earlier returns of a valid sheet. -/
def EarlierPost (P : Nat) (ws : List GW) (w : World) (e : Ending) (w' : World) : Prop :=
  ∃ R, e = .returned (.slice (some ⟨R, 0, none⟩) ws.length ws.length) ∧ SB w' R ws.length (eaF (eAll P (plsOf ws) ws.length)) ∧ w.heap.size ≤ R ∧ Below w.heap.size w w'

set_option maxRecDepth 100000 in
set_option maxHeartbeats 4000000 in
theorem earlier_ (P : Nat) (A : Option Addr) (c : Nat) (ws : List GW) (w : World) (hok : errSheet P ws = 0) (ha : RdW w A ws) :
    Calls Try.prog 45 #[.agg #[.int .i64 (P : Int), .slice A ws.length c]] w (EarlierPost P ws w) := by
  obtain ⟨hp2, hp24, hn, hall⟩ := okAll hok
  have hpl : ∀ x ∈ ws, 0 ≤ x.pl ∧ x.pl ≤ (P : Int) - 2 := fun x hx => ⟨(hall x hx).2.1, (hall x hx).2.2.1⟩
  have hends := ends_all (P := P) (n := ws.length) (plsOf ws)
  have hmk1 := run_makeS_Try ws.length (by omega)
  have HA := Lib.hid ha; have HALL := Lib.hid hall; have HPL := Lib.hid hpl; have HENDS := Lib.hid hends; clear ha hall hpl hends
  refine (callsIn_wide (n := 3)).1 ?_
  refine callsIn_of_wp_marks Try.func45 rfl trivial ?_ rfl
  simp only [Try.ntmps45, List.size_toArray, List.length_cons, List.length_nil, Nat.reduceAdd, Nat.reduceSub, Array.replicate_succ, Array.replicate_zero, List.push_toArray, List.append_toArray, List.nil_append, List.cons_append]
  refine wpIn_wide.2 ?_
  go_wp2_with fail
  clear hmk1
  refine (edges_ _ _ _).mono ?_
  rintro e w2 ⟨rfl, rfl⟩
  go_wp2_with fail
  obtain ⟨w2, hw2⟩ : ∃ w2, w2 = (((w.alloc (.cells #[.int .i64 (P : Int), .slice A ws.length c] 24)).alloc (.cells (madeCells z7 (ws.length * 7)) 67)).alloc (.cells #[.slice (some ⟨w.heap.size + 1, 0, none⟩) ws.length ws.length] 68)).alloc
    (.cells #[.int .i64 (P : Int), .slice A ws.length c] 24) := ⟨_, rfl⟩
  have hs2 : w2.heap.size = w.heap.size + 4 := by rw [hw2]; simp
  have hF2 : SB w2 (w.heap.size + 1) ws.length (eaF []) := by
    unfold SB
    refine WB.congr (G := fun _ _ => 0) ?_ (fun b k _ _ => (wd_zero k).symm)
    unfold WB
    rw [hw2, Below.heap_alloc _ _ _ (by first | (simp; done) | (simp; omega)), Below.heap_alloc _ _ _ (by first | (simp; done) | (simp; omega))]
    have := heap_alloc_new (w.alloc (.cells #[.int .i64 (P : Int), .slice A ws.length c] 24)) (.cells (madeCells z7 (ws.length * 7)) 67)
    rw [World.size_alloc] at this
    rw [this, z7_zero]
  have hO2 : w2.heap[w.heap.size + 1 + 1]? = some (.cells #[.slice (some ⟨w.heap.size + 1, 0, none⟩) ws.length ws.length] 68 (0, 0)) := by
    rw [hw2, Below.heap_alloc _ _ _ (by simp)]
    have := heap_alloc_new ((w.alloc (.cells #[.int .i64 (P : Int), .slice A ws.length c] 24)).alloc (.cells (madeCells z7 (ws.length * 7)) 67)) (.cells #[.slice (some ⟨w.heap.size + 1, 0, none⟩) ws.length ws.length] 68)
    rwa [World.size_alloc, World.size_alloc] at this
  have hS2 : w2.heap[w.heap.size + 1 + 1 + 1]? = some (.cells #[.int .i64 (P : Int), .slice A ws.length c] 24 (0, 0)) := by
    rw [hw2]
    have := heap_alloc_new (((w.alloc (.cells #[.int .i64 (P : Int), .slice A ws.length c] 24)).alloc (.cells (madeCells z7 (ws.length * 7)) 67)).alloc (.cells #[.slice (some ⟨w.heap.size + 1, 0, none⟩) ws.length ws.length] 68)) (.cells #[.int .i64 (P : Int), .slice A ws.length c] 24)
    rwa [World.size_alloc, World.size_alloc, World.size_alloc] at this
  have hb12 : Below w.heap.size w w2 := by
    rw [hw2]; exact ((((Below.refl _ _).alloc (Nat.le_refl _) _).alloc (by simp) _).alloc (by simp; omega) _).alloc (by simp; omega) _
  rw [← hw2]
  clear hw2
  have hseq := edges1_ (w.heap.size + 1 + 1 + 1) P c A ws w2 (fun i => i = w.heap.size + 1) (by omega) (by omega) hn HPL.out hS2 (HA.out.later hb12 (Nat.le_refl _)) (fun i h => by omega) (by omega) (fun h0 b off e h => by have := rdW_lt HA.out h0 b off e; omega)
  refine (wpIn_wide (n := 3)).1 ?_
  refine wp_iter (α := El) (gf := 49) (lb := #[.pointer (some ⟨w.heap.size + 1 + 1 + 1, 0, none⟩)]) rfl (enters_of Try.func49 (by kernel_rfl) rfl) (encs := El.enc) (eAll P (plsOf ws) ws.length) (fun i => i = w.heap.size + 1) (fun i h => by omega) (fun _ => rfl) hseq
    (fun pre W => SB W (w.heap.size + 1) ws.length (eaF pre) ∧ W.heap[w.heap.size + 1 + 1]? = some (.cells #[.slice (some ⟨w.heap.size + 1, 0, none⟩) ws.length ws.length] 68 (0, 0)) ∧ Below w.heap.size w W)
    (fun pre A' B' hi hs hb => ⟨(hb.block _ (by omega)).trans hi.1, (hb.block _ (by omega)).trans hi.2.1, hi.2.2.trans (hb.mono (by omega))⟩)
    ⟨hF2, hO2, hb12⟩
    (fun x a' W => ∃ Bx : Nat, a' = { tmps := #[.agg #[.int .i64 (P : Int), .slice A ws.length c], .pointer (some ⟨w.heap.size, 0, none⟩), .slice none 0 0, .pointer (some ⟨w.heap.size + 1 + 1, 0, none⟩), undef, .pointer (some ⟨Bx, 0, none⟩), .pointer (some ⟨w.heap.size, 1, none⟩), .slice A ws.length c, .int .i64 (ws.length : Int),
      .slice (some ⟨w.heap.size + 1, 0, none⟩) ws.length ws.length, .agg #[.int .i64 (P : Int), .slice A ws.length c], .func (.func 49) #[] #[.pointer (some ⟨w.heap.size + 1 + 1 + 1, 0, none⟩)], .int .i64 x.idx, .agg #[.int .i64 x.fr, .int .i64 x.out, .int .i64 x.to, .int .i64 x.inn],
      undef, undef, undef, undef, undef, undef, undef, undef, undef, undef, undef, undef, undef, undef, undef, undef, undef, undef, undef, undef, undef, undef, undef, undef, undef], defers := [] } ∧ W.heap[Bx]? = some (.cells #[.int .i64 x.fr, .int .i64 x.out, .int .i64 x.to, .int .i64 x.inn] 46 (0, 0)))
    (fun x a' W W' l r hx hl hs hsame => by
      obtain ⟨Bx, ha', hbx⟩ := hx
      refine ⟨Bx, ha', (hsame Bx ?_).trans hbx⟩
      rintro rfl
      rw [hbx] at hl
      cases hl)
    ?assign ?body ?done
  case assign =>
    intro l pre x W K hp hi hs hK
    dsimp only [El.enc]
    gi_wp2
    exact hK _ _ ⟨W.heap.size, rfl, heap_alloc_new _ _⟩ ((Below.refl _ _).alloc (Nat.le_refl _) _)
  case body =>
    rintro l pre x a' W hp ⟨hF, hO, hB⟩ ⟨Bx, rfl, hx⟩ hs
    have hmem : x ∈ eAll P (plsOf ws) ws.length := hp.subset (by simp)
    have hen := HENDS.out x hmem
    rw [eaF_snoc]
    have o0 : W.cell? ⟨w.heap.size + 1 + 1, 0, none⟩ = some (.slice (some ⟨w.heap.size + 1, 0, none⟩) ws.length ws.length) := cell_of_row W _ 0 _ _ _ hO
    have g0 : W.cell? ⟨Bx, 0, none⟩ = some (.int .i64 x.fr) := cell_of_row W _ 0 _ _ _ hx
    have g2 : W.cell? ⟨Bx, 2, none⟩ = some (.int .i64 x.to) := cell_of_row W _ 2 _ _ _ hx
    clear hmem
    by_cases h1 : 0 ≤ x.fr
    · by_cases h2 : 0 ≤ x.to
      · have hlt : x.fr < x.to ∧ x.to < (ws.length : Int) := by
          rcases hen with h | h
          · omega
          · exact h
        obtain ⟨a, ha'⟩ := Int.eq_ofNat_of_zero_le h1
        obtain ⟨b, hb'⟩ := Int.eq_ofNat_of_zero_le h2
        have hst : eaStep (eaF pre) x = updS (eaF pre) b ((eaF pre b ||| 2 ^ a) ||| eaF pre a) := by
          unfold eaStep; rw [if_pos ⟨h1, h2⟩, ha', hb']; rfl
        rw [hst]
        generalize eaF pre = F at *
        generalize x.idx = xi at *
        generalize x.out = xo at *
        generalize x.inn = xn at *
        rw [ha', hb'] at hx hlt ⊢
        rw [ha'] at g0
        rw [hb'] at g2
        clear hst ha' hb' h1 h2 hen hp
        have hab : a < b := by omega
        have hbn : b < ws.length := by omega
        have han : a < ws.length := by omega
        have x1 : (0 : Int) ≤ (a : Int) := by omega
        have x2 : (a : Int) < (ws.length : Int) := by omega
        have x3 : (0 : Int) ≤ (b : Int) := by omega
        have x4 : (b : Int) < (ws.length : Int) := by omega
        have hBx : Bx ≠ w.heap.size + 1 := by
          rintro rfl
          rw [hF] at hx
          injection hx with hx
          injection hx with _ hx
          exact absurd hx (by decide)
        have hmx : Try.prog.follows .mixedOrders = true := by kernel_rfl
        have HF := Lib.hid hF; have HO := Lib.hid hO; have HB := Lib.hid hB; have HX := Lib.hid hx; have HF2 := Lib.hid hF2; have HO2 := Lib.hid hO2; have HS2 := Lib.hid hS2; have HB12 := Lib.hid hb12; clear hF hO hB hx hF2 hO2 hS2 hb12
        gi_wp2
        refine round_still_tail 6 hmx (by kernel_rfl) (by rfl) (by rintro ⟨_, _, h⟩; exact h) ?_
        simp only [List.take_succ_cons, List.take_zero, List.drop_succ_cons, List.drop_zero]
        repeat still_step
        try refine wpStill_nil ?_
        go_wp2_with fail
        refine (setPut_ (w.heap.size + 1) (b * 7) (F b) a W.drew (by omega) (SetAt.ext (SB.at_ HF.out hbn) (fun _ => rfl) (fun _ => rfl))).mono ?_
        rintro e w3 ⟨⟨v, rfl⟩, hw3⟩
        have hF3 : SB w3 (w.heap.size + 1) ws.length (updS F b (F b ||| 2 ^ a)) := by rw [hw3]; exact SB.put (w := W.drew) (b := b) HF.out (show a < 448 by omega)
        have hK3 : Kp (fun i => i = w.heap.size + 1) W w3 := by rw [hw3]; exact ((Kp.refl (fun i => i = w.heap.size + 1) W).drew.setCell (.inl rfl) _).drew
        have hB3 : Below w.heap.size w w3 := by rw [hw3]; exact (HB.out.drew.setCell (by show w.heap.size ≤ w.heap.size + 1; omega) _).drew
        have hWs : w.heap.size + 1 + 1 < W.heap.size := lt_of_block HO.out
        have hO3 := (hK3.same (w.heap.size + 1 + 1) hWs (by omega)).trans HO.out
        have hx3 := (hK3.same Bx (lt_of_block HX.out) hBx).trans HX.out
        clear hw3 o0 g0 g2
        have o0 : w3.cell? ⟨w.heap.size + 1 + 1, 0, none⟩ = some (.slice (some ⟨w.heap.size + 1, 0, none⟩) ws.length ws.length) := cell_of_row w3 _ 0 _ _ _ hO3
        have g0 : w3.cell? ⟨Bx, 0, none⟩ = some (.int .i64 (a : Int)) := cell_of_row w3 _ 0 _ _ _ hx3
        have g2 : w3.cell? ⟨Bx, 2, none⟩ = some (.int .i64 (b : Int)) := cell_of_row w3 _ 2 _ _ _ hx3
        have HF3 := Lib.hid hF3; have HK3 := Lib.hid hK3; have HB3 := Lib.hid hB3; have HO3 := Lib.hid hO3; have HX3 := Lib.hid hx3; clear hF3 hK3 hB3 hO3 hx3
        gi_wp2
        refine wpList_nil ?_
        gi_wp2
        refine round_still_tail 8 hmx (by kernel_rfl) (by rfl) (by rintro ⟨_, _, h⟩; exact h) ?_
        simp only [List.take_succ_cons, List.take_zero, List.drop_succ_cons, List.drop_zero]
        repeat still_step
        try refine wpStill_nil ?_
        go_wp2_with fail
        refine (setAll_ (w.heap.size + 1) ws.length a b (updS F b (F b ||| 2 ^ a)) w3.drew han hbn (by omega) HF3.out).mono ?_
        rintro e w4 ⟨⟨v2, rfl⟩, hF4, hs1, hs2, hs3, hs4, hs5⟩
        have hK4 : Kp (fun i => i = w.heap.size + 1) W w4 := HK3.out.trans ⟨hs2, hs3, hs4, hs1, fun i _ hi => hs5 i hi⟩
        have hB4 : Below w.heap.size w w4 := ⟨hs2.trans HB3.out.os, hs3.trans HB3.out.tape, hs4.trans HB3.out.output, Nat.le_trans HB3.out.size hs1, fun i hi => (hs5 i (by omega)).trans (HB3.out.block i hi)⟩
        have hO4 := (hs5 (w.heap.size + 1 + 1) (by omega)).trans HO3.out
        have hF5 : SB w4 (w.heap.size + 1) ws.length (updS F b ((F b ||| 2 ^ a) ||| F a)) := by
          have e : updS (updS F b (F b ||| 2 ^ a)) b (updS F b (F b ||| 2 ^ a) b ||| updS F b (F b ||| 2 ^ a) a) = updS F b ((F b ||| 2 ^ a) ||| F a) := by
            funext q
            unfold updS
            by_cases hq : q = b
            · subst hq; simp [show ¬ a = q by omega]
            · simp [hq]
          rw [← e]; exact hF4
        clear hs1 hs2 hs3 hs4 hs5 hF4
        have HF5 := Lib.hid hF5; have HK4 := Lib.hid hK4; have HB4 := Lib.hid hB4; have HO4 := Lib.hid hO4; clear hF5 hK4 hB4 hO4
        gi_wp2
        refine wpList_nil ?_
        gi_wp2
        exact ⟨HK4.out, HF5.out, HO4.out, HB4.out⟩
      · have hst : eaStep (eaF pre) x = eaF pre := by unfold eaStep; rw [if_neg (fun h => h2 h.2)]
        rw [hst]
        have h2' : ¬ 0 ≤ x.to := h2
        have hn := Kp.refl (fun i => i = w.heap.size + 1) W
        have HF := Lib.hid hF; have HO := Lib.hid hO; have HB := Lib.hid hB; have HX := Lib.hid hx; have HF2 := Lib.hid hF2; have HO2 := Lib.hid hO2; have HS2 := Lib.hid hS2; have HB12 := Lib.hid hb12; have HST := Lib.hid hst; have HN := Lib.hid hn; have HEN := Lib.hid hen; clear hF hO hB hx hF2 hO2 hS2 hb12 hst hn hen
        gi_wp2
        exact ⟨HN.out, HF.out, HO.out, HB.out⟩
    · have hst : eaStep (eaF pre) x = eaF pre := by unfold eaStep; rw [if_neg (fun h => h1 h.1)]
      rw [hst]
      have hn := Kp.refl (fun i => i = w.heap.size + 1) W
      have HF := Lib.hid hF; have HO := Lib.hid hO; have HB := Lib.hid hB; have HX := Lib.hid hx; have HF2 := Lib.hid hF2; have HO2 := Lib.hid hO2; have HS2 := Lib.hid hS2; have HB12 := Lib.hid hb12; have HST := Lib.hid hst; have HN := Lib.hid hn; have HEN := Lib.hid hen; clear hF hO hB hx hF2 hO2 hS2 hb12 hst hn hen
      gi_wp2
      exact ⟨HN.out, HF.out, HO.out, HB.out⟩
  case done =>
    rintro W ⟨hF, hO, hB⟩ hD hs
    have o0 : W.cell? ⟨w.heap.size + 1 + 1, 0, none⟩ = some (.slice (some ⟨w.heap.size + 1, 0, none⟩) ws.length ws.length) := cell_of_row W _ 0 _ _ _ hO
    have HF := Lib.hid hF; have HO := Lib.hid hO; have HB := Lib.hid hB; have HF2 := Lib.hid hF2; have HO2 := Lib.hid hO2; have HS2 := Lib.hid hS2; have HB12 := Lib.hid hb12; clear hF hO hB hF2 hO2 hS2 hb12
    go_wp2
    refine ⟨by simp, .inl ⟨_, _, rfl, run_takeDeferred hD, ?_⟩⟩
    exact ⟨_, results_tmp rfl _ _ _, w.heap.size + 1, rfl, (World.putObj_heap_other (by omega)).trans HF.out, by omega, HB.out.trans (below_putObj _ (by omega))⟩
end Go.Proofs.Ytepdgffccfcfpaa
