/- Texts of this claim, laid together: Earlier, Bef, EdEnd. -/
import Derived.Test.YtlpfecjkkgccgaaDoorMaA
import Derived.Test.YtlpfecjkkgccgaaDoorMaE
import Derived.Test.YtlpfecjkkgccgaaDoorMaJ
import Derived.Test.YtlpfecjkkgccgaaDoorMaL
/- The program's earlier: for each work those that are before it. -/
namespace Go.Proofs.YtlpfecjkkgccgaaDoor
open Go Go.RowKit Go.Shelf
attribute [local go_sem] Oper.semAt_some

/-- One edge: what is before its end. -/
def eaStep (F : Nat → Nat) (x : El) : Nat → Nat :=
  if 0 ≤ x.fr ∧ 0 ≤ x.to then updS F x.to.toNat ((F x.to.toNat ||| 2 ^ x.fr.toNat) ||| F x.fr.toNat) else F
def eaF (l : List El) : Nat → Nat := l.foldl eaStep (fun _ => 0)
theorem eaF_snoc (l : List El) (x : El) : eaF (l ++ [x]) = eaStep (eaF l) x := by unfold eaF; rw [List.foldl_append]; rfl
theorem infoS_Tryd : (Tryd.prog.info? 105).map (fun i => (i.zero, i.size, i.bytes)) = some (some (.agg #[.int .u64 0, .int .u64 0, .int .u64 0, .int .u64 0, .int .u64 0, .int .u64 0, .int .u64 0]), 7, 56) := by kernel_rfl
def z7 : Array Value := #[.int .u64 0, .int .u64 0, .int .u64 0, .int .u64 0, .int .u64 0, .int .u64 0, .int .u64 0]
theorem run_makeS_Tryd (m : Nat) (hm : m ≤ 1000) (w : World) : (Instr.makeSlice 103 (.int .i64 (m : Int)) (.int .i64 (m : Int))).run Tryd.prog w =
    .ok (.slice (some ⟨w.heap.size, 0, none⟩) m m) (w.alloc (.cells (madeCells z7 (m * 7)) 105)) := by
  obtain ⟨i, hi, hzz⟩ := Option.map_eq_some_iff.1 infoS_Tryd
  simp only [Prod.mk.injEq] at hzz
  obtain ⟨hz, hs, hb⟩ := hzz
  have hr := run_make (P := Tryd.prog) w 103 105 i _ Tryd.underlying103 hi hz .i64 .i64 m m (by omega) (Int.le_refl _) (by rw [hb]; omega) (by omega)
  simp only [Int.toNat_natCast, hs] at hr
  exact hr
theorem z7_zero (m : Nat) : madeCells z7 (m * 7) = wCells m (fun _ _ => 0) := by
  apply Array.ext'
  apply List.ext_getElem
  · simp [madeCells, wCells]
  · intro j h1 h2
    have e : ∀ q, q < 7 → z7[q]! = .int .u64 0 := fun q hq => by
      obtain rfl | rfl | rfl | rfl | rfl | rfl | rfl : q = 0 ∨ q = 1 ∨ q = 2 ∨ q = 3 ∨ q = 4 ∨ q = 5 ∨ q = 6 := by omega
      all_goals rfl
    simp only [madeCells, wCells, Array.toList_map, Array.toList_range, List.getElem_map, List.getElem_range]
    rw [show z7.size = 7 from rfl, e (j % 7) (by omega)]
    rfl
theorem wd_zero (k : Nat) : wd 0 k = 0 := by unfold wd; simp
/-- Ends and beginnings of edges are works, and edges go forward. -/
theorem fr_work {P n : Nat} (pls : Nat → Nat) : ∀ k, k ≤ n → ∀ p, (eWork P pls k).fr p < k
  | 0, _ => fun p => by unfold eWork ln0; simp
  | k + 1, hk => fun p => by
    have ih := fr_work (P := P) (n := n) pls k (by omega) p
    unfold eWork sdS sdS sdS eStep Ln.put updF
    simp only
    split
    · omega
    · split <;> omega
theorem fr_side {P : Nat} (pls : Nat → Nat) (k : Nat) : (sdS P (pls k) k (eWork P pls k) 1).fr (pls k + 1) < k := by
  have ih := fr_work (P := P) (n := k) pls k (Nat.le_refl _) (pls k + 1)
  unfold sdS sdS eStep Ln.put updF
  simp only
  rw [if_neg (by omega)]
  exact ih
theorem ends_all {P n : Nat} (pls : Nat → Nat) : ∀ x ∈ eAll P pls n, x.to = -1 ∨ (x.fr < x.to ∧ x.to < n) := by
  have hl : ∀ k, k ≤ n → ∀ x ∈ eList P pls k, x.to = -1 ∨ (x.fr < x.to ∧ x.to < n) := by
    intro k
    induction k with
    | zero => intro _ x hx; cases hx
    | succ k ih =>
      intro hk x hx
      rw [eList, sdL, sdL, sdL] at hx
      rcases List.mem_append.1 hx with hx | hx
      · rcases List.mem_append.1 hx with hx | hx
        · exact ih (by omega) x hx
        · rw [List.mem_singleton.1 hx]
          have := fr_work (P := P) (n := k) pls k (Nat.le_refl _) (pls k + 0)
          exact .inr ⟨this, by show (k : Int) < n; omega⟩
      · rw [List.mem_singleton.1 hx]
        exact .inr ⟨fr_side pls k, by show (k : Int) < n; omega⟩
  intro x hx
  rcases List.mem_append.1 hx with hx | hx
  · exact hl n (Nat.le_refl _) x hx
  · obtain ⟨p, hp, rfl⟩ := List.mem_map.1 hx
    exact .inl rfl
/-- What earlier returns of a valid sheet. -/
def EarlierPost (P : Nat) (ws : List GW) (w : World) (e : Ending) (w' : World) : Prop :=
  ∃ R, e = .returned (.slice (some ⟨R, 0, none⟩) ws.length ws.length) ∧ SB w' R ws.length (eaF (eAll P (plsOf ws) ws.length)) ∧ w.heap.size ≤ R ∧ Below w.heap.size w w'

set_option maxRecDepth 100000 in
set_option maxHeartbeats 4000000 in
theorem earlier_ (P : Nat) (A : Option Addr) (c : Nat) (ws : List GW) (w : World) (hok : errSheet P ws = 0) (ha : RdW w A ws) :
    Calls Tryd.prog 58 #[.agg #[.int .i64 (P : Int), .slice A ws.length c]] w (EarlierPost P ws w) := by
  obtain ⟨hp2, hp24, hn, hall⟩ := okAll hok
  have hpl : ∀ x ∈ ws, 0 ≤ x.pl ∧ x.pl ≤ (P : Int) - 2 := fun x hx => ⟨(hall x hx).2.1, (hall x hx).2.2.1⟩
  have hends := ends_all (P := P) (n := ws.length) (plsOf ws)
  have hmk1 := run_makeS_Tryd ws.length (by omega)
  have HA := Lib.hid ha; have HALL := Lib.hid hall; have HPL := Lib.hid hpl; have HENDS := Lib.hid hends; clear ha hall hpl hends
  refine (callsIn_wide (n := 3)).1 ?_
  refine callsIn_of_wp_marks Tryd.func58 rfl trivial ?_ rfl
  simp only [Tryd.ntmps58, List.size_toArray, List.length_cons, List.length_nil, Nat.reduceAdd, Nat.reduceSub, Array.replicate_succ, Array.replicate_zero, List.push_toArray, List.append_toArray, List.nil_append, List.cons_append]
  refine wpIn_wide.2 ?_
  go_wp2_with fail
  clear hmk1
  refine (edges_ _ _ _).mono ?_
  rintro e w2 ⟨rfl, rfl⟩
  go_wp2_with fail
  obtain ⟨w2, hw2⟩ : ∃ w2, w2 = (((w.alloc (.cells #[.int .i64 (P : Int), .slice A ws.length c] 24)).alloc (.cells (madeCells z7 (ws.length * 7)) 105)).alloc (.cells #[.slice (some ⟨w.heap.size + 1, 0, none⟩) ws.length ws.length] 103)).alloc
    (.cells #[.int .i64 (P : Int), .slice A ws.length c] 24) := ⟨_, rfl⟩
  have hs2 : w2.heap.size = w.heap.size + 4 := by rw [hw2]; simp
  have hF2 : SB w2 (w.heap.size + 1) ws.length (eaF []) := by
    unfold SB
    refine WB.congr (G := fun _ _ => 0) ?_ (fun b k _ _ => (wd_zero k).symm)
    unfold WB
    rw [hw2, Below.heap_alloc _ _ _ (by first | (simp; done) | (simp; omega)), Below.heap_alloc _ _ _ (by first | (simp; done) | (simp; omega))]
    have := heap_alloc_new (w.alloc (.cells #[.int .i64 (P : Int), .slice A ws.length c] 24)) (.cells (madeCells z7 (ws.length * 7)) 105)
    rw [World.size_alloc] at this
    rw [this, z7_zero]
  have hO2 : w2.heap[w.heap.size + 1 + 1]? = some (.cells #[.slice (some ⟨w.heap.size + 1, 0, none⟩) ws.length ws.length] 103 (0, 0)) := by
    rw [hw2, Below.heap_alloc _ _ _ (by simp)]
    have := heap_alloc_new ((w.alloc (.cells #[.int .i64 (P : Int), .slice A ws.length c] 24)).alloc (.cells (madeCells z7 (ws.length * 7)) 105)) (.cells #[.slice (some ⟨w.heap.size + 1, 0, none⟩) ws.length ws.length] 103)
    rwa [World.size_alloc, World.size_alloc] at this
  have hS2 : w2.heap[w.heap.size + 1 + 1 + 1]? = some (.cells #[.int .i64 (P : Int), .slice A ws.length c] 24 (0, 0)) := by
    rw [hw2]
    have := heap_alloc_new (((w.alloc (.cells #[.int .i64 (P : Int), .slice A ws.length c] 24)).alloc (.cells (madeCells z7 (ws.length * 7)) 105)).alloc (.cells #[.slice (some ⟨w.heap.size + 1, 0, none⟩) ws.length ws.length] 103)) (.cells #[.int .i64 (P : Int), .slice A ws.length c] 24)
    rwa [World.size_alloc, World.size_alloc, World.size_alloc] at this
  have hb12 : Below w.heap.size w w2 := by
    rw [hw2]; exact ((((Below.refl _ _).alloc (Nat.le_refl _) _).alloc (by simp) _).alloc (by simp; omega) _).alloc (by simp; omega) _
  rw [← hw2]
  clear hw2
  have hseq := edges1_ (w.heap.size + 1 + 1 + 1) P c A ws w2 (fun i => i = w.heap.size + 1) (by omega) (by omega) hn HPL.out hS2 (HA.out.later hb12 (Nat.le_refl _)) (fun i h => by omega) (by omega) (fun h0 b off e h => by have := rdW_lt HA.out h0 b off e; omega)
  refine (wpIn_wide (n := 3)).1 ?_
  refine wp_iter (α := El) (gf := 72) (lb := #[.pointer (some ⟨w.heap.size + 1 + 1 + 1, 0, none⟩)]) rfl (enters_of Tryd.func72 (by kernel_rfl) rfl) (encs := El.enc) (eAll P (plsOf ws) ws.length) (fun i => i = w.heap.size + 1) (fun i h => by omega) (fun _ => rfl) hseq
    (fun pre W => SB W (w.heap.size + 1) ws.length (eaF pre) ∧ W.heap[w.heap.size + 1 + 1]? = some (.cells #[.slice (some ⟨w.heap.size + 1, 0, none⟩) ws.length ws.length] 103 (0, 0)) ∧ Below w.heap.size w W)
    (fun pre A' B' hi hs hb => ⟨(hb.block _ (by omega)).trans hi.1, (hb.block _ (by omega)).trans hi.2.1, hi.2.2.trans (hb.mono (by omega))⟩)
    ⟨hF2, hO2, hb12⟩
    (fun x a' W => ∃ Bx : Nat, a' = { tmps := #[.agg #[.int .i64 (P : Int), .slice A ws.length c], .pointer (some ⟨w.heap.size, 0, none⟩), .slice none 0 0, .pointer (some ⟨w.heap.size + 1 + 1, 0, none⟩), undef, .pointer (some ⟨Bx, 0, none⟩), .pointer (some ⟨w.heap.size, 1, none⟩), .slice A ws.length c, .int .i64 (ws.length : Int),
      .slice (some ⟨w.heap.size + 1, 0, none⟩) ws.length ws.length, .agg #[.int .i64 (P : Int), .slice A ws.length c], .func (.func 72) #[] #[.pointer (some ⟨w.heap.size + 1 + 1 + 1, 0, none⟩)], .int .i64 x.idx, .agg #[.int .i64 x.fr, .int .i64 x.out, .int .i64 x.to, .int .i64 x.inn],
      undef, undef, undef, undef, undef, undef, undef, undef, undef, undef, undef, undef, undef, undef, undef, undef, undef, undef, undef, undef, undef, undef, undef, undef, undef], defers := [] } ∧ W.heap[Bx]? = some (.cells #[.int .i64 x.fr, .int .i64 x.out, .int .i64 x.to, .int .i64 x.inn] 118 (0, 0)))
    (fun x a' W W' l r hx hl hs hsame => by
      obtain ⟨Bx, ha', hbx⟩ := hx
      refine ⟨Bx, ha', (hsame Bx ?_).trans hbx⟩
      rintro rfl
      rw [hbx] at hl
      cases hl)
    ?assign ?body ?done
  case assign =>
    intro l pre x W K hp hi hs hK
    dsimp only [El.enc]
    gi_wp2
    exact hK _ _ ⟨W.heap.size, rfl, heap_alloc_new _ _⟩ ((Below.refl _ _).alloc (Nat.le_refl _) _)
  case body =>
    rintro l pre x a' W hp ⟨hF, hO, hB⟩ ⟨Bx, rfl, hx⟩ hs
    have hmem : x ∈ eAll P (plsOf ws) ws.length := hp.subset (by simp)
    have hen := HENDS.out x hmem
    rw [eaF_snoc]
    have o0 : W.cell? ⟨w.heap.size + 1 + 1, 0, none⟩ = some (.slice (some ⟨w.heap.size + 1, 0, none⟩) ws.length ws.length) := cell_of_row W _ 0 _ _ _ hO
    have g0 : W.cell? ⟨Bx, 0, none⟩ = some (.int .i64 x.fr) := cell_of_row W _ 0 _ _ _ hx
    have g2 : W.cell? ⟨Bx, 2, none⟩ = some (.int .i64 x.to) := cell_of_row W _ 2 _ _ _ hx
    clear hmem
    by_cases h1 : 0 ≤ x.fr
    · by_cases h2 : 0 ≤ x.to
      · have hlt : x.fr < x.to ∧ x.to < (ws.length : Int) := by
          rcases hen with h | h
          · omega
          · exact h
        obtain ⟨a, ha'⟩ := Int.eq_ofNat_of_zero_le h1
        obtain ⟨b, hb'⟩ := Int.eq_ofNat_of_zero_le h2
        have hst : eaStep (eaF pre) x = updS (eaF pre) b ((eaF pre b ||| 2 ^ a) ||| eaF pre a) := by
          unfold eaStep; rw [if_pos ⟨h1, h2⟩, ha', hb']; rfl
        rw [hst]
        generalize eaF pre = F at *
        generalize x.idx = xi at *
        generalize x.out = xo at *
        generalize x.inn = xn at *
        rw [ha', hb'] at hx hlt ⊢
        rw [ha'] at g0
        rw [hb'] at g2
        clear hst ha' hb' h1 h2 hen hp
        have hab : a < b := by omega
        have hbn : b < ws.length := by omega
        have han : a < ws.length := by omega
        have x1 : (0 : Int) ≤ (a : Int) := by omega
        have x2 : (a : Int) < (ws.length : Int) := by omega
        have x3 : (0 : Int) ≤ (b : Int) := by omega
        have x4 : (b : Int) < (ws.length : Int) := by omega
        have hBx : Bx ≠ w.heap.size + 1 := by
          rintro rfl
          rw [hF] at hx
          injection hx with hx
          injection hx with _ hx
          exact absurd hx (by decide)
        have hmx : Tryd.prog.follows .mixedOrders = true := by kernel_rfl
        have HF := Lib.hid hF; have HO := Lib.hid hO; have HB := Lib.hid hB; have HX := Lib.hid hx; have HF2 := Lib.hid hF2; have HO2 := Lib.hid hO2; have HS2 := Lib.hid hS2; have HB12 := Lib.hid hb12; clear hF hO hB hx hF2 hO2 hS2 hb12
        gi_wp2
        refine round_still_tail 6 hmx (by kernel_rfl) (by rfl) (by rintro ⟨_, _, h⟩; exact h) ?_
        simp only [List.take_succ_cons, List.take_zero, List.drop_succ_cons, List.drop_zero]
        repeat still_step
        try refine wpStill_nil ?_
        go_wp2_with fail
        refine (setPut_ (w.heap.size + 1) (b * 7) (F b) a W.drew (by omega) (SetAt.ext (SB.at_ HF.out hbn) (fun _ => rfl) (fun _ => rfl))).mono ?_
        rintro e w3 ⟨⟨v, rfl⟩, hw3⟩
        have hF3 : SB w3 (w.heap.size + 1) ws.length (updS F b (F b ||| 2 ^ a)) := by rw [hw3]; exact SB.put (w := W.drew) (b := b) HF.out (show a < 448 by omega)
        have hK3 : Kp (fun i => i = w.heap.size + 1) W w3 := by rw [hw3]; exact ((Kp.refl (fun i => i = w.heap.size + 1) W).drew.setCell (.inl rfl) _).drew
        have hB3 : Below w.heap.size w w3 := by rw [hw3]; exact (HB.out.drew.setCell (by show w.heap.size ≤ w.heap.size + 1; omega) _).drew
        have hWs : w.heap.size + 1 + 1 < W.heap.size := lt_of_block HO.out
        have hO3 := (hK3.same (w.heap.size + 1 + 1) hWs (by omega)).trans HO.out
        have hx3 := (hK3.same Bx (lt_of_block HX.out) hBx).trans HX.out
        clear hw3 o0 g0 g2
        have o0 : w3.cell? ⟨w.heap.size + 1 + 1, 0, none⟩ = some (.slice (some ⟨w.heap.size + 1, 0, none⟩) ws.length ws.length) := cell_of_row w3 _ 0 _ _ _ hO3
        have g0 : w3.cell? ⟨Bx, 0, none⟩ = some (.int .i64 (a : Int)) := cell_of_row w3 _ 0 _ _ _ hx3
        have g2 : w3.cell? ⟨Bx, 2, none⟩ = some (.int .i64 (b : Int)) := cell_of_row w3 _ 2 _ _ _ hx3
        have HF3 := Lib.hid hF3; have HK3 := Lib.hid hK3; have HB3 := Lib.hid hB3; have HO3 := Lib.hid hO3; have HX3 := Lib.hid hx3; clear hF3 hK3 hB3 hO3 hx3
        gi_wp2
        refine wpList_nil ?_
        gi_wp2
        refine round_still_tail 8 hmx (by kernel_rfl) (by rfl) (by rintro ⟨_, _, h⟩; exact h) ?_
        simp only [List.take_succ_cons, List.take_zero, List.drop_succ_cons, List.drop_zero]
        repeat still_step
        try refine wpStill_nil ?_
        go_wp2_with fail
        refine (setAll_ (w.heap.size + 1) ws.length a b (updS F b (F b ||| 2 ^ a)) w3.drew han hbn (by omega) HF3.out).mono ?_
        rintro e w4 ⟨⟨v2, rfl⟩, hF4, hs1, hs2, hs3, hs4, hs5⟩
        have hK4 : Kp (fun i => i = w.heap.size + 1) W w4 := HK3.out.trans ⟨hs2, hs3, hs4, hs1, fun i _ hi => hs5 i hi⟩
        have hB4 : Below w.heap.size w w4 := ⟨hs2.trans HB3.out.os, hs3.trans HB3.out.tape, hs4.trans HB3.out.output, Nat.le_trans HB3.out.size hs1, fun i hi => (hs5 i (by omega)).trans (HB3.out.block i hi)⟩
        have hO4 := (hs5 (w.heap.size + 1 + 1) (by omega)).trans HO3.out
        have hF5 : SB w4 (w.heap.size + 1) ws.length (updS F b ((F b ||| 2 ^ a) ||| F a)) := by
          have e : updS (updS F b (F b ||| 2 ^ a)) b (updS F b (F b ||| 2 ^ a) b ||| updS F b (F b ||| 2 ^ a) a) = updS F b ((F b ||| 2 ^ a) ||| F a) := by
            funext q
            unfold updS
            by_cases hq : q = b
            · subst hq; simp [show ¬ a = q by omega]
            · simp [hq]
          rw [← e]; exact hF4
        clear hs1 hs2 hs3 hs4 hs5 hF4
        have HF5 := Lib.hid hF5; have HK4 := Lib.hid hK4; have HB4 := Lib.hid hB4; have HO4 := Lib.hid hO4; clear hF5 hK4 hB4 hO4
        gi_wp2
        refine wpList_nil ?_
        gi_wp2
        exact ⟨HK4.out, HF5.out, HO4.out, HB4.out⟩
      · have hst : eaStep (eaF pre) x = eaF pre := by unfold eaStep; rw [if_neg (fun h => h2 h.2)]
        rw [hst]
        have h2' : ¬ 0 ≤ x.to := h2
        have hn := Kp.refl (fun i => i = w.heap.size + 1) W
        have HF := Lib.hid hF; have HO := Lib.hid hO; have HB := Lib.hid hB; have HX := Lib.hid hx; have HF2 := Lib.hid hF2; have HO2 := Lib.hid hO2; have HS2 := Lib.hid hS2; have HB12 := Lib.hid hb12; have HST := Lib.hid hst; have HN := Lib.hid hn; have HEN := Lib.hid hen; clear hF hO hB hx hF2 hO2 hS2 hb12 hst hn hen
        gi_wp2
        exact ⟨HN.out, HF.out, HO.out, HB.out⟩
    · have hst : eaStep (eaF pre) x = eaF pre := by unfold eaStep; rw [if_neg (fun h => h1 h.1)]
      rw [hst]
      have hn := Kp.refl (fun i => i = w.heap.size + 1) W
      have HF := Lib.hid hF; have HO := Lib.hid hO; have HB := Lib.hid hB; have HX := Lib.hid hx; have HF2 := Lib.hid hF2; have HO2 := Lib.hid hO2; have HS2 := Lib.hid hS2; have HB12 := Lib.hid hb12; have HST := Lib.hid hst; have HN := Lib.hid hn; have HEN := Lib.hid hen; clear hF hO hB hx hF2 hO2 hS2 hb12 hst hn hen
      gi_wp2
      exact ⟨HN.out, HF.out, HO.out, HB.out⟩
  case done =>
    rintro W ⟨hF, hO, hB⟩ hD hs
    have o0 : W.cell? ⟨w.heap.size + 1 + 1, 0, none⟩ = some (.slice (some ⟨w.heap.size + 1, 0, none⟩) ws.length ws.length) := cell_of_row W _ 0 _ _ _ hO
    have HF := Lib.hid hF; have HO := Lib.hid hO; have HB := Lib.hid hB; have HF2 := Lib.hid hF2; have HO2 := Lib.hid hO2; have HS2 := Lib.hid hS2; have HB12 := Lib.hid hb12; clear hF hO hB hF2 hO2 hS2 hb12
    go_wp2
    refine ⟨by simp, .inl ⟨_, _, rfl, run_takeDeferred hD, ?_⟩⟩
    exact ⟨_, results_tmp rfl _ _ _, w.heap.size + 1, rfl, (World.putObj_heap_other (by omega)).trans HF.out, by omega, HB.out.trans (below_putObj _ (by omega))⟩
end Go.Proofs.YtlpfecjkkgccgaaDoor
/- What is before a work: through the last works in its places, or through all that touch it. -/
namespace Go.Proofs.YtlpfecjkkgccgaaDoor

/-- Do two works touch, by their places? -/
def tP (a b : Nat) : Bool := decide (a ≤ b + 1 ∧ b ≤ a + 1)
/-- Is a before k? -/
inductive Bef (pls : Nat → Nat) : Nat → Nat → Prop
  | one {a k : Nat} (h : a < k) (t : tP (pls a) (pls k) = true) : Bef pls a k
  | step {a j k : Nat} (h : Bef pls a j) (hj : j < k) (t : tP (pls j) (pls k) = true) : Bef pls a k
theorem Bef.lt {pls : Nat → Nat} {a k : Nat} (h : Bef pls a k) : a < k := by
  induction h with
  | one h _ => exact h
  | step _ hj _ ih => omega
theorem Bef.trans {pls : Nat → Nat} {a b c : Nat} (h : Bef pls a b) (k : Bef pls b c) : Bef pls a c := by
  induction k with
  | one hj t => exact .step h hj t
  | step _ hj t ih => exact .step ih hj t
/-- Does the work take the place? -/
def tk (pls : Nat → Nat) (j q : Nat) : Prop := pls j = q ∨ pls j + 1 = q
theorem tk_touch {pls : Nat → Nat} {a b q : Nat} (h : tk pls a q) (k : tk pls b q) : tP (pls a) (pls b) = true := by
  unfold tk at h k; unfold tP; rw [decide_eq_true_eq]; omega
theorem touch_tk {pls : Nat → Nat} {a b : Nat} (h : tP (pls a) (pls b) = true) : tk pls a (pls b) ∨ tk pls a (pls b + 1) := by
  unfold tP at h; rw [decide_eq_true_eq] at h; unfold tk; omega
/-- The last work before k that takes the place, or -1. -/
def LastAt (pls : Nat → Nat) (k q : Nat) (f : Int) : Prop := (f = -1 ∧ ∀ j, j < k → ¬ tk pls j q) ∨ ∃ m : Nat, f = m ∧ m < k ∧ tk pls m q ∧ ∀ j, j < k → tk pls j q → j ≤ m
theorem LastAt.next {pls : Nat → Nat} {k q : Nat} {f : Int} (h : LastAt pls k q f) (hn : ¬ tk pls k q) : LastAt pls (k + 1) q f := by
  rcases h with ⟨h1, h2⟩ | ⟨m, h1, h2, h3, h4⟩
  · exact .inl ⟨h1, fun j hj ht => by
      rcases Nat.lt_or_ge j k with g | g
      · exact h2 j g ht
      · obtain rfl : j = k := by omega
        exact hn ht⟩
  · exact .inr ⟨m, h1, by omega, h3, fun j hj ht => by
      rcases Nat.lt_or_ge j k with g | g
      · exact h4 j g ht
      · obtain rfl : j = k := by omega
        exact absurd ht hn⟩
theorem LastAt.now {pls : Nat → Nat} {k q : Nat} (ht : tk pls k q) : LastAt pls (k + 1) q (k : Int) := .inr ⟨k, rfl, by omega, ht, fun j hj _ => by omega⟩
theorem fr_last {P : Nat} (pls : Nat → Nat) : ∀ k q, LastAt pls k q ((eWork P pls k).fr q)
  | 0, q => .inl ⟨rfl, fun j hj => by omega⟩
  | k + 1, q => by
    have ih := fr_last (P := P) pls k q
    show LastAt pls (k + 1) q (updF (updF (eWork P pls k).fr (pls k + 0) k) (pls k + 1) k q)
    unfold updF
    by_cases h1 : q = pls k + 1
    · rw [if_pos h1]; exact LastAt.now (.inr h1.symm)
    · rw [if_neg h1]
      by_cases h2 : q = pls k + 0
      · rw [if_pos h2]; exact LastAt.now (.inl (by omega))
      · rw [if_neg h2]; exact ih.next (by unfold tk; omega)
theorem fr_one {P : Nat} (pls : Nat → Nat) (k : Nat) : (sdS P (pls k) k (eWork P pls k) 1).fr (pls k + 1) = (eWork P pls k).fr (pls k + 1) := by
  show updF (eWork P pls k).fr (pls k + 0) k (pls k + 1) = _
  unfold updF; rw [if_neg (by omega)]
/-- What the sets say of the works before n. -/
def SetsOk (pls : Nat → Nat) (n : Nat) (F : Nat → Nat) : Prop := (∀ b, b < n → ∀ a, (F b).testBit a = true ↔ Bef pls a b) ∧ ∀ b, n ≤ b → F b = 0
/-- What one end puts into a set. -/
theorem ea_side {F : Nat → Nat} {x : El} {k : Nat} (hto : x.to = k) :
    (∀ b, b ≠ k → eaStep F x b = F b) ∧ ∀ a, (eaStep F x k).testBit a = true ↔ (F k).testBit a = true ∨ ∃ m : Nat, x.fr = m ∧ (a = m ∨ (F m).testBit a = true) := by
  unfold eaStep
  by_cases h : 0 ≤ x.fr
  · obtain ⟨m, hm⟩ := Int.eq_ofNat_of_zero_le h
    rw [if_pos ⟨h, by omega⟩, hto, hm, Int.toNat_natCast, Int.toNat_natCast]
    refine ⟨fun b hb => by unfold updS; rw [if_neg hb], fun a => ?_⟩
    unfold updS
    rw [if_pos rfl, Nat.testBit_or, Nat.testBit_or, Nat.testBit_two_pow]
    simp only [Bool.or_eq_true, decide_eq_true_eq]
    constructor
    · rintro ((h | h) | h)
      · exact .inl h
      · exact .inr ⟨m, rfl, .inl h.symm⟩
      · exact .inr ⟨m, rfl, .inr h⟩
    · rintro (h | ⟨m', h1, h | h⟩)
      · exact .inl (.inl h)
      · have : m = m' := by omega
        subst this
        exact .inl (.inr h.symm)
      · have : m = m' := by omega
        subst this
        exact .inr h
  · rw [if_neg (fun e => h e.1)]
    refine ⟨fun b _ => rfl, fun a => ⟨.inl, ?_⟩⟩
    rintro (h2 | ⟨m, h1, _⟩)
    · exact h2
    · omega
theorem sets_ok {P : Nat} (pls : Nat → Nat) : ∀ k, SetsOk pls k (eaF (eList P pls k))
  | 0 => ⟨fun b hb => by omega, fun _ _ => rfl⟩
  | k + 1 => by
    obtain ⟨ih1, ih2⟩ := sets_ok (P := P) pls k
    have hl : eList P pls (k + 1) = (eList P pls k ++ [(eWork P pls k).el (pls k + 0) k 0]) ++ [(sdS P (pls k) k (eWork P pls k) 1).el (pls k + 1) k 1] := rfl
    rw [hl, eaF_snoc, eaF_snoc]
    have f0 := fr_last (P := P) pls k (pls k + 0)
    have f1 := fr_last (P := P) pls k (pls k + 1)
    obtain ⟨a1, a2⟩ := ea_side (F := eaF (eList P pls k)) (x := (eWork P pls k).el (pls k + 0) k 0) (k := k) rfl
    generalize hF : eaF (eList P pls k) = F at *
    generalize hG : eaStep F ((eWork P pls k).el (pls k + 0) k 0) = G at *
    obtain ⟨b1, b2⟩ := ea_side (F := G) (x := (sdS P (pls k) k (eWork P pls k) 1).el (pls k + 1) k 1) (k := k) rfl
    have e1 : ((sdS P (pls k) k (eWork P pls k) 1).el (pls k + 1) k 1).fr = (eWork P pls k).fr (pls k + 1) := fr_one pls k
    rw [e1] at b2
    have e0 : ((eWork P pls k).el (pls k + 0) k 0).fr = (eWork P pls k).fr (pls k + 0) := rfl
    rw [e0] at a2
    -- through the last work of a place
    have key : ∀ (q : Nat) (f : Int), LastAt pls k q f → tk pls k q → ∀ a, (∃ m : Nat, f = m ∧ (a = m ∨ (F m).testBit a = true)) ↔ ∃ j, j < k ∧ tk pls j q ∧ (a = j ∨ Bef pls a j) := by
      intro q f hf hq a
      rcases hf with ⟨h1, h2⟩ | ⟨m, h1, h2, h3, h4⟩
      · constructor
        · rintro ⟨m, h, _⟩; omega
        · rintro ⟨j, hj, ht, _⟩; exact absurd ht (h2 j hj)
      · constructor
        · rintro ⟨m', h, h5⟩
          have : m = m' := by omega
          subst this
          exact ⟨m, h2, h3, h5.imp_right fun h => (ih1 m h2 a).1 h⟩
        · rintro ⟨j, hj, ht, h5⟩
          refine ⟨m, h1, ?_⟩
          rcases Nat.lt_or_ge j m with g | g
          · right
            rw [ih1 m h2]
            have hjm : Bef pls j m := .one g (tk_touch ht h3)
            rcases h5 with rfl | h5
            · exact hjm
            · exact h5.trans hjm
          · have := h4 j hj ht
            obtain rfl : j = m := by omega
            exact h5.imp_right fun h => (ih1 j h2 a).2 h
    have q0 : tk pls k (pls k + 0) := .inl rfl
    have q1 : tk pls k (pls k + 1) := .inr rfl
    refine ⟨fun b hb a => ?_, fun b hb => ?_⟩
    · by_cases hbk : b = k
      · subst hbk
        have hGm : ∀ m : Nat, (eWork P pls b).fr (pls b + 1) = m → G m = F m := fun m hm => a1 m (fun e => by have := fr_work (P := P) (n := b) pls b (Nat.le_refl _) (pls b + 1); omega)
        rw [b2, a2, ih2 b (Nat.le_refl _), key _ _ f0 q0]
        have : (∃ m : Nat, (eWork P pls b).fr (pls b + 1) = m ∧ (a = m ∨ (G m).testBit a = true)) ↔ ∃ m : Nat, (eWork P pls b).fr (pls b + 1) = m ∧ (a = m ∨ (F m).testBit a = true) := by
          constructor
          · rintro ⟨m, h1, h2⟩; rw [hGm m h1] at h2; exact ⟨m, h1, h2⟩
          · rintro ⟨m, h1, h2⟩; rw [← hGm m h1] at h2; exact ⟨m, h1, h2⟩
        rw [this, key _ _ f1 q1]
        simp only [Nat.zero_testBit, Bool.false_eq_true, false_or]
        constructor
        · rintro (⟨j, hj, ht, h⟩ | ⟨j, hj, ht, h⟩)
          · rcases h with rfl | h
            · exact .one hj (tk_touch ht q0)
            · exact .step h hj (tk_touch ht q0)
          · rcases h with rfl | h
            · exact .one hj (tk_touch ht q1)
            · exact .step h hj (tk_touch ht q1)
        · intro h
          cases h with
          | one hj t =>
            rcases touch_tk t with g | g
            · exact .inl ⟨a, hj, g, .inl rfl⟩
            · exact .inr ⟨a, hj, g, .inl rfl⟩
          | step h hj t =>
            rcases touch_tk t with g | g
            · exact .inl ⟨_, hj, g, .inr h⟩
            · exact .inr ⟨_, hj, g, .inr h⟩
      · rw [b1 b hbk, a1 b hbk]
        exact ih1 b (by omega) a
    · rw [b1 b (by omega), a1 b (by omega)]
      exact ih2 b (by omega)
/-- The ends at the bottom put nothing. -/
theorem ea_ends {F : Nat → Nat} (s : Ln) : ∀ j, (eEnds s j).foldl eaStep F = F
  | 0 => rfl
  | j + 1 => by
    rw [eEnds_succ, List.foldl_append, ea_ends s j]
    show eaStep F (s.el j (-1) j) = F
    unfold eaStep
    rw [if_neg (fun h => by have := h.2; simp [Ln.el] at this)]
/-- What the program's sets say: what is before each work. -/
theorem eaF_bef {P n : Nat} (pls : Nat → Nat) {b : Nat} (hb : b < n) (a : Nat) : (eaF (eAll P pls n) b).testBit a = true ↔ Bef pls a b := by
  have : eaF (eAll P pls n) = eaF (eList P pls n) := by
    unfold eaF eAll
    rw [List.foldl_append, ea_ends]
  rw [this]
  exact (sets_ok pls n).1 b hb a
end Go.Proofs.YtlpfecjkkgccgaaDoor
/- Where each edge begins and ends, from the sequence of the edges: plain. -/
namespace Go.Proofs.YtlpfecjkkgccgaaDoor

/-- Edge i begins behind so many works, in the place q. -/
def Sta (P : Nat) (pls : Nat → Nat) (i f q : Nat) (fr out : Int) : Prop :=
  (i < P ∧ f = 0 ∧ q = i ∧ fr = -1 ∧ out = i) ∨ ∃ j sd : Nat, sd < 2 ∧ i = P + 2 * j + sd ∧ f = j + 1 ∧ q = pls j + sd ∧ fr = j ∧ out = sd
/-- No work from f on, before k, takes the place. -/
def Free (pls : Nat → Nat) (f k q : Nat) : Prop := ∀ t, f ≤ t → t < k → ¬ tk pls t q
/-- How an edge that begins so ends, among n works. -/
def EndsAt (pls : Nat → Nat) (f n q : Nat) (tw inn : Int) : Prop :=
  (∃ t, f ≤ t ∧ t < n ∧ tk pls t q ∧ Free pls f t q ∧ tw = t ∧ inn = (q : Int) - pls t) ∨ (Free pls f n q ∧ tw = -1 ∧ inn = q)
section
variable {P : Nat} {pls : Nat → Nat}
theorem sta_uniq {i f f' q q' : Nat} {fr fr' out out' : Int} (h : Sta P pls i f q fr out) (h' : Sta P pls i f' q' fr' out') : f = f' ∧ q = q' ∧ fr = fr' ∧ out = out' := by
  rcases h with ⟨h1, h2, h3, h4, h5⟩ | ⟨j, sd, h1, h2, h3, h4, h5, h6⟩ <;> rcases h' with ⟨g1, g2, g3, g4, g5⟩ | ⟨j', sd', g1, g2, g3, g4, g5, g6⟩
  · omega
  · omega
  · omega
  · obtain rfl : j = j' := by omega
    obtain rfl : sd = sd' := by omega
    omega
theorem endsAt_uniq {f n q : Nat} {tw tw' inn inn' : Int} (h : EndsAt pls f n q tw inn) (h' : EndsAt pls f n q tw' inn') : tw = tw' ∧ inn = inn' := by
  rcases h with ⟨t, h1, h2, h3, h4, rfl, rfl⟩ | ⟨h1, rfl, rfl⟩ <;> rcases h' with ⟨t', g1, g2, g3, g4, rfl, rfl⟩ | ⟨g1, rfl, rfl⟩
  · rcases Nat.lt_trichotomy t t' with c | c | c
    · exact absurd h3 (g4 t h1 c)
    · subst c; exact ⟨rfl, rfl⟩
    · exact absurd g3 (h4 t' g1 c)
  · exact absurd h3 (g1 t h1 h2)
  · exact absurd g3 (h1 t' g1 g2)
  · exact ⟨rfl, rfl⟩
/-- In each place lies an edge that began there and has not ended. -/
def LineOk (P : Nat) (pls : Nat → Nat) (k : Nat) (s : Ln) : Prop :=
  ∀ q, q < P → ∃ i f : Nat, Sta P pls i f q (s.fr q) (s.out q) ∧ s.idx q = (i : Int) ∧ f ≤ k ∧ Free pls f k q
theorem line_ok : ∀ k, LineOk P pls k (eWork P pls k)
  | 0 => fun q hq => ⟨q, 0, .inl ⟨hq, rfl, rfl, rfl, rfl⟩, rfl, Nat.le_refl _, fun t _ h => by omega⟩
  | k + 1 => fun q hq => by
    show ∃ i f : Nat, Sta P pls i f q (updF (updF (eWork P pls k).fr (pls k + 0) k) (pls k + 1) k q) (updF (updF (eWork P pls k).out (pls k + 0) (0 : Nat)) (pls k + 1) (1 : Nat) q) ∧
      updF (updF (eWork P pls k).idx (pls k + 0) (P + 2 * k + (0 : Nat))) (pls k + 1) (P + 2 * k + (1 : Nat)) q = (i : Int) ∧ f ≤ k + 1 ∧ Free pls f (k + 1) q
    unfold updF
    by_cases h1 : q = pls k + 1
    · simp only [h1, if_true]
      exact ⟨P + 2 * k + 1, k + 1, .inr ⟨k, 1, by omega, rfl, rfl, rfl, rfl, rfl⟩, by omega, Nat.le_refl _, fun t h h' => by omega⟩
    · by_cases h2 : q = pls k + 0
      · simp only [h2, if_true]
        refine ⟨P + 2 * k + 0, k + 1, .inr ⟨k, 0, by omega, rfl, rfl, rfl, ?_, ?_⟩, ?_, Nat.le_refl _, fun t h h' => by omega⟩
        · rw [if_neg (by omega)]
        · rw [if_neg (by omega)]
        · rw [if_neg (by omega)]; omega
      · simp only [h1, h2, if_false]
        obtain ⟨i, f, g1, g2, g3, g4⟩ := line_ok k q hq
        refine ⟨i, f, g1, g2, by omega, fun t ht ht' htk => ?_⟩
        by_cases hk : t = k
        · subst hk
          unfold tk at htk
          omega
        · exact g4 t ht (by omega) htk
/-- The edge that began in a place and has not ended lies there. -/
theorem alive_at {k : Nat} {s : Ln} (hs : LineOk P pls k s) {i f q : Nat} {fr out : Int} (hq : q < P) (h : Sta P pls i f q fr out) (hf : f ≤ k) (hfr : Free pls f k q) : s.idx q = (i : Int) ∧ s.fr q = fr ∧ s.out q = out := by
  obtain ⟨i', f', g1, g2, g3, g4⟩ := hs q hq
  have hff : f = f' := by
    rcases Nat.lt_trichotomy f f' with c | c | c
    · rcases g1 with ⟨_, e2, _⟩ | ⟨j, sd, e1, e2, e3, e4, _⟩
      · omega
      · exact absurd (show tk pls j q by unfold tk; omega) (hfr j (by omega) (by omega))
    · exact c
    · rcases h with ⟨_, e2, _⟩ | ⟨j, sd, e1, e2, e3, e4, _⟩
      · omega
      · exact absurd (show tk pls j q by unfold tk; omega) (g4 j (by omega) (by omega))
  subst hff
  have hii : i = i' := by
    rcases h with ⟨e1, e2, e3, _⟩ | ⟨j, sd, e1, e2, e3, e4, _⟩ <;> rcases g1 with ⟨d1, d2, d3, _⟩ | ⟨j', sd', d1, d2, d3, d4, _⟩
    · omega
    · omega
    · omega
    · obtain rfl : j = j' := by omega
      omega
  subst hii
  obtain ⟨_, _, e3, e4⟩ := sta_uniq h g1
  exact ⟨g2, e3.symm, e4.symm⟩
/-- An edge that has ended lies nowhere. -/
theorem gone {k : Nat} {s : Ln} (hs : LineOk P pls k s) {i f q p : Nat} {fr out : Int} (hp : p < P) (h : Sta P pls i f q fr out) (hg : p ≠ q ∨ ¬ Free pls f k q) : (s.idx p).toNat ≠ i := by
  intro e
  obtain ⟨i', f', g1, g2, g3, g4⟩ := hs p hp
  rw [g2, Int.toNat_natCast] at e
  subst e
  obtain ⟨e1, e2, _⟩ := sta_uniq h g1
  subst e1; subst e2
  rcases hg with hg | hg
  · exact hg rfl
  · exact hg g4
theorem outF_two (k : Nat) : outF (eList P pls (k + 1)) = updF (updF (outF (eList P pls k)) ((eWork P pls k).idx (pls k)).toNat (⟨(eWork P pls k).fr (pls k), (eWork P pls k).out (pls k), k, (0 : Nat)⟩ : E4))
    ((eWork P pls k).idx (pls k + 1)).toNat (⟨(eWork P pls k).fr (pls k + 1), (eWork P pls k).out (pls k + 1), k, (1 : Nat)⟩ : E4) := by
  show outF ((eList P pls k ++ [_]) ++ [_]) = _
  rw [outF_snoc, outF_snoc]
  have e1 : ∀ {α : Type} (g : Nat → α) (v : α), updF g (pls k + 0) v (pls k + 1) = g (pls k + 1) := fun g v => by unfold updF; rw [if_neg (by omega)]
  show updF (updF _ ((eWork P pls k).idx (pls k + 0)).toNat (⟨(eWork P pls k).fr (pls k + 0), (eWork P pls k).out (pls k + 0), k, (0 : Nat)⟩ : E4)) (updF (eWork P pls k).idx (pls k + 0) _ (pls k + 1)).toNat
    (⟨updF (eWork P pls k).fr (pls k + 0) _ (pls k + 1), updF (eWork P pls k).out (pls k + 0) _ (pls k + 1), k, (1 : Nat)⟩ : E4) = _
  rw [e1, e1, e1]
  rfl
theorem updF_same {α : Type} (g : Nat → α) (i : Nat) (v : α) : updF g i v i = v := if_pos rfl
theorem updF_other {α : Type} (g : Nat → α) {i j : Nat} (v : α) (h : i ≠ j) : updF g i v j = g j := if_neg (fun e => h e.symm)
theorem list_ends : ∀ (k i f q t : Nat) (fr out : Int), (∀ j, j < k → pls j + 2 ≤ P) → q < P → Sta P pls i f q fr out → f ≤ t → t < k → tk pls t q → Free pls f t q →
    outF (eList P pls k) i = ⟨fr, out, t, (q : Int) - pls t⟩
  | 0, _, _, _, _, _, _, _, _, _, _, h, _, _ => by omega
  | k + 1, i, f, q, t, fr, out, hpl, hq, hst, hft, htk, htq, hfr => by
    have hs := line_ok (P := P) (pls := pls) k
    have hp := hpl k (by omega)
    rw [outF_two]
    by_cases hc : t = k
    · subst hc
      obtain ⟨a1, a2, a3⟩ := alive_at hs hq hst hft hfr
      rcases htq with h | h
      · subst h
        rw [updF_other _ _ (gone hs (by omega) hst (.inl (by omega))), a1, a2, a3, Int.toNat_natCast, updF_same]
        congr 1
        omega
      · subst h
        rw [a1, a2, a3, Int.toNat_natCast, updF_same]
        congr 1
        omega
    · have hnf : ¬ Free pls f k q := fun h => h t hft (by omega) htq
      rw [updF_other _ _ (gone hs (by omega) hst (.inr hnf)), updF_other _ _ (gone hs (by omega) hst (.inr hnf))]
      exact list_ends k i f q t fr out (fun j hj => hpl j (by omega)) hq hst hft (by omega) htq hfr
theorem ends_out {k : Nat} {s : Ln} (hs : LineOk P pls k s) (L : List El) {i f q : Nat} {fr out : Int} (hq : q < P) (hst : Sta P pls i f q fr out) (hf : f ≤ k) : ∀ j, j ≤ P →
    (Free pls f k q → q < j → outF (L ++ eEnds s j) i = ⟨fr, out, -1, q⟩) ∧ (¬ (Free pls f k q ∧ q < j) → outF (L ++ eEnds s j) i = outF L i)
  | 0, _ => ⟨fun _ h => by omega, fun _ => by simp [eEnds]⟩
  | j + 1, hj => by
    obtain ⟨h1, h2⟩ := ends_out hs L hq hst hf j (by omega)
    rw [eEnds_succ, ← List.append_assoc, outF_snoc]
    show (_ → _ → updF _ (s.idx j).toNat (⟨s.fr j, s.out j, -1, j⟩ : E4) i = _) ∧ (_ → updF _ (s.idx j).toNat (⟨s.fr j, s.out j, -1, j⟩ : E4) i = _)
    constructor
    · intro ha hqj
      by_cases hc : q = j
      · subst hc
        obtain ⟨a1, a2, a3⟩ := alive_at hs hq hst hf ha
        rw [a1, a2, a3, Int.toNat_natCast, updF_same]
      · rw [updF_other _ _ (gone hs (by omega) hst (.inl (by omega)))]
        exact h1 ha (by omega)
    · intro hn
      by_cases ha : Free pls f k q
      · rw [updF_other _ _ (gone hs (by omega) hst (.inl (fun e => hn ⟨ha, by omega⟩)))]
        exact h2 (fun h => hn ⟨h.1, by omega⟩)
      · rw [updF_other _ _ (gone hs (by omega) hst (.inr ha))]
        exact h2 (fun h => ha h.1)
end
theorem not_free {pls : Nat → Nat} {f q : Nat} : ∀ n, ¬ Free pls f n q → ∃ t, f ≤ t ∧ t < n ∧ tk pls t q ∧ Free pls f t q
  | 0, h => absurd (fun t _ h' => by omega) h
  | n + 1, h => by
    by_cases hf : Free pls f n q
    · by_cases ht : f ≤ n ∧ tk pls n q
      · exact ⟨n, ht.1, by omega, ht.2, hf⟩
      · refine absurd (fun t h1 h2 h3 => ?_) h
        by_cases hc : t = n
        · subst hc; exact ht ⟨h1, h3⟩
        · exact hf t h1 (by omega) h3
    · obtain ⟨t, g1, g2, g3⟩ := not_free n hf
      exact ⟨t, g1, by omega, g3⟩
/-- Each edge as Edges says it. -/
theorem all_ends {P n : Nat} {pls : Nat → Nat} (hpl : ∀ k, k < n → pls k + 2 ≤ P) {i f q : Nat} {fr out : Int} (hq : q < P) (hst : Sta P pls i f q fr out) (hf : f ≤ n) :
    ∃ tw inn, outF (eAll P pls n) i = ⟨fr, out, tw, inn⟩ ∧ EndsAt pls f n q tw inn := by
  by_cases hfr : Free pls f n q
  · obtain ⟨h1, _⟩ := ends_out (line_ok n) (eList P pls n) hq hst hf P (Nat.le_refl _)
    exact ⟨-1, q, h1 hfr hq, .inr ⟨hfr, rfl, rfl⟩⟩
  · obtain ⟨_, h2⟩ := ends_out (line_ok n) (eList P pls n) hq hst hf P (Nat.le_refl _)
    obtain ⟨t, g1, g2, g3, g4⟩ := not_free n hfr
    refine ⟨t, q - pls t, ?_, .inl ⟨t, g1, g2, g3, g4, rfl, rfl⟩⟩
    rw [show eAll P pls n = eList P pls n ++ eEnds (eWork P pls n) P from rfl, h2 (fun h => hfr h.1)]
    exact list_ends n i f q t fr out hpl hq hst g1 g2 g3 g4
end Go.Proofs.YtlpfecjkkgccgaaDoor
