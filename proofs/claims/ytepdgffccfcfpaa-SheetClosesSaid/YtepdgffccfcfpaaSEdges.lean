/- The program's Edges. -/
import Derived.Test.YtepdgffccfcfpaaEdges1
import Derived.Test.YtepdgffccfcfpaaEdF
import Derived.Test.YtepdgffccfcfpaaOk
import Derived.Test.YtepdgffccfcfpaaCheckS
namespace Go.Proofs.Ytepdgffccfcfpaa
open Go Go.RowKit Go.Shelf
attribute [local go_sem] Oper.semAt_some

theorem edges_ (v0 v1 : Value) (w : World) : Calls Try.prog 34 #[.agg #[v0, v1]] w fun e w' => e = .returned (.func (.func 49) #[] #[.pointer (some ⟨w.heap.size, 0, none⟩)]) ∧ w' = w.alloc (.cells #[v0, v1] 24) := by
  go_enter Try.func34, Try.ntmps34
  go_wp2
  go_ret
  exact ⟨rfl, rfl⟩
theorem pls_le {P : Nat} {ws : List GW} (h : ∀ x ∈ ws, 0 ≤ x.pl ∧ x.pl ≤ (P : Int) - 2) : ∀ k, k < ws.length → plsOf ws k + 2 ≤ P := fun k hk => by
  unfold plsOf
  rw [show ws.getD k gwE = ws[k] by simp [List.getD_eq_getElem?_getD, hk]]
  have := h _ (List.getElem_mem hk)
  omega
/-- What Edges returns of a valid sheet. -/
def EdgesPost (P : Nat) (ws : List GW) (w : World) (e : Ending) (w' : World) : Prop :=
  ∃ R, e = .returned (.tuple #[.slice (some ⟨R, 0, none⟩) (P + 2 * ws.length) (P + 2 * ws.length), .int .i64 0]) ∧ FB w' R (P + 2 * ws.length) (outF (eAll P (plsOf ws) ws.length)) ∧ Below w.heap.size w w'

set_option maxRecDepth 100000 in
set_option maxHeartbeats 4000000 in
theorem sEdges_ok (P : Nat) (A : Option Addr) (c : Nat) (ws : List GW) (w : World) (hok : errSheet P ws = 0) (ha : RdW w A ws) :
    Calls Try.prog 12 #[.agg #[.int .i64 (P : Int), .slice A ws.length c]] w (EdgesPost P ws w) := by
  obtain ⟨hp2, hp24, hn, hall⟩ := okAll hok
  have hpl : ∀ x ∈ ws, 0 ≤ x.pl ∧ x.pl ≤ (P : Int) - 2 := fun x hx => ⟨(hall x hx).2.1, (hall x hx).2.2.1⟩
  have hidx := idx_all (P := P) (n := ws.length) (plsOf ws) (pls_le hpl)
  have hmk1 := run_makeE_Try (P + 2 * ws.length) (by omega)
  rw [show ((P + 2 * ws.length : Nat) : Int) = (P : Int) + 2 * (ws.length : Int) by omega] at hmk1
  have hb2 : Below w.heap.size w (w.alloc (.cells #[.int .i64 (P : Int), .slice A ws.length c] 24)) := (Below.refl _ _).alloc (Nat.le_refl _) _
  have X0 := Lib.hid (Box1.made w P A c ws.length 24)
  have Y0 := Lib.hid hb2; clear hb2
  have HA := Lib.hid ha; have HALL := Lib.hid hall; have HPL := Lib.hid hpl; have HIDX := Lib.hid hidx; clear ha hall hpl hidx
  refine (callsIn_wide (n := 3)).1 ?_
  refine callsIn_of_wp_marks Try.func12 rfl trivial ?_ rfl
  simp only [Try.ntmps12, List.size_toArray, List.length_cons, List.length_nil, Nat.reduceAdd, Nat.reduceSub, Array.replicate_succ, Array.replicate_zero, List.push_toArray, List.append_toArray, List.nil_append, List.cons_append]
  refine wpIn_wide.2 ?_
  go_wp2_with fail
  refine (sCheck_ _ _ _ _ _ (by omega) (by omega) (HA.out.later Y0.out (Nat.le_refl _))).mono ?_
  rw [hok]
  rintro e w1 ⟨rfl, hb1⟩
  have X1 := Lib.hid (X0.out.later hb1); have Y1 := Lib.hid (Y0.out.trans (hb1.mono Y0.out.size)); clear hb1; obtain ⟨c1, c2, s1⟩ := X1.out
  go_wp2_with fail
  clear c1 c2 s1
  clear hmk1
  refine (edges_ _ _ _).mono ?_
  rintro e w2 ⟨rfl, rfl⟩
  go_wp2_with fail
  obtain ⟨w2, hw2⟩ : ∃ w2, w2 = ((w1.alloc (.cells (madeCells #[.int .i64 0, .int .i64 0, .int .i64 0, .int .i64 0] ((P + 2 * ws.length) * 4)) 46)).alloc (.cells #[.slice (some ⟨w1.heap.size, 0, none⟩) (P + 2 * ws.length) (P + 2 * ws.length)] 27)).alloc
    (.cells #[.int .i64 (P : Int), .slice A ws.length c] 24) := ⟨_, rfl⟩
  have hs2 : w2.heap.size = w1.heap.size + 3 := by rw [hw2]; simp
  have hF2 : FB w2 w1.heap.size (P + 2 * ws.length) (outF []) := by
    unfold FB
    rw [hw2, Below.heap_alloc _ _ _ (by simp; omega), Below.heap_alloc _ _ _ (by simp), heap_alloc_new, fCells_zero]; rfl
  have hO2 : w2.heap[w1.heap.size + 1]? = some (.cells #[.slice (some ⟨w1.heap.size, 0, none⟩) (P + 2 * ws.length) (P + 2 * ws.length)] 27 (0, 0)) := by
    rw [hw2, Below.heap_alloc _ _ _ (by simp)]
    have := heap_alloc_new (w1.alloc (.cells (madeCells #[.int .i64 0, .int .i64 0, .int .i64 0, .int .i64 0] ((P + 2 * ws.length) * 4)) 46)) (.cells #[.slice (some ⟨w1.heap.size, 0, none⟩) (P + 2 * ws.length) (P + 2 * ws.length)] 27)
    rwa [World.size_alloc] at this
  have hS2 : w2.heap[w1.heap.size + 1 + 1]? = some (.cells #[.int .i64 (P : Int), .slice A ws.length c] 24 (0, 0)) := by
    rw [hw2]
    have := heap_alloc_new ((w1.alloc (.cells (madeCells #[.int .i64 0, .int .i64 0, .int .i64 0, .int .i64 0] ((P + 2 * ws.length) * 4)) 46)).alloc (.cells #[.slice (some ⟨w1.heap.size, 0, none⟩) (P + 2 * ws.length) (P + 2 * ws.length)] 27)) (.cells #[.int .i64 (P : Int), .slice A ws.length c] 24)
    rwa [World.size_alloc, World.size_alloc] at this
  have hb12 : Below w1.heap.size w1 w2 := by
    rw [hw2]; exact (((Below.refl _ _).alloc (Nat.le_refl _) _).alloc (by simp) _).alloc (by simp; omega) _
  have hY2 := Y1.out.trans (hb12.mono Y1.out.size)
  have hw1 := Y1.out.size
  rw [← hw2]
  clear hw2
  have hseq := edges1_ (w1.heap.size + 1 + 1) P c A ws w2 (fun i => i = w1.heap.size) (by omega) (by omega) hn HPL.out hS2 (HA.out.later hY2 (Nat.le_refl _)) (fun i h => by omega) (by omega) (fun h0 b off e h => by have := rdW_lt HA.out h0 b off e; omega)
  refine (wpIn_wide (n := 3)).1 ?_
  refine wp_iter (α := El) (gf := 49) (lb := #[.pointer (some ⟨w1.heap.size + 1 + 1, 0, none⟩)]) rfl (enters_of Try.func49 (by kernel_rfl) rfl) (encs := El.enc) (eAll P (plsOf ws) ws.length) (fun i => i = w1.heap.size) (fun i h => by omega) (fun _ => rfl) hseq
    (fun pre W => FB W w1.heap.size (P + 2 * ws.length) (outF pre) ∧ W.heap[w1.heap.size + 1]? = some (.cells #[.slice (some ⟨w1.heap.size, 0, none⟩) (P + 2 * ws.length) (P + 2 * ws.length)] 27 (0, 0)) ∧ Below w.heap.size w W)
    (fun pre A' B' hi hs hb => ⟨(hb.block _ (by omega)).trans hi.1, (hb.block _ (by omega)).trans hi.2.1, hi.2.2.trans (hb.mono (by omega))⟩)
    ⟨hF2, hO2, hY2⟩
    (fun x a' W => ∃ Bx : Nat, a' = { tmps := #[.agg #[.int .i64 (P : Int), .slice A ws.length c], .pointer (some ⟨w.heap.size, 0, none⟩), .slice none 0 0, .int .i64 0, .int .i64 0, .pointer (some ⟨w1.heap.size + 1, 0, none⟩), .int .i64 x.idx, .pointer (some ⟨Bx, 0, none⟩),
      .agg #[.int .i64 (P : Int), .slice A ws.length c], .int .i64 0, .int .i64 0, .bool false, undef, .pointer (some ⟨w.heap.size, 0, none⟩), .int .i64 (P : Int), .pointer (some ⟨w.heap.size, 1, none⟩), .slice A ws.length c, .int .i64 (ws.length : Int), .int .i64 (2 * (ws.length : Int)), .int .i64 ((P : Int) + 2 * (ws.length : Int)),
      .slice (some ⟨w1.heap.size, 0, none⟩) (P + 2 * ws.length) (P + 2 * ws.length), .agg #[.int .i64 (P : Int), .slice A ws.length c], .func (.func 49) #[] #[.pointer (some ⟨w1.heap.size + 1 + 1, 0, none⟩)], .int .i64 x.idx, .agg #[.int .i64 x.fr, .int .i64 x.out, .int .i64 x.to, .int .i64 x.inn],
      undef, undef, undef, undef, undef], defers := [] } ∧ W.heap[Bx]? = some (.cells #[.int .i64 x.fr, .int .i64 x.out, .int .i64 x.to, .int .i64 x.inn] 46 (0, 0)))
    (fun x a' W W' l r hx hl hs hsame => by
      obtain ⟨Bx, ha', hbx⟩ := hx
      refine ⟨Bx, ha', (hsame Bx ?_).trans hbx⟩
      rintro rfl
      rw [hbx] at hl
      cases hl)
    ?assign ?body ?done
  case assign =>
    intro l pre x W K hp hi hs hK
    dsimp only [El.enc]
    gi_wp2
    exact hK _ _ ⟨W.heap.size, rfl, heap_alloc_new _ _⟩ ((Below.refl _ _).alloc (Nat.le_refl _) _)
  case body =>
    rintro l pre x a' W hp ⟨hF, hO, hB⟩ ⟨Bx, rfl, hx⟩ hs
    have hmem : x ∈ eAll P (plsOf ws) ws.length := hp.subset (by simp)
    obtain ⟨i1, i2⟩ := HIDX.out x hmem
    obtain ⟨i, hi⟩ := Int.eq_ofNat_of_zero_le i1
    have hin : i < P + 2 * ws.length := by omega
    have hou : outF (pre ++ [x]) = updF (outF pre) i x.e4 := by rw [outF_snoc, hi]; rfl
    rw [hou, hi]
    clear hou hmem i1 i2
    have x1 : (0 : Int) ≤ (i : Int) := by omega
    have x2 : (i : Int) < ((P + 2 * ws.length : Nat) : Int) := by omega
    have x3 : (i : Int) < (P : Int) + 2 * (ws.length : Int) := by omega
    obtain ⟨e0, e1, e2, e3⟩ := hF.at_ hin
    have f0 := hF.free (i * 4)
    have f1 := hF.free (i * 4 + 1)
    have f2 := hF.free (i * 4 + 2)
    have f3 := hF.free (i * 4 + 3)
    have o0 : W.cell? ⟨w1.heap.size + 1, 0, none⟩ = some (.slice (some ⟨w1.heap.size, 0, none⟩) (P + 2 * ws.length) (P + 2 * ws.length)) := cell_of_row W _ 0 _ _ _ hO
    have g0 : W.cell? ⟨Bx, 0, none⟩ = some (.int .i64 x.fr) := cell_of_row W _ 0 _ _ _ hx
    have g1 : W.cell? ⟨Bx, 1, none⟩ = some (.int .i64 x.out) := cell_of_row W _ 1 _ _ _ hx
    have g2 : W.cell? ⟨Bx, 2, none⟩ = some (.int .i64 x.to) := cell_of_row W _ 2 _ _ _ hx
    have g3 : W.cell? ⟨Bx, 3, none⟩ = some (.int .i64 x.inn) := cell_of_row W _ 3 _ _ _ hx
    have hnF := hF.put i x.e4
    have hnO : ((((W.setCell ⟨w1.heap.size, i * 4, none⟩ (.int .i64 x.fr)).setCell ⟨w1.heap.size, i * 4 + 1, none⟩ (.int .i64 x.out)).setCell ⟨w1.heap.size, i * 4 + 2, none⟩ (.int .i64 x.to)).setCell ⟨w1.heap.size, i * 4 + 3, none⟩ (.int .i64 x.inn)).heap[w1.heap.size + 1]? = some (.cells #[.slice (some ⟨w1.heap.size, 0, none⟩) (P + 2 * ws.length) (P + 2 * ws.length)] 27 (0, 0)) := by
      rw [heap_setCell_other _ _ _ _ (by simp), heap_setCell_other _ _ _ _ (by simp), heap_setCell_other _ _ _ _ (by simp), heap_setCell_other _ _ _ _ (by simp)]; exact hO
    have hnB := (((hB.setCell (p := ⟨w1.heap.size, i * 4, none⟩) hw1 (.int .i64 x.fr)).setCell (p := ⟨w1.heap.size, i * 4 + 1, none⟩) hw1 (.int .i64 x.out)).setCell (p := ⟨w1.heap.size, i * 4 + 2, none⟩) hw1 (.int .i64 x.to)).setCell (p := ⟨w1.heap.size, i * 4 + 3, none⟩) hw1 (.int .i64 x.inn)
    have hnK := ((((Kp.refl (fun i => i = w1.heap.size) W).setCell (p := ⟨w1.heap.size, i * 4, none⟩) (.inl rfl) (.int .i64 x.fr)).setCell (p := ⟨w1.heap.size, i * 4 + 1, none⟩) (.inl rfl) (.int .i64 x.out)).setCell (p := ⟨w1.heap.size, i * 4 + 2, none⟩) (.inl rfl) (.int .i64 x.to)).setCell (p := ⟨w1.heap.size, i * 4 + 3, none⟩) (.inl rfl) (.int .i64 x.inn)
    generalize (outF pre i).fr = q0 at *
    generalize (outF pre i).out = q1 at *
    generalize (outF pre i).to = q2 at *
    generalize (outF pre i).inn = q3 at *
    have s1 : w1.heap.size < W.heap.size := by omega
    have HF := Lib.hid hF; have HO := Lib.hid hO; have HB := Lib.hid hB; have HX := Lib.hid hx; have HNF := Lib.hid hnF; have HNO := Lib.hid hnO; have HNB := Lib.hid hnB; have HNK := Lib.hid hnK; have HI := Lib.hid hi; have HF2 := Lib.hid hF2; have HO2 := Lib.hid hO2; have HS2 := Lib.hid hS2; have HY2 := Lib.hid hY2; have HB12 := Lib.hid hb12; clear hF hO hB hx hnF hnO hnB hnK hi hF2 hO2 hS2 hY2 hb12
    gi_wp2
    exact ⟨HNK.out, HNF.out, HNO.out, HNB.out⟩
  case done =>
    rintro W ⟨hF, hO, hB⟩ hD hs
    have o0 : W.cell? ⟨w1.heap.size + 1, 0, none⟩ = some (.slice (some ⟨w1.heap.size, 0, none⟩) (P + 2 * ws.length) (P + 2 * ws.length)) := cell_of_row W _ 0 _ _ _ hO
    have HF := Lib.hid hF; have HO := Lib.hid hO; have HB := Lib.hid hB; have HF2 := Lib.hid hF2; have HO2 := Lib.hid hO2; have HS2 := Lib.hid hS2; have HY2 := Lib.hid hY2; have HB12 := Lib.hid hb12; clear hF hO hB hF2 hO2 hS2 hY2 hb12
    go_wp2
    refine ⟨by simp, .inl ⟨_, _, rfl, run_takeDeferred hD, ?_⟩⟩
    exact ⟨_, results_tmp2 rfl _ _ _, w1.heap.size, rfl, (World.putObj_heap_other (by omega)).trans HF.out, HB.out.trans (below_putObj _ (by omega))⟩
end Go.Proofs.Ytepdgffccfcfpaa
