/- Texts of this claim, laid together: PrStr, PrHang, PrFar, PrRef, PrRefH, PrMay, PrHgR, PrRefG, PrUB. -/
import Derived.Test.YtnplcephmidjbaaDoorMaA
import Derived.Test.YtnplcephmidjbaaDoorMaB
import Derived.Test.YtnplcephmidjbaaDoorMaF
import Derived.Test.YtnplcephmidjbaaDoorMaM
import Derived.Test.YtnplcephmidjbaaDoorMaN
import Derived.Test.YtnplcephmidjbaaDoorMaO
import Derived.Test.YtnplcephmidjbaaDoorMaP
import Derived.Laws.CopyOwn
/- Package pairs: stretches. -/
namespace Go.Proofs.YtnplcephmidjbaaDoor
open Go.RowKit

/-- The cells of the 24 stretches. -/
def stCell (f l : Nat → Int) (j : Nat) : Value := if j % 2 = 0 then .int .i64 (f (j / 2)) else .int .i64 (l (j / 2))
def stCells (f l : Nat → Int) : Array Value := ((List.range 48).map (stCell f l)).toArray
theorem stCells_size (f l : Nat → Int) : (stCells f l).size = 48 := by unfold stCells; simp
theorem stCells_one (f l : Nat → Int) : (stCells f l).all (·.oneCell') = true := by
  unfold stCells
  rw [Array.all_eq_true]
  intro i hi
  simp only [List.getElem_toArray, List.getElem_map, List.getElem_range]
  unfold stCell
  split <;> rfl
def StB (w : World) (R : Nat) (f l : Nat → Int) : Prop := w.heap[R]? = some (.cells (stCells f l) 51 (0, 0))
section
variable {w w' : World} {R : Nat} {f l : Nat → Int}
theorem StB.lt (h : StB w R f l) : R < w.heap.size := lt_of_block h
theorem StB.free (h : StB w R f l) (j : Nat) : w.frozen? ⟨R, j, none⟩ = false := frozen_of_row _ _ j _ _ h
theorem StB.at_ (h : StB w R f l) {p : Nat} (hp : p < 24) : w.cell? ⟨R, p * 2, none⟩ = some (.int .i64 (f p)) ∧ w.cell? ⟨R, p * 2 + 1, none⟩ = some (.int .i64 (l p)) := by
  have key : ∀ j, j < 48 → w.cell? ⟨R, j, none⟩ = some (stCell f l j) := fun j hj => by
    rw [cell_of_row w R j _ _ _ h]; simp [stCells, hj]
  refine ⟨?_, ?_⟩
  · rw [key _ (by omega)]; unfold stCell; rw [if_pos (by omega), show p * 2 / 2 = p by omega]
  · rw [key _ (by omega)]; unfold stCell; rw [if_neg (by omega), show (p * 2 + 1) / 2 = p by omega]
theorem StB.int (h : StB w R f l) (j : Nat) (hj : j < 48) : ∃ z, w.cell? ⟨R, j, none⟩ = some (.int .i64 z) := by
  rw [cell_of_row w R j _ _ _ h]
  simp only [stCells, List.getElem?_toArray, List.getElem?_map, List.getElem?_range hj, Option.map_some]
  unfold stCell
  split
  · exact ⟨_, rfl⟩
  · exact ⟨_, rfl⟩
theorem StB.putF (h : StB w R f l) (p : Nat) (v : Int) : StB (w.setCell ⟨R, p * 2, none⟩ (.int .i64 v)) R (updF f p v) l := by
  refine Eq.trans (heap_setCell_same w R (p * 2) _ _ (.int .i64 v) h) ?_
  congr 2
  apply Array.ext'
  simp only [stCells, Array.toList_setIfInBounds]
  apply List.ext_getElem
  · simp
  · intro j h1 h2
    rw [List.getElem_set]
    simp only [List.getElem_map, List.getElem_range]
    unfold stCell updF
    by_cases c0 : p * 2 = j
    · subst c0; rw [if_pos rfl, if_pos (by omega), if_pos (by omega)]
    · rw [if_neg c0]
      by_cases c1 : j % 2 = 0
      · rw [if_pos c1, if_pos c1, if_neg (by omega)]
      · rw [if_neg c1, if_neg c1]
theorem StB.putL (h : StB w R f l) (p : Nat) (v : Int) : StB (w.setCell ⟨R, p * 2 + 1, none⟩ (.int .i64 v)) R f (updF l p v) := by
  refine Eq.trans (heap_setCell_same w R (p * 2 + 1) _ _ (.int .i64 v) h) ?_
  congr 2
  apply Array.ext'
  simp only [stCells, Array.toList_setIfInBounds]
  apply List.ext_getElem
  · simp
  · intro j h1 h2
    rw [List.getElem_set]
    simp only [List.getElem_map, List.getElem_range]
    unfold stCell updF
    by_cases c0 : p * 2 + 1 = j
    · subst c0; rw [if_pos rfl, if_neg (by omega), if_pos (by omega)]
    · rw [if_neg c0]
      by_cases c1 : j % 2 = 0
      · rw [if_pos c1, if_pos c1]
      · rw [if_neg c1, if_neg c1, if_neg (by omega)]
theorem StB.congr {f' l' : Nat → Int} (h : StB w R f l) (hf : ∀ p, p < 24 → f p = f' p) (hl : ∀ p, p < 24 → l p = l' p) : StB w R f' l' := by
  refine Eq.trans h ?_
  congr 2
  unfold stCells
  refine congrArg List.toArray (List.map_congr_left fun j hj => ?_)
  have := List.mem_range.1 hj
  unfold stCell
  rw [hf (j / 2) (by omega), hl (j / 2) (by omega)]
theorem StB.later (h : StB w R f l) (hb : Below w.heap.size w w') : StB w' R f l := (hb.block R h.lt).trans h
theorem StB.kept (h : StB w R f l) {row : Option Nat} (hg : w.grownBy w' row) (hne : some R ≠ row) : StB w' R f l := (hg.block R h.lt hne).trans h
theorem StB.alloc (h : StB w R f l) (o : Obj) : StB (w.alloc o) R f l := (heap_alloc_old w o h.lt).trans h
theorem StB.other (h : StB w R f l) {p : Addr} (hp : p.block ≠ R) (u : Value) : StB (w.setCell p u) R f l := (heap_setCell_other w p R u (fun e => hp e.symm)).trans h
theorem StB.row (h : StB w R f l) (f' l' : Nat → Int) : StB (w.setRow R (stCells f' l')) R f' l' := setRow_heap w R _ _ _ _ h
end
theorem stCells_zero : stCells (fun _ => 0) (fun _ => 0) = Array.replicate 48 (.int .i64 0) := by
  unfold stCells
  apply Array.ext'
  apply List.ext_getElem
  · simp
  · intro j h1 h2
    simp only [List.getElem_map, List.getElem_range, Array.toList_replicate, List.getElem_replicate]
    unfold stCell
    split <;> rfl
theorem zst : (#[.int .i64 0, .int .i64 0, .int .i64 0, .int .i64 0, .int .i64 0, .int .i64 0, .int .i64 0, .int .i64 0, .int .i64 0, .int .i64 0, .int .i64 0, .int .i64 0, .int .i64 0, .int .i64 0, .int .i64 0, .int .i64 0, .int .i64 0, .int .i64 0, .int .i64 0, .int .i64 0, .int .i64 0, .int .i64 0, .int .i64 0, .int .i64 0, .int .i64 0, .int .i64 0, .int .i64 0, .int .i64 0, .int .i64 0, .int .i64 0, .int .i64 0, .int .i64 0, .int .i64 0, .int .i64 0, .int .i64 0, .int .i64 0, .int .i64 0, .int .i64 0, .int .i64 0, .int .i64 0, .int .i64 0, .int .i64 0, .int .i64 0, .int .i64 0, .int .i64 0, .int .i64 0, .int .i64 0, .int .i64 0] : Array Value) = stCells (fun _ => 0) (fun _ => 0) := by rw [stCells_zero]; rfl
theorem info_st_Tryd : (Tryd.prog.info? 51).map (·.size) = some 48 := by kernel_rfl
theorem info_st (f l : Nat → Int) : (Tryd.prog.info? 51).map (·.size) = some (stCells f l).size := by rw [stCells_size]; exact info_st_Tryd

/-- What stretches returns. -/
def stF (p : Int) (ws : List GW) (l : List Int) : Nat → Int := if reoX p ws l = 0 then fsI (plsOf (reoG ws l)) l.length else fun _ => 0
def stL (p : Int) (ws : List GW) (l : List Int) : Nat → Int := if reoX p ws l = 0 then laI (plsOf (reoG ws l)) l.length else fun _ => 0
def StPost (p : Int) (ws : List GW) (l : List Int) (w : World) (e : Ending) (w' : World) : Prop :=
  e = .returned (.tuple #[.agg (stCells (stF p ws l) (stL p ws l)), .int .i64 (reoX p ws l)]) ∧ Below w.heap.size w w'
/-- The stretches within a work: its first j places are through. -/
def miF (q : Nat → Nat) (k j : Nat) : Nat → Int := fun p => if (p = q k ∧ 1 ≤ j ∨ p = q k + 1 ∧ 2 ≤ j) ∧ fsI q k p < 0 then (k : Int) else fsI q k p
def miL (q : Nat → Nat) (k j : Nat) : Nat → Int := fun p => if p = q k ∧ 1 ≤ j ∨ p = q k + 1 ∧ 2 ≤ j then (k : Int) else laI q k p

theorem gtr {a w w1 : World} {row : Option Nat} (h : a.grownBy w row) (hg : w.grownBy w1 row) : a.grownBy w1 row :=
  ⟨hg.os.trans h.os, hg.tape.trans h.tape, hg.output.trans h.output, Nat.le_trans h.size hg.size, fun i hi hne => (hg.block i (Nat.lt_of_lt_of_le hi h.size) hne).trans (h.block i hi hne)⟩
theorem ifc {α : Type} {a b : Prop} [Decidable a] [Decidable b] (h : a ↔ b) (x y : α) : (if a then x else y) = if b then x else y := by
  by_cases ha : a
  · rw [if_pos ha, if_pos (h.1 ha)]
  · rw [if_neg ha, if_neg (fun hb => ha (h.2 hb))]
theorem miF_zero (q : Nat → Nat) (k : Nat) : miF q k 0 = fsI q k := by
  funext p; unfold miF; rw [if_neg (by omega)]
theorem miL_zero (q : Nat → Nat) (k : Nat) : miL q k 0 = laI q k := by
  funext p; unfold miL; rw [if_neg (by omega)]
theorem miF_two (q : Nat → Nat) (k : Nat) : miF q k 2 = fsI q (k + 1) := by
  funext p
  show miF q k 2 p = if tkB (q k) p = true ∧ fsI q k p < 0 then (k : Int) else fsI q k p
  unfold miF
  exact ifc (by unfold tkB; simp) _ _
theorem miL_two (q : Nat → Nat) (k : Nat) : miL q k 2 = laI q (k + 1) := by
  funext p
  show miL q k 2 p = if tkB (q k) p = true then (k : Int) else laI q k p
  unfold miL
  exact ifc (by unfold tkB; simp) _ _
theorem miF_step {q : Nat → Nat} {k j : Nat} (hj : j < 2) : (fsI q k (q k + j) < 0 → updF (miF q k j) (q k + j) (k : Int) = miF q k (j + 1)) ∧ (¬ fsI q k (q k + j) < 0 → miF q k j = miF q k (j + 1)) := by
  constructor
  · intro h
    funext p
    unfold updF miF
    by_cases hp : p = q k + j
    · subst hp; rw [if_pos rfl, if_pos ⟨by omega, h⟩]
    · rw [if_neg hp]
      refine ifc ?_ _ _
      refine and_congr_left fun _ => ?_
      omega
  · intro h
    funext p
    unfold miF
    by_cases hp : p = q k + j
    · subst hp; rw [if_neg (fun c => h c.2), if_neg (fun c => h c.2)]
    · refine ifc ?_ _ _
      refine and_congr_left fun _ => ?_
      omega
theorem miL_step {q : Nat → Nat} {k j : Nat} (hj : j < 2) : updF (miL q k j) (q k + j) (k : Int) = miL q k (j + 1) := by
  funext p
  unfold updF miL
  by_cases hp : p = q k + j
  · subst hp; rw [if_pos rfl, if_pos (by omega)]
  · rw [if_neg hp]
    refine ifc ?_ _ _
    omega
theorem miF_at {q : Nat → Nat} {k j : Nat} : miF q k j (q k + j) = fsI q k (q k + j) := by
  unfold miF
  rw [if_neg (by omega)]
theorem reoG_length (ws : List GW) (l : List Int) : (reoG ws l).length = l.length := by unfold reoG; simp
theorem reo_ok {p : Int} {ws : List GW} {l : List Int} (hx : reoX p ws l = 0) : errSheet p ws = 0 ∧ ordQ ws l = true := by
  unfold reoX at hx
  by_cases he : errSheet p ws = 0
  · rw [if_pos he] at hx
    by_cases ho : ordQ ws l = true
    · exact ⟨he, ho⟩
    · rw [if_neg ho] at hx; omega
  · rw [if_neg he] at hx; exact absurd hx he
theorem reo_pl {p : Int} {ws : List GW} {l : List Int} (he : errSheet p ws = 0) {k : Nat} (hk : k < (reoG ws l).length) : (reoG ws l)[k].pl = (plsOf (reoG ws l) k : Int) ∧ (plsOf (reoG ws l) k : Int) ≤ p - 2 ∧ p ≤ 24 := by
  obtain ⟨h2, h24, _, hall⟩ := okAll he
  have hb : ∀ x ∈ reoG ws l, 0 ≤ x.pl ∧ x.pl ≤ p - 2 := by
    intro x hx
    unfold reoG at hx
    obtain ⟨y, _, rfl⟩ := List.mem_map.1 hx
    by_cases hy : y.toNat < ws.length
    · simp only [List.getD_eq_getElem?_getD, hy, List.getElem?_eq_getElem, Option.getD_some]
      obtain ⟨_, h3, h4, _⟩ := hall _ (List.getElem_mem hy)
      exact ⟨h3, by omega⟩
    · simp only [List.getD_eq_getElem?_getD, List.getElem?_eq_none (Nat.le_of_not_lt hy), Option.getD_none]
      exact ⟨Int.le_refl _, by show (0 : Int) ≤ p - 2; omega⟩
  obtain ⟨h3, h4⟩ := hb _ (List.getElem_mem hk)
  have e : plsOf (reoG ws l) k = (reoG ws l)[k].pl.toNat := by unfold plsOf; simp [List.getD_eq_getElem?_getD, hk]
  rw [e]
  exact ⟨by omega, by omega, h24⟩

set_option maxRecDepth 100000 in
set_option maxHeartbeats 4000000 in
theorem stretches_ (p : Int) (A L : Option Addr) (c lc : Nat) (ws : List GW) (l : List Int) (w : World) (hsh : ShIn w p A ws) (hl : RdI w L l) :
    Calls Tryd.prog 25 #[.agg #[.int .i64 p, .slice A ws.length c], .slice L l.length lc] w (StPost p ws l w) := by
  have hln := hl.1
  have HSH := Lib.hid hsh; have HL := Lib.hid hl; clear hsh hl
  go_enter Tryd.func25, Tryd.ntmps25
  go_wp2_with fail
  rw [zst]
  obtain ⟨W3, hW⟩ : ∃ W3, W3 = ((w.alloc (.cells #[.int .i64 p, .slice A ws.length c] 24)).alloc (.cells (stCells (fun _ => 0) (fun _ => 0)) 51)).alloc (.cells (stCells (fun _ => 0) (fun _ => 0)) 51) := ⟨_, rfl⟩
  rw [← hW]
  have hB : Below w.heap.size w W3 := by rw [hW]; exact (((Below.refl _ _).alloc (Nat.le_refl _) _).alloc (by simp) _).alloc (by simp; omega) _
  have hs3 : W3.heap.size = w.heap.size + 3 := by rw [hW]; simp
  have q1 : StB W3 (w.heap.size + 1) (fun _ => 0) (fun _ => 0) := by
    have := (show StB (((w.alloc (.cells #[.int .i64 p, .slice A ws.length c] 24)).alloc (.cells (stCells (fun _ => 0) (fun _ => 0)) 51))) (w.heap.size + 1) (fun _ => 0) (fun _ => 0) by unfold StB; have := heap_alloc_new (w.alloc (.cells #[.int .i64 p, .slice A ws.length c] 24)) (.cells (stCells (fun _ => 0) (fun _ => 0)) 51); simpa using this).alloc (.cells (stCells (fun _ => 0) (fun _ => 0)) 51)
    rw [hW]; exact this
  have q2 : StB W3 (w.heap.size + 2) (fun _ => 0) (fun _ => 0) := by
    unfold StB
    have := heap_alloc_new ((w.alloc (.cells #[.int .i64 p, .slice A ws.length c] 24)).alloc (.cells (stCells (fun _ => 0) (fun _ => 0)) 51)) (.cells (stCells (fun _ => 0) (fun _ => 0)) 51)
    rw [hW]; simpa using this
  clear hW
  refine (sReorder_ p A L c lc ws l W3 (HSH.out.later hB (Nat.le_refl _)) (HL.out.later hB (Nat.le_refl _))).mono ?_
  rintro e w1 ⟨B, d, rfl, hrd, hb1, hcap⟩
  have hs1 := hb1.size
  have Q1 := Lib.hid (q1.later hb1); have Q2 := Lib.hid (q2.later hb1)
  have Y1 := Lib.hid (hB.trans (hb1.mono hB.size))
  clear q1 q2 hB hb1
  by_cases hx : reoX p ws l = 0
  rotate_left
  · have hxb : (reoX p ws l != 0) = true := by simpa using hx
    have e1 : stF p ws l = fun _ => 0 := by unfold stF; rw [if_neg hx]
    have e2 : stL p ws l = fun _ => 0 := by unfold stL; rw [if_neg hx]
    have HX := Lib.hid hx; have E1 := Lib.hid e1; have E2 := Lib.hid e2; have HRD := Lib.hid hrd; clear hx e1 e2 hrd
    generalize hE : reoX p ws l = E at *
    have HE := Lib.hid hE; clear hE
    have hsp : w.heap.size + 2 < w1.heap.size := by omega
    have hz := run_loadVar_row (P := Tryd.prog) ((w1.alloc (.cells #[.int .i64 (reoP p ws l), .slice B (reoV p ws l).length d] 24)).setRow (w.heap.size + 1) (stCells (fun _ => 0) (fun _ => 0))) (w.heap.size + 1) 51 51 _ (0, 0) _ ((Q1.out.alloc _).row _ _) Tryd.underlying51 rfl (info_st _ _)
    have HZ := Lib.hid hz
    clear hz
    go_wp2_with (first | (refine wpList_load_row rfl 51 _ rfl (w.heap.size + 2) rfl 51 _ (0, 0) _ (Q2.out.alloc _) Tryd.underlying51 rfl (info_st _ _) ?_) | (refine wpList_store_row rfl 51 _ _ rfl (w.heap.size + 1) (stCells (fun _ => 0) (fun _ => 0)) rfl rfl 51 _ (Q1.out.alloc _) (info_st _ _) (by simp only [stCells_size]) (stCells_one _ _) ?_))
    refine bodyPost_ret (v := .tuple #[.agg (stCells (fun _ => 0) (fun _ => 0)), .int .i64 E]) (by simp [results, Tryd.results25, asAddr, ↓HZ.out]) rfl ⟨?_, ?_⟩
    · rw [E1.out, E2.out, HE.out]
    exact below_setRow (Y1.out.alloc Y1.out.size _) (by omega) _
  · have hok := (reo_ok hx).1
    have hP : reoP p ws l = p := by unfold reoP; rw [if_pos hx]
    have hV : reoV p ws l = reoG ws l := by unfold reoV; rw [if_pos hx]
    have hpl := fun k hk => reo_pl (p := p) (ws := ws) (l := l) hok (k := k) hk
    have hvl := reoG_length ws l
    have e1 : stF p ws l = fsI (plsOf (reoG ws l)) l.length := by unfold stF; rw [if_pos hx]
    have e2 : stL p ws l = laI (plsOf (reoG ws l)) l.length := by unfold stL; rw [if_pos hx]
    have HX3 := Lib.hid hx
    rw [hx, hP, hV]
    rw [hV] at hrd
    generalize hvs : reoG ws l = vs at *
    have HE1 := Lib.hid e1; have HE2 := Lib.hid e2
    clear hx hok hP hV e1 e2
    have hvb : vs.length ≤ 281474976710656 := by omega
    have HPL := Lib.hid hpl; have HVS := Lib.hid hvs; have HVL := Lib.hid hvl; clear hpl hvs hvl
    have hsp : w.heap.size + 2 < w1.heap.size := by omega
    obtain ⟨W5, hW⟩ : ∃ W5, W5 = w1.alloc (.cells #[.int .i64 p, .slice B vs.length d] 24) := ⟨_, rfl⟩
    have hb5 : Below w1.heap.size w1 W5 := by rw [hW]; exact (Below.refl _ _).alloc (Nat.le_refl _) _
    have hs5 : W5.heap.size = w1.heap.size + 1 := by rw [hW]; simp
    have hc5 : W5.cell? ⟨w1.heap.size, 1, none⟩ = some (.slice B vs.length d) := by rw [hW]; simp
    have Q1' := Lib.hid (Q1.out.later hb5); have Q2' := Lib.hid (Q2.out.later hb5); have V5 := Lib.hid (hrd.later hb5 (Nat.le_refl _))
    have Y5 := Lib.hid (Y1.out.trans (hb5.mono Y1.out.size))
    clear Q1 Q2 hrd hb5 Y1
    go_upto_region 5 with fail
    rw [← hW]
    clear hW
    go_wp2
    go_loopw [23] (fun iv wr => ∃ j : Nat, iv = .int .i64 j ∧ j ≤ 24 ∧ StB wr (w.heap.size + 2) (fun q => if q < j then -1 else 0) (fun q => if q < j then -1 else 0) ∧ W5.grownBy wr (some (w.heap.size + 2))) (fun iv _ => 24 - (intOf iv).toNat)
    case atStart => exact ⟨0, rfl, by omega, Q2'.out, World.grownBy.refl _ _⟩
    case round =>
      obtain ⟨j, rfl, hj, hst, hgr⟩ := hrel
      have hRr := hst.lt
      by_cases hj2 : j < 24
      · obtain ⟨k0, k1⟩ := hst.at_ hj2
        have f0 := hst.free (j * 2)
        have f1 := hst.free (j * 2 + 1)
        have z1 : (0 : Int) ≤ (j : Int) := by omega
        have z2 : (j : Int) < 24 := by omega
        have nst : StB ((wr.setCell ⟨w.heap.size + 2, j * 2, none⟩ (.int .i64 (-1))).setCell ⟨w.heap.size + 2, j * 2 + 1, none⟩ (.int .i64 (-1))) (w.heap.size + 2) (fun q => if q < j + 1 then -1 else 0) (fun q => if q < j + 1 then -1 else 0) := by
          refine ((hst.putF j (-1)).putL j (-1)).congr ?_ ?_
          all_goals
            intro q hq
            unfold updF
            by_cases h1 : q = j
            · subst h1; rw [if_pos rfl, if_pos (by omega)]
            · rw [if_neg h1]
              show (if q < j then (-1 : Int) else 0) = _
              by_cases h2 : q < j
              · rw [if_pos h2, if_pos (by omega)]
              · rw [if_neg h2, if_neg (by omega)]
        have HST := Lib.hid hst; have HGR := Lib.hid hgr; have NST := Lib.hid nst; clear hst hgr nst
        go_wp2
        go_roundw
        case rel => exact ⟨j + 1, by go_num, by omega, NST.out, GB.setCell (GB.setCell HGR.out (.inl rfl) _) (.inl rfl) _⟩
        case measure => simp [intOf]; omega
      · obtain rfl : j = 24 := by omega
        have hst0 : StB wr (w.heap.size + 2) (fsI (plsOf vs) 0) (laI (plsOf vs) 0) := hst.congr (fun q hq => by show (if q < 24 then (-1 : Int) else 0) = -1; rw [if_pos hq]) (fun q hq => by show (if q < 24 then (-1 : Int) else 0) = -1; rw [if_pos hq])
        have hbx : ∀ b o, b < W5.heap.size → b ≠ w.heap.size + 2 → wr.cell? ⟨b, o, none⟩ = W5.cell? ⟨b, o, none⟩ := fun b o h1 h2 => World.cell?_of_block (hgr.block b h1 (by simp; omega))
        have hc6 : wr.cell? ⟨w1.heap.size, 1, none⟩ = some (.slice B vs.length d) := (hbx _ _ (by omega) (by omega)).trans hc5
        have hw6 : w1.heap.size < wr.heap.size := by have := hgr.size; omega
        obtain ⟨wz, rfl⟩ : ∃ wz : World, wz = wr := ⟨_, rfl⟩
        have HST := Lib.hid hst; have HBX := Lib.hid hbx; have HST0 := Lib.hid hst0; have HGR := Lib.hid hgr; clear hst hbx hst0 hgr
        go_wp2
        clear hc6 hw6
        go_loopw [33] (fun iv wr => ∃ k : Nat, iv = .int .i64 k ∧ k ≤ vs.length ∧ StB wr (w.heap.size + 2) (fsI (plsOf vs) k) (laI (plsOf vs) k) ∧ W5.grownBy wr (some (w.heap.size + 2))) (fun iv _ => vs.length - (intOf iv).toNat)
        case atStart => exact ⟨0, rfl, Nat.zero_le _, HST0.out, HGR.out⟩
        case round =>
          obtain ⟨k, rfl, hk, hst, hgr⟩ := hrel
          have hRr := hst.lt
          obtain ⟨wy, rfl⟩ : ∃ wy : World, wy = wr := ⟨_, rfl⟩
          by_cases hk2 : k < vs.length
          · obtain ⟨bw, off, rfl, hbw, t1, t2, t3⟩ := V5.out.at_ hk2
            obtain ⟨g1, g2, g3⟩ := HPL.out k hk2
            rw [g1] at t2
            have hbwR : bw ≠ w.heap.size + 2 := by
              rintro rfl
              have h48 : off + k * 3 + 2 < 48 := by
                have hh := hst.lt
                have h5 : W5.cell? ⟨w.heap.size + 2, off + k * 3 + 2, none⟩ = (stCells (fun _ => 0) (fun _ => 0))[off + k * 3 + 2]? := cell_of_row _ _ _ _ _ _ Q2'.out
                rw [t3] at h5
                have h6 := (Array.getElem?_eq_some_iff.1 h5.symm).1
                rw [stCells_size] at h6
                exact h6
              obtain ⟨z, hz⟩ := Q2'.out.int _ h48
              rw [hz] at t3
              cases t3
            have hbl : bw < wy.heap.size := Nat.lt_of_lt_of_le hbw hgr.size
            have s1 := (GB.cell hgr t1 hbwR)
            have s2 := (GB.cell hgr t2 hbwR)
            have s3 := (GB.cell hgr t3 hbwR)
            have z1 : (0 : Int) ≤ (k : Int) := by omega
            have z2 : (k : Int) < (vs.length : Int) := by omega
            generalize vs[k].kind = kd at *
            generalize vs[k].word = wd0 at *
            have hst0 : StB wy (w.heap.size + 2) (miF (plsOf vs) k 0) (miL (plsOf vs) k 0) := by rw [miF_zero, miL_zero]; exact hst
            have hq24 : plsOf vs k + 1 < 24 := by omega
            clear t1 t2 t3 g1 g2 g3
            have HST := Lib.hid hst; have HST0 := Lib.hid hst0; have HGR := Lib.hid hgr; clear hst hst0 hgr
            go_wp2
            obtain ⟨wo, hwo⟩ : ∃ wo, wo = wy.alloc (.cells #[.int .i64 kd, .int .i64 (plsOf vs k), .string wd0] 44) := ⟨_, rfl⟩
            rw [← hwo]
            have hgo : W5.grownBy wo (some (w.heap.size + 2)) := by rw [hwo]; exact GB.alloc HGR.out _
            have hso : wo.heap.size = wy.heap.size + 1 := by rw [hwo]; simp
            have co : wo.cell? ⟨wy.heap.size, 1, none⟩ = some (.int .i64 (plsOf vs k)) := by rw [hwo]; simp
            have hsto : StB wo (w.heap.size + 2) (miF (plsOf vs) k 0) (miL (plsOf vs) k 0) := by rw [hwo]; exact HST0.out.alloc _
            have HGO := Lib.hid hgo; have HSTO := Lib.hid hsto; clear hgo hsto
            clear hwo
            go_loopw [12] (fun iv wr => ∃ j : Nat, iv = .int .i64 ((plsOf vs k + j : Nat) : Int) ∧ j ≤ 2 ∧ StB wr (w.heap.size + 2) (miF (plsOf vs) k j) (miL (plsOf vs) k j) ∧ wo.grownBy wr (some (w.heap.size + 2))) (fun iv _ => plsOf vs k + 2 - (intOf iv).toNat)
            case atStart => exact ⟨0, rfl, Nat.zero_le _, HSTO.out, World.grownBy.refl _ _⟩
            case round =>
              obtain ⟨j, rfl, hj, hsj, hgj⟩ := hrel
              have hRj := hsj.lt
              have hyR : wy.heap.size ≠ w.heap.size + 2 := by omega
              have cj : wr.cell? ⟨wy.heap.size, 1, none⟩ = some (.int .i64 (plsOf vs k)) := GB.cell hgj co hyR
              have hyj : wy.heap.size < wr.heap.size := by have := hgj.size; omega
              by_cases hj2 : j < 2
              · have h24 : plsOf vs k + j < 24 := by omega
                obtain ⟨k0, k1⟩ := hsj.at_ h24
                have f0 := hsj.free ((plsOf vs k + j) * 2)
                have f1 := hsj.free ((plsOf vs k + j) * 2 + 1)
                rw [miF_at] at k0
                have hst1 := (miF_step (q := plsOf vs) (k := k) hj2)
                have hst2 := (miL_step (q := plsOf vs) (k := k) hj2)
                have b1 : decide (plsOf vs k + j ≤ plsOf vs k + 1) = true := by simp; omega
                by_cases hneg : fsI (plsOf vs) k (plsOf vs k + j) < 0
                · have nst := ((hsj.putF (plsOf vs k + j) (k : Int)).putL (plsOf vs k + j) (k : Int))
                  rw [hst1.1 hneg, hst2] at nst
                  generalize fsI (plsOf vs) k (plsOf vs k + j) = fv at *
                  generalize miL (plsOf vs) k j (plsOf vs k + j) = lv at *
                  have f2 : (wr.setCell ⟨w.heap.size + 2, (plsOf vs k + j) * 2, none⟩ (.int .i64 (k : Int))).frozen? ⟨w.heap.size + 2, (plsOf vs k + j) * 2 + 1, none⟩ = false := by simpa using f1
                  clear hst1 hst2
                  have HSJ := Lib.hid hsj; have HGJ := Lib.hid hgj; have NST := Lib.hid nst; clear hsj hgj nst
                  go_wp2
                  go_roundw
                  case rel => exact ⟨j + 1, by go_num, by omega, NST.out, GB.setCell (GB.setCell HGJ.out (.inl rfl) _) (.inl rfl) _⟩
                  case measure => simp [intOf]; omega
                · have nst := hsj.putL (plsOf vs k + j) (k : Int)
                  rw [hst1.2 hneg, hst2] at nst
                  generalize fsI (plsOf vs) k (plsOf vs k + j) = fv at *
                  generalize miL (plsOf vs) k j (plsOf vs k + j) = lv at *
                  clear hst1 hst2
                  have HSJ := Lib.hid hsj; have HGJ := Lib.hid hgj; have NST := Lib.hid nst; clear hsj hgj nst
                  go_wp2
                  go_roundw
                  case rel => exact ⟨j + 1, by go_num, by omega, NST.out, GB.setCell HGJ.out (.inl rfl) _⟩
                  case measure => simp [intOf]; omega
              · obtain rfl : j = 2 := by omega
                have b1 : decide (plsOf vs k + 2 ≤ plsOf vs k + 1) = false := by simp
                rw [miF_two, miL_two] at hsj
                have hgn := gtr HGO.out hgj
                have HSJ := Lib.hid hsj; have HGJ := Lib.hid hgj; have HGN := Lib.hid hgn; clear hsj hgj hgn
                go_wp2
                go_roundw
                case rel => exact ⟨k + 1, by go_num, by omega, HSJ.out, HGN.out⟩
                case measure => simp [intOf]; omega
          · obtain rfl : k = vs.length := by omega
            have q1 := Q1'.out.kept hgr (by simp)
            have hz := run_loadVar_row (P := Tryd.prog) (wy.setRow (w.heap.size + 1) (stCells (fsI (plsOf vs) vs.length) (laI (plsOf vs) vs.length))) (w.heap.size + 1) 51 51 _ (0, 0) _ (q1.row _ _) Tryd.underlying51 rfl (info_st _ _)
            have hbw : Below w.heap.size w wy := Y5.out.trans (GB.below hgr (by omega) (by omega))
            have HST := Lib.hid hst; have HGR := Lib.hid hgr; have HZ := Lib.hid hz; have Q1 := Lib.hid q1; have HBW := Lib.hid hbw; clear hst hgr hz q1 hbw
            go_wp2_with (first | (refine wpList_load_row rfl 51 _ rfl (w.heap.size + 2) rfl 51 _ (0, 0) _ HST.out Tryd.underlying51 rfl (info_st _ _) ?_) | (refine wpList_store_row rfl 51 _ _ rfl (w.heap.size + 1) (stCells (fsI (plsOf vs) vs.length) (laI (plsOf vs) vs.length)) rfl rfl 51 _ Q1.out (info_st _ _) (by simp only [stCells_size]) (stCells_one _ _) ?_))
            refine bodyPost_ret (v := .tuple #[.agg (stCells (fsI (plsOf vs) vs.length) (laI (plsOf vs) vs.length)), .int .i64 0]) (by simp [results, Tryd.results25, asAddr, ↓HZ.out]) rfl ⟨?_, ?_⟩
            · rw [HX3.out, HE1.out, HE2.out, HVL.out]
            exact below_setRow HBW.out (by omega) _
end Go.Proofs.YtnplcephmidjbaaDoor
/- Package pairs: Hanging. -/
namespace Go.Proofs.YtnplcephmidjbaaDoor
open Go.RowKit

def hgB (F L : Nat → Int) (k p : Nat) : Bool := decide (0 ≤ F p ∧ F p ≤ k ∧ (k : Int) ≤ L p)
theorem hgQ_B (q : Nat → Nat) (n k p : Nat) : hgQ q n k p = hgB (fsI q n) (laI q n) k p := rfl
theorem st_extract (F L : Nat → Int) (j : Nat) (hj : j < 24) : (stCells F L).extract (j * 2) (j * 2 + 2) = #[.int .i64 (F j), .int .i64 (L j)] := by
  apply Array.ext
  · simp [stCells]; omega
  · intro i h1 h2
    have hi : i < 2 := by simpa using h2
    rw [Array.getElem_extract]
    rcases (show i = 0 ∨ i = 1 by omega) with rfl | rfl
    · simp only [stCells, List.getElem_toArray, List.getElem_map, List.getElem_range]
      unfold stCell
      rw [if_pos (by omega), show (j * 2 + 0) / 2 = j by omega]; rfl
    · simp only [stCells, List.getElem_toArray, List.getElem_map, List.getElem_range]
      unfold stCell
      rw [if_neg (by omega), show (j * 2 + 1) / 2 = j by omega]; rfl
theorem run_indexSt (F L : Nat → Int) (j : Nat) (hj : j < 24) (W : World) : (Instr.index 51 (.agg (stCells F L)) (.int .i64 (j : Int))).run Tryd.prog W = .ok (.agg #[.int .i64 (F j), .int .i64 (L j)]) W := by
  have hsz : (sizeOf 50).run Tryd.prog W = .ok 2 W := by kernel_rfl
  simp [Instr.index, asIntOf, run_underlying Tryd.underlying51, hsz, hj, part, st_extract F L j hj]
theorem idB_alloc {w : World} {R m : Nat} {g : Nat → Int} (h : IdB w R m g) (o : Obj) : IdB (w.alloc o) R m g := (heap_alloc_old w o (lt_of_block h)).trans h
theorem cntP_succ (f : Nat → Bool) (m : Nat) : cntP f (m + 1) = cntP f m + if f m = true then 1 else 0 := rfl

/-- What Hanging returns. -/
def hangL (p : Int) (ws : List GW) (l : List Int) : List Int := if reoX p ws l = 0 then hangsL (plsOf (reoG ws l)) l.length l.length else []
def hangN (p : Int) (ws : List GW) (l : List Int) : Nat := if reoX p ws l = 0 then needQ (plsOf (reoG ws l)) l.length l.length else 0
def HangPost (xs : List Int) (n : Nat) (x : Int) (w : World) (e : Ending) (w' : World) : Prop :=
  ∃ v, e = .returned (.tuple #[v, .int .i64 (n : Int), .int .i64 x]) ∧ RdV w' v xs ∧ Below w.heap.size w w'
theorem reo_len {p : Int} {ws : List GW} {l : List Int} (hx : reoX p ws l = 0) : l.length = ws.length ∧ ws.length ≤ 400 := by
  obtain ⟨h1, h2⟩ := reo_ok hx
  unfold ordQ at h2
  rw [Bool.and_eq_true, decide_eq_true_eq] at h2
  exact ⟨h2.1, (okAll h1).2.2.1⟩

set_option maxRecDepth 100000 in
set_option maxHeartbeats 4000000 in
theorem pHanging_ (p : Int) (A L : Option Addr) (c lc : Nat) (ws : List GW) (l : List Int) (w : World) (hsh : ShIn w p A ws) (hl : RdI w L l) :
    Calls Tryd.prog 11 #[.agg #[.int .i64 p, .slice A ws.length c], .slice L l.length lc] w (HangPost (hangL p ws l) (hangN p ws l) (reoX p ws l) w) := by
  have hln := hl.1
  have hb2 : Below w.heap.size w (w.alloc (.cells #[.int .i64 p, .slice A ws.length c] 24)) := (Below.refl _ _).alloc (Nat.le_refl _) _
  have HSH := Lib.hid hsh; have HL := Lib.hid hl; have HB2 := Lib.hid hb2; clear hsh hl hb2
  go_enter Tryd.func11, Tryd.ntmps11
  go_wp2_with fail
  refine (stretches_ p A L c lc ws l _ (HSH.out.later HB2.out (Nat.le_refl _)) (HL.out.later HB2.out (Nat.le_refl _))).mono ?_
  rintro e w1 ⟨rfl, hb1⟩
  have hs1 := hb1.size
  simp only [World.size_alloc] at hs1
  have Y1 := Lib.hid (HB2.out.trans (hb1.mono HB2.out.size)); clear hb1
  by_cases hx : reoX p ws l = 0
  rotate_left
  · have hxb : (reoX p ws l != 0) = true := by simpa using hx
    have e1 : hangL p ws l = [] := by unfold hangL; rw [if_neg hx]
    have e2 : hangN p ws l = 0 := by unfold hangN; rw [if_neg hx]
    have HX := Lib.hid hx; have E1 := Lib.hid e1; have E2 := Lib.hid e2; clear hx e1 e2
    generalize hE : reoX p ws l = E at *
    generalize stF p ws l = F at *
    generalize stL p ws l = G at *
    have HE := Lib.hid hE; clear hE
    go_wp2_with (first | (refine wpList_store_row rfl 51 _ _ rfl w1.heap.size (stCells F G) rfl rfl 51 _ (heap_alloc_new _ _) (info_st _ _) (by simp only [stCells_size]; rfl) (stCells_one _ _) ?_))
    go_ret3
    refine ⟨.slice none 0 0, ?_, ?_, below_setRow (Y1.out.alloc Y1.out.size _) Y1.out.size _⟩
    · rw [E2.out]; rfl
    · rw [E1.out]; exact RdV.nil _
  · obtain ⟨hle, hn4⟩ := reo_len hx
    have hl4 : l.length ≤ 400 := by omega
    clear hle hn4
    have e1 : hangL p ws l = hangsL (plsOf (reoG ws l)) l.length l.length := by unfold hangL; rw [if_pos hx]
    have e2 : hangN p ws l = needQ (plsOf (reoG ws l)) l.length l.length := by unfold hangN; rw [if_pos hx]
    have e3 : stF p ws l = fsI (plsOf (reoG ws l)) l.length := by unfold stF; rw [if_pos hx]
    have e4 : stL p ws l = laI (plsOf (reoG ws l)) l.length := by unfold stL; rw [if_pos hx]
    rw [hx, e3, e4]
    clear e3 e4
    generalize plsOf (reoG ws l) = q at *
    have HX := Lib.hid hx; have E1 := Lib.hid e1; have E2 := Lib.hid e2; clear hx e1 e2
    have hix := fun j hj W => run_indexSt (fsI q l.length) (laI q l.length) j hj W
    obtain ⟨F, hF⟩ : ∃ F, F = fsI q l.length := ⟨_, rfl⟩
    obtain ⟨G, hG⟩ : ∃ G, G = laI q l.length := ⟨_, rfl⟩
    rw [← hF, ← hG] at hix ⊢
    have hgq : ∀ k j, hgQ q l.length k j = hgB F G k j := by intro k j; rw [hF, hG]; rfl
    have hng : ∀ k, hngN q l.length k = cntP (hgB F G k) 24 := fun k => by unfold hngN; exact cntP_congr 24 fun p _ => hgq k p
    have hnq : ∀ k, needQ q l.length (k + 1) = max (needQ q l.length k) (cntP (hgB F G k) 24) := fun k => by rw [← hng]; rfl
    have hnb := needQ_le q l.length
    have hmk := run_make_row' (P := Tryd.prog) 25 3 (.int .i64 0) 8 Tryd.underlying25 infoI_Tryd rfl .i64 .i64 l.length (by omega) (by omega)
    have HF := Lib.hid hF; have HG := Lib.hid hG; have HIX := Lib.hid hix; have HGQ := Lib.hid hgq; have HNG := Lib.hid hng; have HNQ := Lib.hid hnq; have HNB := Lib.hid hnb; clear hF hG hix hgq hng hnq hnb
    go_upto_region 4 with (first | (refine wpList_store_row rfl 51 _ _ rfl w1.heap.size (stCells F G) rfl rfl 51 _ (heap_alloc_new _ _) (info_st _ _) (by simp only [stCells_size]; rfl) (stCells_one _ _) ?_))
    rw [zst]
    obtain ⟨W5, hW⟩ : ∃ W5, W5 = (w1.alloc (.cells (stCells (fun _ => 0) (fun _ => 0)) 51)).setRow w1.heap.size (stCells F G) := ⟨_, rfl⟩
    have hst5 : StB W5 w1.heap.size F G := by rw [hW]; exact setRow_heap _ _ _ _ _ _ (heap_alloc_new _ _)
    have hb5 : Below w1.heap.size w1 W5 := by rw [hW]; exact below_setRow ((Below.refl _ _).alloc (Nat.le_refl _) _) (Nat.le_refl _) _
    have hs5 : W5.heap.size = w1.heap.size + 1 := by rw [hW]; simp
    rw [← hW]
    clear hW
    have HST5 := Lib.hid hst5; have HB5 := Lib.hid hb5; have HS5 := Lib.hid hs5; clear hst5 hb5 hs5
    go_wp2
    clear hmk
    obtain ⟨W6, hW⟩ : ∃ W6, W6 = W5.alloc (.cells (madeCells #[.int .i64 0] l.length) 3) := ⟨_, rfl⟩
    have hm0 : IdB W6 W5.heap.size l.length (fun p => if p < 0 then (cntP (hgB F G p) 24 : Int) else 0) := by
      rw [hW]
      unfold IdB
      rw [heap_alloc_new, idCells_zero]
      simp
    have hb6 : Below W5.heap.size W5 W6 := by rw [hW]; exact (Below.refl _ _).alloc (Nat.le_refl _) _
    have hst6 : StB W6 w1.heap.size F G := HST5.out.later hb6
    rw [← hW]
    clear hW
    have hbz := Y1.out.trans ((HB5.out.trans (hb6.mono (by have := HS5.out; omega))).mono Y1.out.size)
    have HM0 := Lib.hid hm0; have HB6 := Lib.hid hb6; have HST6 := Lib.hid hst6; have HBZ := Lib.hid hbz; clear hm0 hb6 hst6 hbz
    go_loopw [10, 28] (fun nv iv wr => ∃ k : Nat, iv = .int .i64 k ∧ k ≤ l.length ∧ nv = .int .i64 (needQ q l.length k : Int) ∧ IdB wr W5.heap.size l.length (fun p => if p < k then (cntP (hgB F G p) 24 : Int) else 0) ∧ Below W5.heap.size W6 wr) (fun _ iv _ => l.length - (intOf iv).toNat)
    case atStart => exact ⟨0, rfl, Nat.zero_le _, rfl, HM0.out, Below.refl _ _⟩
    case round =>
      obtain ⟨k, rfl, hk, rfl, hid, hbr⟩ := hrel
      have hRl := lt_of_block hid
      obtain ⟨wy, rfl⟩ : ∃ wy : World, wy = wr := ⟨_, rfl⟩
      have hstr : StB wy w1.heap.size F G := (hbr.block _ (by have := HS5.out; omega)).trans HST6.out
      have hnk := HNB.out k
      have hn1 := HNQ.out k
      generalize hnk : needQ q l.length k = nk at *
      by_cases hk2 : k < l.length
      · have z1 : (0 : Int) ≤ (k : Int) := by omega
        have z2 : (k : Int) < (l.length : Int) := by omega
        have hidj : IdB wy W5.heap.size l.length (fun p => if p < k then (cntP (hgB F G p) 24 : Int) else if p = k then (cntP (hgB F G k) 0 : Int) else 0) := hid.congr fun p _ => by
          by_cases h : p < k
          · rw [if_pos h, if_pos h]
          · rw [if_neg h, if_neg h]; split <;> rfl
        have HID := Lib.hid hid; have HBR := Lib.hid hbr; have HSTR := Lib.hid hstr; have HIDJ := Lib.hid hidj; have HN1 := Lib.hid hn1; have HNK := Lib.hid hnk; clear hid hbr hstr hidj hn1 hnk
        go_wp2_with (first | (refine wpList_load_row rfl 51 _ rfl w1.heap.size rfl 51 _ (0, 0) _ HSTR.out Tryd.underlying51 rfl (info_st _ _) ?_))
        go_loopw [32] (fun jv wr => ∃ j : Nat, jv = .int .i64 j ∧ j ≤ 24 ∧ IdB wr W5.heap.size l.length (fun p => if p < k then (cntP (hgB F G p) 24 : Int) else if p = k then (cntP (hgB F G k) j : Int) else 0) ∧ Below W5.heap.size W6 wr) (fun jv _ => 24 - (intOf jv).toNat)
        case atStart => exact ⟨0, rfl, by omega, HIDJ.out, HBR.out⟩
        case round =>
          obtain ⟨j, rfl, hj, hij, hbj⟩ := hrel
          have hRj := lt_of_block hij
          have c1 := hij.at_ hk2
          rw [if_neg (Nat.lt_irrefl _), if_pos rfl] at c1
          have f1 := hij.free k
          by_cases hj2 : j < 24
          · have hix := HIX.out j hj2
            have hcs := cntP_succ (hgB F G k) j
            have hcl := cntP_le (hgB F G k) j
            have z3 : (0 : Int) ≤ (j : Int) := by omega
            have z4 : (j : Int) < 24 := by omega
            have hput : ∀ v : Int, v = (cntP (hgB F G k) (j + 1) : Int) → IdB (wr.setCell ⟨W5.heap.size, k, none⟩ (.int .i64 v)) W5.heap.size l.length (fun p => if p < k then (cntP (hgB F G p) 24 : Int) else if p = k then (cntP (hgB F G k) (j + 1) : Int) else 0) := fun v hv => (hij.put k v).congr fun p _ => by
              unfold updF
              by_cases h : p = k
              · subst h; rw [if_pos rfl, if_neg (Nat.lt_irrefl _), if_pos rfl, hv]
              · rw [if_neg h]
                show (if p < k then _ else if p = k then _ else (0 : Int)) = _
                rw [if_neg h, if_neg h]
            have hsame : hgB F G k j = false → IdB wr W5.heap.size l.length (fun p => if p < k then (cntP (hgB F G p) 24 : Int) else if p = k then (cntP (hgB F G k) (j + 1) : Int) else 0) := fun h => by
              rw [hcs, if_neg (by rw [h]; decide)]; exact hij
            have hb0 : hgB F G k j = decide (0 ≤ F j ∧ F j ≤ k ∧ (k : Int) ≤ G j) := rfl
            generalize F j = fj at *
            generalize G j = gj at *
            generalize hgB F G k j = hb at *
            generalize cntP (hgB F G k) j = cj at *
            by_cases t1 : 0 ≤ fj
            · have b1 : decide (0 ≤ fj) = true := by simpa using t1
              by_cases t2 : fj ≤ (k : Int)
              · have b2 : decide (fj ≤ (k : Int)) = true := by simpa using t2
                by_cases t3 : (k : Int) ≤ gj
                · have b3 : decide ((k : Int) ≤ gj) = true := by simpa using t3
                  have hb1 : hb = true := by rw [hb0]; simp [t1, t2, t3]
                  have nst := hput ((cj : Int) + 1) (by rw [hcs, if_pos hb1]; simp)
                  clear hput hsame hb0 hb1 hcs
                  have HIJ := Lib.hid hij; have HBJ := Lib.hid hbj; have NST := Lib.hid nst; clear hij hbj nst
                  go_wp2
                  go_roundw
                  case rel => exact ⟨j + 1, by go_num, by omega, idB_alloc NST.out _, (HBJ.out.setCell (Nat.le_refl _) _).alloc (Nat.le_trans (Nat.le_of_lt hRj) (by simp [World.setCell])) _⟩
                  case measure => simp [intOf]; omega
                · have b3 : decide ((k : Int) ≤ gj) = false := by simpa using t3
                  have nst := hsame (by rw [hb0]; simp [t1, t2, t3])
                  clear hput hsame hb0 hcs
                  have HIJ := Lib.hid hij; have HBJ := Lib.hid hbj; have NST := Lib.hid nst; clear hij hbj nst
                  go_wp2
                  go_roundw
                  case rel => exact ⟨j + 1, by go_num, by omega, idB_alloc NST.out _, HBJ.out.alloc (Nat.le_of_lt hRj) _⟩
                  case measure => simp [intOf]; omega
              · have b2 : decide (fj ≤ (k : Int)) = false := by simpa using t2
                have nst := hsame (by rw [hb0]; simp [t2])
                clear hput hsame hb0 hcs
                have HIJ := Lib.hid hij; have HBJ := Lib.hid hbj; have NST := Lib.hid nst; clear hij hbj nst
                go_wp2
                go_roundw
                case rel => exact ⟨j + 1, by go_num, by omega, idB_alloc NST.out _, HBJ.out.alloc (Nat.le_of_lt hRj) _⟩
                case measure => simp [intOf]; omega
            · have b1 : decide (0 ≤ fj) = false := by simpa using t1
              have nst := hsame (by rw [hb0]; simp [t1])
              clear hput hsame hb0 hcs
              have HIJ := Lib.hid hij; have HBJ := Lib.hid hbj; have NST := Lib.hid nst; clear hij hbj nst
              go_wp2
              go_roundw
              case rel => exact ⟨j + 1, by go_num, by omega, idB_alloc NST.out _, HBJ.out.alloc (Nat.le_of_lt hRj) _⟩
              case measure => simp [intOf]; omega
          · obtain rfl : j = 24 := by omega
            have nst : IdB wr W5.heap.size l.length (fun p => if p < k + 1 then (cntP (hgB F G p) 24 : Int) else 0) := hij.congr fun p _ => by
              by_cases h : p < k
              · rw [if_pos h, if_pos (by omega)]
              · rw [if_neg h]
                by_cases h2 : p = k
                · subst h2; rw [if_pos rfl, if_pos (by omega)]
                · rw [if_neg h2, if_neg (by omega)]
            have hcl := cntP_le (hgB F G k) 24
            generalize cntP (hgB F G k) 24 = cj at *
            have HIJ := Lib.hid hij; have HBJ := Lib.hid hbj; have NST := Lib.hid nst; clear hij hbj nst
            go_wp2
            go_roundw
            case rel =>
              refine ⟨k + 1, by go_num, by omega, ?_, NST.out, HBJ.out⟩
              rw [HN1.out]
              congr 1
              split <;> omega
            case measure => simp [intOf]; omega
      · obtain rfl : k = l.length := by omega
        have hre : hangsL q l.length l.length = (List.range l.length).map (fun p => (cntP (hgB F G p) 24 : Int)) := by
          unfold hangsL
          exact List.map_congr_left fun x _ => by rw [HNG.out]
        have hrd : RdV wy (.slice (some ⟨W5.heap.size, 0, none⟩) l.length l.length) (hangsL q l.length l.length) := by
          rw [hre]
          have := (hid.congr (g' := fun p => (cntP (hgB F G p) 24 : Int)) fun p hp => by rw [if_pos hp]).rdV (by omega)
          exact this
        have hbw : Below w.heap.size w wy := HBZ.out.trans (hbr.mono (by have := HBZ.out.size; have := HB6.out.size; have := HB5.out.size; have := HS5.out; have := Y1.out.size; omega))
        have HID := Lib.hid hid; have HBR := Lib.hid hbr; have HSTR := Lib.hid hstr; have HRE := Lib.hid hre; have HRD := Lib.hid hrd; have HBW := Lib.hid hbw; have HNK := Lib.hid hnk; clear hid hbr hstr hre hrd hbw hnk
        go_wp2
        go_ret3
        refine ⟨_, ?_, by rw [E1.out]; exact HRD.out, HBW.out⟩
        rw [E2.out, HNK.out, HX.out]
        rfl
end Go.Proofs.YtnplcephmidjbaaDoor
/- The law's Far: it ends, and false only of a short sheet, or of one with too many works. -/
namespace Go.Proofs.YtnplcephmidjbaaDoor
open Go.RowKit

def FarPost (n : Nat) (w : World) (e : Ending) (w' : World) : Prop := ∃ z : Bool, e = .returned (.bool z) ∧ (z = false → n ≤ 40 ∨ (400 < n ∧ n ≤ 2000)) ∧ Below w.heap.size w w'
def FarIn (w wr : World) (A : Option Addr) (c n : Nat) : Prop := wr.cell? ⟨w.heap.size, 1, none⟩ = some (.slice A n c) ∧ w.heap.size < wr.heap.size
set_option maxRecDepth 100000 in
set_option maxHeartbeats 1000000 in
theorem far12_ (p : Int) (A : Option Addr) (c : Nat) (ws : List GW) (w : World) (ha : RdW w A ws) :
    Calls Tryd.prog 9 #[.agg #[.int .i64 p, .slice A ws.length c]] w (FarPost ws.length w) := by
  have hl := ha.1
  have hb2 : Below w.heap.size w (w.alloc (.cells #[.int .i64 p, .slice A ws.length c] 24)) := (Below.refl _ _).alloc (Nat.le_refl _) _
  have hx : FarIn w (w.alloc (.cells #[.int .i64 p, .slice A ws.length c] 24)) A c ws.length := ⟨by go_simp, by simp⟩
  by_cases h1 : 40 < (ws.length : Int) ∧ (ws.length : Int) ≤ 400
  · obtain ⟨h2, h3⟩ := h1
    have HA := Lib.hid ha; have HB2 := Lib.hid hb2; have HX := Lib.hid hx; clear ha hb2 hx
    go_enter Tryd.func9, Tryd.ntmps9
    go_wp2
    go_ret
    exact ⟨true, rfl, (fun h => by cases h), HB2.out⟩
  · by_cases h4 : 2000 < (ws.length : Int)
    · have h5 : 400 < (ws.length : Int) := by omega
      have h6 : 40 < (ws.length : Int) := by omega
      have HA := Lib.hid ha; have HB2 := Lib.hid hb2; have HX := Lib.hid hx; have H1 := Lib.hid h1; clear ha hb2 hx h1
      go_enter Tryd.func9, Tryd.ntmps9
      go_wp2
      go_ret
      exact ⟨true, rfl, (fun h => by cases h), HB2.out⟩
    · have hz : ws.length ≤ 40 ∨ (400 < ws.length ∧ ws.length ≤ 2000) := by omega
      by_cases h6 : 40 < (ws.length : Int)
      all_goals
        have h5 : ¬ 40 < (ws.length : Int) ∨ ¬ (ws.length : Int) ≤ 400 := by omega
        have h7 : 40 < (ws.length : Int) → ¬ (ws.length : Int) ≤ 400 := by omega
        try replace h7 := h7 h6
        have HA := Lib.hid ha; have HB2 := Lib.hid hb2; have HZ := Lib.hid hz; have H1 := Lib.hid h1; have H5 := Lib.hid h5; have HX := Lib.hid hx; clear ha hb2 hz h1 h5 hx
        go_enter Tryd.func9, Tryd.ntmps9
        go_wp2
        go_loopw [3] (fun iv wr => ∃ j : Nat, iv = .int .i64 j ∧ j ≤ ws.length ∧ FarIn w wr A c ws.length ∧ Below w.heap.size w wr) (fun iv _ => ws.length - (intOf iv).toNat)
        case atStart => exact ⟨0, rfl, Nat.zero_le _, HX.out, HB2.out⟩
        case round =>
          obtain ⟨j, rfl, hj, hx, hb3⟩ := hrel
          obtain ⟨e1, e2⟩ := hx
          by_cases hlt : j < ws.length
          · obtain ⟨b, off, rfl, hbL, g1, g2, g3⟩ := (HA.out.later hb3 (Nat.le_refl _)).at_ hlt
            have x1 : (0 : Int) ≤ (j : Int) := by omega
            have x2 : (j : Int) < (ws.length : Int) := by omega
            generalize ws[j].word = zw at *
            by_cases hs : 1000 < (zw.size : Int)
            · have HB3 := Lib.hid hb3; clear hb3
              go_wp2
              go_ret
              exact ⟨true, rfl, (fun h => by cases h), HB3.out⟩
            · have HB3 := Lib.hid hb3; clear hb3
              go_wp2
              go_roundw
              case rel => exact ⟨j + 1, by go_num, by omega, ⟨e1, e2⟩, HB3.out⟩
              case measure => simp [intOf]; omega
          · have HB3 := Lib.hid hb3; clear hb3
            go_wp2
            go_ret
            exact ⟨false, rfl, fun _ => HZ.out, HB3.out⟩
end Go.Proofs.YtnplcephmidjbaaDoor
/- The reference of package pairs: taken, hangs, Hanging, asked, least. -/
namespace Go.Proofs.YtnplcephmidjbaaDoor
open Go.RowKit

/-- One of some works takes a place. -/
def tkAny (ws : List GW) (l : List Int) (p : Int) : Bool := l.any fun x => takesB (ws.getD x.toNat gwE).pl p
theorem tkAny_take (ws : List GW) (l : List Int) (p : Int) (i : Nat) (hi : i < l.length) : tkAny ws (l.take (i + 1)) p = (tkAny ws (l.take i) p || takesB (ws.getD (l[i]).toNat gwE).pl p) := by
  unfold tkAny
  rw [List.take_succ_eq_append_getElem hi, List.any_append]
  simp
theorem tkAny_of {ws : List GW} {l : List Int} {p : Int} {i : Nat} (h : tkAny ws (l.take i) p = true) : tkAny ws l p = true := by
  unfold tkAny at *
  rw [List.any_eq_true] at *
  obtain ⟨x, hx, hy⟩ := h
  exact ⟨x, List.mem_of_mem_take hx, hy⟩
set_option maxRecDepth 100000 in
set_option maxHeartbeats 2000000 in
theorem rtaken_ (P pl : Int) (A L : Option Addr) (c lc : Nat) (ws : List GW) (l : List Int) (w : World) (ha : RdW w A ws) (hl : RdI w L l) (hin : ∀ x ∈ l, 0 ≤ x ∧ x < ws.length) (hpl : ∀ x ∈ ws, 0 ≤ x.pl ∧ x.pl ≤ 22) :
    Calls Tryd.prog 29 #[.agg #[.int .i64 P, .slice A ws.length c], .slice L l.length lc, .int .i64 pl] w fun e w' => e = .returned (.bool (tkAny ws l pl)) ∧ Below w.heap.size w w' := by
  have hb2 : Below w.heap.size w (w.alloc (.cells #[.int .i64 P, .slice A ws.length c] 24)) := (Below.refl _ _).alloc (Nat.le_refl _) _
  have hbx := Box1.made w P A c ws.length 24
  have hln := hl.1
  have HA := Lib.hid ha; have HL := Lib.hid hl; have HB2 := Lib.hid hb2; have HIN := Lib.hid hin; have HPL := Lib.hid hpl; have HBX := Lib.hid hbx; clear ha hl hb2 hin hpl hbx
  go_enter Tryd.func29, Tryd.ntmps29
  go_wp2
  go_loopw [7] (fun iv wr => ∃ i : Nat, iv = .int .i64 i ∧ i ≤ l.length ∧ tkAny ws (l.take i) pl = false ∧ Below (w.alloc (.cells #[.int .i64 P, .slice A ws.length c] 24)).heap.size (w.alloc (.cells #[.int .i64 P, .slice A ws.length c] 24)) wr) (fun iv _ => l.length - (intOf iv).toNat)
  case atStart => exact ⟨0, rfl, Nat.zero_le _, by simp [tkAny], Below.refl _ _⟩
  case round =>
    obtain ⟨i, rfl, hi, hno, hbr⟩ := hrel
    obtain ⟨c1, c2, s1⟩ := HBX.out.later hbr
    have hbw := HB2.out.trans (hbr.mono HB2.out.size)
    by_cases hil : i < l.length
    · obtain ⟨bl, ol, rfl, hbl, m1⟩ := (HL.out.later hbw (Nat.le_refl _)).at_ hil
      obtain ⟨g1, g2⟩ := HIN.out l[i] (List.getElem_mem hil)
      have hst := tkAny_take ws l pl i hil
      generalize l[i] = x at *
      obtain ⟨y, rfl⟩ := Int.eq_ofNat_of_zero_le g1
      have hy : y < ws.length := by omega
      obtain ⟨bw, off, rfl, hbL, t1, t2, t3⟩ := (HA.out.later hbw (Nat.le_refl _)).at_ hy
      obtain ⟨p1, p2⟩ := HPL.out ws[y] (List.getElem_mem hy)
      rw [hno, Bool.false_or] at hst
      simp only [Int.toNat_natCast, List.getD_eq_getElem?_getD, List.getElem?_eq_getElem hy, Option.getD_some] at hst
      have z1 : (0 : Int) ≤ (i : Int) := by omega
      have z2 : (i : Int) < (l.length : Int) := by omega
      have z3 : (0 : Int) ≤ (y : Int) := by omega
      have z4 : (y : Int) < (ws.length : Int) := by omega
      have hcall := fun k s W => rTakes_ k ws[y].pl pl s W (by omega) (by omega)
      generalize ws[y].pl = pa at *
      have hbz := hbr
      clear g1 g2 hno
      cases hz : takesB pa pl with
      | true =>
        rw [hz] at hcall hst
        have HBR := Lib.hid hbr; have HBW := Lib.hid hbw; have HST := Lib.hid hst; have HZ := Lib.hid hz; have HBZ := Lib.hid hbz; have HCALL := Lib.hid hcall; clear hbr hbw hst hz hbz hcall
        go_wp2
        have hbelc : ∀ (u : Bel wr.heap.size wr) b o, b < wr.heap.size → u.wd.cell? ⟨b, o, none⟩ = wr.cell? ⟨b, o, none⟩ := fun u b o h => u.h.cell (p := ⟨b, o, none⟩) h
        have hbeln : Nonempty (Bel wr.heap.size wr) := ⟨⟨wr, Below.refl _ _⟩⟩
        refine wp_region_bel wr.heap.size (by kernel_rfl) (by kernel_rfl) ?_
        repeat (go_big_quiet_step ((go_at_call 23; exact quiet_bel (Nat.le_refl _) (HCALL.out _ _ _))))
        refine wpQuiet_nil ?_
        intro wB hB0; obtain ⟨uB, hu⟩ := hB0; have hbB0 := uB.h; rw [← hu] at hbB0; clear hu uB hbelc hbeln
        obtain ⟨hbB, hcB, hsB⟩ := bcell2 hbB0; clear hbB0
        have HBB := Lib.hid hbB; clear hbB
        go_wp2
        go_ret
        refine ⟨?_, HBW.out.trans (HBB.out.mono HBW.out.size)⟩
        exact ret_bool (tkAny_of HST.out).symm
      | false =>
        rw [hz] at hcall hst
        have HBR := Lib.hid hbr; have HBW := Lib.hid hbw; have HST := Lib.hid hst; have HZ := Lib.hid hz; have HBZ := Lib.hid hbz; have HCALL := Lib.hid hcall; clear hbr hbw hst hz hbz hcall
        go_wp2
        have hbelc : ∀ (u : Bel wr.heap.size wr) b o, b < wr.heap.size → u.wd.cell? ⟨b, o, none⟩ = wr.cell? ⟨b, o, none⟩ := fun u b o h => u.h.cell (p := ⟨b, o, none⟩) h
        have hbeln : Nonempty (Bel wr.heap.size wr) := ⟨⟨wr, Below.refl _ _⟩⟩
        refine wp_region_bel wr.heap.size (by kernel_rfl) (by kernel_rfl) ?_
        repeat (go_big_quiet_step ((go_at_call 23; exact quiet_bel (Nat.le_refl _) (HCALL.out _ _ _))))
        refine wpQuiet_nil ?_
        intro wB hB0; obtain ⟨uB, hu⟩ := hB0; have hbB0 := uB.h; rw [← hu] at hbB0; clear hu uB hbelc hbeln
        obtain ⟨hbB, hcB, hsB⟩ := bcell2 hbB0; clear hbB0
        have HBB := Lib.hid hbB; clear hbB
        go_wp2
        go_roundw
        case rel => exact ⟨i + 1, by go_num, by omega, HST.out, HBR.out.trans (HBB.out.mono HBR.out.size)⟩
        case measure => simp [intOf]; omega
    · obtain rfl : i = l.length := by omega
      rw [List.take_length] at hno
      have HNO := Lib.hid hno; have HBR := Lib.hid hbr; have HBW := Lib.hid hbw; clear hno hbr hbw
      go_wp2
      go_ret
      exact ⟨ret_bool HNO.out.symm, HBW.out⟩
theorem rdI_take {w : World} {a : Option Addr} {l : List Int} (h : RdI w a l) (k : Nat) : RdI w a (l.take k) := by
  refine ⟨by have := h.1; simp; omega, fun h0 => ?_⟩
  obtain ⟨b, off, e, hlt, hc⟩ := h.2 (by simp at h0; omega)
  refine ⟨b, off, e, hlt, fun j hj => ?_⟩
  have hj2 : j < k ∧ j < l.length := by simp at hj; omega
  rw [hc j (by omega)]
  simp [List.getD_eq_getElem?_getD, hj2.1]
theorem rdI_drop {w : World} {a : Option Addr} {l : List Int} (h : RdI w a l) (k : Nat) : RdI w (a.map (·.add k)) (l.drop k) := by
  refine ⟨by have := h.1; simp; omega, fun h0 => ?_⟩
  have h1 : k < l.length := by simp at h0; omega
  obtain ⟨b, off, e, hlt, hc⟩ := h.2 (by omega)
  refine ⟨b, off + k, ?_, hlt, fun j hj => ?_⟩
  · rw [e]
    simp only [Option.map_some]
    unfold Addr.add
    split
    · rename_i h0; subst h0; rfl
    · rfl
  · have hj2 : k + j < l.length := by simp at hj; omega
    rw [Nat.add_assoc, hc (k + j) (by omega)]
    simp [List.getD_eq_getElem?_getD, List.getElem?_drop]
/-- A pair hangs in a place while work k is made. -/
def hgR (ws : List GW) (l : List Int) (k : Nat) (p : Int) : Bool := tkAny ws (l.take (k + 1)) p && tkAny ws (l.drop k) p
set_option maxRecDepth 100000 in
set_option maxHeartbeats 2000000 in
theorem rhangs_ (P pl : Int) (k : Nat) (A L : Option Addr) (c lc : Nat) (ws : List GW) (l : List Int) (w : World) (ha : RdW w A ws) (hl : RdI w L l) (hlc : l.length ≤ lc) (hk : k < l.length) (hin : ∀ x ∈ l, 0 ≤ x ∧ x < ws.length) (hpl : ∀ x ∈ ws, 0 ≤ x.pl ∧ x.pl ≤ 22) :
    Calls Tryd.prog 27 #[.agg #[.int .i64 P, .slice A ws.length c], .slice L l.length lc, .int .i64 (k : Int), .int .i64 pl] w fun e w' => e = .returned (.bool (hgR ws l k pl)) ∧ Below w.heap.size w w' := by
  have hb2 : Below w.heap.size w (w.alloc (.cells #[.int .i64 P, .slice A ws.length c] 24)) := (Below.refl _ _).alloc (Nat.le_refl _) _
  have hln := hl.1
  have z1 : (0 : Int) ≤ (k : Int) := by omega
  have z2 : (k : Int) + 1 ≤ (lc : Int) := by omega
  have z3 : (k : Int) ≤ (l.length : Int) := by omega
  have z4 : IntKind.i64.wrap ((k : Int) + 1) = (k : Int) + 1 := IntWalk.i64_in _ (by omega)
  have z5 : ((k : Int) + 1).toNat = k + 1 := by omega
  have hlt : (l.take (k + 1)).length = k + 1 := by simp; omega
  have hld : (l.drop k).length = l.length - k := by simp
  have HA := Lib.hid ha; have HL := Lib.hid hl; have HB2 := Lib.hid hb2; have HIN := Lib.hid hin; have HPL := Lib.hid hpl; clear ha hl hb2 hin hpl
  go_enter Tryd.func27, Tryd.ntmps27
  go_upto_region 1 with fail
  obtain ⟨w1, hw⟩ : ∃ w1, w1 = w.alloc (.cells #[.int .i64 P, .slice A ws.length c] 24) := ⟨_, rfl⟩
  obtain ⟨c1, c2, s1⟩ : Box1 w w1 P A c ws.length := by rw [hw]; exact Box1.made w P A c ws.length 24
  have hb1 : Below w.heap.size w w1 := by rw [hw]; exact HB2.out
  rw [← hw]
  clear hw
  have z6 : ¬ lc = k := by omega
  have hQ := fun (u : Bel w1.heap.size w1) => rtaken_ P pl A L c lc ws (l.take (k + 1)) u.wd ((HA.out.later hb1 (Nat.le_refl _)).later u.h (Nat.le_refl _)) (rdI_take ((HL.out.later hb1 (Nat.le_refl _)).later u.h (Nat.le_refl _)) _) (fun x hx => HIN.out x (List.mem_of_mem_take hx)) HPL.out
  have hB := fun (u : Bel w1.heap.size w1) => rtaken_ P pl A (L.map (·.add k)) c (lc - k) ws (l.drop k) u.wd ((HA.out.later hb1 (Nat.le_refl _)).later u.h (Nat.le_refl _)) (rdI_drop ((HL.out.later hb1 (Nat.le_refl _)).later u.h (Nat.le_refl _)) _) (fun x hx => HIN.out x (List.mem_of_mem_drop hx)) HPL.out
  rw [hlt] at hQ
  rw [hld] at hB
  clear hlt hld
  generalize z7 : l.length - k = dn at hB
  generalize z8 : lc - k = dc at hB
  generalize z9 : L.map (·.add k) = LD at hB
  cases ht : tkAny ws (l.take (k + 1)) pl with
  | false =>
    have hr : hgR ws l k pl = false := by unfold hgR; rw [ht]; rfl
    rw [ht] at hQ
    have HB1 := Lib.hid hb1; have HT := Lib.hid ht; have HR := Lib.hid hr; have HQ := Lib.hid hQ; have HB := Lib.hid hB; clear hb1 ht hr hQ hB
    have hbelc : ∀ (u : Bel w1.heap.size w1) b o, b < w1.heap.size → u.wd.cell? ⟨b, o, none⟩ = w1.cell? ⟨b, o, none⟩ := fun u b o h => u.h.cell (p := ⟨b, o, none⟩) h
    have hbeln : Nonempty (Bel w1.heap.size w1) := ⟨⟨w1, Below.refl _ _⟩⟩
    refine wp_region_bel w1.heap.size (by kernel_rfl) (by kernel_rfl) ?_
    repeat (go_big_quiet_step ((go_at_call 29; exact quiet_bel (Nat.le_refl _) (HQ.out _))))
    refine wpQuiet_nil ?_
    intro wB hB0; obtain ⟨uB, hu⟩ := hB0; have hbB0 := uB.h; rw [← hu] at hbB0; clear hu uB hbelc hbeln
    obtain ⟨hbB, hcB, hsB⟩ := bcell2 hbB0; clear hbB0
    have HBB := Lib.hid hbB; clear hbB
    go_wp2
    go_ret
    exact ⟨ret_bool HR.out.symm, HB1.out.trans (HBB.out.mono HB1.out.size)⟩
  | true =>
    cases ht2 : tkAny ws (l.drop k) pl with
    | false =>
      have hr : hgR ws l k pl = false := by unfold hgR; rw [ht, ht2]; rfl
      rw [ht] at hQ
      rw [ht2] at hB
      have HB1 := Lib.hid hb1; have HT := Lib.hid ht; have HT2 := Lib.hid ht2; have HR := Lib.hid hr; have HQ := Lib.hid hQ; have HB := Lib.hid hB; clear hb1 ht ht2 hr hQ hB
      have hbelc : ∀ (u : Bel w1.heap.size w1) b o, b < w1.heap.size → u.wd.cell? ⟨b, o, none⟩ = w1.cell? ⟨b, o, none⟩ := fun u b o h => u.h.cell (p := ⟨b, o, none⟩) h
      have hbeln : Nonempty (Bel w1.heap.size w1) := ⟨⟨w1, Below.refl _ _⟩⟩
      refine wp_region_bel w1.heap.size (by kernel_rfl) (by kernel_rfl) ?_
      repeat (go_big_quiet_step ((go_at_call 29; first | with_reducible exact quiet_bel (Nat.le_refl _) (HQ.out _) | with_reducible exact quiet_bel (Nat.le_refl _) (HB.out _))))
      refine wpQuiet_nil ?_
      intro wB hB0; obtain ⟨uB, hu⟩ := hB0; have hbB0 := uB.h; rw [← hu] at hbB0; clear hu uB hbelc hbeln
      obtain ⟨hbB, hcB, hsB⟩ := bcell2 hbB0; clear hbB0
      have HBB := Lib.hid hbB; clear hbB
      go_wp2
      go_ret
      exact ⟨ret_bool HR.out.symm, HB1.out.trans (HBB.out.mono HB1.out.size)⟩
    | true =>
      have hr : hgR ws l k pl = true := by unfold hgR; rw [ht, ht2]; rfl
      rw [ht] at hQ
      rw [ht2] at hB
      have HB1 := Lib.hid hb1; have HT := Lib.hid ht; have HT2 := Lib.hid ht2; have HR := Lib.hid hr; have HQ := Lib.hid hQ; have HB := Lib.hid hB; clear hb1 ht ht2 hr hQ hB
      have hbelc : ∀ (u : Bel w1.heap.size w1) b o, b < w1.heap.size → u.wd.cell? ⟨b, o, none⟩ = w1.cell? ⟨b, o, none⟩ := fun u b o h => u.h.cell (p := ⟨b, o, none⟩) h
      have hbeln : Nonempty (Bel w1.heap.size w1) := ⟨⟨w1, Below.refl _ _⟩⟩
      refine wp_region_bel w1.heap.size (by kernel_rfl) (by kernel_rfl) ?_
      repeat (go_big_quiet_step ((go_at_call 29; first | with_reducible exact quiet_bel (Nat.le_refl _) (HQ.out _) | with_reducible exact quiet_bel (Nat.le_refl _) (HB.out _))))
      refine wpQuiet_nil ?_
      intro wB hB0; obtain ⟨uB, hu⟩ := hB0; have hbB0 := uB.h; rw [← hu] at hbB0; clear hu uB hbelc hbeln
      obtain ⟨hbB, hcB, hsB⟩ := bcell2 hbB0; clear hbB0
      have HBB := Lib.hid hbB; clear hbB
      go_wp2
      go_ret
      exact ⟨ret_bool HR.out.symm, HB1.out.trans (HBB.out.mono HB1.out.size)⟩
end Go.Proofs.YtnplcephmidjbaaDoor
/- The reference of package pairs: asked, Hanging. -/
namespace Go.Proofs.YtnplcephmidjbaaDoor
open Go.RowKit

theorem ord_in {ws : List GW} {l : List Int} (h : ordQ ws l = true) : ∀ x ∈ l, 0 ≤ x ∧ x < ws.length := by
  unfold ordQ at h
  rw [Bool.and_eq_true] at h
  exact oRun_range l 0 h.2
theorem takes_tk (a p : Nat) : takesB (a : Int) (p : Int) = tkB a p := by
  unfold takesB tkB
  by_cases h1 : p = a
  · subst h1; simp
  · by_cases h2 : p = a + 1
    · subst h2; simp
    · have h3 : ¬ ((p : Int) = a ∨ (p : Int) = a + 1) := by omega
      rw [decide_eq_false h3]
      simp [h1, h2]
theorem plsOf_reo (ws : List GW) (l : List Int) {i : Nat} (hi : i < l.length) : plsOf (reoG ws l) i = (ws.getD (l[i]).toNat gwE).pl.toNat := by
  unfold plsOf reoG
  rw [List.getD_eq_getElem?_getD, List.getElem?_map, List.getElem?_eq_getElem hi]
  rfl
theorem tk_at {ws : List GW} {l : List Int} (hpl : ∀ x ∈ ws, 0 ≤ x.pl ∧ x.pl ≤ 22) {i : Nat} (hi : i < l.length) (p : Nat) : takesB (ws.getD (l[i]).toNat gwE).pl (p : Int) = tkB (plsOf (reoG ws l) i) p := by
  rw [plsOf_reo ws l hi, ← takes_tk]
  congr 1
  by_cases hy : (l[i]).toNat < ws.length
  · simp only [List.getD_eq_getElem?_getD, List.getElem?_eq_getElem hy, Option.getD_some]
    have := hpl _ (List.getElem_mem hy)
    omega
  · simp only [List.getD_eq_getElem?_getD, List.getElem?_eq_none (Nat.le_of_not_lt hy), Option.getD_none]
    rfl
theorem hgR_Q {ws : List GW} {l : List Int} (hpl : ∀ x ∈ ws, 0 ≤ x.pl ∧ x.pl ≤ 22) (k p : Nat) : hgR ws l k (p : Int) = hgQ (plsOf (reoG ws l)) l.length k p := by
  rw [Bool.eq_iff_iff, hgQ_iff]
  unfold hgR tkAny
  rw [Bool.and_eq_true, List.any_eq_true, List.any_eq_true]
  refine and_congr ?_ ?_
  · constructor
    · rintro ⟨x, hx, ht⟩
      obtain ⟨i, hi, rfl⟩ := List.mem_iff_getElem.1 hx
      have hi2 : i < k + 1 ∧ i < l.length := by simp at hi; omega
      rw [List.getElem_take, tk_at hpl hi2.2] at ht
      exact ⟨i, hi2.2, by omega, ht⟩
    · rintro ⟨i, hi, hk, ht⟩
      rw [← tk_at hpl hi] at ht
      exact ⟨l[i], by rw [List.mem_take_iff_getElem]; exact ⟨i, by omega, rfl⟩, ht⟩
  · constructor
    · rintro ⟨x, hx, ht⟩
      obtain ⟨i, hi, rfl⟩ := List.mem_iff_getElem.1 hx
      have hi2 : k + i < l.length := by simp at hi; omega
      rw [List.getElem_drop, tk_at hpl hi2] at ht
      exact ⟨k + i, hi2, by omega, ht⟩
    · rintro ⟨i, hi, hk, ht⟩
      rw [← tk_at hpl hi] at ht
      exact ⟨l[i], by rw [List.mem_drop_iff_getElem]; exact ⟨i - k, by omega, by simp [show k + (i - k) = i by omega]⟩, ht⟩
/-- In a place that no work can take no pair hangs. -/
theorem hgQ_out {q : Nat → Nat} {n P : Nat} (hq : ∀ i, i < n → q i + 2 ≤ P) (k : Nat) {p : Nat} (hp : P ≤ p) : hgQ q n k p = false := by
  cases h : hgQ q n k p with
  | false => rfl
  | true =>
    obtain ⟨⟨i, hi, _, ht⟩, _⟩ := (hgQ_iff q n k p).1 h
    have := hq i hi
    unfold tkB at ht
    simp at ht
    omega
theorem hngN_P {q : Nat → Nat} {n P : Nat} (hq : ∀ i, i < n → q i + 2 ≤ P) (hP : P ≤ 24) (k : Nat) : hngN q n k = cntP (hgQ q n k) P := by
  unfold hngN
  have := cntP_more (f := hgQ q n k) (m := P) (24 - P) fun p h1 _ => hgQ_out hq k h1
  rw [show P + (24 - P) = 24 by omega] at this
  exact this
theorem reo_q {P : Nat} {ws : List GW} {l : List Int} (he : errSheet P ws = 0) : ∀ i, i < l.length → plsOf (reoG ws l) i + 2 ≤ P := fun i hi => by
  have := reo_pl (p := P) (ws := ws) (l := l) he (k := i) (by rw [reoG_length]; exact hi)
  omega
theorem pl22 {p : Int} {ws : List GW} (he : errSheet p ws = 0) : ∀ x ∈ ws, 0 ≤ x.pl ∧ x.pl ≤ 22 := fun x hx => by
  obtain ⟨_, h2, _, h3⟩ := okAll he
  have := h3 x hx
  omega

set_option maxRecDepth 100000 in
set_option maxHeartbeats 2000000 in
theorem rasked_ (p : Int) (A L : Option Addr) (c lc : Nat) (ws : List GW) (l : List Int) (w : World) (hsh : ShIn w p A ws) (hl : RdI w L l) :
    Calls Tryd.prog 26 #[.agg #[.int .i64 p, .slice A ws.length c], .slice L l.length lc] w fun e w' => e = .returned (.int .i64 (reoX p ws l)) ∧ Below w.heap.size w w' := by
  have hb2 : Below w.heap.size w (w.alloc (.cells #[.int .i64 p, .slice A ws.length c] 24)) := (Below.refl _ _).alloc (Nat.le_refl _) _
  have X0 := Lib.hid (Box1.made w p A c ws.length 24)
  have Y0 := Lib.hid hb2
  obtain ⟨hp1, hp2, ha⟩ := hsh
  have HA := Lib.hid ha; have HL := Lib.hid hl; clear ha hl
  clear hb2
  go_enter Tryd.func26, Tryd.ntmps26
  go_wp2_with fail
  refine (rCheck_ _ _ _ _ _ hp1 hp2 (HA.out.later Y0.out (Nat.le_refl _))).mono ?_; rintro e w1 ⟨rfl, hb1⟩
  have X1 := Lib.hid (X0.out.later hb1); have Y1 := Lib.hid (Y0.out.trans (hb1.mono Y0.out.size)); clear hb1
  obtain ⟨c1, c2, s1⟩ := X1.out
  by_cases he : errSheet p ws = 0
  rotate_left
  · have hx : reoX p ws l = errSheet p ws := by unfold reoX; rw [if_neg he]
    have hb0 : (errSheet p ws == 0) = false := by simpa using he
    generalize errSheet p ws = E at *
    have HX := Lib.hid hx; have HE := Lib.hid he; clear hx he
    go_wp2
    go_ret
    exact ⟨ret_int HX.out.symm, Y1.out⟩
  · rw [he]
    cases ho : ordQ ws l with
    | true =>
      have hx : reoX p ws l = 0 := by unfold reoX; rw [if_pos he, if_pos ho]
      have hc := fun W h1 h2 => rOrder_ p A L c lc ws l W he h1 h2
      rw [ho] at hc
      have HX := Lib.hid hx; have HE := Lib.hid he; have HO := Lib.hid ho; have HC := Lib.hid hc; clear hx he ho hc
      go_wp2_with (go_at_call 21; refine (HC.out _ (HA.out.later Y1.out (Nat.le_refl _)) (HL.out.later Y1.out (Nat.le_refl _))).mono ?_; rintro e w2 ⟨rfl, hb2⟩)
      go_ret
      exact ⟨ret_int HX.out.symm, Y1.out.trans (hb2.mono Y1.out.size)⟩
    | false =>
      have hx : reoX p ws l = 4 := by unfold reoX; rw [if_pos he, if_neg (by rw [ho]; decide)]
      have hc := fun W h1 h2 => rOrder_ p A L c lc ws l W he h1 h2
      rw [ho] at hc
      have HX := Lib.hid hx; have HE := Lib.hid he; have HO := Lib.hid ho; have HC := Lib.hid hc; clear hx he ho hc
      go_wp2_with (go_at_call 21; refine (HC.out _ (HA.out.later Y1.out (Nat.le_refl _)) (HL.out.later Y1.out (Nat.le_refl _))).mono ?_; rintro e w2 ⟨rfl, hb2⟩)
      go_ret
      exact ⟨ret_int HX.out.symm, Y1.out.trans (hb2.mono Y1.out.size)⟩
end Go.Proofs.YtnplcephmidjbaaDoor
/- The reference of package pairs: may. -/
namespace Go.Proofs.YtnplcephmidjbaaDoor
open Go.RowKit

theorem wraps62 : ∀ n : Int, 0 ≤ n → n < 2 ^ 62 → IntKind.i64.wrap n = n := fun n h0 h1 => IntWalk.i64_in _ (by omega)
theorem bit_val (v i : Nat) (hv : v < 2 ^ 62) : bits .and .i64 ((v : Int) / 2 ^ i) 1 = if v.testBit i = true then 1 else 0 := by
  have hd : v / 2 ^ i < 2 ^ 62 := Nat.lt_of_le_of_lt (Nat.div_le_self _ _) hv
  have e : (v : Int) / 2 ^ i = ((v / 2 ^ i : Nat) : Int) := by simp
  have h1 := (bits_nat .i64 62 (by decide) wraps62 (v / 2 ^ i) 1 hd (by decide)).1
  rw [e, show (1 : Int) = ((1 : Nat) : Int) from rfl, h1, Nat.and_one_is_mod]
  have h2 : v.testBit i = decide (v / 2 ^ i % 2 = 1) := by rw [Nat.testBit_eq_decide_div_mod_eq]
  rw [h2]
  by_cases h3 : v / 2 ^ i % 2 = 1
  · rw [h3]; simp
  · have : v / 2 ^ i % 2 = 0 := by omega
    rw [this]; simp
theorem tkB_touch (a b : Nat) : (tkB a b || tkB a (b + 1)) = touchB (a : Int) (b : Int) := by
  unfold tkB touchB
  rw [Bool.eq_iff_iff]
  simp
  omega
/-- A work is free if those before it that touch it are done. -/
theorem free_iff (q : Nat → Nat) (S k : Nat) : freeB (befT q) S k = true ↔ S.testBit k = false ∧ ∀ a, a < k → touchB (q a : Int) (q k : Int) = true → S.testBit a = true := by
  unfold freeB
  rw [Bool.and_eq_true, Bool.not_eq_true', decide_eq_true_eq]
  refine and_congr_right fun _ => ?_
  constructor
  · intro h a ha ht
    have h1 : (befT q k).testBit a = true := by rw [befT_bit, decide_eq_true ha, Bool.true_and, tkB_touch]; exact ht
    have h2 : (befT q k &&& S).testBit a = true := by rw [h]; exact h1
    rw [Nat.testBit_and, h1, Bool.true_and] at h2
    exact h2
  · intro h
    apply Nat.eq_of_testBit_eq
    intro a
    rw [Nat.testBit_and, befT_bit]
    by_cases ha : a < k
    · rw [decide_eq_true ha, Bool.true_and, tkB_touch]
      cases ht : touchB (q a : Int) (q k : Int) with
      | true => rw [h a ha ht]; rfl
      | false => rfl
    · rw [decide_eq_false ha]; rfl
/-- What a search sees of its sheet. -/
structure SrC (w : World) (X P : Nat) (A : Option Addr) (c : Nat) (ws : List GW) : Prop where
  ps : w.cell? ⟨X, 0, none⟩ = some (.int .i64 (P : Int))
  wk : w.cell? ⟨X, 1, none⟩ = some (.slice A ws.length c)
  rd : RdW w A ws
theorem SrC.later {w w' : World} {X P : Nat} {A : Option Addr} {c : Nat} {ws : List GW} (h : SrC w X P A c ws) (hb : Below w.heap.size w w') : SrC w' X P A c ws :=
  ⟨below_at hb (Nat.le_refl _) h.ps, below_at hb (Nat.le_refl _) h.wk, h.rd.later hb (Nat.le_refl _)⟩

set_option maxRecDepth 100000 in
set_option maxHeartbeats 4000000 in
theorem rmay_ (X P S k : Nat) (A : Option Addr) (c : Nat) (ws : List GW) (w : World) (hpl : ∀ x ∈ ws, 0 ≤ x.pl ∧ x.pl ≤ 22) (hS : S < 2 ^ 60) (hk : k < ws.length) (hn : ws.length ≤ 14) (h : SrC w X P A c ws) :
    Calls Tryd.prog 36 #[.pointer (some ⟨X, 0, none⟩), .int .i64 (S : Int), .int .i64 (k : Int)] w fun e w' => e = .returned (.bool (freeB (befT (plsOf ws)) S k)) ∧ Below w.heap.size w w' := by
  have hq : ∀ i, (h : i < ws.length) → ws[i].pl = (plsOf ws i : Int) ∧ plsOf ws i ≤ 22 := fun i h => by
    have h1 := hpl _ (List.getElem_mem h)
    have e : plsOf ws i = ws[i].pl.toNat := by unfold plsOf; simp [List.getD_eq_getElem?_getD, h]
    omega
  have hfi := free_iff (plsOf ws) S k
  have hv := fun i => bit_val S i (Nat.lt_of_lt_of_le hS (Nat.pow_le_pow_right (by decide) (by decide)))
  have z1 : (0 : Int) ≤ (k : Int) := by omega
  have z2 : (k : Int) < 64 := by omega
  generalize plsOf ws = q at *
  cases hb : S.testBit k with
  | true =>
    have hr : freeB (befT q) S k = false := by
      cases hf : freeB (befT q) S k with
      | false => rfl
      | true => rw [(hfi.1 hf).1] at hb; cases hb
    have e1 := hv k
    rw [if_pos hb] at e1
    have HV := Lib.hid hv; have HFI := Lib.hid hfi; have HR := Lib.hid hr; have HQ := Lib.hid hq; have HPL := Lib.hid hpl; have HS := Lib.hid hS; have H := Lib.hid h; clear hv hfi hr hq hpl hS h
    go_enter Tryd.func36, Tryd.ntmps36
    go_wp2
    go_ret
    exact ⟨ret_bool HR.out.symm, Below.refl _ _⟩
  | false =>
    have e1 := hv k
    rw [if_neg (by rw [hb]; decide)] at e1
    have HV := Lib.hid hv; have HFI := Lib.hid hfi; have HQ := Lib.hid hq; have HPL := Lib.hid hpl; have HS := Lib.hid hS; have H := Lib.hid h; have HB := Lib.hid hb; clear hv hfi hq hpl hS h hb
    go_enter Tryd.func36, Tryd.ntmps36
    go_wp2
    go_loopw [7] (fun iv wr => ∃ a : Nat, iv = .int .i64 a ∧ a ≤ k ∧ (∀ t, t < a → touchB (q t : Int) (q k : Int) = true → S.testBit t = true) ∧ Below w.heap.size w wr) (fun iv _ => k - (intOf iv).toNat)
    case atStart => exact ⟨0, rfl, Nat.zero_le _, fun t h => absurd h (by omega), Below.refl _ _⟩
    case round =>
      obtain ⟨a, rfl, ha, hno, hbr⟩ := hrel
      by_cases hak : a < k
      · obtain ⟨d1, d2, d3⟩ := H.out.later hbr
        have hXl := World.block_lt_of_cell? wr _ d1
        obtain ⟨b, off, rfl, hbL, t1, t2, t3⟩ := d3.at_ (k := a) (by omega)
        obtain ⟨b', off', hA', _, u1, u2, u3⟩ := d3.at_ hk
        injection hA' with hA'; injection hA' with hA1 hA2; subst hA1; subst hA2
        obtain ⟨p1, p2⟩ := HQ.out a (by omega)
        obtain ⟨p3, p4⟩ := HQ.out k hk
        rw [p1] at t2
        rw [p3] at u2
        have e2 := HV.out a
        have z3 : (0 : Int) ≤ (a : Int) := by omega
        have z4 : (a : Int) < 64 := by omega
        have z5 : (a : Int) < (ws.length : Int) := by omega
        have z6 : (k : Int) < (ws.length : Int) := by omega
        generalize ws[a].kind = ka at *
        generalize ws[a].word = wa at *
        generalize ws[k].kind = kk at *
        generalize ws[k].word = wk at *
        clear d3 p1 p3
        cases hs : S.testBit a with
        | true =>
          rw [if_pos hs] at e2
          have hno2 : ∀ t, t < a + 1 → touchB (q t : Int) (q k : Int) = true → S.testBit t = true := fun t h1 h2 => by
            rcases Nat.lt_succ_iff_lt_or_eq.1 h1 with h1 | rfl
            · exact hno t h1 h2
            · exact hs
          clear hs
          have HNO := Lib.hid hno; have HNO2 := Lib.hid hno2; have HBR := Lib.hid hbr; clear hno hno2 hbr
          go_wp2
          go_quiet (fail)
          go_wp2
          go_roundw
          case rel => exact ⟨a + 1, by go_num, by omega, HNO2.out, below_drewN HBR.out _⟩
          case measure => simp [intOf]; omega
        | false =>
          rw [if_neg (by rw [hs]; decide)] at e2
          cases ht : touchB (q a : Int) (q k : Int) with
          | true =>
            have hr : freeB (befT q) S k = false := by
              cases hf : freeB (befT q) S k with
              | false => rfl
              | true =>
                have := (HFI.out.1 hf).2 a hak ht
                rw [hs] at this; cases this
            clear hs
            have HNO := Lib.hid hno; have HBR := Lib.hid hbr; have HR := Lib.hid hr; clear hno hbr hr
            go_wp2
            have hbelc : ∀ (u : Bel wr.heap.size wr) b o, b < wr.heap.size → u.wd.cell? ⟨b, o, none⟩ = wr.cell? ⟨b, o, none⟩ := fun u b o h => u.h.cell (p := ⟨b, o, none⟩) h
            have hbeln : Nonempty (Bel wr.heap.size wr) := ⟨⟨wr, Below.refl _ _⟩⟩
            refine wp_region_bel wr.heap.size (by kernel_rfl) (by kernel_rfl) ?_
            repeat (go_big_quiet_step ((go_at_call 42; exact quiet_bel (Nat.le_refl _) (touch_isO _ _ _ _ _ _ _ (by omega) (by omega) (by omega) (by omega) ht))))
            refine wpQuiet_nil ?_
            intro wB hB0; obtain ⟨uB, hu⟩ := hB0; have hbB0 := uB.h; rw [← hu] at hbB0; clear hu uB hbelc hbeln
            obtain ⟨hbB, hcB, hsB⟩ := bcell2 hbB0; clear hbB0
            have HBB := Lib.hid hbB; clear hbB
            go_wp2
            go_ret
            exact ⟨ret_bool HR.out.symm, HBR.out.trans (HBB.out.mono HBR.out.size)⟩
          | false =>
            have hno2 : ∀ t, t < a + 1 → touchB (q t : Int) (q k : Int) = true → S.testBit t = true := fun t h1 h2 => by
              rcases Nat.lt_succ_iff_lt_or_eq.1 h1 with h1 | rfl
              · exact hno t h1 h2
              · rw [ht] at h2; cases h2
            clear hs
            have HNO := Lib.hid hno; have HNO2 := Lib.hid hno2; have HBR := Lib.hid hbr; clear hno hno2 hbr
            go_wp2
            have hbelc : ∀ (u : Bel wr.heap.size wr) b o, b < wr.heap.size → u.wd.cell? ⟨b, o, none⟩ = wr.cell? ⟨b, o, none⟩ := fun u b o h => u.h.cell (p := ⟨b, o, none⟩) h
            have hbeln : Nonempty (Bel wr.heap.size wr) := ⟨⟨wr, Below.refl _ _⟩⟩
            refine wp_region_bel wr.heap.size (by kernel_rfl) (by kernel_rfl) ?_
            repeat (go_big_quiet_step ((go_at_call 42; exact quiet_bel (Nat.le_refl _) (touch_isO _ _ _ _ _ _ _ (by omega) (by omega) (by omega) (by omega) ht))))
            refine wpQuiet_nil ?_
            intro wB hB0; obtain ⟨uB, hu⟩ := hB0; have hbB0 := uB.h; rw [← hu] at hbB0; clear hu uB hbelc hbeln
            obtain ⟨hbB, hcB, hsB⟩ := bcell2 hbB0; clear hbB0
            have HBB := Lib.hid hbB; clear hbB
            go_wp2
            go_roundw
            case rel => exact ⟨a + 1, by go_num, by omega, HNO2.out, HBR.out.trans (HBB.out.mono HBR.out.size)⟩
            case measure => simp [intOf]; omega
      · obtain rfl : a = k := by omega
        have hr : freeB (befT q) S a = true := HFI.out.2 ⟨HB.out, hno⟩
        have HNO := Lib.hid hno; have HBR := Lib.hid hbr; have HR := Lib.hid hr; clear hno hbr hr
        go_wp2
        go_ret
        exact ⟨ret_bool HR.out.symm, HBR.out⟩
end Go.Proofs.YtnplcephmidjbaaDoor
/- The reference of package pairs: hanging. -/
namespace Go.Proofs.YtnplcephmidjbaaDoor
open Go.RowKit

/-- Among the first m works: one that takes the place is done or is made; one is not done. -/
def bgB (q : Nat → Nat) (S k p : Nat) : Nat → Bool
  | 0 => false
  | m + 1 => if tkB (q m) p = true then bgB q S k p m || (decide (m = k) || S.testBit m) else bgB q S k p m
def opB (q : Nat → Nat) (S p : Nat) : Nat → Bool
  | 0 => false
  | m + 1 => if tkB (q m) p = true then opB q S p m || !S.testBit m else opB q S p m
theorem bgB_iff (q : Nat → Nat) (S k p : Nat) : ∀ m, bgB q S k p m = true ↔ ∃ i, i < m ∧ tkB (q i) p = true ∧ (i = k ∨ S.testBit i = true)
  | 0 => by unfold bgB; simp
  | m + 1 => by
    have ih := bgB_iff q S k p m
    unfold bgB
    by_cases hc : tkB (q m) p = true
    · rw [if_pos hc, Bool.or_eq_true, Bool.or_eq_true, ih, decide_eq_true_eq]
      constructor
      · rintro (⟨i, h1, h2⟩ | h)
        · exact ⟨i, by omega, h2⟩
        · exact ⟨m, by omega, hc, h⟩
      · rintro ⟨i, h1, h2, h3⟩
        rcases Nat.lt_succ_iff_lt_or_eq.1 h1 with h1 | rfl
        · exact .inl ⟨i, h1, h2, h3⟩
        · exact .inr h3
    · rw [if_neg hc, ih]
      constructor
      · rintro ⟨i, h1, h2⟩; exact ⟨i, by omega, h2⟩
      · rintro ⟨i, h1, h2, h3⟩
        rcases Nat.lt_succ_iff_lt_or_eq.1 h1 with h1 | rfl
        · exact ⟨i, h1, h2, h3⟩
        · exact absurd h2 hc
theorem opB_iff (q : Nat → Nat) (S p : Nat) : ∀ m, opB q S p m = true ↔ ∃ i, i < m ∧ tkB (q i) p = true ∧ S.testBit i = false
  | 0 => by unfold opB; simp
  | m + 1 => by
    have ih := opB_iff q S p m
    unfold opB
    by_cases hc : tkB (q m) p = true
    · rw [if_pos hc, Bool.or_eq_true, ih, Bool.not_eq_true']
      constructor
      · rintro (⟨i, h1, h2⟩ | h)
        · exact ⟨i, by omega, h2⟩
        · exact ⟨m, by omega, hc, h⟩
      · rintro ⟨i, h1, h2, h3⟩
        rcases Nat.lt_succ_iff_lt_or_eq.1 h1 with h1 | rfl
        · exact .inl ⟨i, h1, h2, h3⟩
        · exact .inr h3
    · rw [if_neg hc, ih]
      constructor
      · rintro ⟨i, h1, h2⟩; exact ⟨i, by omega, h2⟩
      · rintro ⟨i, h1, h2, h3⟩
        rcases Nat.lt_succ_iff_lt_or_eq.1 h1 with h1 | rfl
        · exact ⟨i, h1, h2, h3⟩
        · exact absurd h2 hc
theorem nz_iff (x : Nat) : ¬ x = 0 ↔ ∃ i, x.testBit i = true := by
  constructor
  · intro h
    refine Classical.byContradiction fun hn => h (Nat.eq_of_testBit_eq fun i => ?_)
    rw [Nat.zero_testBit]
    cases hb : x.testBit i with
    | false => rfl
    | true => exact absurd ⟨i, hb⟩ hn
  · rintro ⟨i, hi⟩ h
    rw [h, Nat.zero_testBit] at hi; cases hi
theorem ne_iff (x S : Nat) : ¬ x &&& S = x ↔ ∃ i, x.testBit i = true ∧ S.testBit i = false := by
  constructor
  · intro h
    refine Classical.byContradiction fun hn => h (Nat.eq_of_testBit_eq fun i => ?_)
    rw [Nat.testBit_and]
    cases hb : x.testBit i with
    | false => rfl
    | true =>
      cases hs : S.testBit i with
      | true => rfl
      | false => exact absurd ⟨i, hb, hs⟩ hn
  · rintro ⟨i, hi, hs⟩ h
    rw [← h, Nat.testBit_and, hs, Bool.and_false] at hi
    cases hi
theorem hgS_ref (q : Nat → Nat) (n S k p : Nat) : hgS q n S k p = (bgB q S k p n && opB q S p n) := by
  rw [Bool.eq_iff_iff]
  unfold hgS
  rw [Bool.and_eq_true, Bool.and_eq_true, Bool.not_eq_true', Bool.not_eq_true', decide_eq_false_iff_not, decide_eq_false_iff_not, nz_iff, ne_iff, bgB_iff, opB_iff]
  refine and_congr ?_ ?_
  · constructor
    · rintro ⟨i, hi⟩
      rw [Nat.testBit_and, tkS_bit, testBit_set, Bool.and_eq_true, Bool.and_eq_true, Bool.or_eq_true, decide_eq_true_eq, decide_eq_true_eq] at hi
      exact ⟨i, hi.1.1, hi.1.2, by rcases hi.2 with h | h; exact .inr h; exact .inl h.symm⟩
    · rintro ⟨i, h1, h2, h3⟩
      refine ⟨i, ?_⟩
      rw [Nat.testBit_and, tkS_bit, testBit_set, Bool.and_eq_true, Bool.and_eq_true, Bool.or_eq_true, decide_eq_true_eq, decide_eq_true_eq]
      exact ⟨⟨h1, h2⟩, by rcases h3 with h | h; exact .inr h.symm; exact .inl h⟩
  · constructor
    · rintro ⟨i, hi, hs⟩
      rw [tkS_bit, Bool.and_eq_true, decide_eq_true_eq] at hi
      exact ⟨i, hi.1, hi.2, hs⟩
    · rintro ⟨i, h1, h2, h3⟩
      exact ⟨i, by rw [tkS_bit, decide_eq_true h1, h2]; rfl, h3⟩
theorem hgS_out {q : Nat → Nat} {n P : Nat} (hq : ∀ i, i < n → q i + 2 ≤ P) (S k : Nat) {p : Nat} (hp : P ≤ p) : hgS q n S k p = false := by
  rw [hgS_ref]
  cases h : opB q S p n with
  | false => simp
  | true =>
    obtain ⟨i, hi, ht, _⟩ := (opB_iff q S p n).1 h
    have := hq i hi
    unfold tkB at ht
    simp at ht
    omega
theorem hngS_P {q : Nat → Nat} {n P : Nat} (hq : ∀ i, i < n → q i + 2 ≤ P) (hP : P ≤ 24) (S k : Nat) : hngS q n S k = cntP (hgS q n S k) P := by
  unfold hngS
  have := cntP_more (f := hgS q n S k) (m := P) (24 - P) fun p h1 _ => hgS_out hq S k h1
  rw [show P + (24 - P) = 24 by omega] at this
  exact this

set_option maxRecDepth 100000 in
set_option maxHeartbeats 4000000 in
theorem rhanging_ (X P S k : Nat) (A : Option Addr) (c : Nat) (ws : List GW) (w : World) (hok : errSheet P ws = 0) (hS : S < 2 ^ 60) (hn : ws.length ≤ 14) (h : SrC w X P A c ws) :
    Calls Tryd.prog 37 #[.pointer (some ⟨X, 0, none⟩), .int .i64 (S : Int), .int .i64 (k : Int)] w fun e w' => e = .returned (.int .i64 (hngS (plsOf ws) ws.length S k : Int)) ∧ Below w.heap.size w w' := by
  have hq : ∀ i, (h : i < ws.length) → ws[i].pl = (plsOf ws i : Int) ∧ plsOf ws i + 2 ≤ P ∧ P ≤ 24 := fun i h => by
    obtain ⟨_, h24, _, hall⟩ := okAll hok
    have h1 := hall _ (List.getElem_mem h)
    have e : plsOf ws i = ws[i].pl.toNat := by unfold plsOf; simp [List.getD_eq_getElem?_getD, h]
    omega
  have hP : P ≤ 24 := by have := (okAll hok).2.1; omega
  have hfin := hngS_P (fun i h => (hq i h).2.1) hP S k
  have hv := fun i => bit_val S i (Nat.lt_of_lt_of_le hS (Nat.pow_le_pow_right (by decide) (by decide)))
  have hgr := fun p => hgS_ref (plsOf ws) ws.length S k p
  generalize plsOf ws = q at *
  have HV := Lib.hid hv; have HFIN := Lib.hid hfin; have HGR := Lib.hid hgr; have HQ := Lib.hid hq; have HOK := Lib.hid hok; have HS := Lib.hid hS; have H := Lib.hid h; clear hv hfin hgr hq hok hS h
  go_enter Tryd.func37, Tryd.ntmps37
  go_wp2
  go_loopw [7, 8] (fun nv pv wr => ∃ p : Nat, pv = .int .i64 p ∧ p ≤ P ∧ nv = .int .i64 (cntP (hgS q ws.length S k) p : Int) ∧ Below w.heap.size w wr) (fun _ pv _ => P - (intOf pv).toNat)
  case atStart => exact ⟨0, rfl, Nat.zero_le _, rfl, Below.refl _ _⟩
  case round =>
    obtain ⟨p, rfl, hp, rfl, hbr⟩ := hrel
    obtain ⟨d1, d2, d3⟩ := H.out.later hbr
    have hXl := World.block_lt_of_cell? wr _ d1
    have hcl := cntP_le (hgS q ws.length S k) p
    have hcs : cntP (hgS q ws.length S k) (p + 1) = cntP (hgS q ws.length S k) p + if hgS q ws.length S k p = true then 1 else 0 := rfl
    by_cases hpP : p < P
    · rw [HGR.out p] at hcs
      generalize cntP (hgS q ws.length S k) p = cj at *
      obtain ⟨wy, rfl⟩ : ∃ wy : World, wy = wr := ⟨_, rfl⟩
      have hwy := hbr
      clear d3
      have HBR := Lib.hid hbr; have HCS := Lib.hid hcs; have HWY := Lib.hid hwy; clear hbr hcs hwy
      go_wp2
      clear d1 d2 hXl
      go_loopw [9, 10, 11] (fun bv ov iv wr => ∃ i : Nat, iv = .int .i64 i ∧ i ≤ ws.length ∧ bv = .bool (bgB q S k p i) ∧ ov = .bool (opB q S p i) ∧ Below wy.heap.size wy wr) (fun _ _ iv _ => ws.length - (intOf iv).toNat)
      case atStart => exact ⟨0, rfl, Nat.zero_le _, rfl, rfl, Below.refl _ _⟩
      case round =>
        obtain ⟨i, rfl, hi, rfl, rfl, hbx⟩ := hrel
        have hbu := HWY.out.trans (hbx.mono HWY.out.size)
        obtain ⟨d1, d2, d3⟩ := H.out.later hbu
        have hXl := World.block_lt_of_cell? wr _ d1
        have hs1 : bgB q S k p (i + 1) = if tkB (q i) p = true then bgB q S k p i || (decide (i = k) || S.testBit i) else bgB q S k p i := rfl
        have hs2 : opB q S p (i + 1) = if tkB (q i) p = true then opB q S p i || !S.testBit i else opB q S p i := rfl
        by_cases hil : i < ws.length
        · obtain ⟨b, off, rfl, hbL, t1, t2, t3⟩ := d3.at_ hil
          obtain ⟨p1, p2, _⟩ := HQ.out i hil
          rw [p1] at t2
          have e2 := HV.out i
          have z3 : (0 : Int) ≤ (i : Int) := by omega
          have z4 : (i : Int) < 64 := by omega
          have z5 : (i : Int) < (ws.length : Int) := by omega
          have hcall := fun kk ss W => rTakes_ kk (q i : Int) (p : Int) ss W (by omega) (by omega)
          rw [takes_tk] at hcall
          generalize ws[i].kind = ki at *
          generalize ws[i].word = wi at *
          generalize bgB q S k p i = bg at *
          generalize opB q S p i = op at *
          generalize q i = qi at *
          clear d3 p1
          cases ht : tkB qi p with
          | false =>
            rw [ht] at hcall hs1 hs2
            rw [if_neg (by decide)] at hs1 hs2
            clear ht e2
            have HBX := Lib.hid hbx; have HBU := Lib.hid hbu; have HS1 := Lib.hid hs1; have HS2 := Lib.hid hs2; have HCALL := Lib.hid hcall; clear hbx hbu hs1 hs2 hcall
            go_wp2_with (go_at_call 23; refine (HCALL.out _ _ _).mono ?_; rintro e w2 ⟨rfl, hb2⟩)
            go_roundw
            case rel => exact ⟨i + 1, by go_num, by omega, by rw [HS1.out], by rw [HS2.out], HBX.out.trans (hb2.mono HBX.out.size)⟩
            case measure => simp [intOf]; omega
          | true =>
            rw [ht] at hcall hs1 hs2
            rw [if_pos rfl] at hs1 hs2
            clear ht
            have e3 : ((i : Int) == (k : Int)) = decide (i = k) := by
              rw [Bool.eq_iff_iff]; simp; omega
            cases hb : S.testBit i with
            | true =>
              rw [if_pos hb] at e2
              rw [hb] at hs1 hs2
              clear hb
              cases bg <;> cases op <;> cases hd : decide (i = k) <;>
                (rw [hd] at e3 hs1
                 simp at hs1 hs2
                 clear hd
                 have HBX := Lib.hid hbx; have HBU := Lib.hid hbu; have HS1 := Lib.hid hs1; have HS2 := Lib.hid hs2; have HCALL := Lib.hid hcall; clear hbx hbu hs1 hs2 hcall
                 go_wp2_with (go_at_call 23; refine (HCALL.out _ _ _).mono ?_; rintro e w2 ⟨rfl, hb2⟩)
                 go_roundw
                 case rel => exact ⟨i + 1, by go_num, by omega, by rw [HS1.out], by rw [HS2.out], HBX.out.trans (hb2.mono HBX.out.size)⟩
                 case measure => simp [intOf]; omega)
            | false =>
              rw [if_neg (by rw [hb]; decide)] at e2
              rw [hb] at hs1 hs2
              clear hb
              cases bg <;> cases op <;> cases hd : decide (i = k) <;>
                (rw [hd] at e3 hs1
                 simp at hs1 hs2
                 clear hd
                 have HBX := Lib.hid hbx; have HBU := Lib.hid hbu; have HS1 := Lib.hid hs1; have HS2 := Lib.hid hs2; have HCALL := Lib.hid hcall; clear hbx hbu hs1 hs2 hcall
                 go_wp2_with (go_at_call 23; refine (HCALL.out _ _ _).mono ?_; rintro e w2 ⟨rfl, hb2⟩)
                 go_roundw
                 case rel => exact ⟨i + 1, by go_num, by omega, by rw [HS1.out], by rw [HS2.out], HBX.out.trans (hb2.mono HBX.out.size)⟩
                 case measure => simp [intOf]; omega)
        · obtain rfl : i = ws.length := by omega
          have hcs := HCS.out
          generalize bgB q S k p ws.length = bg at *
          generalize opB q S p ws.length = op at *
          clear d3
          cases bg <;> cases op <;>
            (simp at hcs
             have HBX := Lib.hid hbx; have HBU := Lib.hid hbu; have HCS := Lib.hid hcs; clear hbx hbu hcs
             go_wp2
             go_roundw
             case rel => exact ⟨p + 1, by go_num, by omega, by rw [HCS.out] <;> simp, HBU.out⟩
             case measure => simp [intOf]; omega)
    · obtain rfl : p = P := by omega
      clear d3
      have HBR := Lib.hid hbr; clear hbr
      go_wp2
      go_ret
      exact ⟨ret_int (by rw [HFIN.out]), HBR.out⟩
end Go.Proofs.YtnplcephmidjbaaDoor
/- The reference of package pairs: Hanging. -/
namespace Go.Proofs.YtnplcephmidjbaaDoor
open Go.RowKit

set_option maxRecDepth 100000 in
set_option maxHeartbeats 4000000 in
theorem rHanging_ (p : Int) (A L : Option Addr) (c lc : Nat) (ws : List GW) (l : List Int) (w : World) (hsh : ShIn w p A ws) (hl : RdI w L l) (hlc : l.length ≤ lc) :
    Calls Tryd.prog 12 #[.agg #[.int .i64 p, .slice A ws.length c], .slice L l.length lc] w (HangPost (hangL p ws l) (hangN p ws l) (reoX p ws l) w) := by
  have hb2 : Below w.heap.size w (w.alloc (.cells #[.int .i64 p, .slice A ws.length c] 24)) := (Below.refl _ _).alloc (Nat.le_refl _) _
  have X0 := Lib.hid (Box1.made w p A c ws.length 24)
  have Y0 := Lib.hid hb2
  have hln := hl.1
  clear hb2
  have HSH := Lib.hid hsh; have HL := Lib.hid hl; clear hsh hl
  go_enter Tryd.func12, Tryd.ntmps12
  go_wp2_with fail
  refine (rasked_ p A L c lc ws l _ (HSH.out.later Y0.out (Nat.le_refl _)) (HL.out.later Y0.out (Nat.le_refl _))).mono ?_; rintro e w1 ⟨rfl, hb1⟩
  have X1 := Lib.hid (X0.out.later hb1); have Y1 := Lib.hid (Y0.out.trans (hb1.mono Y0.out.size)); clear hb1
  by_cases hx : reoX p ws l = 0
  rotate_left
  · have hxb : (reoX p ws l != 0) = true := by simpa using hx
    have e1 : hangL p ws l = [] := by unfold hangL; rw [if_neg hx]
    have e2 : hangN p ws l = 0 := by unfold hangN; rw [if_neg hx]
    generalize hE : reoX p ws l = E at *
    have HX := Lib.hid hx; have E1 := Lib.hid e1; have E2 := Lib.hid e2; have HE := Lib.hid hE; clear hx e1 e2 hE
    go_wp2
    go_ret3
    refine ⟨_, ?_, by rw [E1.out]; exact RdV.nil _, Y1.out⟩
    rw [E2.out]
    rfl
  · obtain ⟨hle, hn4⟩ := reo_len hx
    have hl4 : l.length ≤ 400 := by omega
    obtain ⟨hok, hord⟩ := reo_ok hx
    obtain ⟨hp2, hp24, _, _⟩ := okAll hok
    obtain ⟨P, rfl⟩ := Int.eq_ofNat_of_zero_le (show 0 ≤ p by omega)
    have hpl := pl22 hok
    have hin := ord_in hord
    have e1 : hangL P ws l = hangsL (plsOf (reoG ws l)) l.length l.length := by unfold hangL; rw [if_pos hx]
    have e2 : hangN P ws l = needQ (plsOf (reoG ws l)) l.length l.length := by unfold hangN; rw [if_pos hx]
    have hng : ∀ k, hngN (plsOf (reoG ws l)) l.length k = cntP (hgQ (plsOf (reoG ws l)) l.length k) P := hngN_P (reo_q hok) (by omega)
    have hgr : ∀ k j : Nat, hgR ws l k (j : Int) = hgQ (plsOf (reoG ws l)) l.length k j := hgR_Q hpl
    rw [hx]
    clear hle hn4 hord hok
    generalize plsOf (reoG ws l) = q at *
    have hnq : ∀ k, needQ q l.length (k + 1) = max (needQ q l.length k) (cntP (hgQ q l.length k) P) := fun k => by rw [← hng]; rfl
    have hnl : ∀ k, hangsL q l.length (k + 1) = hangsL q l.length k ++ [(cntP (hgQ q l.length k) P : Int)] := fun k => by rw [hangsL_succ, hng]
    have hnb := needQ_le q l.length
    have hlen := hangsL_length q l.length
    have HX := Lib.hid hx; have E1 := Lib.hid e1; have E2 := Lib.hid e2; have HNG := Lib.hid hng; have HGR := Lib.hid hgr; have HNQ := Lib.hid hnq; have HNL := Lib.hid hnl; have HNB := Lib.hid hnb; have HPL := Lib.hid hpl; have HIN := Lib.hid hin; have HLEN := Lib.hid hlen; clear hx e1 e2 hng hgr hnq hnl hnb hpl hin hlen
    go_wp2
    go_loopw [8, 9, 10] (fun ov nv iv wr => ∃ k : Nat, iv = .int .i64 k ∧ k ≤ l.length ∧ nv = .int .i64 (needQ q l.length k : Int) ∧ wr.ownsRow w1.heap.size 3 1 ov (hangsL q l.length k).length (ints (hangsL q l.length k)) ∧ Below w1.heap.size w1 wr) (fun _ _ iv _ => l.length - (intOf iv).toNat)
    case atStart => exact ⟨0, rfl, Nat.zero_le _, rfl, World.ownsRow_nil _ _ _ _, Below.refl _ _⟩
    case round =>
      obtain ⟨k, rfl, hk, rfl, hown, hbr⟩ := hrel
      obtain ⟨OA, oc, rfl⟩ := own_slice1 hown
      obtain ⟨wy, rfl⟩ : ∃ wy : World, wy = wr := ⟨_, rfl⟩
      have hlk := HLEN.out k
      have hnk1 := HNB.out k
      have hn1 := HNQ.out k
      have hn2 := HNL.out k
      generalize hnk : needQ q l.length k = nk at *
      generalize hxs : hangsL q l.length k = xs at *
      have hbw := Y1.out.trans (hbr.mono Y1.out.size)
      have hlo := hown.lt
      have hsr := hbr.size
      have Xy := Lib.hid (X1.out.later hbr)
      by_cases hk2 : k < l.length
      · have HOWN := Lib.hid hown; have HBR := Lib.hid hbr; have HBW := Lib.hid hbw; have HN1 := Lib.hid hn1; have HN2 := Lib.hid hn2; have HNK := Lib.hid hnk; have HXS := Lib.hid hxs; have HLO := Lib.hid hlo; have HLK := Lib.hid hlk; clear hown hbr hbw hn1 hn2 hnk hxs hlo hlk
        go_wp2
        go_loopw [11, 12] (fun nv iv wr => ∃ j : Nat, iv = .int .i64 j ∧ j ≤ P ∧ nv = .int .i64 (cntP (hgQ q l.length k) j : Int) ∧ Below wy.heap.size wy wr) (fun _ iv _ => P - (intOf iv).toNat)
        case atStart => exact ⟨0, rfl, Nat.zero_le _, rfl, Below.refl _ _⟩
        case round =>
          obtain ⟨j, rfl, hj, rfl, hbj⟩ := hrel
          obtain ⟨c1, c2, s1⟩ := Xy.out.later hbj
          have hcl := cntP_le (hgQ q l.length k) j
          have hcs := cntP_succ (hgQ q l.length k) j
          by_cases hj2 : j < P
          · have hg := HGR.out k j
            rw [← hg] at hcs
            have hbu := HBW.out.trans (hbj.mono HBW.out.size)
            have hcall := rhangs_ P j k A L c lc ws l wr (HSH.out.rd.later hbu (Nat.le_refl _)) (HL.out.later hbu (Nat.le_refl _)) hlc hk2 HIN.out HPL.out
            generalize cntP (hgQ q l.length k) j = cj at *
            cases hz : hgR ws l k (j : Int) with
            | true =>
              rw [hz] at hcall hcs
              rw [if_pos rfl] at hcs
              clear hg hz
              have HBJ := Lib.hid hbj; have HCS := Lib.hid hcs; have HBU := Lib.hid hbu; have HCALL := Lib.hid hcall; clear hbj hcs hbu hcall
              go_wp2_with (go_at_call 27; refine HCALL.out.mono ?_; rintro e w2 ⟨rfl, hb2⟩)
              go_roundw
              case rel => exact ⟨j + 1, by go_num, by omega, by rw [HCS.out]; simp, HBJ.out.trans (hb2.mono HBJ.out.size)⟩
              case measure => simp [intOf]; omega
            | false =>
              rw [hz] at hcall hcs
              rw [if_neg (by decide)] at hcs
              clear hg hz
              have HBJ := Lib.hid hbj; have HCS := Lib.hid hcs; have HBU := Lib.hid hbu; have HCALL := Lib.hid hcall; clear hbj hcs hbu hcall
              go_wp2_with (go_at_call 27; refine HCALL.out.mono ?_; rintro e w2 ⟨rfl, hb2⟩)
              go_roundw
              case rel => exact ⟨j + 1, by go_num, by omega, by rw [HCS.out]; simp, HBJ.out.trans (hb2.mono HBJ.out.size)⟩
              case measure => simp [intOf]; omega
          · obtain rfl : j = P := by omega
            have hcl24 : cntP (hgQ q l.length k) j ≤ 24 := by omega
            have hown2 : wr.ownsRow w1.heap.size 3 1 (.slice OA xs.length oc) xs.length (ints xs) := own_below3 HOWN.out hbj
            have hlo2 := hown2.lt
            have hbt := HBR.out.trans (hbj.mono HBR.out.size)
            have hst := hbt.size
            generalize cntP (hgQ q l.length k) j = cj at *
            have HBJ := Lib.hid hbj; have HOWN2 := Lib.hid hown2; have HLO2 := Lib.hid hlo2; have HBT := Lib.hid hbt; clear hbj hown2 hlo2 hbt
            go_wp2_with (at_builtin; go_must (refine wpList_app1_Tryd rfl _ _ rfl w1.heap.size (.slice OA xs.length oc) xs rfl (by repeat (first | exact HOWN2.out | refine World.ownsRow.alloc ?_ _)) _ (cj : Int) rfl (heap_alloc_new _ _) (by rw [HLK.out]; omega) (by simp; omega) ?_); intro g cap w6 hown6 hgrow hat6 hlt6)
            have r6 : Below w1.heap.size w1 w6 := (HBT.out.alloc HBT.out.size _).grown hgrow (by simp; omega) (fun j hj => (HLO2.out j hj).1)
            have R6 := Lib.hid r6; have HOWN6 := Lib.hid hown6; have HGROW := Lib.hid hgrow; clear r6 hown6 hgrow
            go_wp2
            go_roundw
            case rel =>
              refine ⟨k + 1, by go_num, by omega, ?_, ?_, R6.out⟩
              · rw [HN1.out]
                congr 1
                split <;> omega
              · have h := HOWN6.out
                rw [HN2.out]
                exact h
            case measure => simp [intOf]; omega
      · obtain rfl : k = l.length := by omega
        have hrd := RdV.of_own hown (by rw [hlk]; omega)
        have HOWN := Lib.hid hown; have HBR := Lib.hid hbr; have HBW := Lib.hid hbw; have HN1 := Lib.hid hn1; have HN2 := Lib.hid hn2; have HNK := Lib.hid hnk; have HXS := Lib.hid hxs; have HLO := Lib.hid hlo; have HLK := Lib.hid hlk; have HRD := Lib.hid hrd; clear hown hbr hbw hn1 hn2 hnk hxs hlo hlk hrd
        go_wp2
        go_ret3
        refine ⟨_, ?_, by rw [E1.out, HXS.out]; exact HRD.out, HBW.out⟩
        rw [E2.out, HNK.out, HX.out]
        rfl
end Go.Proofs.YtnplcephmidjbaaDoor
/- A block of numbers without sign; what Bound returns; the test of touching; errors of Bound. -/
namespace Go.Proofs.YtnplcephmidjbaaDoor
open Go.RowKit

def BndPost (xs : List Int) (k : Nat) (x : Int) (w : World) (e : Ending) (w' : World) : Prop :=
  ∃ v, e = .returned (.tuple #[.agg #[.int .i64 (k : Int), v], .int .i64 x]) ∧ RdV w' v xs ∧ Below w.heap.size w w'
def UB (w : World) (R m : Nat) (g : Nat → Nat) : Prop := w.heap[R]? = some (.cells ((List.range m).map fun p => Value.int .u64 (g p : Int)).toArray 46 (0, 0))
section
variable {w w' : World} {R m : Nat} {g g' : Nat → Nat}
theorem UB.lt (h : UB w R m g) : R < w.heap.size := lt_of_block h
theorem UB.at_ (h : UB w R m g) {p : Nat} (hp : p < m) : w.cell? ⟨R, p, none⟩ = some (.int .u64 (g p : Int)) := by
  rw [cell_of_row w R p _ _ _ h]; simp [hp]
theorem UB.free (h : UB w R m g) (p : Nat) : w.frozen? ⟨R, p, none⟩ = false := frozen_of_row _ _ p _ _ h
theorem UB.put (h : UB w R m g) (p z : Nat) : UB (w.setCell ⟨R, p, none⟩ (.int .u64 (z : Int))) R m (updF g p z) := by
  refine Eq.trans (heap_setCell_same w R p _ _ (.int .u64 (z : Int)) h) ?_
  congr 2
  apply Array.ext'
  simp only [Array.toList_setIfInBounds]
  apply List.ext_getElem
  · simp
  · intro j h1 h2
    rw [List.getElem_set]
    simp only [List.getElem_map, List.getElem_range]
    unfold updF
    by_cases c : p = j
    · subst c; rw [if_pos rfl, if_pos rfl]
    · rw [if_neg c, if_neg (fun e => c e.symm)]
theorem UB.congr (h : UB w R m g) (he : ∀ p, p < m → g p = g' p) : UB w R m g' := by
  refine Eq.trans h ?_
  congr 2
  refine congrArg List.toArray (List.map_congr_left fun p hp => ?_)
  rw [he p (List.mem_range.1 hp)]
theorem UB.later (h : UB w R m g) (hb : Below w.heap.size w w') : UB w' R m g := (hb.block R h.lt).trans h
theorem UB.kept (h : UB w R m g) {row : Option Nat} (hg : w.grownBy w' row) (hne : some R ≠ row) : UB w' R m g := (hg.block R h.lt hne).trans h
theorem UB.alloc (h : UB w R m g) (o : Obj) : UB (w.alloc o) R m g := (heap_alloc_old w o h.lt).trans h
end
theorem uCells_zero (m : Nat) : madeCells #[Value.int .u64 0] m = ((List.range m).map fun _ => Value.int .u64 ((0 : Nat) : Int)).toArray := by
  apply Array.ext'
  apply List.ext_getElem
  · simp [madeCells]
  · intro j h1 h2
    simp [madeCells, Nat.mod_one]
theorem UB.made (w : World) (m : Nat) : UB (w.alloc (.cells (madeCells #[Value.int .u64 0] m) 46)) w.heap.size m (fun _ => 0) := by
  unfold UB
  rw [heap_alloc_new, uCells_zero]
theorem own3_shl (c : Nat) (hc : c ≤ 22) : IntKind.u64.wrap (3 * 2 ^ c) = (own3 c : Int) := by
  have e : (3 : Int) * 2 ^ c = ((own3 c : Nat) : Int) := by unfold own3; simp
  rw [e]
  have h1 : 2 ^ c ≤ 2 ^ 22 := Nat.pow_le_pow_right (by decide) hc
  exact wraps64 _ (Int.natCast_nonneg _) (by unfold own3; omega)
theorem own3_lt {c : Nat} (hc : c ≤ 22) : own3 c < 2 ^ 24 := by
  have h1 : 2 ^ c ≤ 2 ^ 22 := Nat.pow_le_pow_right (by decide) hc
  unfold own3; omega
theorem upV_lt {g q : Nat → Nat} {i : Nat} (hq : q i ≤ 22) (hg : ∀ j, g j < 2 ^ 24) : ∀ k, upV g q i k < 2 ^ 24
  | 0 => own3_lt hq
  | k + 1 => by
    unfold upV
    split
    · exact Nat.or_lt_two_pow (upV_lt hq hg k) (hg k)
    · exact upV_lt hq hg k
theorem upG_lt {q : Nat → Nat} (hq : ∀ i, q i ≤ 22) : ∀ i a, upG q i a < 2 ^ 24
  | 0, _ => Nat.two_pow_pos _
  | i + 1, a => by
    unfold upG updF
    split
    · exact upV_lt (hq i) (upG_lt hq i) i
    · exact upG_lt hq i a
theorem dnV_lt {g q : Nat → Nat} {i : Nat} (hq : q i ≤ 22) (hg : ∀ j, g j < 2 ^ 24) : ∀ k, dnV g q i k < 2 ^ 24
  | 0 => own3_lt hq
  | k + 1 => by
    unfold dnV
    split
    · exact Nat.or_lt_two_pow (dnV_lt hq hg k) (hg _)
    · exact dnV_lt hq hg k
theorem dnG_lt {q : Nat → Nat} (n : Nat) (hq : ∀ i, q i ≤ 22) : ∀ j a, dnG q n j a < 2 ^ 24
  | 0, _ => Nat.two_pow_pos _
  | j + 1, a => by
    unfold dnG updF
    split
    · exact dnV_lt (hq _) (dnG_lt n hq j) j
    · exact dnG_lt n hq j a
theorem or_nat (a b : Nat) (ha : a < 2 ^ 24) (hb : b < 2 ^ 24) : bits .or .u64 (a : Int) (b : Int) = ((a ||| b : Nat) : Int) := (bits_nat .u64 64 (by decide) wraps64 a b (by omega) (by omega)).2
theorem and24_nat (a b : Nat) (ha : a < 2 ^ 24) (hb : b < 2 ^ 24) : bits .and .u64 (a : Int) (b : Int) = ((a &&& b : Nat) : Int) := (bits_nat .u64 64 (by decide) wraps64 a b (by omega) (by omega)).1

set_option maxHeartbeats 1000000 in
/-- The closure touch of Bound. -/
theorem touchP_ (sb i k : Nat) (A : Option Addr) (c : Nat) (ws : List GW) (w : World) (hpl : ∀ x ∈ ws, 0 ≤ x.pl ∧ x.pl ≤ 22) (hi : i < ws.length) (hk : k < ws.length) (hs : w.cell? ⟨sb, 1, none⟩ = some (.slice A ws.length c)) (ha : RdW w A ws) :
    Calls Tryd.prog 38 #[.int .i64 (i : Int), .int .i64 (k : Int), .pointer (some ⟨sb, 0, none⟩)] w fun e w' => e = .returned (.bool (tP (plsOf ws i) (plsOf ws k))) ∧ Below w.heap.size w w' := by
  have hq : ∀ i, (h : i < ws.length) → ws[i].pl = (plsOf ws i : Int) ∧ plsOf ws i ≤ 22 := fun i h => by
    have h1 := hpl _ (List.getElem_mem h)
    have e : plsOf ws i = ws[i].pl.toNat := by unfold plsOf; simp [List.getD_eq_getElem?_getD, h]
    omega
  obtain ⟨b, off, rfl, hbL, t1, t2, t3⟩ := ha.at_ hi
  obtain ⟨b', off', hA', _, u1, u2, u3⟩ := ha.at_ hk
  injection hA' with hA'; injection hA' with hA1 hA2; subst hA1; subst hA2
  obtain ⟨p1, p2⟩ := hq i hi
  obtain ⟨p3, p4⟩ := hq k hk
  rw [p1] at t2
  rw [p3] at u2
  generalize plsOf ws i = qi at *
  generalize plsOf ws k = qk at *
  have z1 : (0 : Int) ≤ (i : Int) := by omega
  have z2 : (i : Int) < (ws.length : Int) := by omega
  have z3 : (0 : Int) ≤ (k : Int) := by omega
  have z4 : (k : Int) < (ws.length : Int) := by omega
  obtain ⟨d, hd⟩ : ∃ d : Int, d = (qi : Int) - (qk : Int) := ⟨_, rfl⟩
  have hdd : d ^ 2 ≤ 484 ∧ 0 ≤ d ^ 2 ∧ (d ^ 2 ≤ 1 ↔ tP qi qk = true) := by
    have h1 : -22 ≤ d ∧ d ≤ 22 := by omega
    have h2 : ∀ d : Int, -22 ≤ d → d ≤ 22 → d ^ 2 ≤ 484 ∧ 0 ≤ d ^ 2 ∧ (d ^ 2 ≤ 1 ↔ (-1 ≤ d ∧ d ≤ 1)) := by
      intro d h1 h2
      obtain ⟨m, hm⟩ : ∃ m : Fin 45, d = (m.val : Int) - 22 := ⟨⟨(d + 22).toNat, by omega⟩, by simp; omega⟩
      rw [hm]
      have key : ∀ m : Fin 45, (((m.val : Int) - 22) ^ 2 ≤ 484 ∧ 0 ≤ ((m.val : Int) - 22) ^ 2 ∧ (((m.val : Int) - 22) ^ 2 ≤ 1 ↔ (-1 ≤ (m.val : Int) - 22 ∧ (m.val : Int) - 22 ≤ 1))) := by decide +kernel
      exact key m
    obtain ⟨h3, h4, h5⟩ := h2 d h1.1 h1.2
    refine ⟨h3, h4, h5.trans ?_⟩
    unfold tP
    rw [decide_eq_true_eq]
    omega
  have e1 : IntKind.i64.wrap ((qi : Int) - (qk : Int)) = d := by rw [← hd]; exact IntWalk.i64_in _ (by omega)
  have e2 : IntKind.i64.wrap (d * d) = d ^ 2 := by rw [show d * d = d ^ 2 by rw [Int.pow_succ, Int.pow_succ, Int.pow_zero, Int.one_mul]]; exact IntWalk.i64_in _ (by omega)
  have e3 : decide (d ^ 2 ≤ 1) = tP qi qk := by
    rw [Bool.eq_iff_iff, decide_eq_true_eq]; exact hdd.2.2
  generalize d ^ 2 = dd at *
  generalize tP qi qk = tb at *
  clear hdd p1 p3 hq t1 t3 u1 u3 hd
  have HPL := Lib.hid hpl; have HA := Lib.hid ha; clear hpl ha
  go_enter Tryd.func38, Tryd.ntmps38
  go_wp2
  go_region
  all_goals
    go_wp2
    go_ret
    exact ⟨ret_bool (by first | rfl | exact e3), (Below.refl _ _).drew⟩

set_option maxRecDepth 100000 in
set_option maxHeartbeats 1000000 in
theorem pBound_bad (p : Int) (A : Option Addr) (c : Nat) (ws : List GW) (w : World) (hsh : ShIn w p A ws) (hx : bndX p ws ≠ 0) :
    Calls Tryd.prog 18 #[.agg #[.int .i64 p, .slice A ws.length c]] w (BndPost [] 0 (bndX p ws) w) := by
  have hb2 : Below w.heap.size w ((w.alloc (.cells #[.int .i64 p, .slice A ws.length c] 24)).alloc (.cells #[.int .i64 0, .slice none 0 0] 37)) := ((Below.refl _ _).alloc (Nat.le_refl _) _).alloc (by simp) _
  obtain ⟨hp1, hp2, ha⟩ := hsh
  by_cases he : errSheet p ws = 0
  · have hr : bndX p ws = 4 ∧ ws.length = 0 := by
      unfold bndX at hx ⊢
      rw [if_pos he] at hx ⊢
      by_cases h : ws.length = 0
      · rw [if_pos h]; exact ⟨rfl, h⟩
      · rw [if_neg h] at hx; exact absurd rfl hx
    obtain ⟨hr, hl0⟩ := hr
    have hl1 : ((ws.length : Int) == 0) = true := by simp [hl0]
    have HA := Lib.hid ha; have HB2 := Lib.hid hb2; have HE := Lib.hid he; have HR := Lib.hid hr; have HL0 := Lib.hid hl0; clear ha hb2 he hr hl0
    clear hx
    go_enter Tryd.func18, Tryd.ntmps18
    go_wp2_with fail
    refine (sCheck_ _ _ _ _ _ hp1 hp2 (HA.out.later HB2.out (Nat.le_refl _))).mono ?_
    rw [HE.out]
    rintro e w1 ⟨rfl, hb1⟩
    have a1 : w1.cell? ⟨w.heap.size, 1, none⟩ = some (.slice A ws.length c) := below_at hb1 (Nat.le_refl _) (by go_simp)
    have c0 : w1.cell? ⟨w.heap.size + 1, 0, none⟩ = some (.int .i64 0) := below_at hb1 (Nat.le_refl _) (by go_simp)
    have c1 : w1.cell? ⟨w.heap.size + 1, 1, none⟩ = some (.slice none 0 0) := below_at hb1 (Nat.le_refl _) (by go_simp)
    have f0 : w1.frozen? ⟨w.heap.size + 1, 0, none⟩ = false := (hb1.frozen (p := ⟨w.heap.size + 1, 0, none⟩) (by simp)).trans (by go_simp)
    have f1 : w1.frozen? ⟨w.heap.size + 1, 1, none⟩ = false := (hb1.frozen (p := ⟨w.heap.size + 1, 1, none⟩) (by simp)).trans (by go_simp)
    have hs1 : w.heap.size + 1 < w1.heap.size := by have := hb1.size; simp at this; omega
    have hs0 : w.heap.size < w1.heap.size := by omega
    have Y1 := Lib.hid (HB2.out.trans (hb1.mono (by simp; omega)))
    clear hb1
    go_wp2
    refine bodyPost_ret (v := .tuple #[.agg #[.int .i64 0, .slice none 0 0], .int .i64 4]) (by simp [results, Tryd.results18, go_sem, c0, c1]) rfl ⟨.slice none 0 0, by rw [HR.out]; rfl, RdV.nil _, ?_⟩
    exact (Y1.out.setCell (by show w.heap.size ≤ w.heap.size + 1; omega) _).setCell (by show w.heap.size ≤ w.heap.size + 1; omega) _
  · have hr : bndX p ws = errSheet p ws := by unfold bndX; rw [if_neg he]
    have HA := Lib.hid ha; have HB2 := Lib.hid hb2; have HR := Lib.hid hr; clear ha hb2 hr
    clear hx
    go_enter Tryd.func18, Tryd.ntmps18
    go_wp2_with fail
    refine (sCheck_ _ _ _ _ _ hp1 hp2 (HA.out.later HB2.out (Nat.le_refl _))).mono ?_
    rintro e w1 ⟨rfl, hb1⟩
    have c0 : w1.cell? ⟨w.heap.size + 1, 0, none⟩ = some (.int .i64 0) := below_at hb1 (Nat.le_refl _) (by go_simp)
    have c1 : w1.cell? ⟨w.heap.size + 1, 1, none⟩ = some (.slice none 0 0) := below_at hb1 (Nat.le_refl _) (by go_simp)
    have f0 : w1.frozen? ⟨w.heap.size + 1, 0, none⟩ = false := (hb1.frozen (p := ⟨w.heap.size + 1, 0, none⟩) (by simp)).trans (by go_simp)
    have f1 : w1.frozen? ⟨w.heap.size + 1, 1, none⟩ = false := (hb1.frozen (p := ⟨w.heap.size + 1, 1, none⟩) (by simp)).trans (by go_simp)
    have hs1 : w.heap.size + 1 < w1.heap.size := by have := hb1.size; simp at this; omega
    have Y1 := Lib.hid (HB2.out.trans (hb1.mono (by simp; omega)))
    clear hb1
    generalize hge : errSheet p ws = E at *
    have HGE := Lib.hid hge; clear hge
    go_wp2
    refine bodyPost_ret (v := .tuple #[.agg #[.int .i64 0, .slice none 0 0], .int .i64 E]) (by simp [results, Tryd.results18, go_sem, c0, c1]) rfl ⟨.slice none 0 0, by rw [HR.out]; rfl, RdV.nil _, ?_⟩
    exact (Y1.out.setCell (by show w.heap.size ≤ w.heap.size + 1; omega) _).setCell (by show w.heap.size ≤ w.heap.size + 1; omega) _
end Go.Proofs.YtnplcephmidjbaaDoor
