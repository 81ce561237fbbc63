/- The laws' histories: its walk. -/
import Derived.Test.YtifpkdajfdlgeaaClOwn
import Derived.Test.YtifpkdajfdlgeaaClCross
import Derived.Test.YtifpkdajfdlgeaaTrSwapT
namespace Go.Proofs.Ytifpkdajfdlgeaa
open Go.RowKit

theorem info_meets_Try : (Try.prog.info? 66).map (fun i => (i.zero, i.size, i.bytes)) = some (some (.slice none 0 0), 1, 24) := by kernel_rfl
/-- The line, as ints. -/
def lnL (m : Nat) (f : Nat → Nat) : List Int := (List.range m).map fun i => (f i : Int)
theorem lnL_length (m : Nat) (f : Nat → Nat) : (lnL m f).length = m := by simp [lnL]
theorem lnL_get {m : Nat} (f : Nat → Nat) {i : Nat} (h : i < m) : (lnL m f).getD i 0 = f i := by simp [lnL, List.getD_eq_getElem?_getD, h]
theorem lnL_set (m : Nat) (f : Nat → Nat) (p v : Nat) : (lnL m f).set p (v : Int) = lnL m (upd f p v) := by
  unfold lnL upd
  apply List.ext_getElem
  · simp
  · intro i h1 h2
    rw [List.getElem_set]
    simp only [List.getElem_map, List.getElem_range]
    by_cases h : p = i
    · subst h; simp
    · rw [if_neg h, if_neg (Ne.symm h)]
def idL (m k : Nat) : List Int := (List.range m).map fun i => if i < k then (i : Int) else 0
theorem idL_zero (m : Nat) : idL m 0 = List.replicate m 0 := by
  apply List.ext_getElem
  · simp [idL]
  · intro i h1 h2; simp [idL]
theorem idL_succ (m k : Nat) : (idL m k).set k (k : Int) = idL m (k + 1) := by
  unfold idL
  apply List.ext_getElem
  · simp
  · intro i h1 h2
    rw [List.getElem_set]
    simp only [List.getElem_map, List.getElem_range]
    by_cases h : k = i
    · subst h; simp
    · rw [if_neg h]
      by_cases h3 : i < k
      · rw [if_pos h3, if_pos (by omega)]
      · rw [if_neg h3, if_neg (by omega)]
theorem idL_full (m : Nat) : idL m m = lnL m id := by
  unfold idL lnL
  exact List.map_congr_left fun i hi => by rw [if_pos (List.mem_range.1 hi)]; rfl
def S0 : HS := ⟨id, fun _ => []⟩
/-- Threads stay threads, and histories short. -/
def OkH (m N : Nat) (S : HS) : Prop := (∀ i, i < m → S.ln i < m) ∧ ∀ t, (S.h t).length ≤ N
theorem OkH.cross {m N p : Nat} {S : HS} (h : OkH m N S) (hp : p + 1 < m) (u d : Bool) : OkH m (N + 2) (cross p u d S) := by
  refine ⟨fun i hi => ?_, fun t => ?_⟩
  · unfold Go.Proofs.Ytifpkdajfdlgeaa.cross upd
    simp only
    split
    · exact h.1 _ (by omega)
    · split
      · exact h.1 _ hp
      · exact h.1 _ hi
  · unfold Go.Proofs.Ytifpkdajfdlgeaa.cross upd
    simp only
    have h1 := h.2 t
    have h2 := h.2 (S.ln p)
    have h3 := h.2 (S.ln (p + 1))
    split
    · split
      · simp; omega
      · simp; omega
    · split
      · simp; omega
      · omega
theorem OkH.run {m pl : Nat} (hp : 2 * pl + 4 ≤ m) : ∀ (l : List Int) {N : Nat} {S : HS}, OkH m N S → (∀ x ∈ l, 1 ≤ x.natAbs ∧ x.natAbs ≤ 3) → OkH m (N + 2 * l.length) (hrun pl l S)
  | [], _, _, h, _ => h
  | x :: l, N, S, h, hl => by
    have hx := hl x (by simp)
    have h1 := h.cross (p := 2 * pl + x.natAbs - 1) (by omega) (decide (0 < x)) (decide (x < 0))
    have h2 := OkH.run hp l h1 fun y hy => hl y (by simp [hy])
    rw [List.length_cons, show N + 2 * (l.length + 1) = N + 2 + 2 * l.length by omega]
    exact h2
theorem OkH.mono {m N N' : Nat} {S : HS} (h : OkH m N S) (hN : N ≤ N') : OkH m N' S := ⟨h.1, fun t => Nat.le_trans (h.2 t) hN⟩
theorem OkH.hist {m : Nat} : ∀ (ws : List GW) {N : Nat} {S : HS}, OkH m N S → (∀ x ∈ ws, 2 * x.pl.toNat + 4 ≤ m ∧ x.word.size ≤ 16) → OkH m (N + 64 * ws.length) (hist ws S)
  | [], _, _, h, _ => h
  | x :: ws, N, S, h, hw => by
    obtain ⟨h1, h2⟩ := hw x (by simp)
    have h3 := h.run h1 (crL x.word) (crL_rng _)
    have h4 : (crL x.word).length ≤ 2 * x.word.data.toList.length := cr_len _
    have h5 : x.word.data.toList.length = x.word.size := by simp
    have h6 := OkH.hist ws (h3.mono (N' := N + 64) (by omega)) fun y hy => hw y (by simp [hy])
    rw [List.length_cons, show N + 64 * (ws.length + 1) = N + 64 + 64 * ws.length by omega]
    exact h6
theorem OkH.start (m : Nat) : OkH m 0 S0 := ⟨fun _ h => h, fun _ => Nat.le_refl _⟩
theorem own_ne_own {w : World} {b1 b2 e1 e2 s1 s2 n1 n2 : Nat} {v1 v2 : Value} {x1 x2 : List Value} (h1 : w.ownsRow b1 e1 s1 v1 n1 x1) (h2 : w.ownsRow b2 e2 s2 v2 n2 x2) (hne : e1 ≠ e2) : v1.ownBlock = none ∨ v1.ownBlock ≠ v2.ownBlock := by
  rcases h1.2 with ⟨rfl, _⟩ | ⟨g, cap, cur, rfl, _, hh, _⟩
  · exact .inl rfl
  · right
    exact own_ne_type h2 hh (Ne.symm hne)

/-- What stands in memory while histories runs. -/
structure HInv (w : World) (P : Nat) (A : Option Addr) (n c : Nat) (wr : World) (f : Nat → List (Nat × Bool)) (xs : List Int) : Prop where
  box : wr.heap[w.heap.size]? = some (.cells #[.int .i64 (P : Int), .slice A n c] 24 (0, 0))
  rows : RwsM wr (w.heap.size + 1) 66 68 (2 * P) f
  line : IntsB wr (w.heap.size + 2) xs
  bel : Below w.heap.size w wr
section
variable {w wr w1 : World} {P n c : Nat} {A : Option Addr} {f : Nat → List (Nat × Bool)} {xs : List Int}
theorem HInv.sz (h : HInv w P A n c wr f xs) : w.heap.size + 2 < wr.heap.size := h.line.lt
theorem HInv.later (h : HInv w P A n c wr f xs) (hb : Below wr.heap.size wr w1) : HInv w P A n c w1 f xs :=
  have hs := h.sz
  ⟨(hb.block _ (by omega)).trans h.box, h.rows.kept (row := none) ⟨hb.os, hb.tape, hb.output, hb.size, fun i hi _ => hb.block i hi⟩ (fun k hk => by cases hk), h.line.later hb (by omega), h.bel.trans (hb.mono h.bel.size)⟩
theorem HInv.drewN (h : HInv w P A n c wr f xs) (k : Nat) : HInv w P A n c (wr.drewN k) f xs := ⟨h.box, h.rows, h.line, below_drewN h.bel k⟩
theorem HInv.putL (h : HInv w P A n c wr f xs) (j : Nat) (z : Int) : HInv w P A n c (wr.setCell ⟨w.heap.size + 2, j, none⟩ (.int .i64 z)) f (xs.set j z) := by
  refine ⟨?_, ?_, h.line.set j z, h.bel.setCell (by show w.heap.size ≤ w.heap.size + 2; omega) _⟩
  · rw [heap_setCell_other _ _ _ _ (by simp)]; exact h.box
  · obtain ⟨cs, h1, h2, h3, h4⟩ := h.rows
    refine ⟨cs, ?_, h2, fun p hp => own_set_ne (h3 p hp) ?_ _, h4⟩
    · rw [heap_setCell_other _ _ _ _ (by simp)]; exact h1
    · exact own_ne_type (h3 p hp) h.line (by decide)
theorem HInv.push (h : HInv w P A n c wr f xs) {t g k cap : Nat} (ht : t < 2 * P) {v v' : Value} {ys : List (Nat × Bool)} (hv : wr.cell? ⟨w.heap.size + 1, t, none⟩ = some v) (hov : wr.ownsRow (w.heap.size + 1 + 1) 68 2 v (f t).length (mcells (f t)))
    (hown : w1.ownsRow (w.heap.size + 1 + 1) 68 2 v' ys.length (mcells ys)) (hv' : v' = .slice (some ⟨g, 0, none⟩) k cap) (hgrow : wr.grownBy w1 v.ownBlock) (hat : v.ownBlock = some g ∨ g = wr.heap.size) :
    HInv w P A n c (w1.setCell ⟨w.heap.size + 1, t, none⟩ v') (upd f t ys) xs := by
  have hs := h.sz
  have hge : ∀ j, v.ownBlock = some j → w.heap.size + 1 + 1 ≤ j ∧ j < wr.heap.size := fun j hj => hov.lt j hj
  refine ⟨?_, h.rows.grow ht hv hown hv' hgrow hat, ?_, (h.bel.grown hgrow h.bel.size (fun j hj => by have := (hge j hj).1; omega)).setCell (by show w.heap.size ≤ w.heap.size + 1; omega) _⟩
  · rw [heap_setCell_other _ _ _ _ (by simp), hgrow.block _ (by omega) (fun e => by have := (hge _ e.symm).1; omega)]
    exact h.box
  · unfold IntsB
    rw [heap_setCell_other _ _ _ _ (by simp), hgrow.block _ (by omega) (own_ne_type hov h.line (by decide))]
    exact h.line
end

theorem made_nil (n : Nat) : madeCells #[Value.slice none 0 0] n = Array.replicate n (.slice none 0 0) := by
  apply Array.ext'; rw [toList_madeCells_one]; simp
theorem hinv_start (w : World) (P : Nat) (A : Option Addr) (n c : Nat) : HInv w P A n c (((w.alloc (.cells #[.int .i64 (P : Int), .slice A n c] 24)).alloc (.cells (madeCells #[.slice none 0 0] (2 * P)) 66)).alloc (.cells (madeCells #[.int .i64 0] (2 * P)) 3)) (fun _ => []) (idL (2 * P) 0) := by
  refine ⟨?_, ?_, ?_, (((Below.refl _ _).alloc (Nat.le_refl _) _).alloc (by simp) _).alloc (by simp; omega) _⟩
  · exact (Below.heap_alloc _ _ _ (by simp; omega)).trans ((Below.heap_alloc _ _ _ (by simp)).trans (heap_alloc_new _ _))
  · have h := (RwsM.made (e := 68) (T := 66) (m := 2 * P) (w.alloc (.cells #[.int .i64 (P : Int), .slice A n c] 24)) (madeCells #[.slice none 0 0] (2 * P)) (by rw [made_nil]; simp) (fun p hp => by simp [made_nil])).alloc (.cells (madeCells #[.int .i64 0] (2 * P)) 3)
    simpa using h
  · have h := IntsB.made ((w.alloc (.cells #[.int .i64 (P : Int), .slice A n c] 24)).alloc (.cells (madeCells #[.slice none 0 0] (2 * P)) 66)) (2 * P)
    rw [idL_zero]
    simpa using h
def HistPost (P : Nat) (ws : List GW) (w : World) (e : Ending) (w' : World) : Prop :=
  ∃ R, e = .returned (.slice (some ⟨R, 0, none⟩) (2 * P) (2 * P)) ∧ RwsM w' R 66 68 (2 * P) (hist ws S0).h ∧ Below w.heap.size w w'
theorem HInv.cells {w wr : World} {P n c : Nat} {A : Option Addr} {f : Nat → List (Nat × Bool)} {xs : List Int} (h : HInv w P A n c wr f xs) : wr.cell? ⟨w.heap.size, 0, none⟩ = some (.int .i64 (P : Int)) ∧ wr.cell? ⟨w.heap.size, 1, none⟩ = some (.slice A n c) ∧ w.heap.size < wr.heap.size :=
  ⟨cell_of_row wr _ 0 _ _ _ h.box, cell_of_row wr _ 1 _ _ _ h.box, lt_of_block h.box⟩
theorem hrun_succ (pl : Nat) (l : List Int) (S : HS) {j : Nat} (h : j < l.length) : hrun pl (l.take (j + 1)) S = hstep pl (hrun pl (l.take j) S) l[j] := by
  unfold hrun; rw [List.take_succ_eq_append_getElem h, List.foldl_append]; rfl
theorem hist_succ (ws : List GW) (S : HS) {k : Nat} (h : k < ws.length) : hist (ws.take (k + 1)) S = hwork (hist (ws.take k) S) ws[k] := by
  unfold hist; rw [List.take_succ_eq_append_getElem h, List.foldl_append]; rfl

theorem own_base {w : World} {base base' e s n : Nat} {v : Value} {xs : List Value} (h : w.ownsRow base e s v n xs) (hb : base' ≤ base) : w.ownsRow base' e s v n xs := by
  refine ⟨h.1, ?_⟩
  rcases h.2 with h2 | ⟨g, cap, cur, h3, h4, h5⟩
  · exact .inl h2
  · exact .inr ⟨g, cap, cur, h3, Nat.le_trans hb h4, h5⟩
theorem own_int {w : World} {base e n c : Nat} {A : Option Addr} {l : List Int} (h : w.ownsRow base e 1 (.slice A n c) n (ints l)) {j : Nat} (hj : j < l.length) : ∃ g, A = some ⟨g, 0, none⟩ ∧ w.cell? ⟨g, j, none⟩ = some (.int .i64 l[j]) := by
  obtain ⟨g, off, hA, _, hc⟩ := own_rd h (by omega)
  have hl : n = l.length := by have := h.1; rw [ints_length] at this; omega
  obtain ⟨g', cap, hv, _⟩ := h.form (by omega)
  injection hv with hA'
  rw [hA'] at hA
  have e2 := Option.some.inj hA
  have e3 : g' = g := congrArg Addr.block e2
  have e4 : 0 = off := congrArg Addr.off e2
  subst e3; subst e4
  refine ⟨g', hA', ?_⟩
  have := hc j (by omega)
  rw [Nat.zero_add] at this
  rw [this]
  simp [List.getD_eq_getElem?_getD, hj]

set_option maxRecDepth 100000 in
set_option maxHeartbeats 4000000 in
theorem histories_ (P : Nat) (A : Option Addr) (c : Nat) (ws : List GW) (w : World) (hok : OkS P ws) (h100 : ws.length ≤ 100) (ha : RdW w A ws) :
    Calls Try.prog 22 #[.agg #[.int .i64 (P : Int), .slice A ws.length c]] w (HistPost P ws w) := by
  obtain ⟨hp2, hp24, _, hall⟩ := hok.all
  have hmk1 := run_make_row' (P := Try.prog) 37 66 (.slice none 0 0) 24 Try.underlying37 info_meets_Try rfl .i64 .i64 (2 * P) (by omega) (by omega)
  have hmk2 := run_make_row' (P := Try.prog) 30 3 (.int .i64 0) 8 Try.underlying30 info_int_Try rfl .i64 .i64 (2 * P) (by omega) (by omega)
  rw [show ((2 * P : Nat) : Int) = 2 * (P : Int) by omega] at hmk1 hmk2
  have H0 : Hid (HInv w P A ws.length c (((w.alloc (.cells #[.int .i64 (P : Int), .slice A ws.length c] 24)).alloc (.cells (madeCells #[.slice none 0 0] (2 * P)) 66)).alloc (.cells (madeCells #[.int .i64 0] (2 * P)) 3)) (fun _ => []) (idL (2 * P) 0)) := Lib.hid (hinv_start w P A ws.length c)
  have HA := Lib.hid ha; have HOK := Lib.hid hok; have HALL := Lib.hid hall; clear ha hok hall
  go_enter Try.func22, Try.ntmps22
  go_wp2
  clear hmk1 hmk2
  obtain ⟨w0, hw0⟩ : ∃ w0, w0 = ((w.alloc (.cells #[.int .i64 (P : Int), .slice A ws.length c] 24)).alloc (.cells (madeCells #[.slice none 0 0] (2 * P)) 66)).alloc (.cells (madeCells #[.int .i64 0] (2 * P)) 3) := ⟨_, rfl⟩
  rw [← hw0] at H0 ⊢
  clear hw0
  go_loopw [5] (fun iv wr => ∃ k : Nat, iv = .int .i64 k ∧ k ≤ 2 * P ∧ HInv w P A ws.length c wr (fun _ => []) (idL (2 * P) k)) (fun iv _ => 2 * P - (intOf iv).toNat)
  case atStart => exact ⟨0, rfl, Nat.zero_le _, H0.out⟩
  case round =>
    obtain ⟨k, rfl, hk, hI⟩ := hrel
    by_cases hlt : k < 2 * P
    · have x1 : (0 : Int) ≤ (k : Int) := by omega
      have x2 : (k : Int) < 2 * (P : Int) := by omega
      have x3 : (k : Int) < ((2 * P : Nat) : Int) := by omega
      have d1 : wr.cell? ⟨w.heap.size + 2, k, none⟩ = some (.int .i64 ((idL (2 * P) k).getD k 0)) := hI.line.cell (by simp [idL]; omega)
      have d2 := hI.line.free k
      have hn := hI.putL k (k : Int)
      rw [idL_succ] at hn
      generalize (idL (2 * P) k).getD k 0 = z at *
      have HI := Lib.hid hI; have HN := Lib.hid hn; clear hI hn
      go_wp2
      go_roundw
      case rel => exact ⟨k + 1, by go_num, by omega, HN.out⟩
      case measure => simp [intOf]; omega
    · have hk2 : k = 2 * P := by omega
      rw [hk2] at hI
      have hS : HInv w P A ws.length c wr (hist (ws.take 0) S0).h (lnL (2 * P) (hist (ws.take 0) S0).ln) := by
        rw [idL_full] at hI; exact hI
      have HS1 := Lib.hid hS; clear hS hI hk2
      obtain ⟨wo, hwo⟩ : ∃ wo : World, wo = wr := ⟨_, rfl⟩
      rw [← hwo] at HS1 ⊢
      clear hwo
      go_wp2
      go_loopw [6] (fun iv wr => ∃ k : Nat, iv = .int .i64 k ∧ k ≤ ws.length ∧ HInv w P A ws.length c wr (hist (ws.take k) S0).h (lnL (2 * P) (hist (ws.take k) S0).ln)) (fun iv _ => ws.length - (intOf iv).toNat)
      case atStart => exact ⟨0, rfl, Nat.zero_le _, HS1.out⟩
      case round =>
        obtain ⟨k, rfl, hk, hI⟩ := hrel
        obtain ⟨c1, c2, s1⟩ := hI.cells
        by_cases hlt2 : k < ws.length
        · obtain ⟨b, off, rfl, hbA, _, g2, g3⟩ := HA.out.at_ hlt2
          obtain ⟨hsz, hx1, hx2, hfm⟩ := HALL.out ws[k] (List.getElem_mem hlt2)
          obtain ⟨pl, hpl⟩ := Int.eq_ofNat_of_zero_le hx1
          have hok2 : OkH (2 * P) (64 * k) (hist (ws.take k) S0) := by
            have := OkH.hist (ws.take k) (OkH.start (2 * P)) (fun x hx => by
              obtain ⟨y1, y2, y3, _⟩ := HALL.out x (List.mem_of_mem_take hx)
              exact ⟨by omega, y1⟩)
            rw [List.length_take, Nat.min_eq_left (by omega)] at this
            simpa using this
          have hsu : hist (ws.take (k + 1)) S0 = hrun pl (crL ws[k].word) (hist (ws.take k) S0) := by
            rw [hist_succ ws S0 hlt2]; unfold hwork; rw [hpl]; rfl
          rw [hpl] at g2 hx2
          have h3 := (hI.bel.cell (p := ⟨b, off + k * 3 + 2, none⟩) hbA).trans g3
          have hl32 : (crL ws[k].word).length ≤ 32 := by
            have h4 : (crL ws[k].word).length ≤ 2 * ws[k].word.data.toList.length := cr_len _
            have h5 : ws[k].word.data.toList.length = ws[k].word.size := by simp
            omega
          have hrng := crL_rng ws[k].word
          generalize hist (ws.take k) S0 = S at *
          generalize ws[k].word = wd at *
          have hpl22 : pl + 2 ≤ P := by omega
          clear hpl hx1 hx2
          have hb3 : w.heap.size + 3 ≤ wr.heap.size := by have := hI.sz; omega
          have x1 : (0 : Int) ≤ (k : Int) := by omega
          have x2 : (k : Int) < (ws.length : Int) := by omega
          have HI := Lib.hid hI; have HOK2 := Lib.hid hok2; have HSU := Lib.hid hsu; have HRNG := Lib.hid hrng; have HFM := Lib.hid hfm; have G2 := Lib.hid g2; have G3 := Lib.hid g3; clear hI hok2 hsu hrng hfm g2 g3
          go_wp2_with fail
          refine (rCrossings_ wd _ hsz HFM.out).mono ?_; rintro e w1 ⟨v, rfl, hown, hb1⟩
          obtain ⟨LA, kc, rfl⟩ := own_slice hown
          have HI1 := Lib.hid (HI.out.later hb1)
          have HL1 := Lib.hid (own_base hown hb3)
          clear hown hb1 c1 c2 s1 h3 HI
          generalize crL wd = l at *
          obtain ⟨wp, hwp⟩ : ∃ wp : World, wp = wr := ⟨_, rfl⟩
          rw [← hwp] at hb3
          clear hwp hb3
          go_wp2
          go_loopw [9] (fun jv wr => ∃ j : Nat, jv = .int .i64 j ∧ j ≤ l.length ∧ HInv w P (some ⟨b, off, none⟩) ws.length c wr (hrun pl (l.take j) S).h (lnL (2 * P) (hrun pl (l.take j) S).ln) ∧ wr.ownsRow (w.heap.size + 3) 3 1 (.slice LA l.length kc) l.length (ints l)) (fun jv _ => l.length - (intOf jv).toNat)
          case atStart => exact ⟨0, rfl, Nat.zero_le _, HI1.out, HL1.out⟩
          case round =>
            obtain ⟨j, rfl, hj, hI, hL⟩ := hrel
            by_cases hlt3 : j < l.length
            · obtain ⟨hxa, hxb⟩ := HRNG.out l[j] (List.getElem_mem hlt3)
              have hsu3 := hrun_succ pl l S hlt3
              have hok3 : OkH (2 * P) (64 * k + 2 * j) (hrun pl (l.take j) S) := by
                have := HOK2.out.run (pl := pl) (by omega) (l.take j) (fun x hx => HRNG.out x (List.mem_of_mem_take hx))
                rwa [List.length_take, Nat.min_eq_left (by omega)] at this
              generalize hrun pl (l.take j) S = T at *
              obtain ⟨g, rfl, hcx⟩ := own_int hL hlt3
              obtain ⟨x, hlx⟩ : ∃ x, l[j] = x := ⟨_, rfl⟩
              rw [hlx] at hxa hxb hsu3 hcx
              have h2 := (hI.bel.cell (p := ⟨b, off + k * 3 + 1, none⟩) hbA).trans G2.out
              have x3 : (0 : Int) ≤ (j : Int) := by omega
              have x4 : (j : Int) < (l.length : Int) := by omega
              have HSU3 := Lib.hid hsu3; have HOK3 := Lib.hid hok3; have HI := Lib.hid hI; have HL := Lib.hid hL; have HLX := Lib.hid hlx; clear hsu3 hok3 hI hL hlx
              go_wp2
              go_upto_region 15 with fail
              go_cut [10] (fun v wx => v = .int .i64 (x.natAbs : Nat) ∧ ∃ nq, wx = wr.drewN nq)
              case first =>
                go_quiet (fail)
                go_wp2_with fail
                all_goals
                  go_meet
                  exact ⟨by congr 1; omega, _, rfl⟩
              case rest =>
                obtain ⟨rfl, n1, rfl⟩ := hcut
                obtain ⟨Q, hQ⟩ : ∃ Q : Nat, Q = 2 * pl + x.natAbs - 1 := ⟨_, rfl⟩
                have hQ1 : Q + 1 < 2 * P := by omega
                have q1 : 2 * (pl : Int) + (x.natAbs : Int) - 1 = (Q : Int) := by omega
                have hst : hstep pl T x = cross Q (decide (0 < x)) (decide (x < 0)) T := by unfold hstep; rw [hQ]
                rw [hst] at HSU3
                have hta := HOK3.out.1 Q (by omega)
                have htb := HOK3.out.1 (Q + 1) (by omega)
                have d1 : wr.cell? ⟨w.heap.size + 1 + 1, Q, none⟩ = some (.int .i64 (T.ln Q : Nat)) := by
                  have := HI.out.line.cell (j := Q) (by rw [lnL_length]; omega)
                  rwa [lnL_get _ (by omega)] at this
                have d2 : wr.cell? ⟨w.heap.size + 1 + 1, Q + 1, none⟩ = some (.int .i64 (T.ln (Q + 1) : Nat)) := by
                  have := HI.out.line.cell (j := Q + 1) (by rw [lnL_length]; omega)
                  rwa [lnL_get _ (by omega)] at this
                obtain ⟨c1, c2, s1⟩ := HI.out.cells
                have y1 : (0 : Int) ≤ (Q : Int) := by omega
                have y2 : (Q : Int) < ((2 * P : Nat) : Int) := by omega
                have y3 : (0 : Int) ≤ (Q : Int) + 1 := by omega
                have y4 : (Q : Int) + 1 < ((2 * P : Nat) : Int) := by omega
                have y5 : ((Q : Int) + 1).toNat = Q + 1 := by omega
                have y6 : IntKind.i64.wrap ((Q : Int) + 1) = (Q : Int) + 1 := IntWalk.i64_in _ (by omega)
                clear hcx
                have z1 : (0 : Int) ≤ (T.ln Q : Nat) := by omega
                have z2 : ((T.ln Q : Nat) : Int) < 2 * (P : Int) := by omega
                have z3 : (0 : Int) ≤ (T.ln (Q + 1) : Nat) := by omega
                have z4 : ((T.ln (Q + 1) : Nat) : Int) < 2 * (P : Int) := by omega
                have HQ := Lib.hid hQ; have HST := Lib.hid hst; clear hQ hst
                have HTA : Hid (∀ d1 d2 w2, HInv w P (some ⟨b, off, none⟩) ws.length c w2 (upd (upd T.h (T.ln Q) (T.h (T.ln Q) ++ [(T.ln (Q + 1), d1)])) (T.ln (Q + 1)) (upd T.h (T.ln Q) (T.h (T.ln Q) ++ [(T.ln (Q + 1), d1)]) (T.ln (Q + 1)) ++ [(T.ln Q, d2)])) (lnL (2 * P) (upd (upd T.ln Q (T.ln (Q + 1))) (Q + 1) (T.ln Q))) →
                  HInv w P (some ⟨b, off, none⟩) ws.length c w2 (cross Q d1 d2 T).h (lnL (2 * P) (cross Q d1 d2 T).ln)) := Lib.hid (fun _ _ _ h => h)
                have HLS : Hid (∀ w2 f, HInv w P (some ⟨b, off, none⟩) ws.length c w2 f (lnL (2 * P) T.ln) → HInv w P (some ⟨b, off, none⟩) ws.length c ((w2.setCell ⟨w.heap.size + 2, Q, none⟩ (.int .i64 (T.ln (Q + 1) : Nat))).setCell ⟨w.heap.size + 2, Q + 1, none⟩ (.int .i64 (T.ln Q : Nat))) f (lnL (2 * P) (upd (upd T.ln Q (T.ln (Q + 1))) (Q + 1) (T.ln Q)))) := Lib.hid (fun w2 f h => by
                  have h2 := (h.putL Q (T.ln (Q + 1) : Nat)).putL (Q + 1) (T.ln Q : Nat)
                  rwa [lnL_set, lnL_set] at h2)
                have HL3 : Hid (∀ t, (T.h t).length ≤ 10000) := Lib.hid (fun t => by have := HOK3.out.2 t; omega)
                have HCR : Hid (hrun pl (l.take (j + 1)) S = cross Q (decide (0 < x)) (decide (x < 0)) T) := HSU3
                clear HOK3 HSU3
                generalize T.ln Q = ta at *
                generalize T.ln (Q + 1) = tb at *
                go_wp2
                go_quiet (fail)
                obtain ⟨wq, hwq⟩ : ∃ wq, wq = (wr.drewN n1).drewN nq := ⟨_, rfl⟩
                rw [← hwq]
                have HIQ : Hid (HInv w P (some ⟨b, off, none⟩) ws.length c wq T.h (lnL (2 * P) T.ln)) := Lib.hid (by rw [hwq]; exact (HI.out.drewN _).drewN _)
                have HLQ : Hid (wq.ownsRow (w.heap.size + 3) 3 1 (.slice (some ⟨g, 0, none⟩) l.length kc) l.length (ints l)) := Lib.hid (by rw [hwq]; exact HL.out)
                clear hwq HI HL d1 d2 c1 c2 s1
                obtain ⟨v, hvc, hvf, hvo⟩ := HIQ.out.rows.at_ (p := ta) (by omega)
                have HN : Hid (some (w.heap.size + 1) ≠ v.ownBlock) := fun h => by have := (hvo.lt _ h.symm).1; omega
                have HV := Lib.hid hvo; clear hvo
                have hln := HL3.out ta
                have hs1 := HIQ.out.sz
                obtain ⟨_, hge, hcx⟩ := own_int HLQ.out hlt3
                obtain rfl := congrArg Addr.block (Option.some.inj hge)
                rw [HLX.out] at hcx
                have hR1 : w.heap.size + 1 < wq.heap.size := by omega
                clear hge
                go_wp2
                go_upto_region 18 with fail
                go_cut [] (fun wx => HInv w P (some ⟨b, off, none⟩) ws.length c wx (upd T.h ta (T.h ta ++ [(tb, decide (0 < x))])) (lnL (2 * P) T.ln) ∧ wx.ownsRow (w.heap.size + 3) 3 1 (.slice (some ⟨g, 0, none⟩) l.length kc) l.length (ints l))
                case first =>
                  go_region_law
                    (first | (refine step_appM_Try (by rfl) _ _ (by rfl) (w.heap.size + 1 + 1) v (T.h ta) (by rfl) (by first | exact (HV.out.alloc _).drew | exact HV.out.alloc _) wq.heap.size (tb, decide (0 < x)) (by rfl) (heap_alloc_new _ _) (by omega) (by simp; omega) ?_; intro g2 cap w2 hown hgrow hat hlt1; have q1 : w2.cell? ⟨w.heap.size + 1, ta, none⟩ = some v := (hgrow.cell_far ⟨w.heap.size + 1, ta, none⟩ (by simp; omega) HN.out).trans (by go_simp); have q2 : w2.frozen? ⟨w.heap.size + 1, ta, none⟩ = false := (hgrow.frozen_far ⟨w.heap.size + 1, ta, none⟩ (by simp; omega) HN.out).trans (by go_simp)))
                  all_goals
                    go_wp2_with fail
                    go_meet
                    first
                      | exact ⟨(HIQ.out.later ((Below.refl _ _).alloc (Nat.le_refl _) (.cells #[.int .i64 (tb : Int), .bool (decide (0 < x))] 68)).drew).push (by omega) (by go_simp) ((HV.out.alloc _).drew) hown rfl hgrow hat, ownsRow_setCell_below (((HLQ.out.alloc (.cells #[.int .i64 (tb : Int), .bool (decide (0 < x))] 68)).drew).kept hgrow (own_ne_own (HLQ.out.alloc _) (HV.out.alloc (.cells #[.int .i64 (tb : Int), .bool (decide (0 < x))] 68)) (by decide))) (by show w.heap.size + 1 < w.heap.size + 3; omega) _⟩
                      | go_goals
                case rest =>
                  obtain ⟨hix, hlx2⟩ := hcut
                  have hln2 : (upd T.h ta (T.h ta ++ [(tb, decide (0 < x))]) tb).length ≤ 10001 := by
                    have e1 := HL3.out ta
                    have e2 := HL3.out tb
                    unfold upd
                    split
                    · simp; omega
                    · omega
                  have HTA2 := Lib.hid (HTA.out (decide (0 < x)) (decide (x < 0)))
                  clear hvc hvf hcx hln hs1 hR1 HTA HL3
                  generalize upd T.h ta (T.h ta ++ [(tb, decide (0 < x))]) = F at *
                  have HIX := Lib.hid hix; have HLY := Lib.hid hlx2; clear hix hlx2
                  obtain ⟨v2, hvc, hvf, hvo⟩ := HIX.out.rows.at_ (p := tb) (by omega)
                  have HM : Hid (some (w.heap.size + 1) ≠ v2.ownBlock) := fun h => by have := (hvo.lt _ h.symm).1; omega
                  have HV2 := Lib.hid hvo; clear hvo
                  have hs1 := HIX.out.sz
                  obtain ⟨_, hge, hcx⟩ := own_int HLY.out hlt3
                  obtain rfl := congrArg Addr.block (Option.some.inj hge)
                  rw [HLX.out] at hcx
                  have hR1 : w.heap.size + 1 < wc.heap.size := by omega
                  clear hge
                  go_wp2
                  go_upto_region 19 with fail
                  go_cut [] (fun wx => HInv w P (some ⟨b, off, none⟩) ws.length c wx (upd F tb (F tb ++ [(ta, decide (x < 0))])) (lnL (2 * P) T.ln) ∧ wx.ownsRow (w.heap.size + 3) 3 1 (.slice (some ⟨g, 0, none⟩) l.length kc) l.length (ints l))
                  case first =>
                    go_region_law
                      (first | (refine step_appM_Try (by rfl) _ _ (by rfl) (w.heap.size + 1 + 1) v2 (F tb) (by rfl) (by first | exact (HV2.out.alloc _).drew | exact HV2.out.alloc _) wc.heap.size (ta, decide (x < 0)) (by rfl) (heap_alloc_new _ _) (by omega) (by simp; omega) ?_; intro g2 cap w2 hown hgrow hat hlt1; have q1 : w2.cell? ⟨w.heap.size + 1, tb, none⟩ = some v2 := (hgrow.cell_far ⟨w.heap.size + 1, tb, none⟩ (by simp; omega) HM.out).trans (by go_simp); have q2 : w2.frozen? ⟨w.heap.size + 1, tb, none⟩ = false := (hgrow.frozen_far ⟨w.heap.size + 1, tb, none⟩ (by simp; omega) HM.out).trans (by go_simp)))
                    all_goals
                      go_wp2_with fail
                      go_meet
                      exact ⟨(HIX.out.later ((Below.refl _ _).alloc (Nat.le_refl _) (.cells #[.int .i64 (ta : Int), .bool (decide (x < 0))] 68)).drew).push (by omega) (by go_simp) ((HV2.out.alloc _).drew) hown rfl hgrow hat, ownsRow_setCell_below (((HLY.out.alloc (.cells #[.int .i64 (ta : Int), .bool (decide (x < 0))] 68)).drew).kept hgrow (own_ne_own (HLY.out.alloc _) (HV2.out.alloc (.cells #[.int .i64 (ta : Int), .bool (decide (x < 0))] 68)) (by decide))) (by show w.heap.size + 1 < w.heap.size + 3; omega) _⟩
                  case rest =>
                    obtain ⟨hiz, hlz⟩ := hcut
                    clear hvc hvf hcx hs1 hR1
                    have d1 : wc.cell? ⟨w.heap.size + 1 + 1, Q, none⟩ = some (.int .i64 ((lnL (2 * P) T.ln).getD Q 0)) := hiz.line.cell (j := Q) (by rw [lnL_length]; omega)
                    have d2 : wc.cell? ⟨w.heap.size + 1 + 1, Q + 1, none⟩ = some (.int .i64 ((lnL (2 * P) T.ln).getD (Q + 1) 0)) := hiz.line.cell (j := Q + 1) (by rw [lnL_length]; omega)
                    have f1 : wc.frozen? ⟨w.heap.size + 1 + 1, Q, none⟩ = false := hiz.line.free Q
                    have f2 : wc.frozen? ⟨w.heap.size + 1 + 1, Q + 1, none⟩ = false := hiz.line.free (Q + 1)
                    have s3 : w.heap.size + 1 + 1 < wc.heap.size := hiz.sz
                    generalize (lnL (2 * P) T.ln).getD Q 0 = r1 at *
                    generalize (lnL (2 * P) T.ln).getD (Q + 1) 0 = r2 at *
                    have HZ := Lib.hid (HTA2.out _ (HLS.out _ _ hiz))
                    have HLZ : Hid (((wc.setCell ⟨w.heap.size + 2, Q, none⟩ (.int .i64 (tb : Nat))).setCell ⟨w.heap.size + 2, Q + 1, none⟩ (.int .i64 (ta : Nat))).ownsRow (w.heap.size + 3) 3 1 (.slice (some ⟨g, 0, none⟩) l.length kc) l.length (ints l)) := Lib.hid (ownsRow_setCell_below (ownsRow_setCell_below hlz (by show w.heap.size + 2 < w.heap.size + 3; omega) _) (by show w.heap.size + 2 < w.heap.size + 3; omega) _)
                    clear hiz hlz
                    go_wp2
                    go_roundw
                    case rel => exact ⟨j + 1, by go_num, by omega, by rw [HCR.out]; exact HZ.out, HLZ.out⟩
                    case measure => simp [intOf]; omega
            · obtain rfl : j = l.length := by omega
              rw [List.take_length] at hI
              clear hL
              have HI := Lib.hid hI; clear hI
              go_wp2
              go_roundw
              case rel => exact ⟨k + 1, by go_num, by omega, by rw [HSU.out]; exact HI.out⟩
              case measure => simp [intOf]; omega
        · obtain rfl : k = ws.length := by omega
          rw [List.take_length] at hI
          have HIF := Lib.hid hI; clear hI
          go_wp2
          go_ret
          exact ⟨_, rfl, HIF.out.rows, HIF.out.bel⟩
end Go.Proofs.Ytifpkdajfdlgeaa
