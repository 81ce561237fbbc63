/- Texts of this claim, laid together: BoChk, BoW1, BoW2, BoW3, BoLib1, BoLib2, BoWP, BoWP2, BoSpP, BoW3b, BoW4. -/
import Derived.Test.YtdimaapiloojeaaMaA
import Derived.Test.YtdimaapiloojeaaMaG
import Derived.Deep.CutBlock
import Derived.Maps.AppendAt
/- What is wrong with a thread. -/
namespace Go.Proofs.Ytdimaapiloojeaa
open Go.RowKit

/-- Places that ascend, from beyond the last one on, below the need. -/
def ascB (need : Int) : Int → List Int → Bool
  | _, [] => true
  | p, x :: l => decide (p < x) && decide (x < need) && ascB need x l
def lastI : Int → List Int → Int
  | p, [] => p
  | _, x :: l => lastI x l
theorem ascB_app (need : Int) : ∀ (l m : List Int) (p : Int), ascB need p (l ++ m) = (ascB need p l && ascB need (lastI p l) m)
  | [], m, p => by simp [ascB, lastI]
  | x :: l, m, p => by rw [List.cons_append, ascB, ascB, ascB_app need l m, lastI]; simp [Bool.and_assoc]
theorem lastI_snoc (x : Int) : ∀ (l : List Int) (p : Int), lastI p (l ++ [x]) = x
  | [], _ => rfl
  | y :: l, p => by rw [List.cons_append, lastI]; exact lastI_snoc x l y
def thrE (need : Int) (ps : List Int) : Int := if 200 < ps.length then 3 else if outR need 1 1000000000000 = true then 2 else if ascB need 0 ps = true then 0 else 2
def IntPost (x : Int) (w : World) (e : Ending) (w' : World) : Prop := e = .returned (.int .i64 x) ∧ Below w.heap.size w w'
set_option maxRecDepth 100000 in
set_option maxHeartbeats 4000000 in
theorem bCheck_ (need : Int) (A : Option Addr) (c : Nat) (ps : List Int) (w : World) (hr : RdI w A ps) : Calls Try.prog 19 #[.agg #[.int .i64 need, .slice A ps.length c]] w (IntPost (thrE need ps) w) := by
  have hln := hr.1
  have hb : Below w.heap.size w (w.alloc (.cells #[.int .i64 need, .slice A ps.length c] 43)) := (Below.refl _ _).alloc (Nat.le_refl _) _
  have hx := heap_alloc_new w (.cells #[.int .i64 need, .slice A ps.length c] 43)
  by_cases h200 : 200 < ps.length
  · have hres : thrE need ps = 3 := by unfold thrE; rw [if_pos h200]
    have f1 : decide ((200 : Int) < (ps.length : Int)) = true := decide_eq_true (by omega)
    have f2 : (200 : Int) < (ps.length : Int) := by omega
    have HR := Lib.hid hr; have HB := Lib.hid hb; have HX := Lib.hid hx; have HRES := Lib.hid hres; clear hr hb hx hres
    go_enter Try.func19, Try.ntmps19
    go_wp2
    go_ret
    exact ⟨by rw [HRES.out]; rfl, HB.out⟩
  have f1 : decide ((200 : Int) < (ps.length : Int)) = false := decide_eq_false (by omega)
  have f2 : ¬ (200 : Int) < (ps.length : Int) := by omega
  have HR := Lib.hid hr; have HB := Lib.hid hb; have HX := Lib.hid hx; clear hr hb hx
  go_enter Try.func19, Try.ntmps19
  go_wp2_with fail
  refine (bOutside_ need 1 1000000000000 _).mono ?_
  rintro e w1 ⟨rfl, b1⟩
  have hb1 := HB.out.trans (b1.mono HB.out.size)
  have hx1 := (b1.block _ (lt_of_block HX.out)).trans HX.out
  clear b1 HB HX
  have c0 := cell_of_row _ _ 0 _ _ _ hx1
  have c1 := cell_of_row _ _ 1 _ _ _ hx1
  simp only [List.getElem?_toArray, List.getElem?_cons_zero, List.getElem?_cons_succ] at c0 c1
  have l1 := lt_of_block hx1
  cases ho : outR need 1 1000000000000 with
  | true =>
    have hres : thrE need ps = 2 := by unfold thrE; rw [if_neg h200, if_pos ho]
    have HB1 := Lib.hid hb1; have HX1 := Lib.hid hx1; have HRES := Lib.hid hres; have HO := Lib.hid ho; clear hb1 hx1 hres ho
    go_wp2
    go_ret
    exact ⟨by rw [HRES.out]; rfl, HB1.out⟩
  | false =>
    have hres : thrE need ps = if ascB need 0 ps = true then 0 else 2 := by unfold thrE; rw [if_neg h200, ho, if_neg (by decide)]
    have HB1 := Lib.hid hb1; have HX1 := Lib.hid hx1; have HRES := Lib.hid hres; have HO := Lib.hid ho; clear hb1 hx1 hres ho
    go_wp2
    go_loopw [3, 5, 16] (fun lv _ iv wr => ∃ k : Nat, iv = .int .i64 (k : Int) ∧ k ≤ ps.length ∧ lv = .int .i64 (lastI 0 (ps.take k)) ∧ ascB need 0 (ps.take k) = true ∧ wr = w1) (fun _ _ iv _ => ps.length - (intOf iv).toNat)
    case atStart => exact ⟨0, rfl, Nat.zero_le _, rfl, rfl, rfl⟩
    case round =>
      obtain ⟨k, rfl, hk, rfl, has, rfl⟩ := hrel
      by_cases hkl : k < ps.length
      · obtain ⟨bl, ol, rfl, hbl, q0⟩ := (HR.out.later HB1.out (Nat.le_refl _)).at_ hkl
        have hsn := List.take_succ_eq_append_getElem hkl
        have hla := lastI_snoc ps[k] (ps.take k) 0
        have hasn : ascB need 0 (ps.take (k + 1)) = (decide (lastI 0 (ps.take k) < ps[k]) && decide (ps[k] < need)) := by
          rw [hsn, ascB_app, has]; simp [ascB]
        rw [← hsn] at hla
        have hall : ascB need 0 (ps.take (k + 1)) = false → ascB need 0 ps = false := fun h => by
          have e := List.take_append_drop (k + 1) ps
          rw [← e, ascB_app, h]; rfl
        have x1 : (0 : Int) ≤ (k : Int) := by omega
        have x2 : (k : Int) < (ps.length : Int) := by omega
        generalize ps[k] = x at *
        obtain ⟨la, hlae⟩ : ∃ la, la = lastI 0 (ps.take k) := ⟨_, rfl⟩
        rw [← hlae] at hasn ⊢
        by_cases h1 : x ≤ la
        · have g1 : decide (x ≤ la) = true := decide_eq_true h1
          rw [decide_eq_false (by omega), Bool.false_and] at hasn
          have hres2 : thrE need ps = 2 := by rw [HRES.out, hall hasn]; rfl
          have HAS := Lib.hid has; have HSN := Lib.hid hsn; have HLA := Lib.hid hla; have HASN := Lib.hid hasn; have HALL := Lib.hid hall; have HLAE := Lib.hid hlae; have HRES2 := Lib.hid hres2; clear has hsn hla hasn hall hlae hres2
          go_wp2
          go_ret
          exact ⟨by rw [HRES2.out]; rfl, HB1.out⟩
        · have g1 : decide (x ≤ la) = false := decide_eq_false h1
          rw [decide_eq_true (by omega), Bool.true_and] at hasn
          by_cases h2 : need ≤ x
          · have g2 : decide (need ≤ x) = true := decide_eq_true h2
            rw [decide_eq_false (by omega)] at hasn
            have hres2 : thrE need ps = 2 := by rw [HRES.out, hall hasn]; rfl
            have HAS := Lib.hid has; have HSN := Lib.hid hsn; have HLA := Lib.hid hla; have HASN := Lib.hid hasn; have HALL := Lib.hid hall; have HLAE := Lib.hid hlae; have HRES2 := Lib.hid hres2; clear has hsn hla hasn hall hlae hres2
            go_wp2
            go_ret
            exact ⟨by rw [HRES2.out]; rfl, HB1.out⟩
          · have g2 : decide (need ≤ x) = false := decide_eq_false h2
            rw [decide_eq_true (by omega)] at hasn
            have HAS := Lib.hid has; have HSN := Lib.hid hsn; have HLA := Lib.hid hla; have HASN := Lib.hid hasn; have HALL := Lib.hid hall; have HLAE := Lib.hid hlae; clear has hsn hla hasn hall hlae
            go_wp2
            go_roundw
            case rel => exact ⟨k + 1, by go_num, by omega, by rw [HLA.out], HASN.out, trivial⟩
            case measure => simp [intOf]; omega
      · obtain rfl : k = ps.length := by omega
        rw [List.take_length] at has
        have x3 : ¬ (ps.length : Int) < (ps.length : Int) := by omega
        have hres2 : thrE need ps = 0 := by rw [HRES.out, has]; rfl
        rw [List.take_length]
        generalize lastI 0 ps = la at *
        have HAS := Lib.hid has; have HRES2 := Lib.hid hres2; clear has hres2
        go_wp2
        go_ret
        exact ⟨by rw [HRES2.out]; rfl, HB1.out⟩
end Go.Proofs.Ytdimaapiloojeaa
/- Winding: how many knots are needed behind a place (closures). -/
namespace Go.Proofs.Ytdimaapiloojeaa
open Go.RowKit

/-- Block R holds n numbers, of this type. -/
def BI (w : World) (R T n : Nat) (g : Nat → Int) : Prop := w.heap[R]? = some (.cells ((List.range n).map fun p => Value.int .i64 (g p)).toArray T (0, 0))
section
variable {w w' : World} {R T n : Nat} {g g' : Nat → Int}
theorem BI.at_ (h : BI w R T n g) {p : Nat} (hp : p < n) : w.cell? ⟨R, p, none⟩ = some (.int .i64 (g p)) := by
  rw [cell_of_row w R p _ _ _ h]; simp [hp]
theorem BI.free (h : BI w R T n g) (p : Nat) : w.frozen? ⟨R, p, none⟩ = false := frozen_of_row _ _ p _ _ h
theorem BI.put (h : BI w R T n g) (p : Nat) (z : Int) : BI (w.setCell ⟨R, p, none⟩ (.int .i64 z)) R T n (upD g p z) := by
  have h1 := heap_setCell_same w R p _ _ (.int .i64 z) h
  refine Eq.trans h1 ?_
  congr 2
  apply Array.ext'
  apply List.ext_getElem
  · simp
  · intro j h1 h2
    simp only [Array.toList_setIfInBounds, List.getElem_set, List.getElem_map, List.getElem_range]
    by_cases hj : p = j
    · subst hj; simp [upD]
    · rw [if_neg hj]; simp [upD, Ne.symm hj]
theorem BI.lt (h : BI w R T n g) : R < w.heap.size := lt_of_block h
theorem BI.later (h : BI w R T n g) (hb : Below w.heap.size w w') : BI w' R T n g := (hb.block _ h.lt).trans h
theorem BI.same (h : BI w R T n g) (hb : w'.heap[R]? = w.heap[R]?) : BI w' R T n g := hb.trans h
theorem BI.eqv (h : BI w R T n g) (he : ∀ a, a < n → g a = g' a) : BI w R T n g' := by
  unfold BI at h ⊢
  rw [h]
  congr 3
  apply List.map_congr_left
  intro a ha
  rw [he a (List.mem_range.1 ha)]
end
theorem bI_zero (w : World) (n T : Nat) : BI (w.alloc (.cells (madeCells #[.int .i64 0] n) T)) w.heap.size T n (fun _ => 0) := by
  unfold BI
  rw [heap_alloc_new]
  congr 2
  apply Array.ext'
  apply List.ext_getElem
  · simp [madeCells]
  · intro j h1 h2
    simp [madeCells, Nat.mod_one]
/-- A knot more, but not at the end. -/
def mrI (n k : Nat) : Int := if k + 1 = n then 0 else 1
def bhv (n : Nat) (b : Nat → Int) (i : Nat) : Nat → Int
  | 0 => 1073741824
  | t + 1 => min (bhv n b i t) (b (i + 1 + t) + mrI n (i + 1 + t))
theorem gb_set {w : World} {S j : Nat} (v : Value) : w.grownBy (w.drew.setCell ⟨S, j, none⟩ v) (some S) := by
  refine ⟨rfl, rfl, rfl, by simp, fun i hi hne => ?_⟩
  exact heap_setCell_other w.drew ⟨S, j, none⟩ i v (fun e => hne (by rw [e]))
set_option maxRecDepth 100000 in
set_option maxHeartbeats 4000000 in
theorem wind2_ (nb bb ib S n cap i k : Nat) (b : Nat → Int) (w : World) (hn : w.heap[nb]? = some (.cells #[.int .i64 (n : Int)] 3 (0, 0))) (hbb : w.heap[bb]? = some (.cells #[.slice (some ⟨S, 0, none⟩) n cap] 23 (0, 0)))
    (hi : w.heap[ib]? = some (.cells #[.int .i64 (i : Int)] 3 (0, 0))) (hS : BI w S 3 n b) (hk : k < n) (hin : i < n) (hn9 : n ≤ 1000) (hb : ∀ j, j < n → 0 ≤ b j ∧ b j ≤ 1073741824) :
    Calls Try.prog 75 #[.int .i64 (k : Int), .pointer (some ⟨nb, 0, none⟩), .pointer (some ⟨bb, 0, none⟩), .pointer (some ⟨ib, 0, none⟩)] w fun e w' => e = .returned (.tuple #[]) ∧ BI w' S 3 n (upD b i (min (b i) (b k + mrI n k))) ∧ w.grownBy w' (some S) := by
  have c0 := cell_of_row _ _ 0 _ _ _ hn
  have c1 := cell_of_row _ _ 0 _ _ _ hbb
  have c2 := cell_of_row _ _ 0 _ _ _ hi
  simp only [List.getElem?_toArray, List.getElem?_cons_zero] at c0 c1 c2
  have l0 := lt_of_block hn
  have l1 := lt_of_block hbb
  have l2 := lt_of_block hi
  have l3 := hS.lt
  have c3 := hS.at_ hin
  have c4 := hS.at_ hk
  have z3 := hS.free i
  obtain ⟨r1, r2⟩ := hb i hin
  obtain ⟨r3, r4⟩ := hb k hk
  have hput := fun v => (show BI w.drew S 3 n b from hS).put i v
  have hgb := fun v => gb_set (w := w) (S := S) (j := i) v
  have w1 : IntKind.i64.wrap ((n : Int) - 1) = ((n - 1 : Nat) : Int) := by rw [IntWalk.i64_in _ (by omega)]; omega
  have x1 : (0 : Int) ≤ (i : Int) := by omega
  have x2 : (i : Int) < (n : Int) := by omega
  have x3 : (0 : Int) ≤ (k : Int) := by omega
  have x4 : (k : Int) < (n : Int) := by omega
  clear hn hbb hi
  generalize b i = bi at *
  generalize b k = bk at *
  generalize hn1 : n - 1 = n1 at *
  by_cases hend : k = n1
  · have y1 : ((k : Int) == (n1 : Int)) = true := by rw [hend]; simp
    have y2 : (k == n1) = true := by rw [hend]; simp
    have hm : mrI n k = 0 := by unfold mrI; rw [if_pos (by omega)]
    obtain ⟨sm, hsm⟩ : ∃ sm, sm = bk + 0 := ⟨_, rfl⟩
    rw [hm, ← hsm]
    have w2 : IntKind.i64.wrap (bk) = sm := (IntWalk.i64_in _ (by omega)).trans (by omega)
    have hs0 : sm = bk := by omega
    by_cases hlt : sm < bi
    · have hmin : min bi sm = sm := by omega
      rw [hmin]
      have HPUT := Lib.hid hput; have HGB := Lib.hid hgb; have HS := Lib.hid hS; have HM := Lib.hid hm; have HB := Lib.hid hb; have HEND := Lib.hid hend; have HN1 := Lib.hid hn1; have HMIN := Lib.hid hmin; have HSM := Lib.hid hsm; have HS0 := Lib.hid hs0; clear hput hgb hS hm hb hend hn1 hmin hsm hs0
      go_enter Try.func75, Try.ntmps75
      go_upto_region 3 with fail
      go_still_tail 14, (by kernel_rfl)
      change wpList _ _ _ _ _ w.drew
      go_wp2
      refine bodyPost_end (results_none rfl _ _ _) rfl ?_
      exact ⟨rfl, HPUT.out _, HGB.out _⟩
    · have hmin : min bi sm = bi := by omega
      rw [hmin]
      have HPUT := Lib.hid hput; have HGB := Lib.hid hgb; have HS := Lib.hid hS; have HM := Lib.hid hm; have HB := Lib.hid hb; have HEND := Lib.hid hend; have HN1 := Lib.hid hn1; have HMIN := Lib.hid hmin; have HSM := Lib.hid hsm; have HS0 := Lib.hid hs0; clear hput hgb hS hm hb hend hn1 hmin hsm hs0
      go_enter Try.func75, Try.ntmps75
      go_upto_region 3 with fail
      go_still_tail 14, (by kernel_rfl)
      change wpList _ _ _ _ _ w.drew
      go_wp2
      refine bodyPost_end (results_none rfl _ _ _) rfl ?_
      exact ⟨rfl, HPUT.out _, HGB.out _⟩
  · have y1 : ((k : Int) == (n1 : Int)) = false := by rw [beq_eq_false_iff_ne]; omega
    have y2 : (k == n1) = false := by rw [beq_eq_false_iff_ne]; omega
    have hm : mrI n k = 1 := by unfold mrI; rw [if_neg (by omega)]
    obtain ⟨sm, hsm⟩ : ∃ sm, sm = bk + 1 := ⟨_, rfl⟩
    rw [hm, ← hsm]
    have w2 : IntKind.i64.wrap (bk + 1) = sm := (IntWalk.i64_in _ (by omega)).trans (by omega)
    have hs0 : sm = bk + 1 := by omega
    by_cases hlt : sm < bi
    · have hmin : min bi sm = sm := by omega
      rw [hmin]
      have HPUT := Lib.hid hput; have HGB := Lib.hid hgb; have HS := Lib.hid hS; have HM := Lib.hid hm; have HB := Lib.hid hb; have HEND := Lib.hid hend; have HN1 := Lib.hid hn1; have HMIN := Lib.hid hmin; have HSM := Lib.hid hsm; have HS0 := Lib.hid hs0; clear hput hgb hS hm hb hend hn1 hmin hsm hs0
      go_enter Try.func75, Try.ntmps75
      go_upto_region 3 with fail
      go_still_tail 14, (by kernel_rfl)
      change wpList _ _ _ _ _ w.drew
      go_wp2
      refine bodyPost_end (results_none rfl _ _ _) rfl ?_
      exact ⟨rfl, HPUT.out _, HGB.out _⟩
    · have hmin : min bi sm = bi := by omega
      rw [hmin]
      have HPUT := Lib.hid hput; have HGB := Lib.hid hgb; have HS := Lib.hid hS; have HM := Lib.hid hm; have HB := Lib.hid hb; have HEND := Lib.hid hend; have HN1 := Lib.hid hn1; have HMIN := Lib.hid hmin; have HSM := Lib.hid hsm; have HS0 := Lib.hid hs0; clear hput hgb hS hm hb hend hn1 hmin hsm hs0
      go_enter Try.func75, Try.ntmps75
      go_upto_region 3 with fail
      go_still_tail 14, (by kernel_rfl)
      change wpList _ _ _ _ _ w.drew
      go_wp2
      refine bodyPost_end (results_none rfl _ _ _) rfl ?_
      exact ⟨rfl, HPUT.out _, HGB.out _⟩
end Go.Proofs.Ytdimaapiloojeaa
/- Winding: following from a place. -/
namespace Go.Proofs.Ytdimaapiloojeaa
open Go.RowKit

/-- The s-th place behind i can be reached. -/
def Go1 (al : Nat → Int) (n : Nat) (most : Int) (i s : Nat) : Prop := i + 1 + s < n ∧ al (i + 1 + s) - al i ≤ most
/-- t places behind i are looked at. -/
def Fl (al : Nat → Int) (n : Nat) (most : Int) (i t : Nat) : Prop := (∀ s, s < t → Go1 al n most i s) ∧ ¬ Go1 al n most i t
/-- The cells that the closures know. -/
structure WdC (w : World) (nb ab mb R n acap : Nat) (most : Int) (al : Nat → Int) : Prop where
  cn : w.heap[nb]? = some (.cells #[.int .i64 (n : Int)] 3 (0, 0))
  ca : w.heap[ab]? = some (.cells #[.slice (some ⟨R, 0, none⟩) n acap] 22 (0, 0))
  cm : w.heap[mb]? = some (.cells #[.int .i64 most] 2 (0, 0))
  ra : ∀ j, j < n → w.cell? ⟨R, j, none⟩ = some (.int .i64 (al j))
  rl : R < w.heap.size
theorem WdC.kept {w w' : World} {nb ab mb R n acap : Nat} {most : Int} {al : Nat → Int} {row : Option Nat} (h : WdC w nb ab mb R n acap most al) (hg : w.grownBy w' row) (h1 : some nb ≠ row) (h2 : some ab ≠ row) (h3 : some mb ≠ row) (h4 : some R ≠ row) : WdC w' nb ab mb R n acap most al :=
  ⟨(hg.block _ (lt_of_block h.cn) h1).trans h.cn, (hg.block _ (lt_of_block h.ca) h2).trans h.ca, (hg.block _ (lt_of_block h.cm) h3).trans h.cm, fun j hj => (hg.cell_far ⟨R, j, none⟩ h.rl h4).trans (h.ra j hj), Nat.lt_of_lt_of_le h.rl hg.size⟩
theorem gb_of_below {w w' : World} (h : Below w.heap.size w w') (row : Option Nat) : w.grownBy w' row := ⟨h.os, h.tape, h.output, h.size, fun i hi _ => h.block i hi⟩
theorem WdC.later {w w' : World} {nb ab mb R n acap : Nat} {most : Int} {al : Nat → Int} (h : WdC w nb ab mb R n acap most al) (hb : Below w.heap.size w w') : WdC w' nb ab mb R n acap most al :=
  h.kept (gb_of_below hb none) (by simp) (by simp) (by simp) (by simp)
theorem gb_then {a b c : World} {row : Option Nat} (h1 : a.grownBy b row) (h2 : b.grownBy c row) : a.grownBy c row :=
  ⟨h2.os.trans h1.os, h2.tape.trans h1.tape, h2.output.trans h1.output, Nat.le_trans h1.size h2.size, fun i hi hne => (h2.block i (Nat.lt_of_lt_of_le hi h1.size) hne).trans (h1.block i hi hne)⟩
/-- The place that comes next: the first one with a knot less behind it. -/
def nxv (n : Nat) (b : Nat → Int) (i : Nat) : Nat → Nat
  | 0 => n
  | t + 1 => if i + 1 + t + 1 < n ∧ b (i + 1 + t) = b i - 1 then min (nxv n b i t) (i + 1 + t) else nxv n b i t
theorem nxv_le (n : Nat) (b : Nat → Int) (i : Nat) : ∀ t, nxv n b i t ≤ n
  | 0 => Nat.le_refl _
  | t + 1 => by
    have := nxv_le n b i t
    unfold nxv
    split <;> omega
theorem bhv_rng {n : Nat} {b : Nat → Int} {i : Nat} (hb : ∀ j, j < n → 0 ≤ b j ∧ b j ≤ 1073741824) : ∀ t, i + 1 + t ≤ n → 0 ≤ bhv n b i t ∧ bhv n b i t ≤ 1073741824
  | 0, _ => by unfold bhv; omega
  | t + 1, h => by
    have h1 := bhv_rng (i := i) hb t (by omega)
    have h2 := hb (i + 1 + t) (by omega)
    rw [bhv]
    unfold mrI
    split <;> omega
set_option maxRecDepth 100000 in
set_option maxHeartbeats 4000000 in
theorem wind3_ (nb bb ib xb S n cap i k nx : Nat) (b : Nat → Int) (w : World) (hn : w.heap[nb]? = some (.cells #[.int .i64 (n : Int)] 3 (0, 0))) (hbb : w.heap[bb]? = some (.cells #[.slice (some ⟨S, 0, none⟩) n cap] 23 (0, 0)))
    (hi : w.heap[ib]? = some (.cells #[.int .i64 (i : Int)] 3 (0, 0))) (hx : w.heap[xb]? = some (.cells #[.int .i64 (nx : Int)] 3 (0, 0))) (hS : BI w S 3 n b) (hk : k < n) (hin : i < n) (hn9 : n ≤ 1000) (hnx : nx ≤ 1000) (hb : ∀ j, j < n → 0 ≤ b j ∧ b j ≤ 1073741824) :
    Calls Try.prog 76 #[.int .i64 (k : Int), .pointer (some ⟨nb, 0, none⟩), .pointer (some ⟨bb, 0, none⟩), .pointer (some ⟨ib, 0, none⟩), .pointer (some ⟨xb, 0, none⟩)] w fun e w' => e = .returned (.tuple #[]) ∧ w'.heap[xb]? = some (.cells #[.int .i64 ((if k + 1 < n ∧ b k = b i - 1 then min nx k else nx : Nat) : Int)] 3 (0, 0)) ∧ w.grownBy w' (some xb) := by
  have c0 := cell_of_row _ _ 0 _ _ _ hn
  have c1 := cell_of_row _ _ 0 _ _ _ hbb
  have c2 := cell_of_row _ _ 0 _ _ _ hi
  have c5 := cell_of_row _ _ 0 _ _ _ hx
  simp only [List.getElem?_toArray, List.getElem?_cons_zero] at c0 c1 c2 c5
  have l0 := lt_of_block hn
  have l1 := lt_of_block hbb
  have l2 := lt_of_block hi
  have l5 := lt_of_block hx
  have l3 := hS.lt
  have c3 := hS.at_ hin
  have c4 := hS.at_ hk
  have z5 := frozen_of_row _ _ 0 _ _ hx
  obtain ⟨r1, r2⟩ := hb i hin
  obtain ⟨r3, r4⟩ := hb k hk
  have w1 : IntKind.i64.wrap ((n : Int) - 1) = ((n - 1 : Nat) : Int) := by rw [IntWalk.i64_in _ (by omega)]; omega
  have x1 : (0 : Int) ≤ (i : Int) := by omega
  have x2 : (i : Int) < (n : Int) := by omega
  have x3 : (0 : Int) ≤ (k : Int) := by omega
  have x4 : (k : Int) < (n : Int) := by omega
  have hput : ∀ (W : World) (z : Int), Below w.heap.size w W → (W.setCell ⟨xb, 0, none⟩ (.int .i64 z)).heap[xb]? = some (.cells #[.int .i64 z] 3 (0, 0)) ∧ w.grownBy (W.setCell ⟨xb, 0, none⟩ (.int .i64 z)) (some xb) := fun W z hB => by
    have h1 := (hB.block _ l5).trans hx
    refine ⟨heap_setCell_same W xb 0 _ _ _ h1, hB.os, hB.tape, hB.output, by simpa using hB.size, fun j hj hne => ?_⟩
    exact (heap_setCell_other W ⟨xb, 0, none⟩ j _ (fun e => hne (by rw [e]))).trans (hB.block j hj)
  have hkeep : ∀ W : World, Below w.heap.size w W → W.heap[xb]? = some (.cells #[.int .i64 (nx : Int)] 3 (0, 0)) ∧ w.grownBy W (some xb) := fun W hB => ⟨(hB.block _ l5).trans hx, gb_of_below hB _⟩
  obtain ⟨res, hres⟩ : ∃ res, res = (if k + 1 < n ∧ b k = b i - 1 then min nx k else nx) := ⟨_, rfl⟩
  rw [← hres]
  clear hn hbb hi hx
  generalize b i = bi at *
  generalize b k = bk at *
  generalize hn1 : n - 1 = n1 at *
  have w3 : IntKind.i64.wrap (bi - 1) = bi - 1 := IntWalk.i64_in _ (by omega)
  by_cases hend : k < n1
  · have y1 : decide ((k : Int) < (n1 : Int)) = true := decide_eq_true (by omega)
    have y2 : decide (k < n1) = true := decide_eq_true hend
    have y3 : (k : Int) < (n1 : Int) := by omega
    obtain ⟨b1, hb1⟩ : ∃ b1, b1 = bi - 1 := ⟨_, rfl⟩
    rw [← hb1] at hres
    rw [show bi - 1 = b1 from hb1.symm] at w3
    rw [hb1] at w3
    have w3 : IntKind.i64.wrap (bi - 1) = b1 := by rw [w3, hb1]
    by_cases heq : bk = b1
    · have y4 : (bk == b1) = true := by rw [heq]; simp
      rw [if_pos ⟨by omega, heq⟩] at hres
      have hkx : (k : Int) < (nx : Int) ∨ ¬ (k : Int) < (nx : Int) := by omega
      rcases hkx with hlt | hlt
      · have hmin : res = k := by omega
        subst hmin
        have HPUT := Lib.hid hput; have HKEEP := Lib.hid hkeep; have HS := Lib.hid hS; have HB := Lib.hid hb; have HEND := Lib.hid hend; have HN1 := Lib.hid hn1; have HEQ := Lib.hid heq; have HB1 := Lib.hid hb1; have HRES := Lib.hid hres; clear hput hkeep hS hb hend hn1 heq hb1 hres
        go_enter Try.func76, Try.ntmps76
        go_upto_region 0 with fail
        have hbelc : ∀ (u : Bel w.heap.size w) b o, b < w.heap.size → u.wd.cell? ⟨b, o, none⟩ = w.cell? ⟨b, o, none⟩ := fun u b o h => u.h.cell (p := ⟨b, o, none⟩) h
        have hbeln : Nonempty (Bel w.heap.size w) := ⟨⟨w, Below.refl _ _⟩⟩
        refine wp_region_bel w.heap.size (by kernel_rfl) (by kernel_rfl) ?_
        repeat (go_big_quiet_step ((fail)))
        refine wpQuiet_nil ?_
        intro wB hB0; obtain ⟨uB, hu⟩ := hB0; have hbB0 := uB.h; rw [← hu] at hbB0; clear hu uB hbelc hbeln
        obtain ⟨hbB, hcB, hsB⟩ := bcell2 hbB0; clear hbB0
        have c5 := (hcB xb 0 l5).trans c5
        have z5 := (hbB.frozen (p := ⟨xb, 0, none⟩) l5).trans z5
        have l5 := Nat.lt_of_lt_of_le l5 hsB
        have hk2 := fun z => HPUT.out _ z hbB
        clear hcB hsB hbB
        have HK2 := Lib.hid hk2; clear hk2
        go_wp2
        refine bodyPost_end (results_none rfl _ _ _) rfl ?_
        exact ⟨rfl, (HK2.out _).1, (HK2.out _).2⟩
      · have hmin : res = nx := by omega
        subst hmin
        have HPUT := Lib.hid hput; have HKEEP := Lib.hid hkeep; have HS := Lib.hid hS; have HB := Lib.hid hb; have HEND := Lib.hid hend; have HN1 := Lib.hid hn1; have HEQ := Lib.hid heq; have HB1 := Lib.hid hb1; have HRES := Lib.hid hres; clear hput hkeep hS hb hend hn1 heq hb1 hres
        go_enter Try.func76, Try.ntmps76
        go_upto_region 0 with fail
        have hbelc : ∀ (u : Bel w.heap.size w) b o, b < w.heap.size → u.wd.cell? ⟨b, o, none⟩ = w.cell? ⟨b, o, none⟩ := fun u b o h => u.h.cell (p := ⟨b, o, none⟩) h
        have hbeln : Nonempty (Bel w.heap.size w) := ⟨⟨w, Below.refl _ _⟩⟩
        refine wp_region_bel w.heap.size (by kernel_rfl) (by kernel_rfl) ?_
        repeat (go_big_quiet_step ((fail)))
        refine wpQuiet_nil ?_
        intro wB hB0; obtain ⟨uB, hu⟩ := hB0; have hbB0 := uB.h; rw [← hu] at hbB0; clear hu uB hbelc hbeln
        obtain ⟨hbB, hcB, hsB⟩ := bcell2 hbB0; clear hbB0
        have c5 := (hcB xb 0 l5).trans c5
        have z5 := (hbB.frozen (p := ⟨xb, 0, none⟩) l5).trans z5
        have l5 := Nat.lt_of_lt_of_le l5 hsB
        have hk2 := fun z => HPUT.out _ z hbB
        clear hcB hsB hbB
        have HK2 := Lib.hid hk2; clear hk2
        go_wp2
        refine bodyPost_end (results_none rfl _ _ _) rfl ?_
        exact ⟨rfl, (HK2.out _).1, (HK2.out _).2⟩
    · have y4 : (bk == b1) = false := by rw [beq_eq_false_iff_ne]; exact heq
      rw [if_neg (by omega)] at hres
      subst hres
      have HPUT := Lib.hid hput; have HKEEP := Lib.hid hkeep; have HS := Lib.hid hS; have HB := Lib.hid hb; have HEND := Lib.hid hend; have HN1 := Lib.hid hn1; have HEQ := Lib.hid heq; have HB1 := Lib.hid hb1; clear hput hkeep hS hb hend hn1 heq hb1
      go_enter Try.func76, Try.ntmps76
      go_upto_region 0 with fail
      have hbelc : ∀ (u : Bel w.heap.size w) b o, b < w.heap.size → u.wd.cell? ⟨b, o, none⟩ = w.cell? ⟨b, o, none⟩ := fun u b o h => u.h.cell (p := ⟨b, o, none⟩) h
      have hbeln : Nonempty (Bel w.heap.size w) := ⟨⟨w, Below.refl _ _⟩⟩
      refine wp_region_bel w.heap.size (by kernel_rfl) (by kernel_rfl) ?_
      repeat (go_big_quiet_step ((fail)))
      refine wpQuiet_nil ?_
      intro wB hB0; obtain ⟨uB, hu⟩ := hB0; have hbB0 := uB.h; rw [← hu] at hbB0; clear hu uB hbelc hbeln
      obtain ⟨hbB, hcB, hsB⟩ := bcell2 hbB0; clear hbB0
      have hk2 := HKEEP.out _ hbB
      clear hcB hsB hbB
      have HK2 := Lib.hid hk2; clear hk2
      go_wp2
      refine bodyPost_end (results_none rfl _ _ _) rfl ?_
      exact ⟨rfl, HK2.out.1, HK2.out.2⟩
  · have y1 : decide ((k : Int) < (n1 : Int)) = false := decide_eq_false (by omega)
    have y2 : decide (k < n1) = false := decide_eq_false hend
    rw [if_neg (by omega)] at hres
    subst hres
    have HPUT := Lib.hid hput; have HKEEP := Lib.hid hkeep; have HS := Lib.hid hS; have HB := Lib.hid hb; have HEND := Lib.hid hend; have HN1 := Lib.hid hn1; clear hput hkeep hS hb hend hn1
    go_enter Try.func76, Try.ntmps76
    go_upto_region 0 with fail
    have hbelc : ∀ (u : Bel w.heap.size w) b o, b < w.heap.size → u.wd.cell? ⟨b, o, none⟩ = w.cell? ⟨b, o, none⟩ := fun u b o h => u.h.cell (p := ⟨b, o, none⟩) h
    have hbeln : Nonempty (Bel w.heap.size w) := ⟨⟨w, Below.refl _ _⟩⟩
    refine wp_region_bel w.heap.size (by kernel_rfl) (by kernel_rfl) ?_
    repeat (go_big_quiet_step ((fail)))
    refine wpQuiet_nil ?_
    intro wB hB0; obtain ⟨uB, hu⟩ := hB0; have hbB0 := uB.h; rw [← hu] at hbB0; clear hu uB hbelc hbeln
    obtain ⟨hbB, hcB, hsB⟩ := bcell2 hbB0; clear hbB0
    have hk2 := HKEEP.out _ hbB
    clear hcB hsB hbB
    have HK2 := Lib.hid hk2; clear hk2
    go_wp2
    refine bodyPost_end (results_none rfl _ _ _) rfl ?_
    exact ⟨rfl, HK2.out.1, HK2.out.2⟩

theorem by_up {b : Nat → Int} {n i : Nat} (hbi : b i = 1073741824) (j : Nat) : b j = upD b i (bhv n b i 0) j := by
  by_cases e : j = i
  · rw [e, upD_same, hbi]; rfl
  · rw [upD_other _ _ e]

set_option maxRecDepth 100000 in
set_option maxHeartbeats 4000000 in
theorem follow2_ (nb ab mb R n acap i : Nat) (most : Int) (al : Nat → Int) (bb ib S cap : Nat) (b : Nat → Int) (w : World) (hC : WdC w nb ab mb R n acap most al) (hbb : w.heap[bb]? = some (.cells #[.slice (some ⟨S, 0, none⟩) n cap] 23 (0, 0))) (hi1 : w.heap[ib]? = some (.cells #[.int .i64 (i : Int)] 3 (0, 0))) (hS : BI w S 3 n b) (hbi : b i = 1073741824) (hne : some nb ≠ some S ∧ some ab ≠ some S ∧ some mb ≠ some S ∧ some R ≠ some S ∧ some bb ≠ some S ∧ some ib ≠ some S) (hin : i < n) (hn9 : n ≤ 1000) (hal : ∀ j, j < n → 0 ≤ al j ∧ al j ≤ 1000000000000) (hb : ∀ j, j < n → 0 ≤ b j ∧ b j ≤ 1073741824) :
    Calls Try.prog 74 #[.int .i64 (i : Int), .func (.func 75) #[] #[.pointer (some ⟨nb, 0, none⟩), .pointer (some ⟨bb, 0, none⟩), .pointer (some ⟨ib, 0, none⟩)], .pointer (some ⟨nb, 0, none⟩), .pointer (some ⟨ab, 0, none⟩), .pointer (some ⟨mb, 0, none⟩)] w fun e w' => e = .returned (.tuple #[]) ∧ ∃ t, Fl al n most i t ∧ BI w' S 3 n (upD b i (bhv n b i t)) ∧ w.grownBy w' (some S) := by
  have hI0 : BI w S 3 n (upD b i (bhv n b i 0)) ∧ w.grownBy w (some S) := ⟨hS.eqv fun j _ => by_up hbi j, gb_of_below (Below.refl _ _) _⟩
  have hwi : IntKind.i64.wrap ((i : Int) + 1) = ((i + 1 + 0 : Nat) : Int) := by rw [IntWalk.i64_in _ (by omega)]; omega
  have HC := Lib.hid hC; have HAL := Lib.hid hal; have HB := Lib.hid hb; have HI0 := Lib.hid hI0; have HBB := Lib.hid hbb; have HI1 := Lib.hid hi1; have HS := Lib.hid hS; have HBI := Lib.hid hbi; have HNE := Lib.hid hne; clear hC hal hb hI0 hbb hi1 hS hbi hne
  go_enter Try.func74, Try.ntmps74
  go_wp2
  go_loopw [7] (fun kv wr => ∃ t : Nat, kv = .int .i64 ((i + 1 + t : Nat) : Int) ∧ i + 1 + t ≤ n ∧ (∀ s, s < t → Go1 al n most i s) ∧ BI wr S 3 n (upD b i (bhv n b i t)) ∧ w.grownBy wr (some S)) (fun kv _ => n - (intOf kv).toNat)
  case atStart => exact ⟨0, rfl, by omega, fun s hs => absurd hs (by omega), HI0.out⟩
  case round =>
    clear HI0 hwi
    obtain ⟨t, rfl, htn, hgo, hI⟩ := hrel
    obtain ⟨k, hk⟩ : ∃ k, k = i + 1 + t := ⟨_, rfl⟩
    rw [← hk] at htn ⊢
    have hCr := HC.out.kept hI.2 HNE.out.1 HNE.out.2.1 HNE.out.2.2.1 HNE.out.2.2.2.1
    have c0 := cell_of_row _ _ 0 _ _ _ hCr.cn
    have c1 := cell_of_row _ _ 0 _ _ _ hCr.ca
    have c2 := cell_of_row _ _ 0 _ _ _ hCr.cm
    simp only [List.getElem?_toArray, List.getElem?_cons_zero] at c0 c1 c2
    have l0 := lt_of_block hCr.cn
    have l1 := lt_of_block hCr.ca
    have l2 := lt_of_block hCr.cm
    have l3 := hCr.rl
    have c3 := hCr.ra i hin
    obtain ⟨a1, a2⟩ := HAL.out i hin
    have x1 : (0 : Int) ≤ (i : Int) := by omega
    have x2 : (i : Int) < (n : Int) := by omega
    have hwk : IntKind.i64.wrap ((k : Int) + 1) = ((i + 1 + (t + 1) : Nat) : Int) := by rw [IntWalk.i64_in _ (by omega)]; omega
    by_cases hkn : k < n
    · have y1 : decide ((k : Int) < (n : Int)) = true := decide_eq_true (by omega)
      have y2 : decide (k < n) = true := decide_eq_true hkn
      have x3 : (0 : Int) ≤ (k : Int) := by omega
      have x4 : (k : Int) < (n : Int) := by omega
      have c4 := hCr.ra k hkn
      obtain ⟨a3, a4⟩ := HAL.out k hkn
      have hgk : Go1 al n most i t ↔ al k - al i ≤ most := by unfold Go1; rw [← hk]; exact ⟨fun h => h.2, fun h => ⟨hkn, h⟩⟩
      generalize al k = ak at *
      generalize al i = ai at *
      have w2 : IntKind.i64.wrap (ak - ai) = ak - ai := IntWalk.i64_in _ (by omega)
      obtain ⟨df, hdf⟩ : ∃ df, df = ak - ai := ⟨_, rfl⟩
      rw [← hdf] at hgk
      have w2 : IntKind.i64.wrap (ak - ai) = df := by rw [w2, hdf]
      by_cases hle : df ≤ most
      · have y3 : decide (df ≤ most) = true := decide_eq_true hle
        have hgo2 : ∀ s, s < t + 1 → Go1 al n most i s := fun s hs => by
          rcases Nat.lt_or_ge s t with h | h
          · exact hgo s h
          · rw [show s = t by omega]; exact hgk.2 hle
        have HK := Lib.hid hk; have HGO := Lib.hid hgo; have HI := Lib.hid hI; have HCR := Lib.hid hCr; have HGK := Lib.hid hgk; have HDF := Lib.hid hdf; have HGO2 := Lib.hid hgo2; clear hk hgo hI hCr hgk hdf hgo2
        go_upto_region 1 with fail
        have hbelc : ∀ (u : Bel wr.heap.size wr) b o, b < wr.heap.size → u.wd.cell? ⟨b, o, none⟩ = wr.cell? ⟨b, o, none⟩ := fun u b o h => u.h.cell (p := ⟨b, o, none⟩) h
        have hbeln : Nonempty (Bel wr.heap.size wr) := ⟨⟨wr, Below.refl _ _⟩⟩
        refine wp_region_bel wr.heap.size (by kernel_rfl) (by kernel_rfl) ?_
        repeat (go_big_quiet_step ((fail)))
        refine wpQuiet_nil ?_
        intro wB hB0; obtain ⟨uB, hu⟩ := hB0; have hbB0 := uB.h; rw [← hu] at hbB0; clear hu uB hbelc hbeln
        obtain ⟨hbB, hcB, hsB⟩ := bcell2 hbB0; clear hbB0
        have hI2 := (⟨BI.later HI.out.1 hbB, gb_then HI.out.2 (gb_of_below hbB _)⟩ : BI wB S 3 n (upD b i (bhv n b i t)) ∧ w.grownBy wB (some S))
        have hCB := HCR.out.later hbB
        clear hcB hsB hbB c0 c1 c2 c3 c4 l0 l1 l2 l3
        have hbv := bhv_rng (i := i) HB.out t (by have := HK.out; omega)
        have hb2 : ∀ j, j < n → 0 ≤ upD b i (bhv n b i t) j ∧ upD b i (bhv n b i t) j ≤ 1073741824 := fun j hj => by
          by_cases e : j = i
          · rw [e, upD_same]; exact hbv
          · rw [upD_other _ _ e]; exact HB.out j hj
        have hcall := wind2_ nb bb ib S n cap i k (upD b i (bhv n b i t)) wB hCB.cn ((hI2.2.block _ (lt_of_block HBB.out) HNE.out.2.2.2.2.1).trans HBB.out) ((hI2.2.block _ (lt_of_block HI1.out) HNE.out.2.2.2.2.2).trans HI1.out) hI2.1 hkn hin hn9 hb2
        have hnew : upD (upD b i (bhv n b i t)) i (min (upD b i (bhv n b i t) i) (upD b i (bhv n b i t) k + mrI n k)) = upD b i (bhv n b i (t + 1)) := by
          have hki : k ≠ i := by have := HK.out; omega
          rw [upD_same, upD_other _ _ hki]
          funext j
          by_cases e : j = i
          · rw [e, upD_same, upD_same, bhv, HK.out]
          · rw [upD_other _ _ e, upD_other _ _ e, upD_other _ _ e]
        rw [hnew] at hcall
        clear hnew hb2 hbv
        have HI2 := Lib.hid hI2; have HCB := Lib.hid hCB; have HCALL := Lib.hid hcall; clear hI2 hCB hcall
        go_wp2_with fail
        refine HCALL.out.mono ?_
        rintro e w3 ⟨rfl, h1, h2⟩
        have hI3 := gb_then HI2.out.2 h2
        clear h2
        have H1 := Lib.hid h1; have HI3 := Lib.hid hI3; clear h1 hI3
        go_wp2
        go_roundw
        case rel => exact ⟨t + 1, rfl, by have := HK.out; omega, HGO2.out, H1.out, HI3.out⟩
        case measure => have := HK.out; simp [intOf]; omega
      · have y3 : decide (df ≤ most) = false := decide_eq_false hle
        have hfl : Fl al n most i t := ⟨hgo, fun h => hle (hgk.1 h)⟩
        have HK := Lib.hid hk; have HGO := Lib.hid hgo; have HI := Lib.hid hI; have HCR := Lib.hid hCr; have HGK := Lib.hid hgk; have HDF := Lib.hid hdf; have HFL := Lib.hid hfl; clear hk hgo hI hCr hgk hdf hfl
        go_upto_region 1 with fail
        have hbelc : ∀ (u : Bel wr.heap.size wr) b o, b < wr.heap.size → u.wd.cell? ⟨b, o, none⟩ = wr.cell? ⟨b, o, none⟩ := fun u b o h => u.h.cell (p := ⟨b, o, none⟩) h
        have hbeln : Nonempty (Bel wr.heap.size wr) := ⟨⟨wr, Below.refl _ _⟩⟩
        refine wp_region_bel wr.heap.size (by kernel_rfl) (by kernel_rfl) ?_
        repeat (go_big_quiet_step ((fail)))
        refine wpQuiet_nil ?_
        intro wB hB0; obtain ⟨uB, hu⟩ := hB0; have hbB0 := uB.h; rw [← hu] at hbB0; clear hu uB hbelc hbeln
        obtain ⟨hbB, hcB, hsB⟩ := bcell2 hbB0; clear hbB0
        have hI2 := (⟨BI.later HI.out.1 hbB, gb_then HI.out.2 (gb_of_below hbB _)⟩ : BI wB S 3 n (upD b i (bhv n b i t)) ∧ w.grownBy wB (some S))
        clear hcB hsB hbB c0 c1 c2 c3 c4 l0 l1 l2 l3
        have HI2 := Lib.hid hI2; clear hI2
        go_wp2
        refine bodyPost_end (results_none rfl _ _ _) rfl ?_
        exact ⟨rfl, t, HFL.out, HI2.out⟩
    · have y1 : decide ((k : Int) < (n : Int)) = false := decide_eq_false (by omega)
      have y2 : decide (k < n) = false := decide_eq_false hkn
      have hfl : Fl al n most i t := ⟨hgo, fun h => hkn (by rw [hk]; exact h.1)⟩
      have HK := Lib.hid hk; have HGO := Lib.hid hgo; have HI := Lib.hid hI; have HCR := Lib.hid hCr; have HFL := Lib.hid hfl; clear hk hgo hI hCr hfl
      go_upto_region 1 with fail
      have hbelc : ∀ (u : Bel wr.heap.size wr) b o, b < wr.heap.size → u.wd.cell? ⟨b, o, none⟩ = wr.cell? ⟨b, o, none⟩ := fun u b o h => u.h.cell (p := ⟨b, o, none⟩) h
      have hbeln : Nonempty (Bel wr.heap.size wr) := ⟨⟨wr, Below.refl _ _⟩⟩
      refine wp_region_bel wr.heap.size (by kernel_rfl) (by kernel_rfl) ?_
      repeat (go_big_quiet_step ((fail)))
      refine wpQuiet_nil ?_
      intro wB hB0; obtain ⟨uB, hu⟩ := hB0; have hbB0 := uB.h; rw [← hu] at hbB0; clear hu uB hbelc hbeln
      obtain ⟨hbB, hcB, hsB⟩ := bcell2 hbB0; clear hbB0
      have hI2 := (⟨BI.later HI.out.1 hbB, gb_then HI.out.2 (gb_of_below hbB _)⟩ : BI wB S 3 n (upD b i (bhv n b i t)) ∧ w.grownBy wB (some S))
      clear hcB hsB hbB c0 c1 c2 c3 l0 l1 l2 l3
      have HI2 := Lib.hid hI2; clear hI2
      go_wp2
      refine bodyPost_end (results_none rfl _ _ _) rfl ?_
      exact ⟨rfl, t, HFL.out, HI2.out⟩
set_option maxRecDepth 100000 in
set_option maxHeartbeats 4000000 in
theorem follow3_ (nb ab mb R n acap i : Nat) (most : Int) (al : Nat → Int) (bb ib xb S cap : Nat) (b : Nat → Int) (w : World) (hC : WdC w nb ab mb R n acap most al) (hbb : w.heap[bb]? = some (.cells #[.slice (some ⟨S, 0, none⟩) n cap] 23 (0, 0))) (hi1 : w.heap[ib]? = some (.cells #[.int .i64 (i : Int)] 3 (0, 0))) (hx : w.heap[xb]? = some (.cells #[.int .i64 (n : Int)] 3 (0, 0))) (hS : BI w S 3 n b) (hne : some nb ≠ some xb ∧ some ab ≠ some xb ∧ some mb ≠ some xb ∧ some R ≠ some xb ∧ some bb ≠ some xb ∧ some ib ≠ some xb ∧ some S ≠ some xb) (hin : i < n) (hn9 : n ≤ 1000) (hal : ∀ j, j < n → 0 ≤ al j ∧ al j ≤ 1000000000000) (hb : ∀ j, j < n → 0 ≤ b j ∧ b j ≤ 1073741824) :
    Calls Try.prog 74 #[.int .i64 (i : Int), .func (.func 76) #[] #[.pointer (some ⟨nb, 0, none⟩), .pointer (some ⟨bb, 0, none⟩), .pointer (some ⟨ib, 0, none⟩), .pointer (some ⟨xb, 0, none⟩)], .pointer (some ⟨nb, 0, none⟩), .pointer (some ⟨ab, 0, none⟩), .pointer (some ⟨mb, 0, none⟩)] w fun e w' => e = .returned (.tuple #[]) ∧ ∃ t, Fl al n most i t ∧ w'.heap[xb]? = some (.cells #[.int .i64 ((nxv n b i t : Nat) : Int)] 3 (0, 0)) ∧ w.grownBy w' (some xb) := by
  have hI0 : w.heap[xb]? = some (.cells #[.int .i64 ((nxv n b i 0 : Nat) : Int)] 3 (0, 0)) ∧ w.grownBy w (some xb) := ⟨hx, gb_of_below (Below.refl _ _) _⟩
  have hwi : IntKind.i64.wrap ((i : Int) + 1) = ((i + 1 + 0 : Nat) : Int) := by rw [IntWalk.i64_in _ (by omega)]; omega
  have HC := Lib.hid hC; have HAL := Lib.hid hal; have HB := Lib.hid hb; have HI0 := Lib.hid hI0; have HBB := Lib.hid hbb; have HI1 := Lib.hid hi1; have HX := Lib.hid hx; have HS := Lib.hid hS; have HNE := Lib.hid hne; clear hC hal hb hI0 hbb hi1 hx hS hne
  go_enter Try.func74, Try.ntmps74
  go_wp2
  go_loopw [7] (fun kv wr => ∃ t : Nat, kv = .int .i64 ((i + 1 + t : Nat) : Int) ∧ i + 1 + t ≤ n ∧ (∀ s, s < t → Go1 al n most i s) ∧ wr.heap[xb]? = some (.cells #[.int .i64 ((nxv n b i t : Nat) : Int)] 3 (0, 0)) ∧ w.grownBy wr (some xb)) (fun kv _ => n - (intOf kv).toNat)
  case atStart => exact ⟨0, rfl, by omega, fun s hs => absurd hs (by omega), HI0.out⟩
  case round =>
    clear HI0 hwi
    obtain ⟨t, rfl, htn, hgo, hI⟩ := hrel
    obtain ⟨k, hk⟩ : ∃ k, k = i + 1 + t := ⟨_, rfl⟩
    rw [← hk] at htn ⊢
    have hCr := HC.out.kept hI.2 HNE.out.1 HNE.out.2.1 HNE.out.2.2.1 HNE.out.2.2.2.1
    have c0 := cell_of_row _ _ 0 _ _ _ hCr.cn
    have c1 := cell_of_row _ _ 0 _ _ _ hCr.ca
    have c2 := cell_of_row _ _ 0 _ _ _ hCr.cm
    simp only [List.getElem?_toArray, List.getElem?_cons_zero] at c0 c1 c2
    have l0 := lt_of_block hCr.cn
    have l1 := lt_of_block hCr.ca
    have l2 := lt_of_block hCr.cm
    have l3 := hCr.rl
    have c3 := hCr.ra i hin
    obtain ⟨a1, a2⟩ := HAL.out i hin
    have x1 : (0 : Int) ≤ (i : Int) := by omega
    have x2 : (i : Int) < (n : Int) := by omega
    have hwk : IntKind.i64.wrap ((k : Int) + 1) = ((i + 1 + (t + 1) : Nat) : Int) := by rw [IntWalk.i64_in _ (by omega)]; omega
    by_cases hkn : k < n
    · have y1 : decide ((k : Int) < (n : Int)) = true := decide_eq_true (by omega)
      have y2 : decide (k < n) = true := decide_eq_true hkn
      have x3 : (0 : Int) ≤ (k : Int) := by omega
      have x4 : (k : Int) < (n : Int) := by omega
      have c4 := hCr.ra k hkn
      obtain ⟨a3, a4⟩ := HAL.out k hkn
      have hgk : Go1 al n most i t ↔ al k - al i ≤ most := by unfold Go1; rw [← hk]; exact ⟨fun h => h.2, fun h => ⟨hkn, h⟩⟩
      generalize al k = ak at *
      generalize al i = ai at *
      have w2 : IntKind.i64.wrap (ak - ai) = ak - ai := IntWalk.i64_in _ (by omega)
      obtain ⟨df, hdf⟩ : ∃ df, df = ak - ai := ⟨_, rfl⟩
      rw [← hdf] at hgk
      have w2 : IntKind.i64.wrap (ak - ai) = df := by rw [w2, hdf]
      by_cases hle : df ≤ most
      · have y3 : decide (df ≤ most) = true := decide_eq_true hle
        have hgo2 : ∀ s, s < t + 1 → Go1 al n most i s := fun s hs => by
          rcases Nat.lt_or_ge s t with h | h
          · exact hgo s h
          · rw [show s = t by omega]; exact hgk.2 hle
        have HK := Lib.hid hk; have HGO := Lib.hid hgo; have HI := Lib.hid hI; have HCR := Lib.hid hCr; have HGK := Lib.hid hgk; have HDF := Lib.hid hdf; have HGO2 := Lib.hid hgo2; clear hk hgo hI hCr hgk hdf hgo2
        go_upto_region 1 with fail
        have hbelc : ∀ (u : Bel wr.heap.size wr) b o, b < wr.heap.size → u.wd.cell? ⟨b, o, none⟩ = wr.cell? ⟨b, o, none⟩ := fun u b o h => u.h.cell (p := ⟨b, o, none⟩) h
        have hbeln : Nonempty (Bel wr.heap.size wr) := ⟨⟨wr, Below.refl _ _⟩⟩
        refine wp_region_bel wr.heap.size (by kernel_rfl) (by kernel_rfl) ?_
        repeat (go_big_quiet_step ((fail)))
        refine wpQuiet_nil ?_
        intro wB hB0; obtain ⟨uB, hu⟩ := hB0; have hbB0 := uB.h; rw [← hu] at hbB0; clear hu uB hbelc hbeln
        obtain ⟨hbB, hcB, hsB⟩ := bcell2 hbB0; clear hbB0
        have hI2 := (⟨(hbB.block _ (lt_of_block HI.out.1)).trans HI.out.1, gb_then HI.out.2 (gb_of_below hbB _)⟩ : wB.heap[xb]? = some (.cells #[.int .i64 ((nxv n b i t : Nat) : Int)] 3 (0, 0)) ∧ w.grownBy wB (some xb))
        have hCB := HCR.out.later hbB
        clear hcB hsB hbB c0 c1 c2 c3 c4 l0 l1 l2 l3
        have hcall := wind3_ nb bb ib xb S n cap i k (nxv n b i t) b wB hCB.cn ((hI2.2.block _ (lt_of_block HBB.out) HNE.out.2.2.2.2.1).trans HBB.out) ((hI2.2.block _ (lt_of_block HI1.out) HNE.out.2.2.2.2.2.1).trans HI1.out) hI2.1 ((hI2.2.block _ HS.out.lt HNE.out.2.2.2.2.2.2).trans HS.out) hkn hin hn9 (Nat.le_trans (nxv_le n b i t) hn9) HB.out
        have hnew : (if k + 1 < n ∧ b k = b i - 1 then min (nxv n b i t) k else nxv n b i t) = nxv n b i (t + 1) := by
          rw [HK.out]; rfl
        rw [hnew] at hcall
        clear hnew
        have HI2 := Lib.hid hI2; have HCB := Lib.hid hCB; have HCALL := Lib.hid hcall; clear hI2 hCB hcall
        go_wp2_with fail
        refine HCALL.out.mono ?_
        rintro e w3 ⟨rfl, h1, h2⟩
        have hI3 := gb_then HI2.out.2 h2
        clear h2
        have H1 := Lib.hid h1; have HI3 := Lib.hid hI3; clear h1 hI3
        go_wp2
        go_roundw
        case rel => exact ⟨t + 1, rfl, by have := HK.out; omega, HGO2.out, H1.out, HI3.out⟩
        case measure => have := HK.out; simp [intOf]; omega
      · have y3 : decide (df ≤ most) = false := decide_eq_false hle
        have hfl : Fl al n most i t := ⟨hgo, fun h => hle (hgk.1 h)⟩
        have HK := Lib.hid hk; have HGO := Lib.hid hgo; have HI := Lib.hid hI; have HCR := Lib.hid hCr; have HGK := Lib.hid hgk; have HDF := Lib.hid hdf; have HFL := Lib.hid hfl; clear hk hgo hI hCr hgk hdf hfl
        go_upto_region 1 with fail
        have hbelc : ∀ (u : Bel wr.heap.size wr) b o, b < wr.heap.size → u.wd.cell? ⟨b, o, none⟩ = wr.cell? ⟨b, o, none⟩ := fun u b o h => u.h.cell (p := ⟨b, o, none⟩) h
        have hbeln : Nonempty (Bel wr.heap.size wr) := ⟨⟨wr, Below.refl _ _⟩⟩
        refine wp_region_bel wr.heap.size (by kernel_rfl) (by kernel_rfl) ?_
        repeat (go_big_quiet_step ((fail)))
        refine wpQuiet_nil ?_
        intro wB hB0; obtain ⟨uB, hu⟩ := hB0; have hbB0 := uB.h; rw [← hu] at hbB0; clear hu uB hbelc hbeln
        obtain ⟨hbB, hcB, hsB⟩ := bcell2 hbB0; clear hbB0
        have hI2 := (⟨(hbB.block _ (lt_of_block HI.out.1)).trans HI.out.1, gb_then HI.out.2 (gb_of_below hbB _)⟩ : wB.heap[xb]? = some (.cells #[.int .i64 ((nxv n b i t : Nat) : Int)] 3 (0, 0)) ∧ w.grownBy wB (some xb))
        clear hcB hsB hbB c0 c1 c2 c3 c4 l0 l1 l2 l3
        have HI2 := Lib.hid hI2; clear hI2
        go_wp2
        refine bodyPost_end (results_none rfl _ _ _) rfl ?_
        exact ⟨rfl, t, HFL.out, HI2.out⟩
    · have y1 : decide ((k : Int) < (n : Int)) = false := decide_eq_false (by omega)
      have y2 : decide (k < n) = false := decide_eq_false hkn
      have hfl : Fl al n most i t := ⟨hgo, fun h => hkn (by rw [hk]; exact h.1)⟩
      have HK := Lib.hid hk; have HGO := Lib.hid hgo; have HI := Lib.hid hI; have HCR := Lib.hid hCr; have HFL := Lib.hid hfl; clear hk hgo hI hCr hfl
      go_upto_region 1 with fail
      have hbelc : ∀ (u : Bel wr.heap.size wr) b o, b < wr.heap.size → u.wd.cell? ⟨b, o, none⟩ = wr.cell? ⟨b, o, none⟩ := fun u b o h => u.h.cell (p := ⟨b, o, none⟩) h
      have hbeln : Nonempty (Bel wr.heap.size wr) := ⟨⟨wr, Below.refl _ _⟩⟩
      refine wp_region_bel wr.heap.size (by kernel_rfl) (by kernel_rfl) ?_
      repeat (go_big_quiet_step ((fail)))
      refine wpQuiet_nil ?_
      intro wB hB0; obtain ⟨uB, hu⟩ := hB0; have hbB0 := uB.h; rw [← hu] at hbB0; clear hu uB hbelc hbeln
      obtain ⟨hbB, hcB, hsB⟩ := bcell2 hbB0; clear hbB0
      have hI2 := (⟨(hbB.block _ (lt_of_block HI.out.1)).trans HI.out.1, gb_then HI.out.2 (gb_of_below hbB _)⟩ : wB.heap[xb]? = some (.cells #[.int .i64 ((nxv n b i t : Nat) : Int)] 3 (0, 0)) ∧ w.grownBy wB (some xb))
      clear hcB hsB hbB c0 c1 c2 c3 l0 l1 l2 l3
      have HI2 := Lib.hid hI2; clear hI2
      go_wp2
      refine bodyPost_end (results_none rfl _ _ _) rfl ?_
      exact ⟨rfl, t, HFL.out, HI2.out⟩
end Go.Proofs.Ytdimaapiloojeaa
/- Winding: all the places, from the beginning to the end. -/
namespace Go.Proofs.Ytdimaapiloojeaa
open Go.RowKit

theorem ints_app9 (xs ys : List Int) : ints (xs ++ ys) = ints xs ++ ints ys := by unfold ints; simp
theorem ints_get9 (xs : List Int) (j : Nat) (h : j < xs.length) : (ints xs)[j]? = some (.int .i64 (xs.getD j 0)) := by unfold ints; simp [h, List.getD_eq_getElem?_getD]
theorem rdI_nil_of_none {w : World} {wl : List Int} (h : RdI w none wl) : wl = [] := by
  rcases Nat.eq_zero_or_pos wl.length with h0 | h0
  · exact List.eq_nil_of_length_eq_zero h0
  · obtain ⟨b, off, e, _⟩ := h.2 (by omega)
    cases e
theorem own_slice1R {w : World} {base e n : Nat} {v : Value} {xs : List Value} (h : w.ownsRow base e 1 v n xs) : ∃ A c, v = .slice A n c ∧ n ≤ c := by
  rcases h.2 with ⟨rfl, h0⟩ | ⟨g, cap, cur, rfl, _, _, hn, _⟩
  · exact ⟨none, 0, by rw [h0], by omega⟩
  · exact ⟨_, cap, rfl, hn⟩
theorem run_appAllL_Try (w : World) (base : Nat) (v : Value) (xs : List Int) (hown : w.ownsRow base 2 1 v xs.length (ints xs)) (A : Option Addr) (c : Nat) (wl : List Int) (hrd : RdI w A wl)
    (hn : xs.length + wl.length ≤ 1000000) (hbase : base ≤ w.heap.size) (ty : TypeId) :
    ∃ v' w', (Builtin.append_ #[22, 22] ty #[v, .slice A wl.length c]).run Try.prog w = .ok v' w' ∧ w'.ownsRow base 2 1 v' (xs ++ wl).length (ints (xs ++ wl)) ∧ w.grownBy w' v.ownBlock ∧
      (v'.ownBlock = v.ownBlock ∨ v'.ownBlock = some w.heap.size) := by
  obtain ⟨i0, hi, hz0, hz1, hz2⟩ := info_parts info_i64_Try
  cases A with
  | none =>
    obtain rfl := rdI_nil_of_none hrd
    refine ⟨v, w, ?_, by simpa using hown, World.grownBy.refl w _, .inl rfl⟩
    rcases hown.2 with ⟨rfl, _⟩ | ⟨g, cap, cur, rfl, _, _, hnc, _⟩
    · simp [Builtin.append_, run_underlying Try.underlying22, sizeOf, typeInfo, hi, Builtin.lenOf, Builtin.firstCells]
    · simp [Builtin.append_, run_underlying Try.underlying22, sizeOf, typeInfo, hi, Builtin.lenOf, Builtin.firstCells, hnc, storeCells]
  | some ad =>
    have hnews : ∀ j u, (ints wl)[j]? = some u → w.cell? (ad.add j) = some u := fun j u hu => by
      have hj : j < wl.length := by
        have := (List.getElem?_eq_some_iff.1 hu).1
        rwa [ints_length] at this
      rw [ints_get9 wl j hj] at hu
      obtain ⟨b, off, e, _, hc⟩ := hrd.2 (by omega)
      obtain rfl : ad = ⟨b, off, none⟩ := Option.some.inj e
      have h9 := hc j (by omega)
      rw [← Option.some.inj hu, ← h9]
      by_cases h0 : j = 0
      · subst h0; simp [Addr.add]
      · simp [Addr.add, h0]
    obtain ⟨v', w', hr, h2, h3, _, h5⟩ := run_append_own_at (P := Try.prog) w base 22 ty 2 i0 (.int .i64 0) 1 8 Try.underlying22 hi hz0 hz1 hz2 rfl (by omega) v xs.length (ints xs) hown ad wl.length c (ints wl) (by rw [ints_length, Nat.mul_one]) hnews (ints_one wl)
      (by unfold maxLen; omega) (by omega) hbase
    refine ⟨v', w', hr, ?_, h3, h5⟩
    rw [List.length_append, ints_app9]
    exact h2
theorem wp_appAllL_Try {o : Oper} {a : Act} {K : Act → World → Prop} {Q : Exit → Act → World → Prop} {w : World} (s x : Operand)
    (ho : o.op = .call { callee := .builtin .append, args := #[s, x], argTypes := #[22, 22] })
    (base : Nat) (v : Value) (xs : List Int) (hs : a.eval s = v) (hown : w.ownsRow base 2 1 v xs.length (ints xs)) (A : Option Addr) (c : Nat) (wl : List Int) (hx : a.eval x = .slice A wl.length c) (hrd : RdI w A wl)
    (hn : xs.length + wl.length ≤ 1000000) (hbase : base ≤ w.heap.size)
    (h : ∀ A' c' w', w'.ownsRow base 2 1 (.slice A' (xs ++ wl).length c') (xs ++ wl).length (ints (xs ++ wl)) → w.grownBy w' v.ownBlock → ((Value.slice A' (xs ++ wl).length c').ownBlock = v.ownBlock ∨ (Value.slice A' (xs ++ wl).length c').ownBlock = some w.heap.size) → K (a.put o.dst (.slice A' (xs ++ wl).length c')) w') : o.wp Try.prog a w K Q := by
  obtain ⟨v', w', hr, h2, h3, h4⟩ := run_appAllL_Try w base v xs hown A c wl hrd hn hbase o.type
  obtain ⟨A', c', rfl, _⟩ := own_slice1R h2
  unfold Oper.wp execOp
  simp only [ho, resolve, invoke, builtin, Sem.run_bind, Sem.run_pure, Result.andThen_ok, List.map_toArray, List.map_cons, List.map_nil, hs, hx, hr]
  exact h A' c' w' h2 h3 h4
theorem wpList_appAllL_Try {ops : Array Oper} {rest : List Oper} {o : Oper} {a : Act} {Q : Exit → Act → World → Prop} {w : World} (hgd : o.guard = none) (s x : Operand)
    (ho : o.op = .call { callee := .builtin .append, args := #[s, x], argTypes := #[22, 22] })
    (base : Nat) (v : Value) (xs : List Int) (hs : a.eval s = v) (hown : w.ownsRow base 2 1 v xs.length (ints xs)) (A : Option Addr) (c : Nat) (wl : List Int) (hx : a.eval x = .slice A wl.length c) (hrd : RdI w A wl)
    (hn : xs.length + wl.length ≤ 1000000) (hbase : base ≤ w.heap.size)
    (h : ∀ A' c' w', w'.ownsRow base 2 1 (.slice A' (xs ++ wl).length c') (xs ++ wl).length (ints (xs ++ wl)) → w.grownBy w' v.ownBlock → ((Value.slice A' (xs ++ wl).length c').ownBlock = v.ownBlock ∨ (Value.slice A' (xs ++ wl).length c').ownBlock = some w.heap.size) → wpList Try.prog ops Q rest (a.put o.dst (.slice A' (xs ++ wl).length c')) w') :
    wpList Try.prog ops Q (o :: rest) a w :=
  wpList_plain hgd fun _ hK => wp_appAllL_Try s x ho base v xs hs hown A c wl hx hrd hn hbase fun A' c' w' h2 h3 h4 => hK _ _ (h A' c' w' h2 h3 h4)
theorem step_appAllL_Try {ops : Array Oper} {o : Oper} {a : Act} {K : Act → World → Prop} {Q : Exit → Act → World → Prop} {E : Prop} {w : World} (hgd : o.guard = none) (s x : Operand)
    (ho : o.op = .call { callee := .builtin .append, args := #[s, x], argTypes := #[22, 22] })
    (base : Nat) (v : Value) (xs : List Int) (hs : a.eval s = v) (hown : w.ownsRow base 2 1 v xs.length (ints xs)) (A : Option Addr) (c : Nat) (wl : List Int) (hx : a.eval x = .slice A wl.length c) (hrd : RdI w A wl)
    (hn : xs.length + wl.length ≤ 1000000) (hbase : base ≤ w.heap.size)
    (h : ∀ A' c' w', w'.ownsRow base 2 1 (.slice A' (xs ++ wl).length c') (xs ++ wl).length (ints (xs ++ wl)) → w.grownBy w' v.ownBlock → ((Value.slice A' (xs ++ wl).length c').ownBlock = v.ownBlock ∨ (Value.slice A' (xs ++ wl).length c').ownBlock = some w.heap.size) → K (a.put o.dst (.slice A' (xs ++ wl).length c')) w') :
    if Region.wanted o (yielded ops a.tmps) = true then Oper.wp Try.prog o a w K Q else E := by
  have hw : Region.wanted o (yielded ops a.tmps) = true := by simp [Region.wanted, hgd]
  rw [if_pos hw]
  exact wp_appAllL_Try s x ho base v xs hs hown A c wl hx hrd hn hbase h
theorem step_appL_Try {ops : Array Oper} {o : Oper} {a : Act} {K : Act → World → Prop} {Q : Exit → Act → World → Prop} {E : Prop} {w : World} (hgd : o.guard = none) (s x : Operand)
    (ho : o.op = .call { callee := .builtin .append, args := #[s, x], argTypes := #[22, 22] })
    (base : Nat) (v : Value) (xs : List Int) (hs : a.eval s = v) (hown : w.ownsRow base 2 1 v xs.length (ints xs)) (b : Nat) (z : Int) (hx : a.eval x = .slice (some ⟨b, 0, none⟩) 1 1)
    (hb : w.heap[b]? = some (.cells #[.int .i64 z] 2 (0, 0))) (hn : xs.length ≤ 1000000) (hbase : base ≤ w.heap.size)
    (h : ∀ g cap w', w'.ownsRow base 2 1 (.slice (some ⟨g, 0, none⟩) (xs.length + 1) cap) (xs ++ [z]).length (ints (xs ++ [z])) → w.grownBy w' v.ownBlock → (v.ownBlock = some g ∨ g = w.heap.size) → g < w'.heap.size →
      K (a.put o.dst (.slice (some ⟨g, 0, none⟩) (xs.length + 1) cap)) w') :
    if Region.wanted o (yielded ops a.tmps) = true then Oper.wp Try.prog o a w K Q else E := by
  obtain ⟨i0, hi, hz0, hz1, hz2⟩ := info_parts info_i64_Try
  refine step_append_lies w hgd s x 22 ho base 2 i0 (.int .i64 0) 1 8 Try.underlying22 hi hz0 hz1 hz2 rfl (by omega) v xs.length (ints xs) hs hown ⟨b, 0, none⟩ 1 1 (ints [z]) hx rfl
    (World.news_of_block hb) (ints_one [z]) (by omega) (by unfold maxLen; omega) (by omega) hbase w.heap.size rfl fun g cap w' h2 h3 h4 h5 => h g cap w' ?_ h3 h4 h5
  rw [List.length_append, ints_app9]
  exact h2

theorem own_oneL {w : World} {base B T : Nat} {z : Int} (h : w.heap[B]? = some (.cells #[.int .i64 z] T (0, 0))) (hB : base ≤ B) : w.ownsRow base T 1 (.slice (some ⟨B, 0, none⟩) 1 1) [z].length (ints [z]) :=
  ⟨rfl, .inr ⟨B, 1, #[.int .i64 z], rfl, hB, h, Nat.le_refl _, by unfold maxLen; omega, rfl, rfl⟩⟩
/-- What has been made while all the places are put together. -/
structure AlS (w2 W : World) (need : Int) (V : Option (Value × List Int)) (g6 g8 : Option Nat) : Prop where
  hb : Below w2.heap.size w2 W
  ho : ∀ v xs, V = some (v, xs) → W.ownsRow w2.heap.size 2 1 v xs.length (ints xs)
  h6 : ∀ g, g6 = some g → W.heap[g]? = some (.cells #[.int .i64 need] 2 (0, 0)) ∧ ∀ v xs, V = some (v, xs) → v.ownBlock ≠ some g
  h8 : ∀ g, g8 = some g → W.heap[g]? = some (.cells #[.slice none 0 0] 22 (0, 0)) ∧ w2.heap.size ≤ g ∧ ∀ v xs, V = some (v, xs) → v.ownBlock ≠ some g
section
variable {w2 W : World} {need : Int} {V : Option (Value × List Int)} {g6 g8 : Option Nat}
theorem AlS.start (w2 : World) (need : Int) : AlS w2 w2.drew need none none none := ⟨(Below.refl _ _).drew, fun _ _ h => (by cases h), fun _ h => (by cases h), fun _ h => (by cases h)⟩
theorem AlS.bs1 (h : AlS w2 W need none g6 g8) : AlS w2 (W.alloc (.cells #[.int .i64 0] 2)) need (some (.slice (some ⟨W.heap.size, 0, none⟩) 1 1, [0])) g6 g8 := by
  refine ⟨h.hb.alloc h.hb.size _, fun v xs e => ?_, fun g e => ?_, fun g e => ?_⟩
  · injection e with e; injection e with e1 e2; subst e1; subst e2
    exact own_oneL (heap_alloc_new _ _) h.hb.size
  · obtain ⟨h1, _⟩ := h.h6 g e
    refine ⟨(Below.heap_alloc W _ _ (lt_of_block h1)).trans h1, fun v xs e => ?_⟩
    injection e with e; injection e with e1 e2; subst e1
    intro h2; have := lt_of_block h1; simp [Value.ownBlock] at h2; omega
  · obtain ⟨h1, h3, _⟩ := h.h8 g e
    refine ⟨(Below.heap_alloc W _ _ (lt_of_block h1)).trans h1, h3, fun v xs e => ?_⟩
    injection e with e; injection e with e1 e2; subst e1
    intro h2; have := lt_of_block h1; simp [Value.ownBlock] at h2; omega
theorem AlS.bs2 (h : AlS w2 W need V none g8) : AlS w2 (W.alloc (.cells #[.int .i64 need] 2)) need V (some W.heap.size) g8 := by
  refine ⟨h.hb.alloc h.hb.size _, fun v xs e => (h.ho v xs e).alloc _, fun g e => ?_, fun g e => ?_⟩
  · injection e with e; subst e
    exact ⟨heap_alloc_new _ _, fun v xs e h2 => by have := (h.ho v xs e).lt _ h2; omega⟩
  · obtain ⟨h1, h3, h4⟩ := h.h8 g e
    exact ⟨(Below.heap_alloc W _ _ (lt_of_block h1)).trans h1, h3, h4⟩
theorem AlS.cel (h : AlS w2 W need V g6 none) : AlS w2 (W.alloc (.cells #[.slice none 0 0] 22)) need V g6 (some W.heap.size) := by
  refine ⟨h.hb.alloc h.hb.size _, fun v xs e => (h.ho v xs e).alloc _, fun g e => ?_, fun g e => ?_⟩
  · obtain ⟨h1, h4⟩ := h.h6 g e
    exact ⟨(Below.heap_alloc W _ _ (lt_of_block h1)).trans h1, h4⟩
  · injection e with e; subst e
    exact ⟨heap_alloc_new _ _, h.hb.size, fun v xs e h2 => by have := (h.ho v xs e).lt _ h2; omega⟩
theorem AlS.app {v v' : Value} {xs ys : List Int} {W' : World} (h : AlS w2 W need (some (v, xs)) g6 g8) (ho : W'.ownsRow w2.heap.size 2 1 v' ys.length (ints ys)) (hg : W.grownBy W' v.ownBlock) (hat : v'.ownBlock = v.ownBlock ∨ v'.ownBlock = some W.heap.size) : AlS w2 W' need (some (v', ys)) g6 g8 := by
  have hlt := (h.ho v xs rfl).lt
  refine ⟨h.hb.grown hg h.hb.size (fun k hk => (hlt k hk).1), fun v2 xs2 e => ?_, fun g e => ?_, fun g e => ?_⟩
  · injection e with e; injection e with e1 e2; subst e1; subst e2; exact ho
  · obtain ⟨h1, h4⟩ := h.h6 g e
    have h5 := h4 v xs rfl
    refine ⟨(hg.block g (lt_of_block h1) (fun e => h5 e.symm)).trans h1, fun v2 xs2 e2 => ?_⟩
    injection e2 with e2; injection e2 with e3 e4; subst e3
    rcases hat with h6 | h6
    · rw [h6]; exact h5
    · rw [h6]; intro h7; injection h7 with h7; have := lt_of_block h1; omega
  · obtain ⟨h1, h3, h4⟩ := h.h8 g e
    have h5 := h4 v xs rfl
    refine ⟨(hg.block g (lt_of_block h1) (fun e => h5 e.symm)).trans h1, h3, fun v2 xs2 e2 => ?_⟩
    injection e2 with e2; injection e2 with e3 e4; subst e3
    rcases hat with h6 | h6
    · rw [h6]; exact h5
    · rw [h6]; intro h7; injection h7 with h7; have := lt_of_block h1; omega
end
end Go.Proofs.Ytdimaapiloojeaa
/- Small library functions: Clone, Compare, Or. -/
namespace Go.Proofs.Ytdimaapiloojeaa
open Go.RowKit

theorem run_appAllI_Try (w : World) (base : Nat) (v : Value) (xs : List Int) (hown : w.ownsRow base 3 1 v xs.length (ints xs)) (A : Option Addr) (c : Nat) (wl : List Int) (hrd : RdI w A wl)
    (hn : xs.length + wl.length ≤ 1000000) (hbase : base ≤ w.heap.size) (ty : TypeId) :
    ∃ v' w', (Builtin.append_ #[23, 23] ty #[v, .slice A wl.length c]).run Try.prog w = .ok v' w' ∧ w'.ownsRow base 3 1 v' (xs ++ wl).length (ints (xs ++ wl)) ∧ w.grownBy w' v.ownBlock ∧
      (v'.ownBlock = v.ownBlock ∨ v'.ownBlock = some w.heap.size) := by
  obtain ⟨i0, hi, hz0, hz1, hz2⟩ := info_parts info_int_Try
  cases A with
  | none =>
    obtain rfl := rdI_nil_of_none hrd
    refine ⟨v, w, ?_, by simpa using hown, World.grownBy.refl w _, .inl rfl⟩
    rcases hown.2 with ⟨rfl, _⟩ | ⟨g, cap, cur, rfl, _, _, hnc, _⟩
    · simp [Builtin.append_, run_underlying Try.underlying23, sizeOf, typeInfo, hi, Builtin.lenOf, Builtin.firstCells]
    · simp [Builtin.append_, run_underlying Try.underlying23, sizeOf, typeInfo, hi, Builtin.lenOf, Builtin.firstCells, hnc, storeCells]
  | some ad =>
    have hnews : ∀ j u, (ints wl)[j]? = some u → w.cell? (ad.add j) = some u := fun j u hu => by
      have hj : j < wl.length := by
        have := (List.getElem?_eq_some_iff.1 hu).1
        rwa [ints_length] at this
      rw [ints_get9 wl j hj] at hu
      obtain ⟨b, off, e, _, hc⟩ := hrd.2 (by omega)
      obtain rfl : ad = ⟨b, off, none⟩ := Option.some.inj e
      have h9 := hc j (by omega)
      rw [← Option.some.inj hu, ← h9]
      by_cases h0 : j = 0
      · subst h0; simp [Addr.add]
      · simp [Addr.add, h0]
    obtain ⟨v', w', hr, h2, h3, _, h5⟩ := run_append_own_at (P := Try.prog) w base 23 ty 3 i0 (.int .i64 0) 1 8 Try.underlying23 hi hz0 hz1 hz2 rfl (by omega) v xs.length (ints xs) hown ad wl.length c (ints wl) (by rw [ints_length, Nat.mul_one]) hnews (ints_one wl)
      (by unfold maxLen; omega) (by omega) hbase
    refine ⟨v', w', hr, ?_, h3, h5⟩
    rw [List.length_append, ints_app9]
    exact h2
theorem wp_appAllI_Try {o : Oper} {a : Act} {K : Act → World → Prop} {Q : Exit → Act → World → Prop} {w : World} (s x : Operand)
    (ho : o.op = .call { callee := .builtin .append, args := #[s, x], argTypes := #[23, 23] })
    (base : Nat) (v : Value) (xs : List Int) (hs : a.eval s = v) (hown : w.ownsRow base 3 1 v xs.length (ints xs)) (A : Option Addr) (c : Nat) (wl : List Int) (hx : a.eval x = .slice A wl.length c) (hrd : RdI w A wl)
    (hn : xs.length + wl.length ≤ 1000000) (hbase : base ≤ w.heap.size)
    (h : ∀ A' c' w', w'.ownsRow base 3 1 (.slice A' (xs ++ wl).length c') (xs ++ wl).length (ints (xs ++ wl)) → w.grownBy w' v.ownBlock → ((Value.slice A' (xs ++ wl).length c').ownBlock = v.ownBlock ∨ (Value.slice A' (xs ++ wl).length c').ownBlock = some w.heap.size) → K (a.put o.dst (.slice A' (xs ++ wl).length c')) w') : o.wp Try.prog a w K Q := by
  obtain ⟨v', w', hr, h2, h3, h4⟩ := run_appAllI_Try w base v xs hown A c wl hrd hn hbase o.type
  obtain ⟨A', c', rfl, _⟩ := own_slice1R h2
  unfold Oper.wp execOp
  simp only [ho, resolve, invoke, builtin, Sem.run_bind, Sem.run_pure, Result.andThen_ok, List.map_toArray, List.map_cons, List.map_nil, hs, hx, hr]
  exact h A' c' w' h2 h3 h4
theorem wpList_appAllI_Try {ops : Array Oper} {rest : List Oper} {o : Oper} {a : Act} {Q : Exit → Act → World → Prop} {w : World} (hgd : o.guard = none) (s x : Operand)
    (ho : o.op = .call { callee := .builtin .append, args := #[s, x], argTypes := #[23, 23] })
    (base : Nat) (v : Value) (xs : List Int) (hs : a.eval s = v) (hown : w.ownsRow base 3 1 v xs.length (ints xs)) (A : Option Addr) (c : Nat) (wl : List Int) (hx : a.eval x = .slice A wl.length c) (hrd : RdI w A wl)
    (hn : xs.length + wl.length ≤ 1000000) (hbase : base ≤ w.heap.size)
    (h : ∀ A' c' w', w'.ownsRow base 3 1 (.slice A' (xs ++ wl).length c') (xs ++ wl).length (ints (xs ++ wl)) → w.grownBy w' v.ownBlock → ((Value.slice A' (xs ++ wl).length c').ownBlock = v.ownBlock ∨ (Value.slice A' (xs ++ wl).length c').ownBlock = some w.heap.size) → wpList Try.prog ops Q rest (a.put o.dst (.slice A' (xs ++ wl).length c')) w') :
    wpList Try.prog ops Q (o :: rest) a w :=
  wpList_plain hgd fun _ hK => wp_appAllI_Try s x ho base v xs hs hown A c wl hx hrd hn hbase fun A' c' w' h2 h3 h4 => hK _ _ (h A' c' w' h2 h3 h4)
theorem own_emptyI {w : World} {b base T : Nat} (hb : w.heap[b]? = some (.cells #[] T (0, 0))) (h : base ≤ b) : w.ownsRow base T 1 (.slice (some ⟨b, 0, none⟩) 0 0) ([] : List Int).length (ints []) :=
  ⟨rfl, .inr ⟨b, 0, #[], rfl, h, hb, Nat.le_refl _, by unfold maxLen; omega, rfl, rfl⟩⟩
def ClonePostI (T : Nat) (xs : List Int) (w : World) (e : Ending) (w' : World) : Prop := ∃ B d, e = .returned (.slice B xs.length d) ∧ w'.ownsRow w.heap.size T 1 (.slice B xs.length d) xs.length (ints xs) ∧ Below w.heap.size w w'
def cmpV (x y : Int) : Int := if x < y then -1 else if y < x then 1 else 0
def orI (x y : Int) : Int := if x = 0 then y else x
set_option maxRecDepth 100000 in
set_option maxHeartbeats 2000000 in
theorem CloneL_ (A : Option Addr) (c : Nat) (xs : List Int) (w : World) (hn : xs.length ≤ 1000000) (h : RdI w A xs) :
    Calls Try.prog 37 #[.slice A xs.length c] w (ClonePostI 2 xs w) := by
  have hb0 := Below.refl w.heap.size w
  have hnl := fun W => Lib.run_eql_slice_nil (P := Try.prog) W 22 2 A xs.length c 0 0 Try.underlying22
  cases A with
  | none =>
    obtain rfl := rdI_nil_of_none h
    have hnl2 : ∀ W, (binOp .eql 22 (.slice none ([] : List Int).length c) (.slice none 0 0)).run Try.prog W = .ok (.bool true) W := hnl
    have hnl3 : ∀ W, (binOp .eql 22 (.slice none 0 c) (.slice none 0 0)).run Try.prog W = .ok (.bool true) W := hnl
    clear hnl
    have HB0 := Lib.hid hb0; have H := Lib.hid h; clear hb0 h
    go_enter Try.func37, Try.ntmps37
    go_wp2
    go_ret
    exact ⟨_, 0, rfl, ⟨rfl, .inl ⟨rfl, rfl⟩⟩, HB0.out⟩
  | some ad =>
    have hnl2 : ∀ W, (binOp .eql 22 (.slice (some ad) xs.length c) (.slice none 0 0)).run Try.prog W = .ok (.bool false) W := hnl
    clear hnl
    have HB0 := Lib.hid hb0; have H := Lib.hid h; clear hb0 h
    go_enter Try.func37, Try.ntmps37
    go_wp2_with (at_builtin; refine wpList_appAllL_Try rfl _ _ rfl w.heap.size (.slice (some ⟨w.heap.size, 0, none⟩) 0 0) [] rfl (own_emptyI (heap_alloc_new _ _) (Nat.le_refl _)) (some ad) c xs rfl (H.out.later ((Below.refl _ _).alloc (Nat.le_refl _) _) (Nat.le_refl _)) (by simp; omega) (by simp) ?_; intro A1 c1 w1 hown hgrow hat)
    have hb1 : Below w.heap.size w w1 := ((Below.refl _ _).alloc (Nat.le_refl _) _).grown hgrow (by simp) (fun k hk => by simp [Value.ownBlock] at hk; omega)
    clear hat
    have hA1 : w1.ownsRow w.heap.size 2 1 (.slice A1 xs.length c1) xs.length (ints xs) := hown
    clear hown
    have HA1 := Lib.hid hA1; have HGROW := Lib.hid hgrow; have HB1 := Lib.hid hb1; clear hA1 hgrow hb1
    go_wp2
    go_ret
    exact ⟨_, c1, rfl, HA1.out, HB1.out⟩
set_option maxRecDepth 100000 in
set_option maxHeartbeats 2000000 in
theorem CloneI_ (A : Option Addr) (c : Nat) (xs : List Int) (w : World) (hn : xs.length ≤ 1000000) (h : RdI w A xs) :
    Calls Try.prog 58 #[.slice A xs.length c] w (ClonePostI 3 xs w) := by
  have hb0 := Below.refl w.heap.size w
  have hnl := fun W => Lib.run_eql_slice_nil (P := Try.prog) W 23 3 A xs.length c 0 0 Try.underlying23
  cases A with
  | none =>
    obtain rfl := rdI_nil_of_none h
    have hnl2 : ∀ W, (binOp .eql 23 (.slice none ([] : List Int).length c) (.slice none 0 0)).run Try.prog W = .ok (.bool true) W := hnl
    have hnl3 : ∀ W, (binOp .eql 23 (.slice none 0 c) (.slice none 0 0)).run Try.prog W = .ok (.bool true) W := hnl
    clear hnl
    have HB0 := Lib.hid hb0; have H := Lib.hid h; clear hb0 h
    go_enter Try.func58, Try.ntmps58
    go_wp2
    go_ret
    exact ⟨_, 0, rfl, ⟨rfl, .inl ⟨rfl, rfl⟩⟩, HB0.out⟩
  | some ad =>
    have hnl2 : ∀ W, (binOp .eql 23 (.slice (some ad) xs.length c) (.slice none 0 0)).run Try.prog W = .ok (.bool false) W := hnl
    clear hnl
    have HB0 := Lib.hid hb0; have H := Lib.hid h; clear hb0 h
    go_enter Try.func58, Try.ntmps58
    go_wp2_with (at_builtin; refine wpList_appAllI_Try rfl _ _ rfl w.heap.size (.slice (some ⟨w.heap.size, 0, none⟩) 0 0) [] rfl (own_emptyI (heap_alloc_new _ _) (Nat.le_refl _)) (some ad) c xs rfl (H.out.later ((Below.refl _ _).alloc (Nat.le_refl _) _) (Nat.le_refl _)) (by simp; omega) (by simp) ?_; intro A1 c1 w1 hown hgrow hat)
    have hb1 : Below w.heap.size w w1 := ((Below.refl _ _).alloc (Nat.le_refl _) _).grown hgrow (by simp) (fun k hk => by simp [Value.ownBlock] at hk; omega)
    clear hat
    have hA1 : w1.ownsRow w.heap.size 3 1 (.slice A1 xs.length c1) xs.length (ints xs) := hown
    clear hown
    have HA1 := Lib.hid hA1; have HGROW := Lib.hid hgrow; have HB1 := Lib.hid hb1; clear hA1 hgrow hb1
    go_wp2
    go_ret
    exact ⟨_, c1, rfl, HA1.out, HB1.out⟩
set_option maxRecDepth 100000 in
set_option maxHeartbeats 2000000 in
theorem nanI_ (x : Int) (w : World) : Calls Try.prog 79 #[.int .i64 x] w fun e w' => e = .returned (.bool false) ∧ w' = w := by
  have h1 : (x != x) = false := by simp
  go_enter Try.func79, Try.ntmps79
  go_wp2
  go_ret
  exact ⟨rfl, rfl⟩
set_option maxRecDepth 100000 in
set_option maxHeartbeats 2000000 in
theorem cmpI_ (x y : Int) (w : World) : Calls Try.prog 56 #[.int .i64 x, .int .i64 y] w fun e w' => e = .returned (.int .i64 (cmpV x y)) ∧ w' = w := by
  have hc1 := fun W => nanI_ x W
  have hc2 := fun W => nanI_ y W
  by_cases h1 : x < y
  · have hv : cmpV x y = -1 := by unfold cmpV; rw [if_pos h1]
    have d1 : decide (x < y) = true := decide_eq_true h1
    have HC1 := Lib.hid hc1; have HC2 := Lib.hid hc2; have HV := Lib.hid hv; clear hc1 hc2 hv
    go_enter Try.func56, Try.ntmps56
    go_wp2_with fail
    refine (HC1.out _).mono ?_
    rintro e w1 ⟨rfl, rfl⟩
    go_wp2_with fail
    refine (HC2.out _).mono ?_
    rintro e w1 ⟨rfl, rfl⟩
    go_wp2
    go_ret
    exact ⟨by rw [HV.out]; rfl, rfl⟩
  have d1 : decide (x < y) = false := decide_eq_false h1
  by_cases h2 : y < x
  · have hv : cmpV x y = 1 := by unfold cmpV; rw [if_neg h1, if_pos h2]
    have d2 : decide (y < x) = true := decide_eq_true h2
    have HC1 := Lib.hid hc1; have HC2 := Lib.hid hc2; have HV := Lib.hid hv; clear hc1 hc2 hv
    go_enter Try.func56, Try.ntmps56
    go_wp2_with fail
    refine (HC1.out _).mono ?_
    rintro e w1 ⟨rfl, rfl⟩
    go_wp2_with fail
    refine (HC2.out _).mono ?_
    rintro e w1 ⟨rfl, rfl⟩
    go_wp2
    go_ret
    exact ⟨by rw [HV.out]; rfl, rfl⟩
  have d2 : decide (y < x) = false := decide_eq_false h2
  have hv : cmpV x y = 0 := by unfold cmpV; rw [if_neg h1, if_neg h2]
  have HC1 := Lib.hid hc1; have HC2 := Lib.hid hc2; have HV := Lib.hid hv; clear hc1 hc2 hv
  go_enter Try.func56, Try.ntmps56
  go_wp2_with fail
  refine (HC1.out _).mono ?_
  rintro e w1 ⟨rfl, rfl⟩
  go_wp2_with fail
  refine (HC2.out _).mono ?_
  rintro e w1 ⟨rfl, rfl⟩
  go_wp2
  go_ret
  exact ⟨by rw [HV.out]; rfl, rfl⟩
set_option maxRecDepth 100000 in
set_option maxHeartbeats 2000000 in
theorem nanL_ (x : Int) (w : World) : Calls Try.prog 80 #[.int .i64 x] w fun e w' => e = .returned (.bool false) ∧ w' = w := by
  have h1 : (x != x) = false := by simp
  go_enter Try.func80, Try.ntmps80
  go_wp2
  go_ret
  exact ⟨rfl, rfl⟩
set_option maxRecDepth 100000 in
set_option maxHeartbeats 2000000 in
theorem cmpL_ (x y : Int) (w : World) : Calls Try.prog 57 #[.int .i64 x, .int .i64 y] w fun e w' => e = .returned (.int .i64 (cmpV x y)) ∧ w' = w := by
  have hc1 := fun W => nanL_ x W
  have hc2 := fun W => nanL_ y W
  by_cases h1 : x < y
  · have hv : cmpV x y = -1 := by unfold cmpV; rw [if_pos h1]
    have d1 : decide (x < y) = true := decide_eq_true h1
    have HC1 := Lib.hid hc1; have HC2 := Lib.hid hc2; have HV := Lib.hid hv; clear hc1 hc2 hv
    go_enter Try.func57, Try.ntmps57
    go_wp2_with fail
    refine (HC1.out _).mono ?_
    rintro e w1 ⟨rfl, rfl⟩
    go_wp2_with fail
    refine (HC2.out _).mono ?_
    rintro e w1 ⟨rfl, rfl⟩
    go_wp2
    go_ret
    exact ⟨by rw [HV.out]; rfl, rfl⟩
  have d1 : decide (x < y) = false := decide_eq_false h1
  by_cases h2 : y < x
  · have hv : cmpV x y = 1 := by unfold cmpV; rw [if_neg h1, if_pos h2]
    have d2 : decide (y < x) = true := decide_eq_true h2
    have HC1 := Lib.hid hc1; have HC2 := Lib.hid hc2; have HV := Lib.hid hv; clear hc1 hc2 hv
    go_enter Try.func57, Try.ntmps57
    go_wp2_with fail
    refine (HC1.out _).mono ?_
    rintro e w1 ⟨rfl, rfl⟩
    go_wp2_with fail
    refine (HC2.out _).mono ?_
    rintro e w1 ⟨rfl, rfl⟩
    go_wp2
    go_ret
    exact ⟨by rw [HV.out]; rfl, rfl⟩
  have d2 : decide (y < x) = false := decide_eq_false h2
  have hv : cmpV x y = 0 := by unfold cmpV; rw [if_neg h1, if_neg h2]
  have HC1 := Lib.hid hc1; have HC2 := Lib.hid hc2; have HV := Lib.hid hv; clear hc1 hc2 hv
  go_enter Try.func57, Try.ntmps57
  go_wp2_with fail
  refine (HC1.out _).mono ?_
  rintro e w1 ⟨rfl, rfl⟩
  go_wp2_with fail
  refine (HC2.out _).mono ?_
  rintro e w1 ⟨rfl, rfl⟩
  go_wp2
  go_ret
  exact ⟨by rw [HV.out]; rfl, rfl⟩
set_option maxRecDepth 100000 in
set_option maxHeartbeats 2000000 in
theorem OrI_ (b : Nat) (x y : Int) (w : World) (hc : w.heap[b]? = some (.cells #[.int .i64 x, .int .i64 y] 3 (0, 0))) :
    Calls Try.prog 55 #[.slice (some ⟨b, 0, none⟩) 2 2] w fun e w' => e = .returned (.int .i64 (orI x y)) ∧ w = w' := by
  have c0 : w.cell? ⟨b, 0, none⟩ = some (.int .i64 x) := cell_of_row w b 0 _ _ _ hc
  have c1 : w.cell? ⟨b, 1, none⟩ = some (.int .i64 y) := cell_of_row w b 1 _ _ _ hc
  clear hc
  go_enter Try.func55, Try.ntmps55
  go_wp2
  go_loop [8] (fun i => ∃ k : Nat, i = .int .i64 k ∧ k ≤ 2 ∧ (0 < k → x = 0) ∧ (1 < k → y = 0)) (fun i => 2 - (intOf i).toNat)
  case atStart => exact ⟨0, rfl, by omega, fun h => absurd h (by omega), fun h => absurd h (by omega)⟩
  case round =>
    obtain ⟨k, rfl, hk, h0, h1⟩ := hrel
    have H0 := Lib.hid h0; clear h0
    have H1 := Lib.hid h1; clear h1
    obtain rfl | rfl | rfl : k = 0 ∨ k = 1 ∨ k = 2 := by omega
    · by_cases hx : x = 0
      · have hb : (x != 0) = false := by simpa using hx
        have HX := Lib.hid hx; clear hx
        go_wp2
        go_round
        case rel => exact ⟨1, by go_num, by omega, fun _ => HX.out, fun h => absurd h (by omega)⟩
        case measure => simp [intOf]
      · have hb : (x != 0) = true := by simpa using hx
        have HX := Lib.hid hx; clear hx
        go_wp2
        go_ret
        exact ⟨ret_int (by unfold orI; rw [if_neg HX.out]), rfl⟩
    · by_cases hx : y = 0
      · have hb : (y != 0) = false := by simpa using hx
        have HX := Lib.hid hx; clear hx
        go_wp2
        go_round
        case rel => exact ⟨2, by go_num, by omega, fun _ => H0.out (by omega), fun _ => HX.out⟩
        case measure => simp [intOf]
      · have hb : (y != 0) = true := by simpa using hx
        have HX := Lib.hid hx; clear hx
        go_wp2
        go_ret
        exact ⟨ret_int (by unfold orI; rw [if_pos (H0.out (by omega))]), rfl⟩
    · go_wp2
      go_ret
      exact ⟨ret_int (by unfold orI; rw [if_pos (H0.out (by omega)), H1.out (by omega)]), rfl⟩
end Go.Proofs.Ytdimaapiloojeaa
/- ContainsFunc with the closures of the spools; what is wrong with needs and spools. -/
namespace Go.Proofs.Ytdimaapiloojeaa
open Go.RowKit

def wrgI (x : Int) : Bool := outR x 1 1000000000000
def negI (x : Int) : Bool := decide (x < 0)
def offI (n : Nat) (x : Int) : Bool := decide (x < 0) || decide ((n : Int) ≤ x)
theorem any_succI (xs : List Int) (P : Int → Bool) (k : Nat) (hk : k < xs.length) : (xs.take (k + 1)).any P = ((xs.take k).any P || P xs[k]) := by
  rw [List.take_succ_eq_append_getElem hk, List.any_append]; simp
set_option maxRecDepth 100000 in
set_option maxHeartbeats 2000000 in
theorem wrong1_ (x : Int) (w : World) : Calls Try.prog 54 #[.int .i64 x] w (BoolPost (wrgI x) w) := by
  have hc := fun W => bOutside_ x 1 1000000000000 W
  have HC := Lib.hid hc; clear hc
  go_enter Try.func54, Try.ntmps54
  go_wp2_with fail
  refine (HC.out _).mono ?_
  rintro e w1 ⟨rfl, b1⟩
  have B1 := Lib.hid b1; clear b1
  go_wp2
  go_ret
  exact ⟨rfl, B1.out⟩
set_option maxRecDepth 100000 in
set_option maxHeartbeats 2000000 in
theorem rest2_ (x : Int) (w : World) : Calls Try.prog 39 #[.int .i64 x] w (BoolPost (negI x) w) := by
  have hb := Below.refl w.heap.size w
  have HB := Lib.hid hb; clear hb
  go_enter Try.func39, Try.ntmps39
  go_wp2
  go_ret
  exact ⟨rfl, HB.out⟩
set_option maxRecDepth 100000 in
set_option maxHeartbeats 2000000 in
theorem rest1_ (X n c : Nat) (A : Option Addr) (x : Int) (w : World) (hX : w.heap[X]? = some (.cells #[.slice A n c] 22 (0, 0))) : Calls Try.prog 36 #[.int .i64 x, .pointer (some ⟨X, 0, none⟩)] w (BoolPost (offI n x) w) := by
  have hb := Below.refl w.heap.size w
  have c0 := cell_of_row _ _ 0 _ _ _ hX
  simp only [List.getElem?_toArray, List.getElem?_cons_zero] at c0
  have l0 := lt_of_block hX
  obtain ⟨r, hr⟩ : ∃ r, r = offI n x := ⟨_, rfl⟩
  rw [← hr]
  unfold offI at hr
  by_cases h1 : x < 0
  · have d1 : decide (x < 0) = true := decide_eq_true h1
    rw [d1, Bool.true_or] at hr
    subst hr
    have HB := Lib.hid hb; have HX := Lib.hid hX; clear hb hX
    go_enter Try.func36, Try.ntmps36
    go_wp2
    go_ret
    exact ⟨rfl, HB.out⟩
  have d1 : decide (x < 0) = false := decide_eq_false h1
  rw [d1, Bool.false_or] at hr
  by_cases h2 : (n : Int) ≤ x
  · have d2 : decide ((n : Int) ≤ x) = true := decide_eq_true h2
    rw [d2] at hr
    subst hr
    have HB := Lib.hid hb; have HX := Lib.hid hX; clear hb hX
    go_enter Try.func36, Try.ntmps36
    go_wp2
    go_ret
    exact ⟨rfl, HB.out⟩
  · have d2 : decide ((n : Int) ≤ x) = false := decide_eq_false h2
    rw [d2] at hr
    subst hr
    have HB := Lib.hid hb; have HX := Lib.hid hX; clear hb hX
    go_enter Try.func36, Try.ntmps36
    go_wp2
    go_ret
    exact ⟨rfl, HB.out⟩
set_option maxRecDepth 100000 in
set_option maxHeartbeats 2000000 in
theorem indW_ (A : Option Addr) (c : Nat) (xs : List Int) (w : World) (hr : RdI w A xs) :
    Calls Try.prog 60 #[.slice A xs.length c, .func (.func 54) #[] #[]] w (IdxRP (xs.any wrgI) w) := by
  have hln := hr.1
  have hb := Below.refl w.heap.size w
  have HR := Lib.hid hr; have HB := Lib.hid hb; clear hr hb
  go_enter Try.func60, Try.ntmps60
  go_wp2
  go_loopw [5, 8] (fun _ iv wr => ∃ k : Nat, iv = .int .i64 k ∧ k ≤ xs.length ∧ (xs.take k).any wrgI = false ∧ Below w.heap.size w wr) (fun _ iv _ => xs.length - (intOf iv).toNat)
  case atStart => exact ⟨0, rfl, Nat.zero_le _, rfl, HB.out⟩
  case round =>
    obtain ⟨k, rfl, hk, hno, hbw⟩ := hrel
    by_cases hlt : k < xs.length
    · obtain ⟨bl, ol, rfl, hbl, l1⟩ := (HR.out.later hbw (Nat.le_refl _)).at_ hlt
      have hts := any_succI xs wrgI k hlt
      have hhit : wrgI xs[k] = true → xs.any wrgI = true := fun h => List.any_eq_true.2 ⟨_, List.getElem_mem hlt, h⟩
      have hcall := fun W => wrong1_ xs[k] W
      generalize xs[k] = x at *
      have x1 : (0 : Int) ≤ (k : Int) := by omega
      have x2 : (k : Int) < (xs.length : Int) := by omega
      obtain ⟨g, hg⟩ : ∃ g, g = wrgI x := ⟨_, rfl⟩
      rw [← hg] at hcall hts hhit
      cases g with
      | true =>
        have hres := hhit rfl
        clear hhit
        have HNO := Lib.hid hno; have HTS := Lib.hid hts; have HRES := Lib.hid hres; have HBW := Lib.hid hbw; have HCALL := Lib.hid hcall; have HG := Lib.hid hg; clear hno hts hres hbw hcall hg
        go_wp2_with fail
        refine (HCALL.out _).mono ?_
        rintro e w1 ⟨rfl, b1⟩
        have hb1 := HBW.out.trans (b1.mono HBW.out.size)
        clear b1
        have HB1 := Lib.hid hb1; clear hb1
        go_wp2
        go_ret
        exact ⟨k, rfl, by rw [HRES.out]; simp, HB1.out⟩
      | false =>
        have hno2 : (xs.take (k + 1)).any wrgI = false := by rw [hts, hno]; rfl
        clear hhit
        have HNO := Lib.hid hno; have HTS := Lib.hid hts; have HNO2 := Lib.hid hno2; have HBW := Lib.hid hbw; have HCALL := Lib.hid hcall; have HG := Lib.hid hg; clear hno hts hno2 hbw hcall hg
        go_wp2_with fail
        refine (HCALL.out _).mono ?_
        rintro e w1 ⟨rfl, b1⟩
        have hb1 := HBW.out.trans (b1.mono HBW.out.size)
        clear b1
        have HB1 := Lib.hid hb1; clear hb1
        go_wp2
        go_roundw
        case rel => exact ⟨k + 1, by go_num, by omega, HNO2.out, HB1.out⟩
        case measure => simp [intOf]; omega
    · have hres : xs.any wrgI = false := by rw [List.take_of_length_le (by omega)] at hno; exact hno
      have HNO := Lib.hid hno; have HBW := Lib.hid hbw; have HRES := Lib.hid hres; clear hno hbw hres
      go_wp2
      go_ret
      exact ⟨-1, rfl, by rw [HRES.out]; simp, HBW.out⟩
set_option maxRecDepth 100000 in
set_option maxHeartbeats 2000000 in
theorem indD_ (A : Option Addr) (c : Nat) (xs : List Int) (w : World) (hr : RdI w A xs) :
    Calls Try.prog 60 #[.slice A xs.length c, .func (.func 39) #[] #[]] w (IdxRP (xs.any negI) w) := by
  have hln := hr.1
  have hb := Below.refl w.heap.size w
  have HR := Lib.hid hr; have HB := Lib.hid hb; clear hr hb
  go_enter Try.func60, Try.ntmps60
  go_wp2
  go_loopw [5, 8] (fun _ iv wr => ∃ k : Nat, iv = .int .i64 k ∧ k ≤ xs.length ∧ (xs.take k).any negI = false ∧ Below w.heap.size w wr) (fun _ iv _ => xs.length - (intOf iv).toNat)
  case atStart => exact ⟨0, rfl, Nat.zero_le _, rfl, HB.out⟩
  case round =>
    obtain ⟨k, rfl, hk, hno, hbw⟩ := hrel
    by_cases hlt : k < xs.length
    · obtain ⟨bl, ol, rfl, hbl, l1⟩ := (HR.out.later hbw (Nat.le_refl _)).at_ hlt
      have hts := any_succI xs negI k hlt
      have hhit : negI xs[k] = true → xs.any negI = true := fun h => List.any_eq_true.2 ⟨_, List.getElem_mem hlt, h⟩
      have hcall := fun W => rest2_ xs[k] W
      generalize xs[k] = x at *
      have x1 : (0 : Int) ≤ (k : Int) := by omega
      have x2 : (k : Int) < (xs.length : Int) := by omega
      obtain ⟨g, hg⟩ : ∃ g, g = negI x := ⟨_, rfl⟩
      rw [← hg] at hcall hts hhit
      cases g with
      | true =>
        have hres := hhit rfl
        clear hhit
        have HNO := Lib.hid hno; have HTS := Lib.hid hts; have HRES := Lib.hid hres; have HBW := Lib.hid hbw; have HCALL := Lib.hid hcall; have HG := Lib.hid hg; clear hno hts hres hbw hcall hg
        go_wp2_with fail
        refine (HCALL.out _).mono ?_
        rintro e w1 ⟨rfl, b1⟩
        have hb1 := HBW.out.trans (b1.mono HBW.out.size)
        clear b1
        have HB1 := Lib.hid hb1; clear hb1
        go_wp2
        go_ret
        exact ⟨k, rfl, by rw [HRES.out]; simp, HB1.out⟩
      | false =>
        have hno2 : (xs.take (k + 1)).any negI = false := by rw [hts, hno]; rfl
        clear hhit
        have HNO := Lib.hid hno; have HTS := Lib.hid hts; have HNO2 := Lib.hid hno2; have HBW := Lib.hid hbw; have HCALL := Lib.hid hcall; have HG := Lib.hid hg; clear hno hts hno2 hbw hcall hg
        go_wp2_with fail
        refine (HCALL.out _).mono ?_
        rintro e w1 ⟨rfl, b1⟩
        have hb1 := HBW.out.trans (b1.mono HBW.out.size)
        clear b1
        have HB1 := Lib.hid hb1; clear hb1
        go_wp2
        go_roundw
        case rel => exact ⟨k + 1, by go_num, by omega, HNO2.out, HB1.out⟩
        case measure => simp [intOf]; omega
    · have hres : xs.any negI = false := by rw [List.take_of_length_le (by omega)] at hno; exact hno
      have HNO := Lib.hid hno; have HBW := Lib.hid hbw; have HRES := Lib.hid hres; clear hno hbw hres
      go_wp2
      go_ret
      exact ⟨-1, rfl, by rw [HRES.out]; simp, HBW.out⟩
set_option maxRecDepth 100000 in
set_option maxHeartbeats 2000000 in
theorem indK_ (X n c0 : Nat) (A0 : Option Addr) (A : Option Addr) (c : Nat) (xs : List Int) (w : World) (hr : RdI w A xs) (hX : w.heap[X]? = some (.cells #[.slice A0 n c0] 22 (0, 0))) :
    Calls Try.prog 59 #[.slice A xs.length c, .func (.func 36) #[] #[.pointer (some ⟨X, 0, none⟩)]] w (IdxRP (xs.any (offI n)) w) := by
  have hln := hr.1
  have hb := Below.refl w.heap.size w
  have HR := Lib.hid hr; have HB := Lib.hid hb; have HX := Lib.hid hX; clear hr hb hX
  go_enter Try.func59, Try.ntmps59
  go_wp2
  go_loopw [5, 8] (fun _ iv wr => ∃ k : Nat, iv = .int .i64 k ∧ k ≤ xs.length ∧ (xs.take k).any (offI n) = false ∧ Below w.heap.size w wr) (fun _ iv _ => xs.length - (intOf iv).toNat)
  case atStart => exact ⟨0, rfl, Nat.zero_le _, rfl, HB.out⟩
  case round =>
    obtain ⟨k, rfl, hk, hno, hbw⟩ := hrel
    by_cases hlt : k < xs.length
    · obtain ⟨bl, ol, rfl, hbl, l1⟩ := (HR.out.later hbw (Nat.le_refl _)).at_ hlt
      have hts := any_succI xs (offI n) k hlt
      have hhit : (offI n) xs[k] = true → xs.any (offI n) = true := fun h => List.any_eq_true.2 ⟨_, List.getElem_mem hlt, h⟩
      have hcall := fun W (hW : W.heap[X]? = some (.cells #[.slice A0 n c0] 22 (0, 0))) => rest1_ X n c0 A0 xs[k] W hW
      generalize xs[k] = x at *
      have x1 : (0 : Int) ≤ (k : Int) := by omega
      have x2 : (k : Int) < (xs.length : Int) := by omega
      obtain ⟨g, hg⟩ : ∃ g, g = (offI n) x := ⟨_, rfl⟩
      rw [← hg] at hcall hts hhit
      cases g with
      | true =>
        have hres := hhit rfl
        clear hhit
        have HNO := Lib.hid hno; have HTS := Lib.hid hts; have HRES := Lib.hid hres; have HBW := Lib.hid hbw; have HCALL := Lib.hid hcall; have HG := Lib.hid hg; clear hno hts hres hbw hcall hg
        go_wp2_with fail
        refine (HCALL.out _ ((HBW.out.block _ (lt_of_block HX.out)).trans HX.out)).mono ?_
        rintro e w1 ⟨rfl, b1⟩
        have hb1 := HBW.out.trans (b1.mono HBW.out.size)
        clear b1
        have HB1 := Lib.hid hb1; clear hb1
        go_wp2
        go_ret
        exact ⟨k, rfl, by rw [HRES.out]; simp, HB1.out⟩
      | false =>
        have hno2 : (xs.take (k + 1)).any (offI n) = false := by rw [hts, hno]; rfl
        clear hhit
        have HNO := Lib.hid hno; have HTS := Lib.hid hts; have HNO2 := Lib.hid hno2; have HBW := Lib.hid hbw; have HCALL := Lib.hid hcall; have HG := Lib.hid hg; clear hno hts hno2 hbw hcall hg
        go_wp2_with fail
        refine (HCALL.out _ ((HBW.out.block _ (lt_of_block HX.out)).trans HX.out)).mono ?_
        rintro e w1 ⟨rfl, b1⟩
        have hb1 := HBW.out.trans (b1.mono HBW.out.size)
        clear b1
        have HB1 := Lib.hid hb1; clear hb1
        go_wp2
        go_roundw
        case rel => exact ⟨k + 1, by go_num, by omega, HNO2.out, HB1.out⟩
        case measure => simp [intOf]; omega
    · have hres : xs.any (offI n) = false := by rw [List.take_of_length_le (by omega)] at hno; exact hno
      have HNO := Lib.hid hno; have HBW := Lib.hid hbw; have HRES := Lib.hid hres; clear hno hbw hres
      go_wp2
      go_ret
      exact ⟨-1, rfl, by rw [HRES.out]; simp, HBW.out⟩
set_option maxRecDepth 100000 in
set_option maxHeartbeats 2000000 in
theorem contW_ (A : Option Addr) (c : Nat) (xs : List Int) (w : World) (hr : RdI w A xs) :
    Calls Try.prog 38 #[.slice A xs.length c, .func (.func 54) #[] #[]] w (BoolPost (xs.any wrgI) w) := by
  have HR := Lib.hid hr; clear hr
  go_enter Try.func38, Try.ntmps38
  go_wp2_with fail
  refine (indW_ A c xs _ HR.out).mono ?_
  rintro e w1 ⟨r, rfl, hr2, hb⟩
  have HR2 := Lib.hid hr2; have HB := Lib.hid hb; clear hr2 hb
  go_wp2
  go_ret
  exact ⟨ret_bool HR2.out, HB.out⟩
set_option maxRecDepth 100000 in
set_option maxHeartbeats 2000000 in
theorem contD_ (A : Option Addr) (c : Nat) (xs : List Int) (w : World) (hr : RdI w A xs) :
    Calls Try.prog 38 #[.slice A xs.length c, .func (.func 39) #[] #[]] w (BoolPost (xs.any negI) w) := by
  have HR := Lib.hid hr; clear hr
  go_enter Try.func38, Try.ntmps38
  go_wp2_with fail
  refine (indD_ A c xs _ HR.out).mono ?_
  rintro e w1 ⟨r, rfl, hr2, hb⟩
  have HR2 := Lib.hid hr2; have HB := Lib.hid hb; clear hr2 hb
  go_wp2
  go_ret
  exact ⟨ret_bool HR2.out, HB.out⟩
set_option maxRecDepth 100000 in
set_option maxHeartbeats 2000000 in
theorem contK_ (X n c0 : Nat) (A0 : Option Addr) (A : Option Addr) (c : Nat) (xs : List Int) (w : World) (hr : RdI w A xs) (hX : w.heap[X]? = some (.cells #[.slice A0 n c0] 22 (0, 0))) :
    Calls Try.prog 35 #[.slice A xs.length c, .func (.func 36) #[] #[.pointer (some ⟨X, 0, none⟩)]] w (BoolPost (xs.any (offI n)) w) := by
  have HR := Lib.hid hr; have HX := Lib.hid hX; clear hr hX
  go_enter Try.func35, Try.ntmps35
  go_wp2_with fail
  refine (indK_ X n c0 A0 A c xs _ HR.out HX.out).mono ?_
  rintro e w1 ⟨r, rfl, hr2, hb⟩
  have HR2 := Lib.hid hr2; have HB := Lib.hid hb; clear hr2 hb
  go_wp2
  go_ret
  exact ⟨ret_bool HR2.out, HB.out⟩
/-- What is wrong with needs and spools. -/
def wrgE (needs spools : List Int) : Int := if 8 < needs.length ∨ 6 < spools.length then 3 else if needs.any wrgI = true ∨ spools.any wrgI = true then 2 else 0
set_option maxRecDepth 100000 in
set_option maxHeartbeats 4000000 in
theorem bWrong_ (A B : Option Addr) (c d : Nat) (xs ys : List Int) (w : World) (hx : RdI w A xs) (hy : RdI w B ys) :
    Calls Try.prog 32 #[.slice A xs.length c, .slice B ys.length d] w (IntPost (wrgE xs ys) w) := by
  have hb := Below.refl w.heap.size w
  have hc1 := fun W hb => contW_ A c xs W (hx.later (B := w.heap.size) (w' := W) hb (Nat.le_refl _))
  have hc2 := fun W hb => contW_ B d ys W (hy.later (B := w.heap.size) (w' := W) hb (Nat.le_refl _))
  obtain ⟨E, hE⟩ : ∃ E, E = wrgE xs ys := ⟨_, rfl⟩
  rw [← hE]
  unfold wrgE at hE
  by_cases h1 : 8 < xs.length
  · have d1 : decide ((8 : Int) < (xs.length : Int)) = true := decide_eq_true (by omega)
    rw [if_pos (.inl h1)] at hE
    have HB := Lib.hid hb; have HC1 := Lib.hid hc1; have HC2 := Lib.hid hc2; have HE := Lib.hid hE; have HX := Lib.hid hx; have HY := Lib.hid hy; clear hb hc1 hc2 hE hx hy
    go_enter Try.func32, Try.ntmps32
    go_wp2
    go_ret
    exact ⟨by rw [HE.out]; rfl, HB.out⟩
  have d1 : decide ((8 : Int) < (xs.length : Int)) = false := decide_eq_false (by omega)
  by_cases h2 : 6 < ys.length
  · have d2 : decide ((6 : Int) < (ys.length : Int)) = true := decide_eq_true (by omega)
    rw [if_pos (.inr h2)] at hE
    have HB := Lib.hid hb; have HC1 := Lib.hid hc1; have HC2 := Lib.hid hc2; have HE := Lib.hid hE; have HX := Lib.hid hx; have HY := Lib.hid hy; clear hb hc1 hc2 hE hx hy
    go_enter Try.func32, Try.ntmps32
    go_wp2
    go_ret
    exact ⟨by rw [HE.out]; rfl, HB.out⟩
  have d2 : decide ((6 : Int) < (ys.length : Int)) = false := decide_eq_false (by omega)
  rw [if_neg (by omega)] at hE
  generalize xs.any wrgI = p1 at *
  generalize ys.any wrgI = p2 at *
  cases p1 with
  | true =>
    rw [if_pos (.inl rfl)] at hE
    have HB := Lib.hid hb; have HC1 := Lib.hid hc1; have HC2 := Lib.hid hc2; have HE := Lib.hid hE; have HX := Lib.hid hx; have HY := Lib.hid hy; clear hb hc1 hc2 hE hx hy
    go_enter Try.func32, Try.ntmps32
    go_wp2_with fail
    refine (HC1.out _ HB.out).mono ?_
    rintro e w1 ⟨rfl, b1⟩
    have B1 := Lib.hid b1; clear b1
    go_wp2
    go_ret
    exact ⟨by rw [HE.out]; rfl, B1.out⟩
  | false =>
    have hE2 : E = if p2 = true then 2 else 0 := by rw [hE]; simp
    clear hE
    have HB := Lib.hid hb; have HC1 := Lib.hid hc1; have HC2 := Lib.hid hc2; have HE2 := Lib.hid hE2; have HX := Lib.hid hx; have HY := Lib.hid hy; clear hb hc1 hc2 hE2 hx hy
    go_enter Try.func32, Try.ntmps32
    go_wp2_with fail
    refine (HC1.out _ HB.out).mono ?_
    rintro e w1 ⟨rfl, b1⟩
    have B1 := Lib.hid b1; clear b1
    go_wp2_with fail
    refine (HC2.out _ B1.out).mono ?_
    rintro e w2 ⟨rfl, b2⟩
    have hb2 := B1.out.trans (b2.mono B1.out.size)
    clear b2 B1
    have HB2 := Lib.hid hb2; clear hb2
    cases p2 with
    | true =>
      go_wp2
      go_ret
      exact ⟨by rw [HE2.out]; rfl, HB2.out⟩
    | false =>
      go_wp2
      go_ret
      exact ⟨by rw [HE2.out]; rfl, HB2.out⟩
end Go.Proofs.Ytdimaapiloojeaa
/- Windings, pure: the fewest knots, and the first list of them. -/
namespace Go.Proofs.Ytdimaapiloojeaa
open Go.RowKit

/-- A winding from place i on: the positions of its knots. -/
def WdP (al : Nat → Int) (n : Nat) (most : Int) : Nat → List Nat → Prop
  | i, [] => al (n - 1) - al i ≤ most
  | i, q :: l => i < q ∧ q + 1 < n ∧ al q - al i ≤ most ∧ WdP al n most q l
def lexLe : List Nat → List Nat → Prop
  | [], _ => True
  | _ :: _, [] => False
  | a :: l, b :: m => a < b ∨ a = b ∧ lexLe l m
theorem lexLe_anti : ∀ {l m : List Nat}, l.length = m.length → lexLe l m → lexLe m l → l = m
  | [], [], _, _, _ => rfl
  | [], _ :: _, h, _, _ => by cases h
  | _ :: _, [], h, _, _ => by cases h
  | a :: l, b :: m, h, h1, h2 => by
    unfold lexLe at h1 h2
    have h3 : a = b := by omega
    have h4 : l.length = m.length := by simpa using h
    rw [h3, lexLe_anti h4 (by rcases h1 with h | h; omega; exact h.2) (by rcases h2 with h | h; omega; exact h.2)]
/-- The numbers behind the places are those of the knots that are needed. -/
structure BhIs (al : Nat → Int) (n : Nat) (most : Int) (b : Nat → Int) : Prop where
  last : b (n - 1) = 0
  st : ∀ j, j + 1 < n → ∃ t, Fl al n most j t ∧ b j = bhv n b j t
  mono : ∀ i j, i ≤ j → j < n → al i ≤ al j
theorem bhv_le (n : Nat) (b : Nat → Int) (i : Nat) : ∀ t, bhv n b i t ≤ 1073741824
  | 0 => by unfold bhv; omega
  | t + 1 => by have := bhv_le n b i t; unfold bhv; omega
theorem bhv_le2 (n : Nat) (b : Nat → Int) (i : Nat) : ∀ t s, s < t → bhv n b i t ≤ b (i + 1 + s) + mrI n (i + 1 + s)
  | 0, s, h => absurd h (by omega)
  | t + 1, s, h => by
    unfold bhv
    rcases Nat.lt_or_ge s t with h1 | h1
    · have := bhv_le2 n b i t s h1; omega
    · obtain rfl : s = t := by omega
      omega
theorem bhv_eq (n : Nat) (b : Nat → Int) (i : Nat) : ∀ t, bhv n b i t = 1073741824 ∨ ∃ s, s < t ∧ bhv n b i t = b (i + 1 + s) + mrI n (i + 1 + s)
  | 0 => .inl rfl
  | t + 1 => by
    unfold bhv
    rcases Int.le_total (bhv n b i t) (b (i + 1 + t) + mrI n (i + 1 + t)) with h | h
    · rw [Int.min_eq_left h]
      rcases bhv_eq n b i t with h1 | ⟨s, h1, h2⟩
      · exact .inl h1
      · exact .inr ⟨s, by omega, h2⟩
    · rw [Int.min_eq_right h]
      exact .inr ⟨t, by omega, rfl⟩
section
variable {al : Nat → Int} {n : Nat} {most : Int} {b : Nat → Int}
theorem BhIs.reach (h : BhIs al n most b) {i t : Nat} (hf : Fl al n most i t) {k : Nat} (h1 : i < k) (h2 : k < n) (h3 : al k - al i ≤ most) : ∃ s, s < t ∧ k = i + 1 + s := by
  rcases Nat.lt_or_ge (k - i - 1) t with h4 | h4
  · exact ⟨k - i - 1, h4, by omega⟩
  · refine absurd ⟨by omega, ?_⟩ hf.2
    have := h.mono (i + 1 + t) k (by omega) h2
    omega
theorem BhIs.step (h : BhIs al n most b) {i k : Nat} (h1 : i < k) (h2 : k < n) (h3 : al k - al i ≤ most) : b i ≤ b k + mrI n k := by
  obtain ⟨t, hf, hb⟩ := h.st i (by omega)
  obtain ⟨s, hs, rfl⟩ := h.reach hf h1 h2 h3
  rw [hb]
  exact bhv_le2 n b i t s hs
theorem BhIs.nn (h : BhIs al n most b) : ∀ d j, j + d + 1 = n → 0 ≤ b j := by
  intro d
  induction d using Nat.strongRecOn with
  | _ d ih =>
    intro j hj
    rcases Nat.eq_zero_or_pos d with h0 | h0
    · have : j = n - 1 := by omega
      rw [this, h.last]; omega
    · obtain ⟨t, hf, hb⟩ := h.st j (by omega)
      rcases bhv_eq n b j t with h1 | ⟨s, hs, h1⟩
      · omega
      · have h2 := (hf.1 s hs).1
        have h3 := ih (n - 1 - (j + 1 + s)) (by omega) (j + 1 + s) (by omega)
        have h4 : 0 ≤ mrI n (j + 1 + s) := by unfold mrI; split <;> omega
        omega
theorem BhIs.le1 (h : BhIs al n most b) {j : Nat} (hj : j + 1 < n) : b j ≤ 1073741824 := by
  obtain ⟨t, hf, hb⟩ := h.st j hj
  rw [hb]; exact bhv_le _ _ _ _
theorem BhIs.le (h : BhIs al n most b) : ∀ (l : List Nat) (j : Nat), j < n → WdP al n most j l → b j ≤ l.length
  | [], j, hj, hw => by
    unfold WdP at hw
    rcases Nat.lt_or_ge j (n - 1) with h1 | h1
    · have h2 := h.step (k := n - 1) h1 (by omega) hw
      have h3 : mrI n (n - 1) = 0 := by unfold mrI; rw [if_pos (by omega)]
      rw [h.last, h3] at h2
      simpa using h2
    · have : j = n - 1 := by omega
      rw [this, h.last]; simp
  | q :: l, j, hj, hw => by
    unfold WdP at hw
    obtain ⟨h1, h2, h3, h4⟩ := hw
    have h5 := h.le l q (by omega) h4
    have h6 := h.step h1 (by omega) h3
    have h7 : mrI n q = 1 := by unfold mrI; rw [if_neg (by omega)]
    simp only [List.length_cons]
    omega
/-- The way on: the first place with a knot less behind it. -/
def Nxt (al : Nat → Int) (n : Nat) (most : Int) (b : Nat → Int) (i q : Nat) : Prop := i < q ∧ q + 1 < n ∧ al q - al i ≤ most ∧ b q = b i - 1 ∧ ∀ k, i < k → k + 1 < n → al k - al i ≤ most → b k = b i - 1 → q ≤ k
inductive ChT (al : Nat → Int) (n : Nat) (most : Int) (b : Nat → Int) : Nat → List Nat → Prop
  | nil {i : Nat} : b i = 0 → ChT al n most b i []
  | cons {i q : Nat} {l : List Nat} : 0 < b i → Nxt al n most b i q → ChT al n most b q l → ChT al n most b i (q :: l)
theorem nxv_spec (n : Nat) (b : Nat → Int) (i : Nat) : ∀ t, (∀ s, s < t → i + 1 + s + 1 < n → b (i + 1 + s) = b i - 1 → nxv n b i t ≤ i + 1 + s) ∧ (nxv n b i t = n ∨ ∃ s, s < t ∧ nxv n b i t = i + 1 + s ∧ i + 1 + s + 1 < n ∧ b (i + 1 + s) = b i - 1)
  | 0 => ⟨fun s hs => absurd hs (by omega), .inl rfl⟩
  | t + 1 => by
    obtain ⟨h1, h2⟩ := nxv_spec n b i t
    unfold nxv
    split
    · rename_i hc
      refine ⟨fun s hs h3 h4 => ?_, ?_⟩
      · rcases Nat.lt_or_ge s t with h5 | h5
        · have := h1 s h5 h3 h4; omega
        · omega
      · rcases Nat.le_total (nxv n b i t) (i + 1 + t) with h5 | h5
        · rw [Nat.min_eq_left h5]
          rcases h2 with h2 | ⟨s, h6, h7⟩
          · omega
          · exact .inr ⟨s, by omega, h7⟩
        · rw [Nat.min_eq_right h5]
          exact .inr ⟨t, by omega, rfl, hc⟩
    · rename_i hc
      refine ⟨fun s hs h3 h4 => ?_, ?_⟩
      · rcases Nat.lt_or_ge s t with h5 | h5
        · exact h1 s h5 h3 h4
        · obtain rfl : s = t := by omega
          exact absurd ⟨h3, h4⟩ hc
      · rcases h2 with h2 | ⟨s, h6, h7⟩
        · exact .inl h2
        · exact .inr ⟨s, by omega, h7⟩
theorem BhIs.nxt (h : BhIs al n most b) {i t : Nat} (hi : i + 1 < n) (hf : Fl al n most i t) (h0 : 0 < b i) (h1 : b i < 1073741824) : Nxt al n most b i (nxv n b i t) := by
  obtain ⟨k1, k2⟩ := nxv_spec n b i t
  have hle : ∀ k, i < k → k + 1 < n → al k - al i ≤ most → b k = b i - 1 → nxv n b i t ≤ k := fun k q1 q2 q3 q4 => by
    obtain ⟨s, hs, rfl⟩ := h.reach hf q1 (by omega) q3
    exact k1 s hs q2 q4
  have hex : ∃ k, i < k ∧ k + 1 < n ∧ al k - al i ≤ most ∧ b k = b i - 1 := by
    obtain ⟨t2, hf2, hb⟩ := h.st i hi
    rcases bhv_eq n b i t2 with h2 | ⟨s, hs, h2⟩
    · omega
    · obtain ⟨h3, h4⟩ := hf2.1 s hs
      have h5 := h.last
      unfold mrI at h2
      split at h2
      · rename_i e
        have : i + 1 + s = n - 1 := by omega
        rw [this] at h2
        omega
      · exact ⟨i + 1 + s, by omega, by omega, h4, by omega⟩
  rcases k2 with k2 | ⟨s, hs, e, h3, h4⟩
  · obtain ⟨k, q1, q2, q3, q4⟩ := hex
    have := hle k q1 q2 q3 q4
    omega
  · rw [e]
    rw [e] at hle
    exact ⟨by omega, h3, (hf.1 s hs).2, h4, hle⟩
theorem ChT.best (h : BhIs al n most b) (hm : 0 ≤ most) {i : Nat} {l : List Nat} (hc : ChT al n most b i l) (hi : i < n) (hb : b i < 1073741824) :
    WdP al n most i l ∧ (l.length : Int) = b i ∧ ∀ m, WdP al n most i m → m.length = l.length → lexLe l m := by
  induction hc with
  | @nil i h0 =>
    refine ⟨?_, by simp [h0], fun m _ _ => trivial⟩
    unfold WdP
    rcases Nat.lt_or_ge i (n - 1) with h1 | h1
    · obtain ⟨t, hf, hb⟩ := h.st i (by omega)
      rcases bhv_eq n b i t with h2 | ⟨s, hs, h2⟩
      · omega
      · obtain ⟨h3, h4⟩ := hf.1 s hs
        have h5 := h.nn (n - 1 - (i + 1 + s)) (i + 1 + s) (by omega)
        unfold mrI at h2
        split at h2
        · rename_i e
          have : i + 1 + s = n - 1 := by omega
          rw [← this]; exact h4
        · omega
    · have : i = n - 1 := by omega
      rw [this]; omega
  | @cons i q l h0 hn hc ih =>
    obtain ⟨n1, n2, n3, n4, n5⟩ := hn
    obtain ⟨k1, k2, k3⟩ := ih (by omega) (by omega)
    refine ⟨⟨n1, n2, n3, k1⟩, by simp only [List.length_cons]; omega, fun m hw hl => ?_⟩
    cases m with
    | nil => simp at hl
    | cons q' m =>
      unfold WdP at hw
      obtain ⟨w1, w2, w3, w4⟩ := hw
      simp only [List.length_cons, Nat.add_right_cancel_iff] at hl
      have h5 := h.le m q' (by omega) w4
      have h6 := h.step w1 (by omega) w3
      have h7 : mrI n q' = 1 := by unfold mrI; rw [if_neg (by omega)]
      have h8 := n5 q' w1 w2 w3 (by omega)
      unfold lexLe
      rcases Nat.lt_or_ge q q' with h9 | h9
      · exact .inl h9
      · have e : q = q' := by omega
        exact .inr ⟨e, k3 m (by rw [e]; exact w4) hl⟩
end
/-- The best winding. -/
def BestW (al : Nat → Int) (n : Nat) (most : Int) (l : List Nat) : Prop := WdP al n most 0 l ∧ ∀ m, WdP al n most 0 m → l.length ≤ m.length ∧ (m.length = l.length → lexLe l m)
theorem BestW.uniq {al : Nat → Int} {n : Nat} {most : Int} {l m : List Nat} (h : BestW al n most l) (h' : BestW al n most m) : l = m := by
  have h1 := (h.2 m h'.1).1
  have h2 := (h'.2 l h.1).1
  exact lexLe_anti (by omega) ((h.2 m h'.1).2 (by omega)) ((h'.2 l h.1).2 (by omega))
theorem ChT.bestW {al : Nat → Int} {n : Nat} {most : Int} {b : Nat → Int} (h : BhIs al n most b) (hm : 0 ≤ most) (h1 : 0 < n) {l : List Nat} (hc : ChT al n most b 0 l) (hb : b 0 < 1073741824) : BestW al n most l := by
  obtain ⟨k1, k2, k3⟩ := hc.best h hm h1 hb
  refine ⟨k1, fun m hw => ⟨?_, fun e => k3 m hw e⟩⟩
  have := h.le m 0 h1 hw
  omega
theorem wdP_len {al : Nat → Int} {n : Nat} {most : Int} : ∀ (l : List Nat) (i : Nat), i < n → WdP al n most i l → i + l.length < n
  | [], i, h, _ => by simpa using h
  | q :: l, i, h, hw => by
    unfold WdP at hw
    have := wdP_len l q (by omega) hw.2.2.2
    simp only [List.length_cons]
    omega
theorem BhIs.none {al : Nat → Int} {n : Nat} {most : Int} {b : Nat → Int} (h : BhIs al n most b) (h1 : 0 < n) (hn : n ≤ 1000) (hb : 1073741824 ≤ b 0) : ∀ l, ¬ WdP al n most 0 l := fun l hw => by
  have h2 := h.le l 0 h1 hw
  have h3 := wdP_len l 0 h1 hw
  omega
end Go.Proofs.Ytdimaapiloojeaa
/- Windings, pure: there is a best one if there is one; the list of a thread's places. -/
namespace Go.Proofs.Ytdimaapiloojeaa
open Go.RowKit

theorem fl_ex (al : Nat → Int) (n : Nat) (most : Int) (i : Nat) : ∃ t, Fl al n most i t := by
  have h : ∀ d t, t + d = n → (∀ s, s < t → Go1 al n most i s) → ∃ t, Fl al n most i t := by
    intro d
    induction d with
    | zero =>
      intro t ht h
      exact ⟨t, h, fun h1 => by have := h1.1; omega⟩
    | succ d ih =>
      intro t ht h
      by_cases hg : Go1 al n most i t
      · refine ih (t + 1) (by omega) fun s hs => ?_
        rcases Nat.lt_or_ge s t with h1 | h1
        · exact h s h1
        · rw [show s = t by omega]; exact hg
      · exact ⟨t, h, hg⟩
  exact h n 0 (by omega) (fun s hs => absurd hs (by omega))
theorem bhv_congr {n : Nat} {b b' : Nat → Int} {i : Nat} (h : ∀ j, i < j → b j = b' j) : ∀ t, bhv n b i t = bhv n b' i t
  | 0 => rfl
  | t + 1 => by
    unfold bhv
    rw [bhv_congr h t, h _ (by omega)]
theorem bh_ex (al : Nat → Int) (n : Nat) (most : Int) (hn : 0 < n) (hmono : ∀ i j, i ≤ j → j < n → al i ≤ al j) : ∃ b, BhIs al n most b := by
  have h : ∀ d, d < n → ∃ b : Nat → Int, b (n - 1) = 0 ∧ ∀ j, n - 1 - d ≤ j → j + 1 < n → ∃ t, Fl al n most j t ∧ b j = bhv n b j t := by
    intro d
    induction d with
    | zero => exact fun _ => ⟨fun _ => 0, rfl, fun j h1 h2 => absurd h1 (by omega)⟩
    | succ d ih =>
      intro hd
      obtain ⟨b, h0, h1⟩ := ih (by omega)
      obtain ⟨t, ht⟩ := fl_ex al n most (n - 1 - (d + 1))
      have hne : ∀ j, n - 1 - (d + 1) < j → upD b (n - 1 - (d + 1)) (bhv n b (n - 1 - (d + 1)) t) j = b j := fun j hj => upD_other _ _ (by omega)
      refine ⟨upD b (n - 1 - (d + 1)) (bhv n b (n - 1 - (d + 1)) t), by rw [hne _ (by omega), h0], fun j h2 h3 => ?_⟩
      rcases Nat.lt_or_ge (n - 1 - (d + 1)) j with h4 | h4
      · obtain ⟨t2, h5, h6⟩ := h1 j (by omega) h3
        refine ⟨t2, h5, ?_⟩
        rw [hne j h4, h6]
        exact bhv_congr (fun k hk => (hne k (by omega)).symm) t2
      · obtain rfl : j = n - 1 - (d + 1) := by omega
        refine ⟨t, ht, ?_⟩
        rw [upD_same]
        exact bhv_congr (fun k hk => (hne k hk).symm) t
  obtain ⟨b, h0, h1⟩ := h (n - 1) (by omega)
  exact ⟨b, h0, fun j hj => h1 j (by omega) hj, hmono⟩
theorem BhIs.chain {al : Nat → Int} {n : Nat} {most : Int} {b : Nat → Int} (h : BhIs al n most b) : ∀ (m : Nat) (i : Nat), i < n → b i = m → b i < 1073741824 → ∃ l, ChT al n most b i l
  | 0, i, hi, hb, _ => ⟨[], .nil (by simpa using hb)⟩
  | m + 1, i, hi, hb, hlt => by
    have h1 : i + 1 < n := by
      rcases Nat.lt_or_ge (i + 1) n with h1 | h1
      · exact h1
      · have : i = n - 1 := by omega
        rw [this, h.last] at hb
        omega
    obtain ⟨t, ht⟩ := fl_ex al n most i
    have h2 := h.nxt h1 ht (by omega) hlt
    obtain ⟨q1, q2, q3, q4, q5⟩ := id h2
    obtain ⟨l, hl⟩ := h.chain m (nxv n b i t) (by omega) (by omega) (by omega)
    exact ⟨_, .cons (by omega) h2 hl⟩
theorem best_ex {al : Nat → Int} {n : Nat} {most : Int} (hm : 0 ≤ most) (h0 : 0 < n) (hn : n ≤ 1000) (hmono : ∀ i j, i ≤ j → j < n → al i ≤ al j) (hw : ∃ l, WdP al n most 0 l) : ∃ l, BestW al n most l := by
  obtain ⟨b, hb⟩ := bh_ex al n most h0 hmono
  obtain ⟨l, hl⟩ := hw
  have h1 := hb.le l 0 h0 hl
  have h2 := wdP_len l 0 h0 hl
  have h3 := hb.nn (n - 1) 0 (by omega)
  obtain ⟨c, hc⟩ := hb.chain (b 0).toNat 0 h0 (by omega) (by omega)
  exact ⟨c, hc.bestW hb hm h0 (by omega)⟩
/-- The places, with the beginning and the end. -/
def allL (need : Int) (ps : List Int) : List Int := 0 :: ps ++ [need]
def alF (need : Int) (ps : List Int) (j : Nat) : Int := (allL need ps).getD j 0
/-- Places in ascending order between the ends. -/
def AscP (need : Int) (ps : List Int) : Prop := (∀ p, p ∈ ps → 0 < p ∧ p < need) ∧ List.Pairwise (· < ·) ps ∧ 0 < need
theorem allL_len (need : Int) (ps : List Int) : (allL need ps).length = ps.length + 2 := by unfold allL; simp
theorem allL_pw {need : Int} {ps : List Int} (h : AscP need ps) : List.Pairwise (· < ·) (allL need ps) := by
  unfold allL
  rw [List.cons_append, List.pairwise_cons, List.pairwise_append]
  refine ⟨fun a ha => ?_, h.2.1, List.pairwise_singleton _ _, fun a ha b hb => ?_⟩
  · rcases List.mem_append.1 ha with h1 | h1
    · exact (h.1 a h1).1
    · rw [List.mem_singleton.1 h1]; exact h.2.2
  · rw [List.mem_singleton.1 hb]; exact (h.1 a ha).2
theorem alF_mono {need : Int} {ps : List Int} (h : AscP need ps) (i j : Nat) (hij : i ≤ j) (hj : j < ps.length + 2) : alF need ps i ≤ alF need ps j := by
  rcases Nat.lt_or_ge i j with h1 | h1
  · have hl := allL_len need ps
    have := List.pairwise_iff_getElem.1 (allL_pw h) i j (by omega) (by omega) h1
    unfold alF
    rw [List.getD_eq_getElem?_getD, List.getD_eq_getElem?_getD, List.getElem?_eq_getElem (by omega), List.getElem?_eq_getElem (by omega)]
    simp only [Option.getD_some]
    omega
  · rw [show i = j by omega]; exact Int.le_refl _
theorem alF_0 (need : Int) (ps : List Int) : alF need ps 0 = 0 := rfl
theorem alF_end (need : Int) (ps : List Int) : alF need ps (ps.length + 1) = need := by
  unfold alF allL
  simp [List.getD_eq_getElem?_getD]
theorem alF_in (need : Int) (ps : List Int) (k : Nat) (hk : k < ps.length) : alF need ps (k + 1) = ps.getD k 0 := by
  unfold alF allL
  simp [List.getD_eq_getElem?_getD, List.getElem?_append, hk]
theorem alF_rng {need : Int} {ps : List Int} (h : AscP need ps) (hn : need ≤ 1000000000000) (j : Nat) (hj : j < ps.length + 2) : 0 ≤ alF need ps j ∧ alF need ps j ≤ 1000000000000 := by
  have h1 := alF_mono h 0 j (by omega) hj
  have h2 := alF_mono h j (ps.length + 1) (by omega) (by omega)
  rw [alF_0] at h1
  rw [alF_end] at h2
  omega
/-- The best winding of a thread, as positions. -/
noncomputable def knO (need : Int) (ps : List Int) (most : Int) : Option (List Nat) :=
  open Classical in if h : ∃ l, BestW (alF need ps) (ps.length + 2) most l then some h.choose else none
theorem knO_some {need : Int} {ps : List Int} {most : Int} {l : List Nat} : knO need ps most = some l ↔ BestW (alF need ps) (ps.length + 2) most l := by
  unfold knO
  by_cases h : ∃ l, BestW (alF need ps) (ps.length + 2) most l
  · rw [dif_pos h]
    exact ⟨fun e => by rw [← Option.some.inj e]; exact h.choose_spec, fun e => by rw [h.choose_spec.uniq e]⟩
  · rw [dif_neg h]
    exact ⟨fun e => (by cases e), fun e => absurd ⟨l, e⟩ h⟩
theorem knO_none {need : Int} {ps : List Int} {most : Int} (hm : 0 ≤ most) (hl : ps.length ≤ 200) (h : AscP need ps) : knO need ps most = none ↔ ∀ l, ¬ WdP (alF need ps) (ps.length + 2) most 0 l := by
  constructor
  · intro e l hw
    obtain ⟨m, hm⟩ := best_ex hm (by omega) (by omega) (alF_mono h) ⟨l, hw⟩
    rw [knO_some.2 hm] at e
    cases e
  · intro h1
    cases hk : knO need ps most with
    | none => rfl
    | some l => exact absurd (knO_some.1 hk).1 (h1 l)
/-- The knots as the program gives them: their places' indices. -/
def outI (l : List Nat) : List Int := l.map fun q : Nat => (q : Int) - 1
end Go.Proofs.Ytdimaapiloojeaa
/- Plans of spools, pure: all plans are tried, in order. -/
namespace Go.Proofs.Ytdimaapiloojeaa
open Go.RowKit

/-- How much of a spool is used after so many needs. -/
def usdF (needs : List Int) (plan : List Nat) (k : Nat) : Nat → Int
  | 0 => 0
  | i + 1 => usdF needs plan k i + if plan.getD i 0 = k then needs.getD i 0 else 0
def lftF (needs spools : List Int) (plan : List Nat) (i k : Nat) : Int := spools.getD k 0 - usdF needs plan k i
/-- How many of the first spools are begun, and how long these are. -/
def begF (spools : List Int) (lf : Nat → Int) : Nat → Int
  | 0 => 0
  | k + 1 => begF spools lf k + if lf k < spools.getD k 0 then 1 else 0
def lonF (spools : List Int) (lf : Nat → Int) : Nat → Int
  | 0 => 0
  | k + 1 => lonF spools lf k + if lf k < spools.getD k 0 then spools.getD k 0 else 0
def GoodP (needs spools : List Int) (plan : List Nat) : Prop := ∀ k, k < spools.length → 0 ≤ lftF needs spools plan needs.length k
def begP (needs spools : List Int) (plan : List Nat) : Int := begF spools (lftF needs spools plan needs.length) spools.length
def lonP (needs spools : List Int) (plan : List Nat) : Int := lonF spools (lftF needs spools plan needs.length) spools.length
/-- The best plan so far. -/
structure StS where
  best : Option (List Nat)
  beg : Int
  lon : Int
def BetS (st : StS) (b l : Int) : Prop := st.best = none ∨ b < st.beg ∨ b = st.beg ∧ l < st.lon
open Classical in
noncomputable def stepS (needs spools : List Int) (st : StS) (plan : List Nat) : StS :=
  if GoodP needs spools plan ∧ BetS st (begP needs spools plan) (lonP needs spools plan) then ⟨some plan, begP needs spools plan, lonP needs spools plan⟩ else st
/-- All lists of so many numbers below n, in order. -/
def allD (n : Nat) : Nat → List (List Nat)
  | 0 => [[]]
  | d + 1 => (List.range n).flatMap fun k => (allD n d).map (k :: ·)
/-- What each does: from so many numbers on. -/
def runE {α : Type} (step : α → List Nat → α) (n : Nat) : Nat → List Nat → α → α
  | 0, p, st => step st p
  | d + 1, p, st => (List.range n).foldl (fun st k => runE step n d (p ++ [k]) st) st
/-- The first k numbers in the next place. -/
def runK {α : Type} (step : α → List Nat → α) (n d : Nat) (p : List Nat) (st : α) (k : Nat) : α := (List.range k).foldl (fun st k => runE step n d (p ++ [k]) st) st
theorem runK_succ {α : Type} (step : α → List Nat → α) (n d : Nat) (p : List Nat) (st : α) (k : Nat) : runK step n d p st (k + 1) = runE step n d (p ++ [k]) (runK step n d p st k) := by
  unfold runK; rw [List.range_succ, List.foldl_append]; rfl
theorem runE_fold {α : Type} (step : α → List Nat → α) (n : Nat) : ∀ d p st, runE step n d p st = (allD n d).foldl (fun st l => step st (p ++ l)) st
  | 0, p, st => by unfold runE allD; simp
  | d + 1, p, st => by
    unfold runE allD
    rw [List.foldl_flatMap]
    congr 1
    funext st k
    rw [runE_fold step n d, List.foldl_map]
    congr 1
    funext st l
    rw [List.append_assoc]; rfl
theorem allD_mem (n : Nat) : ∀ d l, l ∈ allD n d ↔ l.length = d ∧ ∀ k, k ∈ l → k < n
  | 0, l => by
    unfold allD
    rw [List.mem_singleton]
    constructor
    · rintro rfl; simp
    · rintro ⟨h, _⟩; exact List.eq_nil_of_length_eq_zero h
  | d + 1, l => by
    unfold allD
    rw [List.mem_flatMap]
    constructor
    · rintro ⟨k, hk, h⟩
      obtain ⟨m, hm, rfl⟩ := List.mem_map.1 h
      obtain ⟨h1, h2⟩ := (allD_mem n d m).1 hm
      refine ⟨by simp [h1], fun j hj => ?_⟩
      rcases List.mem_cons.1 hj with rfl | hj
      · exact List.mem_range.1 hk
      · exact h2 j hj
    · rintro ⟨h1, h2⟩
      cases l with
      | nil => simp at h1
      | cons k m =>
        refine ⟨k, List.mem_range.2 (h2 k (by simp)), List.mem_map.2 ⟨m, (allD_mem n d m).2 ⟨by simpa using h1, fun j hj => h2 j (by simp [hj])⟩, rfl⟩⟩
def lexLo : List Nat → List Nat → Prop
  | a :: l, b :: m => a < b ∨ a = b ∧ lexLo l m
  | _, _ => False
theorem lexLo_irr : ∀ l, ¬ lexLo l l
  | [] => fun h => h
  | a :: l => fun h => by unfold lexLo at h; have := lexLo_irr l; rcases h with h | h; omega; exact this h.2
theorem lexLo_asym : ∀ {l m : List Nat}, lexLo l m → lexLo m l → False
  | [], _, h, _ => h
  | _ :: _, [], h, _ => h
  | a :: l, b :: m, h, h' => by
    unfold lexLo at h h'
    rcases h with h | ⟨h, h2⟩ <;> rcases h' with h' | ⟨h', h3⟩
    · omega
    · omega
    · omega
    · exact lexLo_asym h2 h3
theorem allD_asc (n : Nat) : ∀ d, (allD n d).Pairwise lexLo
  | 0 => List.pairwise_singleton _ _
  | d + 1 => by
    unfold allD
    rw [List.pairwise_flatMap]
    refine ⟨fun k _ => ?_, ?_⟩
    · rw [List.pairwise_map]
      exact (allD_asc n d).imp fun h => .inr ⟨rfl, h⟩
    · refine List.pairwise_lt_range.imp fun h x hx y hy => ?_
      obtain ⟨x1, _, rfl⟩ := List.mem_map.1 hx
      obtain ⟨y1, _, rfl⟩ := List.mem_map.1 hy
      exact .inl h
/-- A plan that is the best of some. -/
def BestP (needs spools : List Int) (L : List (List Nat)) (p : List Nat) : Prop :=
  p ∈ L ∧ GoodP needs spools p ∧ ∀ q, q ∈ L → GoodP needs spools q → begP needs spools p < begP needs spools q ∨ begP needs spools p = begP needs spools q ∧ (lonP needs spools p < lonP needs spools q ∨ lonP needs spools p = lonP needs spools q ∧ (p = q ∨ lexLo p q))
def StIs (needs spools : List Int) (L : List (List Nat)) (st : StS) : Prop :=
  match st.best with
  | none => ∀ q, q ∈ L → ¬ GoodP needs spools q
  | some p => BestP needs spools L p ∧ st.beg = begP needs spools p ∧ st.lon = lonP needs spools p
theorem stIs_step {needs spools : List Int} {L : List (List Nat)} {st : StS} (h : StIs needs spools L st) (q : List Nat) (hq : ∀ p, p ∈ L → lexLo p q) : StIs needs spools (L ++ [q]) (stepS needs spools st q) := by
  unfold stepS
  by_cases hc : GoodP needs spools q ∧ BetS st (begP needs spools q) (lonP needs spools q)
  · rw [if_pos hc]
    refine ⟨⟨by simp, hc.1, fun r hr hg => ?_⟩, rfl, rfl⟩
    rcases List.mem_append.1 hr with hr | hr
    · unfold StIs at h
      cases hb : st.best with
      | none => rw [hb] at h; exact absurd hg (h r hr)
      | some p =>
        rw [hb] at h
        obtain ⟨h1, h2, h3⟩ := h
        have h4 := h1.2.2 r hr hg
        have h5 := hc.2
        unfold BetS at h5
        rw [hb, h2, h3] at h5
        rcases h5 with h5 | h5 | h5
        · cases h5
        · left; omega
        · rcases h4 with h4 | ⟨h4, h6⟩
          · left; omega
          · refine .inr ⟨by omega, .inl ?_⟩; omega
    · rw [List.mem_singleton.1 hr]
      exact .inr ⟨rfl, .inr ⟨rfl, .inl rfl⟩⟩
  · rw [if_neg hc]
    unfold StIs at h ⊢
    cases hb : st.best with
    | none =>
      rw [hb] at h
      intro r hr hg
      rcases List.mem_append.1 hr with hr | hr
      · exact h r hr hg
      · rw [List.mem_singleton.1 hr] at hg
        exact hc ⟨hg, .inl hb⟩
    | some p =>
      rw [hb] at h
      obtain ⟨h1, h2, h3⟩ := h
      refine ⟨⟨by simp [h1.1], h1.2.1, fun r hr hg => ?_⟩, h2, h3⟩
      rcases List.mem_append.1 hr with hr | hr
      · exact h1.2.2 r hr hg
      · rw [List.mem_singleton.1 hr] at hg ⊢
        have h5 : ¬ BetS st (begP needs spools q) (lonP needs spools q) := fun h => hc ⟨hg, h⟩
        unfold BetS at h5
        rw [h2, h3] at h5
        have h6 := hq p h1.1
        rcases Int.lt_trichotomy (begP needs spools p) (begP needs spools q) with h7 | h7 | h7
        · exact .inl h7
        · refine .inr ⟨h7, ?_⟩
          rcases Int.lt_trichotomy (lonP needs spools p) (lonP needs spools q) with h8 | h8 | h8
          · exact .inl h8
          · exact .inr ⟨h8, .inr h6⟩
          · exact absurd (.inr (.inr ⟨h7.symm, h8⟩)) h5
        · exact absurd (.inr (.inl h7)) h5
theorem stIs_fold {needs spools : List Int} : ∀ (R L : List (List Nat)) (st : StS), StIs needs spools L st → (L ++ R).Pairwise lexLo → StIs needs spools (L ++ R) (R.foldl (stepS needs spools) st)
  | [], L, st, h, _ => by simpa using h
  | q :: R, L, st, h, hp => by
    have h1 := stIs_step h q fun p hp2 => (List.pairwise_append.1 hp).2.2 p hp2 q (by simp)
    have h2 := stIs_fold R (L ++ [q]) _ h1 (by simpa using hp)
    simpa using h2
noncomputable def spO (needs spools : List Int) : StS := runE (stepS needs spools) spools.length needs.length [] ⟨none, 0, 0⟩
theorem spO_is (needs spools : List Int) : StIs needs spools (allD spools.length needs.length) (spO needs spools) := by
  unfold spO
  rw [runE_fold]
  have h := stIs_fold (needs := needs) (spools := spools) (allD spools.length needs.length) [] ⟨none, 0, 0⟩ (fun q hq => absurd hq (by simp)) (allD_asc _ _)
  simpa using h
end Go.Proofs.Ytdimaapiloojeaa
/- Winding: what is held while the rounds go. -/
namespace Go.Proofs.Ytdimaapiloojeaa
open Go.RowKit

/-- The number in the cell that is pointed at. -/
def ptI (w : World) (v : Value) : Int :=
  match v with
  | .pointer (some a) => intOf ((w.cell? a).getD (.int .i64 0))
  | _ => 0
theorem ptI_at {w : World} {g : Nat} {z : Int} (h : w.cell? ⟨g, 0, none⟩ = some (.int .i64 z)) : ptI w (.pointer (some ⟨g, 0, none⟩)) = z := by
  unfold ptI; simp [h, intOf]
theorem ptI_new {w : World} {z : Int} {T : Nat} : ptI (w.alloc (.cells #[.int .i64 z] T)) (.pointer (some ⟨w.heap.size, 0, none⟩)) = z :=
  ptI_at (by rw [cell_of_row _ _ 0 _ _ _ (heap_alloc_new w (.cells #[.int .i64 z] T))]; rfl)
/-- The cell at g holds a slice that reads so, in a block of its own. -/
def AlCell (w2 W : World) (al : List Int) (p : Value) : Prop := ∃ g R cap, p = .pointer (some ⟨g, 0, none⟩) ∧ W.heap[g]? = some (.cells #[.slice (some ⟨R, 0, none⟩) al.length cap] 22 (0, 0)) ∧ (∀ j, j < al.length → W.cell? ⟨R, j, none⟩ = some (.int .i64 (al.getD j 0))) ∧ R < W.heap.size ∧ w2.heap.size ≤ g ∧ w2.heap.size ≤ R ∧ R ≠ g ∧ Below w2.heap.size w2 W
theorem AlS.fin {w2 W : World} {need : Int} {A : Option Addr} {c g8 : Nat} {al : List Int} {g6 : Option Nat} {n : Nat} (h : AlS w2 W need (some (.slice A n c, al)) g6 (some g8)) (h0 : 0 < al.length) (hn : n = al.length) : AlCell w2 (W.setCell ⟨g8, 0, none⟩ (.slice A n c)) al (.pointer (some ⟨g8, 0, none⟩)) := by
  subst hn
  obtain ⟨k1, k2, k3⟩ := h.h8 g8 rfl
  have ho := h.ho _ _ rfl
  obtain ⟨R, cap, hv, hR, hlt⟩ := ho.form h0
  injection hv with e1 e2 e3
  subst e1; subst e3
  have hne : R ≠ g8 := fun e => by
    have := k3 _ _ rfl
    rw [e] at this
    exact this rfl
  refine ⟨g8, R, c, rfl, heap_setCell_same W g8 0 _ _ _ k1, fun j hj => ?_, by simpa using hlt, k2, hR, hne, h.hb.setCell k2 _⟩
  rw [World.cell?_setCell_far _ _ _ _ (by show g8 ≠ R; exact fun e => hne e.symm), ho.cellAt j (by omega)]
  simp [ints, List.getD_eq_getElem?_getD, hj]
theorem gb_set0 {w : World} {S j : Nat} (v : Value) : w.grownBy (w.setCell ⟨S, j, none⟩ v) (some S) := by
  refine ⟨rfl, rfl, rfl, by simp, fun i hi hne => ?_⟩
  exact heap_setCell_other w ⟨S, j, none⟩ i v (fun e => hne (by rw [e]))
/-- What stays as it is while the rounds of wind go. -/
structure W1 (w2 w : World) (nb mb ab R n acap : Nat) (most : Int) (al : Nat → Int) : Prop where
  C : WdC w nb ab mb R n acap most al
  cb : w.heap[nb + 2]? = some (.cells #[.slice (some ⟨nb + 1, 0, none⟩) n n] 23 (0, 0))
  hb : Below w2.heap.size w2 w
  lt : ab < nb ∧ mb < nb ∧ R < nb ∧ w2.heap.size ≤ nb
section
variable {w2 w w' : World} {nb mb ab R n acap : Nat} {most : Int} {al : Nat → Int}
theorem W1.kept {k : Nat} (h : W1 w2 w nb mb ab R n acap most al) (hg : w.grownBy w' (some k)) (hk : k = nb + 1 ∨ nb + 3 ≤ k) : W1 w2 w' nb mb ab R n acap most al := by
  obtain ⟨h1, h2, h3, h4⟩ := h.lt
  have ne : ∀ j, j ≠ k → some j ≠ some k := fun j hj e => hj (Option.some.inj e)
  refine ⟨h.C.kept hg (ne _ (by omega)) (ne _ (by omega)) (ne _ (by omega)) (ne _ (by omega)), (hg.block _ (lt_of_block h.cb) (ne _ (by omega))).trans h.cb, h.hb.grown hg h.hb.size fun j hj => ?_, h.lt⟩
  obtain rfl := Option.some.inj hj
  omega
theorem W1.alloc (h : W1 w2 w nb mb ab R n acap most al) (o : Obj) : W1 w2 (w.alloc o) nb mb ab R n acap most al :=
  h.kept (k := w.heap.size) (World.grownBy_alloc w o _) (.inr (by have := lt_of_block h.cb; omega))
theorem W1.keptO {row : Option Nat} (h : W1 w2 w nb mb ab R n acap most al) (hg : w.grownBy w' row) (hr : ∀ k, row = some k → nb + 3 ≤ k) : W1 w2 w' nb mb ab R n acap most al := by
  cases row with
  | some k => exact h.kept hg (.inr (hr k rfl))
  | none => 
    refine h.kept (k := nb + 3) ⟨hg.os, hg.tape, hg.output, hg.size, fun i hi _ => hg.block i hi (by simp)⟩ (.inr (Nat.le_refl _))
end
theorem w1_start {w2 wc : World} {nb mb g R n cap : Nat} {most : Int} {al : Nat → Int} (m : Int) (hnb : wc.heap.size = nb) (hcg : wc.heap[g]? = some (.cells #[.slice (some ⟨R, 0, none⟩) n cap] 22 (0, 0))) (hcr : ∀ j, j < n → wc.cell? ⟨R, j, none⟩ = some (.int .i64 (al j))) (hM : wc.heap[mb]? = some (.cells #[.int .i64 most] 2 (0, 0))) (hbw : Below w2.heap.size w2 wc) (hlt : g < nb ∧ mb < nb ∧ R < nb ∧ w2.heap.size ≤ nb) {w3 : World}
    (hw3 : w3 = (((wc.alloc (.cells #[.int .i64 (n : Int)] 3)).alloc (.cells (madeCells #[.int .i64 0] n) 3)).alloc (.cells #[.slice (some ⟨nb + 1, 0, none⟩) n n] 23)).alloc (.cells #[.int .i64 m] 3)) :
    W1 w2 w3 nb mb g R n cap most al ∧ BI w3 (nb + 1) 3 n (fun _ => 0) ∧ w3.heap[nb + 3]? = some (.cells #[.int .i64 m] 3 (0, 0)) := by
  subst hnb
  have e1 : ∀ i, i < wc.heap.size + 1 → w3.heap[i]? = (wc.alloc (.cells #[.int .i64 (n : Int)] 3)).heap[i]? := fun i hi => by
    rw [hw3, Below.heap_alloc _ _ _ (by simp; omega), Below.heap_alloc _ _ _ (by simp; omega), Below.heap_alloc _ _ _ (by simp; omega)]
  have e0 : ∀ i, i < wc.heap.size → w3.heap[i]? = wc.heap[i]? := fun i hi => by
    rw [e1 i (by omega), Below.heap_alloc _ _ _ hi]
  have e2 : w3.heap[wc.heap.size + 1]? = ((wc.alloc (.cells #[.int .i64 (n : Int)] 3)).alloc (.cells (madeCells #[.int .i64 0] n) 3)).heap[wc.heap.size + 1]? := by
    rw [hw3, Below.heap_alloc _ _ _ (by simp), Below.heap_alloc _ _ _ (by simp)]
  have hb : Below w2.heap.size w2 w3 := by
    have := hbw.size
    rw [hw3]
    exact (((hbw.alloc this _).alloc (by simp; omega) _).alloc (by simp; omega) _).alloc (by simp; omega) _
  refine ⟨⟨⟨?_, (e0 _ hlt.1).trans hcg, (e0 _ hlt.2.1).trans hM, fun j hj => ?_, ?_⟩, ?_, hb, hlt⟩, ?_, ?_⟩
  · rw [e1 _ (by omega)]; exact heap_alloc_new _ _
  · rw [World.cell?_of_block (w := wc) (e0 _ hlt.2.2.1)]; exact hcr j hj
  · rw [hw3]; simp; omega
  · have h := heap_alloc_new ((wc.alloc (.cells #[.int .i64 (n : Int)] 3)).alloc (.cells (madeCells #[.int .i64 0] n) 3)) (.cells #[.slice (some ⟨wc.heap.size + 1, 0, none⟩) n n] 23)
    rw [show ((wc.alloc (.cells #[.int .i64 (n : Int)] 3)).alloc (.cells (madeCells #[.int .i64 0] n) 3)).heap.size = wc.heap.size + 2 by simp] at h
    rw [hw3, Below.heap_alloc _ _ _ (by simp)]
    exact h
  · have h := bI_zero (wc.alloc (.cells #[.int .i64 (n : Int)] 3)) n 3
    rw [show (wc.alloc (.cells #[.int .i64 (n : Int)] 3)).heap.size = wc.heap.size + 1 by simp] at h
    unfold BI at h ⊢
    rw [e2]
    exact h
  · have h := heap_alloc_new (((wc.alloc (.cells #[.int .i64 (n : Int)] 3)).alloc (.cells (madeCells #[.int .i64 0] n) 3)).alloc (.cells #[.slice (some ⟨wc.heap.size + 1, 0, none⟩) n n] 23)) (.cells #[.int .i64 m] 3)
    rw [show (((wc.alloc (.cells #[.int .i64 (n : Int)] 3)).alloc (.cells (madeCells #[.int .i64 0] n) 3)).alloc (.cells #[.slice (some ⟨wc.heap.size + 1, 0, none⟩) n n] 23)).heap.size = wc.heap.size + 3 by simp] at h
    rw [hw3]
    exact h
theorem heapSize_setCell (w : World) (p : Addr) (v : Value) : (w.setCell p v).heap.size = w.heap.size := by simp
theorem outI_snoc (l : List Nat) (q : Nat) : outI (l ++ [q]) = outI l ++ [(q : Int) - 1] := by unfold outI; simp
theorem outI_len (l : List Nat) : (outI l).length = l.length := by unfold outI; simp
theorem rdV_of_own {w : World} {base e : Nat} {v : Value} {xs : List Int} (h : w.ownsRow base e 1 v xs.length (ints xs)) (hl : xs.length ≤ 281474976710656) : RdV w v xs := by
  obtain ⟨A, c, rfl⟩ := own_slice1 h
  exact ⟨A, c, rfl, hl, own_rd h⟩
/-- What wind returns. -/
def WV (o : Option (List Nat)) (base : Nat) (w : World) (v : Value) (b : Bool) : Prop :=
  match o with
  | none => b = false ∧ v = .slice none 0 0
  | some l => b = true ∧ w.ownsRow base 3 1 v (outI l).length (ints (outI l))
theorem own_base {w : World} {base base' e size n : Nat} {v : Value} {xs : List Value} (h : w.ownsRow base e size v n xs) (hb : base' ≤ base) : w.ownsRow base' e size v n xs := by
  refine ⟨h.1, ?_⟩
  rcases h.2 with h1 | ⟨g, cap, cur, h1, h2, h3⟩
  · exact .inl h1
  · exact .inr ⟨g, cap, cur, h1, Nat.le_trans hb h2, h3⟩
def WindPost (need most : Int) (ps : List Int) (w : World) (e : Ending) (w' : World) : Prop := ∃ v b, e = .returned (.tuple #[v, .bool b]) ∧ Below w.heap.size w w' ∧ WV (knO need ps most) w.heap.size w' v b
/-- What holds from the place i on. -/
structure Lp1 (al : Nat → Int) (n : Nat) (most : Int) (b : Nat → Int) (i : Nat) : Prop where
  last : b (n - 1) = 0
  st : ∀ j, i ≤ j → j + 1 < n → ∃ t, Fl al n most j t ∧ b j = bhv n b j t
  rng : ∀ j, j < n → 0 ≤ b j ∧ b j ≤ 1073741824
theorem Lp1.start (al : Nat → Int) (n : Nat) (most : Int) : Lp1 al n most (fun _ => 0) (n - 1) := ⟨rfl, fun j h1 h2 => absurd h1 (by omega), fun _ _ => by omega⟩
theorem Lp1.step {al : Nat → Int} {n : Nat} {most : Int} {b : Nat → Int} {i t : Nat} (h : Lp1 al n most b (i + 1)) (hi : i + 1 < n) (hf : Fl al n most i t) : Lp1 al n most (upD (upD b i 1073741824) i (bhv n (upD b i 1073741824) i t)) i := by
  have hne : ∀ j, j ≠ i → upD (upD b i 1073741824) i (bhv n (upD b i 1073741824) i t) j = b j := fun j hj => by rw [upD_other _ _ hj, upD_other _ _ hj]
  have hr9 : ∀ j, j < n → 0 ≤ upD b i 1073741824 j ∧ upD b i 1073741824 j ≤ 1073741824 := fun j hj => by
    by_cases e : j = i
    · rw [e, upD_same]; omega
    · rw [upD_other _ _ e]; exact h.rng j hj
  refine ⟨by rw [hne _ (by omega), h.last], fun j h1 h2 => ?_, fun j hj => ?_⟩
  · by_cases e : j = i
    · subst e
      refine ⟨t, hf, ?_⟩
      rw [upD_same]
      exact bhv_congr (fun k hk => by rw [hne k (by omega), upD_other _ _ (by omega)]) t
    · obtain ⟨t2, h3, h4⟩ := h.st j (by omega) h2
      refine ⟨t2, h3, ?_⟩
      rw [hne j e, h4]
      exact bhv_congr (fun k hk => (hne k (by omega)).symm) t2
  · by_cases e : j = i
    · rw [e, upD_same]
      rcases Nat.lt_or_ge (i + 1 + t) (n + 1) with h1 | h1
      · exact bhv_rng hr9 t (by omega)
      · have h2 := (hf.1 (t - 1) (by omega)).1
        omega
    · rw [hne j e]; exact h.rng j hj
end Go.Proofs.Ytdimaapiloojeaa
/- Winding. -/
namespace Go.Proofs.Ytdimaapiloojeaa
open Go.RowKit

set_option maxRecDepth 100000 in
set_option maxHeartbeats 8000000 in
theorem bWind_ (need most : Int) (A : Option Addr) (c : Nat) (ps : List Int) (w : World) (hrd0 : RdI w A ps) (hps : ps.length ≤ 200) (hasc : AscP need ps) (hneed : need ≤ 1000000000000) (hmost : 0 ≤ most) :
    Calls Try.prog 43 #[.agg #[.int .i64 need, .slice A ps.length c], .int .i64 most] w (WindPost need most ps w) := by
  have hb : Below w.heap.size w ((w.alloc (.cells #[.int .i64 need, .slice A ps.length c] 43)).alloc (.cells #[.int .i64 most] 2)) := ((Below.refl _ _).alloc (Nat.le_refl _) _).alloc (by simp) _
  have hrd1 := hrd0.later hb (Nat.le_refl _)
  have HB := Lib.hid hb; have HRD0 := Lib.hid hrd0; have HRD1 := Lib.hid hrd1; have HASC := Lib.hid hasc; have HNEED := Lib.hid hneed; have HMOST := Lib.hid hmost; clear hb hrd0 hrd1 hasc hneed hmost
  go_enter Try.func43, Try.ntmps43
  go_upto_region 1 with fail
  obtain ⟨w2, hw2⟩ : ∃ w2, w2 = (w.alloc (.cells #[.int .i64 need, .slice A ps.length c] 43)).alloc (.cells #[.int .i64 most] 2) := ⟨_, rfl⟩
  have hT : w2.heap[w.heap.size]? = some (.cells #[.int .i64 need, .slice A ps.length c] 43 (0, 0)) := by rw [hw2]; exact heap_alloc2_old _ _ _
  have hM : w2.heap[w.heap.size + 1]? = some (.cells #[.int .i64 most] 2 (0, 0)) := by rw [hw2]; exact heap_alloc2_new _ _ _
  have hrd := HRD1.out
  have hb2 := HB.out
  rw [← hw2] at hrd hb2 ⊢
  clear hw2 HRD1 HB
  have hSof : ∀ W, Below w2.heap.size w2 W → Below w2.heap.size w2 W ∧ W.cell? ⟨w.heap.size, 0, none⟩ = some (.int .i64 need) ∧ W.cell? ⟨w.heap.size, 1, none⟩ = some (.slice A ps.length c) ∧ w.heap.size < W.heap.size := fun W hB => by
    have h1 := (hB.block _ (lt_of_block hT)).trans hT
    exact ⟨hB, cell_of_row _ _ 0 _ _ _ h1, cell_of_row _ _ 1 _ _ _ h1, lt_of_block h1⟩
  have HSof := Lib.hid hSof
  go_cut [6] (fun p6 wx => AlCell w2 wx (allL need ps) p6)
  case first =>
    clear HSof
    refine wp_region_held_drew (S := fun W => Below w2.heap.size w2 W ∧ W.cell? ⟨w.heap.size, 0, none⟩ = some (.int .i64 need) ∧ W.cell? ⟨w.heap.size, 1, none⟩ = some (.slice A ps.length c) ∧ w.heap.size < W.heap.size) (by kernel_rfl) (hSof _ (Below.refl _ _).drew) (fun hHeld => ?_)
    have h := AlS.start w2 need
    generalize w2.drew = V0 at h hHeld ⊢
    refine takeH (i := 1) (v := ?qv1) rfl rfl (by kernel_rfl) (by kernel_rfl) (by kernel_rfl) (fun _ _ _ _ => ⟨fun h _ => h, fun h => h #[]⟩) (by rfl) hHeld ?qy1 ?qr1
    case qy1 =>
      intro W' hSw
      obtain ⟨s0, s1, s2, s3⟩ := hSw
      go_simp
      try with_reducible rfl
    simp only [List.setIfInBounds_toArray, List.set_cons_zero, List.set_cons_succ]
    refine takeH (i := 2) (v := ?qv2) rfl rfl (by kernel_rfl) (by kernel_rfl) (by kernel_rfl) (fun _ _ _ _ => ⟨fun h _ => h, fun h => h #[]⟩) (by rfl) hHeld ?qy2 ?qr2
    case qy2 =>
      intro W' hSw
      obtain ⟨s0, s1, s2, s3⟩ := hSw
      go_simp
      try with_reducible rfl
    simp only [List.setIfInBounds_toArray, List.set_cons_zero, List.set_cons_succ]
    refine takeH (i := 4) (v := ?qv4) rfl rfl (by kernel_rfl) (by kernel_rfl) (by kernel_rfl) (fun _ _ _ _ => ⟨fun h _ => h, fun h => h #[]⟩) (by rfl) hHeld ?qy4 ?qr4
    case qy4 =>
      intro W' hSw
      obtain ⟨s0, s1, s2, s3⟩ := hSw
      go_simp
      try with_reducible rfl
    simp only [List.setIfInBounds_toArray, List.set_cons_zero, List.set_cons_succ]
    refine takeH (i := 5) (v := ?qv5) rfl rfl (by kernel_rfl) (by kernel_rfl) (by kernel_rfl) (fun _ _ _ _ => ⟨fun h _ => h, fun h => h #[]⟩) (by rfl) hHeld ?qy5 ?qr5
    case qy5 =>
      intro W' hSw
      obtain ⟨s0, s1, s2, s3⟩ := hSw
      go_simp
      try with_reducible rfl
    simp only [List.setIfInBounds_toArray, List.set_cons_zero, List.set_cons_succ]
    refine wpAnyH_ready (rs := [0, 6, 8]) (by kernel_rfl) (by simp) ?_
    refine (AllReadyH.cons rfl (fun K hK => ?_) (AllReadyH.cons rfl (fun K hK => ?_) (AllReadyH.cons rfl (fun K hK => ?_) AllReadyH.nil)))
    · go_simp
      refine hK.out _ _ (hSof _ h.bs1.hb) (fun _ => ?_)
      clear hK K
      have h := h.bs1
      obtain ⟨V1, hV⟩ : ∃ V1, V1 = V0.alloc (.cells #[.int .i64 0] 2) := ⟨_, rfl⟩
      rw [← hV] at h ⊢
      clear hV
      refine wpAnyH_ready (rs := [3, 6, 8]) (by kernel_rfl) (by simp) ?_
      refine (AllReadyH.cons rfl (fun K hK => ?_) (AllReadyH.cons rfl (fun K hK => ?_) (AllReadyH.cons rfl (fun K hK => ?_) AllReadyH.nil)))
      · refine step_appAllL_Try (by rfl) _ _ (by rfl) w2.heap.size _ _ (by rfl) (h.ho _ _ rfl) A c ps (by rfl) (hrd.later h.hb (Nat.le_refl _)) (by simp; omega) h.hb.size ?_
        intro A3 c3 W3 ho hg hat
        have h := h.app ho hg hat
        clear ho hg hat
        refine hK.out _ _ (hSof _ h.hb) (fun _ => ?_)
        clear hK K
        try simp only [Act.put]
        try simp only [List.setIfInBounds_toArray]
        try simp only [List.set_cons_zero]
        try simp only [List.set_cons_succ]
        refine wpAnyH_ready (rs := [6, 8]) (by kernel_rfl) (by simp) ?_
        refine (AllReadyH.cons rfl (fun K hK => ?_) (AllReadyH.cons rfl (fun K hK => ?_) AllReadyH.nil))
        · go_simp
          refine hK.out _ _ (hSof _ h.bs2.hb) (fun _ => ?_)
          clear hK K
          have h := h.bs2
          obtain ⟨V3, hV⟩ : ∃ V3, V3 = W3.alloc (.cells #[.int .i64 need] 2) := ⟨_, rfl⟩
          rw [← hV] at h ⊢
          clear hV
          refine wpAnyH_ready (rs := [7, 8]) (by kernel_rfl) (by simp) ?_
          refine (AllReadyH.cons rfl (fun K hK => ?_) (AllReadyH.cons rfl (fun K hK => ?_) AllReadyH.nil))
          · refine step_appL_Try (by rfl) _ _ (by rfl) w2.heap.size _ _ (by rfl) (h.ho _ _ rfl) _ need (by rfl) (h.h6 _ rfl).1 (by simp; omega) h.hb.size ?_
            intro g7 c7 W7 ho hg hat hlt
            have h := h.app ho hg (hat.elim (fun e => .inl (by rw [e]; rfl)) (fun e => .inr (by rw [e]; rfl)))
            clear ho hg hat hlt
            refine hK.out _ _ (hSof _ h.hb) (fun _ => ?_)
            clear hK K
            try simp only [Act.put]
            try simp only [List.setIfInBounds_toArray]
            try simp only [List.set_cons_zero]
            try simp only [List.set_cons_succ]
            refine wpAnyH_ready (rs := [8]) (by kernel_rfl) (by simp) ?_
            refine (AllReadyH.cons rfl (fun K hK => ?_) AllReadyH.nil)
            · go_simp
              refine hK.out _ _ (hSof _ h.cel.hb) (fun _ => ?_)
              clear hK K
              have h := h.cel
              obtain ⟨V5, hV⟩ : ∃ V5, V5 = W7.alloc (.cells #[.slice none 0 0] 22) := ⟨_, rfl⟩
              rw [← hV] at h ⊢
              clear hV
              refine wpAnyH_ready (rs := [9]) (by kernel_rfl) (by simp) ?_
              refine (AllReadyH.cons rfl (fun K hK => ?_) AllReadyH.nil)
              · obtain ⟨k1, k2, k3⟩ := h.h8 _ rfl
                have y1 := lt_of_block k1
                have y2 := frozen_of_row _ _ 0 _ _ k1
                have y3 := cell_of_row _ _ 0 _ _ _ k1
                simp only [List.getElem?_toArray, List.getElem?_cons_zero] at y3
                go_simp
                refine hK.out _ _ (hSof _ (h.hb.setCell (p := ⟨W7.heap.size, 0, none⟩) k2 _)) (fun _ => ?_)
                clear hK K
                refine wpAnyH_done (by kernel_rfl) ?_ _
                go_wp2_with fail
                go_meet
                exact h.fin (by simp) (by simp)
          · go_simp
            refine hK.out _ _ (hSof _ h.cel.hb) (fun _ => ?_)
            clear hK K
            have h := h.cel
            obtain ⟨V7, hV⟩ : ∃ V7, V7 = V3.alloc (.cells #[.slice none 0 0] 22) := ⟨_, rfl⟩
            rw [← hV] at h ⊢
            clear hV
            refine wpAnyH_ready (rs := [7]) (by kernel_rfl) (by simp) ?_
            refine (AllReadyH.cons rfl (fun K hK => ?_) AllReadyH.nil)
            · refine step_appL_Try (by rfl) _ _ (by rfl) w2.heap.size _ _ (by rfl) (h.ho _ _ rfl) _ need (by rfl) (h.h6 _ rfl).1 (by simp; omega) h.hb.size ?_
              intro g7 c7 W7 ho hg hat hlt
              have h := h.app ho hg (hat.elim (fun e => .inl (by rw [e]; rfl)) (fun e => .inr (by rw [e]; rfl)))
              clear ho hg hat hlt
              refine hK.out _ _ (hSof _ h.hb) (fun _ => ?_)
              clear hK K
              try simp only [Act.put]
              try simp only [List.setIfInBounds_toArray]
              try simp only [List.set_cons_zero]
              try simp only [List.set_cons_succ]
              refine wpAnyH_ready (rs := [9]) (by kernel_rfl) (by simp) ?_
              refine (AllReadyH.cons rfl (fun K hK => ?_) AllReadyH.nil)
              · obtain ⟨k1, k2, k3⟩ := h.h8 _ rfl
                have y1 := lt_of_block k1
                have y2 := frozen_of_row _ _ 0 _ _ k1
                have y3 := cell_of_row _ _ 0 _ _ _ k1
                simp only [List.getElem?_toArray, List.getElem?_cons_zero] at y3
                go_simp
                refine hK.out _ _ (hSof _ (h.hb.setCell (p := ⟨V3.heap.size, 0, none⟩) k2 _)) (fun _ => ?_)
                clear hK K
                refine wpAnyH_done (by kernel_rfl) ?_ _
                go_wp2_with fail
                go_meet
                exact h.fin (by simp) (by simp)
        · go_simp
          refine hK.out _ _ (hSof _ h.cel.hb) (fun _ => ?_)
          clear hK K
          have h := h.cel
          obtain ⟨V10, hV⟩ : ∃ V10, V10 = W3.alloc (.cells #[.slice none 0 0] 22) := ⟨_, rfl⟩
          rw [← hV] at h ⊢
          clear hV
          refine wpAnyH_ready (rs := [6]) (by kernel_rfl) (by simp) ?_
          refine (AllReadyH.cons rfl (fun K hK => ?_) AllReadyH.nil)
          · go_simp
            refine hK.out _ _ (hSof _ h.bs2.hb) (fun _ => ?_)
            clear hK K
            have h := h.bs2
            obtain ⟨V11, hV⟩ : ∃ V11, V11 = V10.alloc (.cells #[.int .i64 need] 2) := ⟨_, rfl⟩
            rw [← hV] at h ⊢
            clear hV
            refine wpAnyH_ready (rs := [7]) (by kernel_rfl) (by simp) ?_
            refine (AllReadyH.cons rfl (fun K hK => ?_) AllReadyH.nil)
            · refine step_appL_Try (by rfl) _ _ (by rfl) w2.heap.size _ _ (by rfl) (h.ho _ _ rfl) _ need (by rfl) (h.h6 _ rfl).1 (by simp; omega) h.hb.size ?_
              intro g7 c7 W7 ho hg hat hlt
              have h := h.app ho hg (hat.elim (fun e => .inl (by rw [e]; rfl)) (fun e => .inr (by rw [e]; rfl)))
              clear ho hg hat hlt
              refine hK.out _ _ (hSof _ h.hb) (fun _ => ?_)
              clear hK K
              try simp only [Act.put]
              try simp only [List.setIfInBounds_toArray]
              try simp only [List.set_cons_zero]
              try simp only [List.set_cons_succ]
              refine wpAnyH_ready (rs := [9]) (by kernel_rfl) (by simp) ?_
              refine (AllReadyH.cons rfl (fun K hK => ?_) AllReadyH.nil)
              · obtain ⟨k1, k2, k3⟩ := h.h8 _ rfl
                have y1 := lt_of_block k1
                have y2 := frozen_of_row _ _ 0 _ _ k1
                have y3 := cell_of_row _ _ 0 _ _ _ k1
                simp only [List.getElem?_toArray, List.getElem?_cons_zero] at y3
                go_simp
                refine hK.out _ _ (hSof _ (h.hb.setCell (p := ⟨W3.heap.size, 0, none⟩) k2 _)) (fun _ => ?_)
                clear hK K
                refine wpAnyH_done (by kernel_rfl) ?_ _
                go_wp2_with fail
                go_meet
                exact h.fin (by simp) (by simp)
      · go_simp
        refine hK.out _ _ (hSof _ h.bs2.hb) (fun _ => ?_)
        clear hK K
        have h := h.bs2
        obtain ⟨V14, hV⟩ : ∃ V14, V14 = V1.alloc (.cells #[.int .i64 need] 2) := ⟨_, rfl⟩
        rw [← hV] at h ⊢
        clear hV
        refine wpAnyH_ready (rs := [3, 8]) (by kernel_rfl) (by simp) ?_
        refine (AllReadyH.cons rfl (fun K hK => ?_) (AllReadyH.cons rfl (fun K hK => ?_) AllReadyH.nil))
        · refine step_appAllL_Try (by rfl) _ _ (by rfl) w2.heap.size _ _ (by rfl) (h.ho _ _ rfl) A c ps (by rfl) (hrd.later h.hb (Nat.le_refl _)) (by simp; omega) h.hb.size ?_
          intro A3 c3 W3 ho hg hat
          have h := h.app ho hg hat
          clear ho hg hat
          refine hK.out _ _ (hSof _ h.hb) (fun _ => ?_)
          clear hK K
          try simp only [Act.put]
          try simp only [List.setIfInBounds_toArray]
          try simp only [List.set_cons_zero]
          try simp only [List.set_cons_succ]
          refine wpAnyH_ready (rs := [7, 8]) (by kernel_rfl) (by simp) ?_
          refine (AllReadyH.cons rfl (fun K hK => ?_) (AllReadyH.cons rfl (fun K hK => ?_) AllReadyH.nil))
          · refine step_appL_Try (by rfl) _ _ (by rfl) w2.heap.size _ _ (by rfl) (h.ho _ _ rfl) _ need (by rfl) (h.h6 _ rfl).1 (by simp; omega) h.hb.size ?_
            intro g7 c7 W7 ho hg hat hlt
            have h := h.app ho hg (hat.elim (fun e => .inl (by rw [e]; rfl)) (fun e => .inr (by rw [e]; rfl)))
            clear ho hg hat hlt
            refine hK.out _ _ (hSof _ h.hb) (fun _ => ?_)
            clear hK K
            try simp only [Act.put]
            try simp only [List.setIfInBounds_toArray]
            try simp only [List.set_cons_zero]
            try simp only [List.set_cons_succ]
            refine wpAnyH_ready (rs := [8]) (by kernel_rfl) (by simp) ?_
            refine (AllReadyH.cons rfl (fun K hK => ?_) AllReadyH.nil)
            · go_simp
              refine hK.out _ _ (hSof _ h.cel.hb) (fun _ => ?_)
              clear hK K
              have h := h.cel
              obtain ⟨V17, hV⟩ : ∃ V17, V17 = W7.alloc (.cells #[.slice none 0 0] 22) := ⟨_, rfl⟩
              rw [← hV] at h ⊢
              clear hV
              refine wpAnyH_ready (rs := [9]) (by kernel_rfl) (by simp) ?_
              refine (AllReadyH.cons rfl (fun K hK => ?_) AllReadyH.nil)
              · obtain ⟨k1, k2, k3⟩ := h.h8 _ rfl
                have y1 := lt_of_block k1
                have y2 := frozen_of_row _ _ 0 _ _ k1
                have y3 := cell_of_row _ _ 0 _ _ _ k1
                simp only [List.getElem?_toArray, List.getElem?_cons_zero] at y3
                go_simp
                refine hK.out _ _ (hSof _ (h.hb.setCell (p := ⟨W7.heap.size, 0, none⟩) k2 _)) (fun _ => ?_)
                clear hK K
                refine wpAnyH_done (by kernel_rfl) ?_ _
                go_wp2_with fail
                go_meet
                exact h.fin (by simp) (by simp)
          · go_simp
            refine hK.out _ _ (hSof _ h.cel.hb) (fun _ => ?_)
            clear hK K
            have h := h.cel
            obtain ⟨V19, hV⟩ : ∃ V19, V19 = W3.alloc (.cells #[.slice none 0 0] 22) := ⟨_, rfl⟩
            rw [← hV] at h ⊢
            clear hV
            refine wpAnyH_ready (rs := [7]) (by kernel_rfl) (by simp) ?_
            refine (AllReadyH.cons rfl (fun K hK => ?_) AllReadyH.nil)
            · refine step_appL_Try (by rfl) _ _ (by rfl) w2.heap.size _ _ (by rfl) (h.ho _ _ rfl) _ need (by rfl) (h.h6 _ rfl).1 (by simp; omega) h.hb.size ?_
              intro g7 c7 W7 ho hg hat hlt
              have h := h.app ho hg (hat.elim (fun e => .inl (by rw [e]; rfl)) (fun e => .inr (by rw [e]; rfl)))
              clear ho hg hat hlt
              refine hK.out _ _ (hSof _ h.hb) (fun _ => ?_)
              clear hK K
              try simp only [Act.put]
              try simp only [List.setIfInBounds_toArray]
              try simp only [List.set_cons_zero]
              try simp only [List.set_cons_succ]
              refine wpAnyH_ready (rs := [9]) (by kernel_rfl) (by simp) ?_
              refine (AllReadyH.cons rfl (fun K hK => ?_) AllReadyH.nil)
              · obtain ⟨k1, k2, k3⟩ := h.h8 _ rfl
                have y1 := lt_of_block k1
                have y2 := frozen_of_row _ _ 0 _ _ k1
                have y3 := cell_of_row _ _ 0 _ _ _ k1
                simp only [List.getElem?_toArray, List.getElem?_cons_zero] at y3
                go_simp
                refine hK.out _ _ (hSof _ (h.hb.setCell (p := ⟨W3.heap.size, 0, none⟩) k2 _)) (fun _ => ?_)
                clear hK K
                refine wpAnyH_done (by kernel_rfl) ?_ _
                go_wp2_with fail
                go_meet
                exact h.fin (by simp) (by simp)
        · go_simp
          refine hK.out _ _ (hSof _ h.cel.hb) (fun _ => ?_)
          clear hK K
          have h := h.cel
          obtain ⟨V22, hV⟩ : ∃ V22, V22 = V14.alloc (.cells #[.slice none 0 0] 22) := ⟨_, rfl⟩
          rw [← hV] at h ⊢
          clear hV
          refine wpAnyH_ready (rs := [3]) (by kernel_rfl) (by simp) ?_
          refine (AllReadyH.cons rfl (fun K hK => ?_) AllReadyH.nil)
          · refine step_appAllL_Try (by rfl) _ _ (by rfl) w2.heap.size _ _ (by rfl) (h.ho _ _ rfl) A c ps (by rfl) (hrd.later h.hb (Nat.le_refl _)) (by simp; omega) h.hb.size ?_
            intro A3 c3 W3 ho hg hat
            have h := h.app ho hg hat
            clear ho hg hat
            refine hK.out _ _ (hSof _ h.hb) (fun _ => ?_)
            clear hK K
            try simp only [Act.put]
            try simp only [List.setIfInBounds_toArray]
            try simp only [List.set_cons_zero]
            try simp only [List.set_cons_succ]
            refine wpAnyH_ready (rs := [7]) (by kernel_rfl) (by simp) ?_
            refine (AllReadyH.cons rfl (fun K hK => ?_) AllReadyH.nil)
            · refine step_appL_Try (by rfl) _ _ (by rfl) w2.heap.size _ _ (by rfl) (h.ho _ _ rfl) _ need (by rfl) (h.h6 _ rfl).1 (by simp; omega) h.hb.size ?_
              intro g7 c7 W7 ho hg hat hlt
              have h := h.app ho hg (hat.elim (fun e => .inl (by rw [e]; rfl)) (fun e => .inr (by rw [e]; rfl)))
              clear ho hg hat hlt
              refine hK.out _ _ (hSof _ h.hb) (fun _ => ?_)
              clear hK K
              try simp only [Act.put]
              try simp only [List.setIfInBounds_toArray]
              try simp only [List.set_cons_zero]
              try simp only [List.set_cons_succ]
              refine wpAnyH_ready (rs := [9]) (by kernel_rfl) (by simp) ?_
              refine (AllReadyH.cons rfl (fun K hK => ?_) AllReadyH.nil)
              · obtain ⟨k1, k2, k3⟩ := h.h8 _ rfl
                have y1 := lt_of_block k1
                have y2 := frozen_of_row _ _ 0 _ _ k1
                have y3 := cell_of_row _ _ 0 _ _ _ k1
                simp only [List.getElem?_toArray, List.getElem?_cons_zero] at y3
                go_simp
                refine hK.out _ _ (hSof _ (h.hb.setCell (p := ⟨V14.heap.size, 0, none⟩) k2 _)) (fun _ => ?_)
                clear hK K
                refine wpAnyH_done (by kernel_rfl) ?_ _
                go_wp2_with fail
                go_meet
                exact h.fin (by simp) (by simp)
      · go_simp
        refine hK.out _ _ (hSof _ h.cel.hb) (fun _ => ?_)
        clear hK K
        have h := h.cel
        obtain ⟨V26, hV⟩ : ∃ V26, V26 = V1.alloc (.cells #[.slice none 0 0] 22) := ⟨_, rfl⟩
        rw [← hV] at h ⊢
        clear hV
        refine wpAnyH_ready (rs := [3, 6]) (by kernel_rfl) (by simp) ?_
        refine (AllReadyH.cons rfl (fun K hK => ?_) (AllReadyH.cons rfl (fun K hK => ?_) AllReadyH.nil))
        · refine step_appAllL_Try (by rfl) _ _ (by rfl) w2.heap.size _ _ (by rfl) (h.ho _ _ rfl) A c ps (by rfl) (hrd.later h.hb (Nat.le_refl _)) (by simp; omega) h.hb.size ?_
          intro A3 c3 W3 ho hg hat
          have h := h.app ho hg hat
          clear ho hg hat
          refine hK.out _ _ (hSof _ h.hb) (fun _ => ?_)
          clear hK K
          try simp only [Act.put]
          try simp only [List.setIfInBounds_toArray]
          try simp only [List.set_cons_zero]
          try simp only [List.set_cons_succ]
          refine wpAnyH_ready (rs := [6]) (by kernel_rfl) (by simp) ?_
          refine (AllReadyH.cons rfl (fun K hK => ?_) AllReadyH.nil)
          · go_simp
            refine hK.out _ _ (hSof _ h.bs2.hb) (fun _ => ?_)
            clear hK K
            have h := h.bs2
            obtain ⟨V28, hV⟩ : ∃ V28, V28 = W3.alloc (.cells #[.int .i64 need] 2) := ⟨_, rfl⟩
            rw [← hV] at h ⊢
            clear hV
            refine wpAnyH_ready (rs := [7]) (by kernel_rfl) (by simp) ?_
            refine (AllReadyH.cons rfl (fun K hK => ?_) AllReadyH.nil)
            · refine step_appL_Try (by rfl) _ _ (by rfl) w2.heap.size _ _ (by rfl) (h.ho _ _ rfl) _ need (by rfl) (h.h6 _ rfl).1 (by simp; omega) h.hb.size ?_
              intro g7 c7 W7 ho hg hat hlt
              have h := h.app ho hg (hat.elim (fun e => .inl (by rw [e]; rfl)) (fun e => .inr (by rw [e]; rfl)))
              clear ho hg hat hlt
              refine hK.out _ _ (hSof _ h.hb) (fun _ => ?_)
              clear hK K
              try simp only [Act.put]
              try simp only [List.setIfInBounds_toArray]
              try simp only [List.set_cons_zero]
              try simp only [List.set_cons_succ]
              refine wpAnyH_ready (rs := [9]) (by kernel_rfl) (by simp) ?_
              refine (AllReadyH.cons rfl (fun K hK => ?_) AllReadyH.nil)
              · obtain ⟨k1, k2, k3⟩ := h.h8 _ rfl
                have y1 := lt_of_block k1
                have y2 := frozen_of_row _ _ 0 _ _ k1
                have y3 := cell_of_row _ _ 0 _ _ _ k1
                simp only [List.getElem?_toArray, List.getElem?_cons_zero] at y3
                go_simp
                refine hK.out _ _ (hSof _ (h.hb.setCell (p := ⟨V1.heap.size, 0, none⟩) k2 _)) (fun _ => ?_)
                clear hK K
                refine wpAnyH_done (by kernel_rfl) ?_ _
                go_wp2_with fail
                go_meet
                exact h.fin (by simp) (by simp)
        · go_simp
          refine hK.out _ _ (hSof _ h.bs2.hb) (fun _ => ?_)
          clear hK K
          have h := h.bs2
          obtain ⟨V31, hV⟩ : ∃ V31, V31 = V26.alloc (.cells #[.int .i64 need] 2) := ⟨_, rfl⟩
          rw [← hV] at h ⊢
          clear hV
          refine wpAnyH_ready (rs := [3]) (by kernel_rfl) (by simp) ?_
          refine (AllReadyH.cons rfl (fun K hK => ?_) AllReadyH.nil)
          · refine step_appAllL_Try (by rfl) _ _ (by rfl) w2.heap.size _ _ (by rfl) (h.ho _ _ rfl) A c ps (by rfl) (hrd.later h.hb (Nat.le_refl _)) (by simp; omega) h.hb.size ?_
            intro A3 c3 W3 ho hg hat
            have h := h.app ho hg hat
            clear ho hg hat
            refine hK.out _ _ (hSof _ h.hb) (fun _ => ?_)
            clear hK K
            try simp only [Act.put]
            try simp only [List.setIfInBounds_toArray]
            try simp only [List.set_cons_zero]
            try simp only [List.set_cons_succ]
            refine wpAnyH_ready (rs := [7]) (by kernel_rfl) (by simp) ?_
            refine (AllReadyH.cons rfl (fun K hK => ?_) AllReadyH.nil)
            · refine step_appL_Try (by rfl) _ _ (by rfl) w2.heap.size _ _ (by rfl) (h.ho _ _ rfl) _ need (by rfl) (h.h6 _ rfl).1 (by simp; omega) h.hb.size ?_
              intro g7 c7 W7 ho hg hat hlt
              have h := h.app ho hg (hat.elim (fun e => .inl (by rw [e]; rfl)) (fun e => .inr (by rw [e]; rfl)))
              clear ho hg hat hlt
              refine hK.out _ _ (hSof _ h.hb) (fun _ => ?_)
              clear hK K
              try simp only [Act.put]
              try simp only [List.setIfInBounds_toArray]
              try simp only [List.set_cons_zero]
              try simp only [List.set_cons_succ]
              refine wpAnyH_ready (rs := [9]) (by kernel_rfl) (by simp) ?_
              refine (AllReadyH.cons rfl (fun K hK => ?_) AllReadyH.nil)
              · obtain ⟨k1, k2, k3⟩ := h.h8 _ rfl
                have y1 := lt_of_block k1
                have y2 := frozen_of_row _ _ 0 _ _ k1
                have y3 := cell_of_row _ _ 0 _ _ _ k1
                simp only [List.getElem?_toArray, List.getElem?_cons_zero] at y3
                go_simp
                refine hK.out _ _ (hSof _ (h.hb.setCell (p := ⟨V1.heap.size, 0, none⟩) k2 _)) (fun _ => ?_)
                clear hK K
                refine wpAnyH_done (by kernel_rfl) ?_ _
                go_wp2_with fail
                go_meet
                exact h.fin (by simp) (by simp)
    · go_simp
      refine hK.out _ _ (hSof _ h.bs2.hb) (fun _ => ?_)
      clear hK K
      have h := h.bs2
      obtain ⟨V35, hV⟩ : ∃ V35, V35 = V0.alloc (.cells #[.int .i64 need] 2) := ⟨_, rfl⟩
      rw [← hV] at h ⊢
      clear hV
      refine wpAnyH_ready (rs := [0, 8]) (by kernel_rfl) (by simp) ?_
      refine (AllReadyH.cons rfl (fun K hK => ?_) (AllReadyH.cons rfl (fun K hK => ?_) AllReadyH.nil))
      · go_simp
        refine hK.out _ _ (hSof _ h.bs1.hb) (fun _ => ?_)
        clear hK K
        have h := h.bs1
        obtain ⟨V36, hV⟩ : ∃ V36, V36 = V35.alloc (.cells #[.int .i64 0] 2) := ⟨_, rfl⟩
        rw [← hV] at h ⊢
        clear hV
        refine wpAnyH_ready (rs := [3, 8]) (by kernel_rfl) (by simp) ?_
        refine (AllReadyH.cons rfl (fun K hK => ?_) (AllReadyH.cons rfl (fun K hK => ?_) AllReadyH.nil))
        · refine step_appAllL_Try (by rfl) _ _ (by rfl) w2.heap.size _ _ (by rfl) (h.ho _ _ rfl) A c ps (by rfl) (hrd.later h.hb (Nat.le_refl _)) (by simp; omega) h.hb.size ?_
          intro A3 c3 W3 ho hg hat
          have h := h.app ho hg hat
          clear ho hg hat
          refine hK.out _ _ (hSof _ h.hb) (fun _ => ?_)
          clear hK K
          try simp only [Act.put]
          try simp only [List.setIfInBounds_toArray]
          try simp only [List.set_cons_zero]
          try simp only [List.set_cons_succ]
          refine wpAnyH_ready (rs := [7, 8]) (by kernel_rfl) (by simp) ?_
          refine (AllReadyH.cons rfl (fun K hK => ?_) (AllReadyH.cons rfl (fun K hK => ?_) AllReadyH.nil))
          · refine step_appL_Try (by rfl) _ _ (by rfl) w2.heap.size _ _ (by rfl) (h.ho _ _ rfl) _ need (by rfl) (h.h6 _ rfl).1 (by simp; omega) h.hb.size ?_
            intro g7 c7 W7 ho hg hat hlt
            have h := h.app ho hg (hat.elim (fun e => .inl (by rw [e]; rfl)) (fun e => .inr (by rw [e]; rfl)))
            clear ho hg hat hlt
            refine hK.out _ _ (hSof _ h.hb) (fun _ => ?_)
            clear hK K
            try simp only [Act.put]
            try simp only [List.setIfInBounds_toArray]
            try simp only [List.set_cons_zero]
            try simp only [List.set_cons_succ]
            refine wpAnyH_ready (rs := [8]) (by kernel_rfl) (by simp) ?_
            refine (AllReadyH.cons rfl (fun K hK => ?_) AllReadyH.nil)
            · go_simp
              refine hK.out _ _ (hSof _ h.cel.hb) (fun _ => ?_)
              clear hK K
              have h := h.cel
              obtain ⟨V39, hV⟩ : ∃ V39, V39 = W7.alloc (.cells #[.slice none 0 0] 22) := ⟨_, rfl⟩
              rw [← hV] at h ⊢
              clear hV
              refine wpAnyH_ready (rs := [9]) (by kernel_rfl) (by simp) ?_
              refine (AllReadyH.cons rfl (fun K hK => ?_) AllReadyH.nil)
              · obtain ⟨k1, k2, k3⟩ := h.h8 _ rfl
                have y1 := lt_of_block k1
                have y2 := frozen_of_row _ _ 0 _ _ k1
                have y3 := cell_of_row _ _ 0 _ _ _ k1
                simp only [List.getElem?_toArray, List.getElem?_cons_zero] at y3
                go_simp
                refine hK.out _ _ (hSof _ (h.hb.setCell (p := ⟨W7.heap.size, 0, none⟩) k2 _)) (fun _ => ?_)
                clear hK K
                refine wpAnyH_done (by kernel_rfl) ?_ _
                go_wp2_with fail
                go_meet
                exact h.fin (by simp) (by simp)
          · go_simp
            refine hK.out _ _ (hSof _ h.cel.hb) (fun _ => ?_)
            clear hK K
            have h := h.cel
            obtain ⟨V41, hV⟩ : ∃ V41, V41 = W3.alloc (.cells #[.slice none 0 0] 22) := ⟨_, rfl⟩
            rw [← hV] at h ⊢
            clear hV
            refine wpAnyH_ready (rs := [7]) (by kernel_rfl) (by simp) ?_
            refine (AllReadyH.cons rfl (fun K hK => ?_) AllReadyH.nil)
            · refine step_appL_Try (by rfl) _ _ (by rfl) w2.heap.size _ _ (by rfl) (h.ho _ _ rfl) _ need (by rfl) (h.h6 _ rfl).1 (by simp; omega) h.hb.size ?_
              intro g7 c7 W7 ho hg hat hlt
              have h := h.app ho hg (hat.elim (fun e => .inl (by rw [e]; rfl)) (fun e => .inr (by rw [e]; rfl)))
              clear ho hg hat hlt
              refine hK.out _ _ (hSof _ h.hb) (fun _ => ?_)
              clear hK K
              try simp only [Act.put]
              try simp only [List.setIfInBounds_toArray]
              try simp only [List.set_cons_zero]
              try simp only [List.set_cons_succ]
              refine wpAnyH_ready (rs := [9]) (by kernel_rfl) (by simp) ?_
              refine (AllReadyH.cons rfl (fun K hK => ?_) AllReadyH.nil)
              · obtain ⟨k1, k2, k3⟩ := h.h8 _ rfl
                have y1 := lt_of_block k1
                have y2 := frozen_of_row _ _ 0 _ _ k1
                have y3 := cell_of_row _ _ 0 _ _ _ k1
                simp only [List.getElem?_toArray, List.getElem?_cons_zero] at y3
                go_simp
                refine hK.out _ _ (hSof _ (h.hb.setCell (p := ⟨W3.heap.size, 0, none⟩) k2 _)) (fun _ => ?_)
                clear hK K
                refine wpAnyH_done (by kernel_rfl) ?_ _
                go_wp2_with fail
                go_meet
                exact h.fin (by simp) (by simp)
        · go_simp
          refine hK.out _ _ (hSof _ h.cel.hb) (fun _ => ?_)
          clear hK K
          have h := h.cel
          obtain ⟨V44, hV⟩ : ∃ V44, V44 = V36.alloc (.cells #[.slice none 0 0] 22) := ⟨_, rfl⟩
          rw [← hV] at h ⊢
          clear hV
          refine wpAnyH_ready (rs := [3]) (by kernel_rfl) (by simp) ?_
          refine (AllReadyH.cons rfl (fun K hK => ?_) AllReadyH.nil)
          · refine step_appAllL_Try (by rfl) _ _ (by rfl) w2.heap.size _ _ (by rfl) (h.ho _ _ rfl) A c ps (by rfl) (hrd.later h.hb (Nat.le_refl _)) (by simp; omega) h.hb.size ?_
            intro A3 c3 W3 ho hg hat
            have h := h.app ho hg hat
            clear ho hg hat
            refine hK.out _ _ (hSof _ h.hb) (fun _ => ?_)
            clear hK K
            try simp only [Act.put]
            try simp only [List.setIfInBounds_toArray]
            try simp only [List.set_cons_zero]
            try simp only [List.set_cons_succ]
            refine wpAnyH_ready (rs := [7]) (by kernel_rfl) (by simp) ?_
            refine (AllReadyH.cons rfl (fun K hK => ?_) AllReadyH.nil)
            · refine step_appL_Try (by rfl) _ _ (by rfl) w2.heap.size _ _ (by rfl) (h.ho _ _ rfl) _ need (by rfl) (h.h6 _ rfl).1 (by simp; omega) h.hb.size ?_
              intro g7 c7 W7 ho hg hat hlt
              have h := h.app ho hg (hat.elim (fun e => .inl (by rw [e]; rfl)) (fun e => .inr (by rw [e]; rfl)))
              clear ho hg hat hlt
              refine hK.out _ _ (hSof _ h.hb) (fun _ => ?_)
              clear hK K
              try simp only [Act.put]
              try simp only [List.setIfInBounds_toArray]
              try simp only [List.set_cons_zero]
              try simp only [List.set_cons_succ]
              refine wpAnyH_ready (rs := [9]) (by kernel_rfl) (by simp) ?_
              refine (AllReadyH.cons rfl (fun K hK => ?_) AllReadyH.nil)
              · obtain ⟨k1, k2, k3⟩ := h.h8 _ rfl
                have y1 := lt_of_block k1
                have y2 := frozen_of_row _ _ 0 _ _ k1
                have y3 := cell_of_row _ _ 0 _ _ _ k1
                simp only [List.getElem?_toArray, List.getElem?_cons_zero] at y3
                go_simp
                refine hK.out _ _ (hSof _ (h.hb.setCell (p := ⟨V36.heap.size, 0, none⟩) k2 _)) (fun _ => ?_)
                clear hK K
                refine wpAnyH_done (by kernel_rfl) ?_ _
                go_wp2_with fail
                go_meet
                exact h.fin (by simp) (by simp)
      · go_simp
        refine hK.out _ _ (hSof _ h.cel.hb) (fun _ => ?_)
        clear hK K
        have h := h.cel
        obtain ⟨V48, hV⟩ : ∃ V48, V48 = V35.alloc (.cells #[.slice none 0 0] 22) := ⟨_, rfl⟩
        rw [← hV] at h ⊢
        clear hV
        refine wpAnyH_ready (rs := [0]) (by kernel_rfl) (by simp) ?_
        refine (AllReadyH.cons rfl (fun K hK => ?_) AllReadyH.nil)
        · go_simp
          refine hK.out _ _ (hSof _ h.bs1.hb) (fun _ => ?_)
          clear hK K
          have h := h.bs1
          obtain ⟨V49, hV⟩ : ∃ V49, V49 = V48.alloc (.cells #[.int .i64 0] 2) := ⟨_, rfl⟩
          rw [← hV] at h ⊢
          clear hV
          refine wpAnyH_ready (rs := [3]) (by kernel_rfl) (by simp) ?_
          refine (AllReadyH.cons rfl (fun K hK => ?_) AllReadyH.nil)
          · refine step_appAllL_Try (by rfl) _ _ (by rfl) w2.heap.size _ _ (by rfl) (h.ho _ _ rfl) A c ps (by rfl) (hrd.later h.hb (Nat.le_refl _)) (by simp; omega) h.hb.size ?_
            intro A3 c3 W3 ho hg hat
            have h := h.app ho hg hat
            clear ho hg hat
            refine hK.out _ _ (hSof _ h.hb) (fun _ => ?_)
            clear hK K
            try simp only [Act.put]
            try simp only [List.setIfInBounds_toArray]
            try simp only [List.set_cons_zero]
            try simp only [List.set_cons_succ]
            refine wpAnyH_ready (rs := [7]) (by kernel_rfl) (by simp) ?_
            refine (AllReadyH.cons rfl (fun K hK => ?_) AllReadyH.nil)
            · refine step_appL_Try (by rfl) _ _ (by rfl) w2.heap.size _ _ (by rfl) (h.ho _ _ rfl) _ need (by rfl) (h.h6 _ rfl).1 (by simp; omega) h.hb.size ?_
              intro g7 c7 W7 ho hg hat hlt
              have h := h.app ho hg (hat.elim (fun e => .inl (by rw [e]; rfl)) (fun e => .inr (by rw [e]; rfl)))
              clear ho hg hat hlt
              refine hK.out _ _ (hSof _ h.hb) (fun _ => ?_)
              clear hK K
              try simp only [Act.put]
              try simp only [List.setIfInBounds_toArray]
              try simp only [List.set_cons_zero]
              try simp only [List.set_cons_succ]
              refine wpAnyH_ready (rs := [9]) (by kernel_rfl) (by simp) ?_
              refine (AllReadyH.cons rfl (fun K hK => ?_) AllReadyH.nil)
              · obtain ⟨k1, k2, k3⟩ := h.h8 _ rfl
                have y1 := lt_of_block k1
                have y2 := frozen_of_row _ _ 0 _ _ k1
                have y3 := cell_of_row _ _ 0 _ _ _ k1
                simp only [List.getElem?_toArray, List.getElem?_cons_zero] at y3
                go_simp
                refine hK.out _ _ (hSof _ (h.hb.setCell (p := ⟨V35.heap.size, 0, none⟩) k2 _)) (fun _ => ?_)
                clear hK K
                refine wpAnyH_done (by kernel_rfl) ?_ _
                go_wp2_with fail
                go_meet
                exact h.fin (by simp) (by simp)
    · go_simp
      refine hK.out _ _ (hSof _ h.cel.hb) (fun _ => ?_)
      clear hK K
      have h := h.cel
      obtain ⟨V53, hV⟩ : ∃ V53, V53 = V0.alloc (.cells #[.slice none 0 0] 22) := ⟨_, rfl⟩
      rw [← hV] at h ⊢
      clear hV
      refine wpAnyH_ready (rs := [0, 6]) (by kernel_rfl) (by simp) ?_
      refine (AllReadyH.cons rfl (fun K hK => ?_) (AllReadyH.cons rfl (fun K hK => ?_) AllReadyH.nil))
      · go_simp
        refine hK.out _ _ (hSof _ h.bs1.hb) (fun _ => ?_)
        clear hK K
        have h := h.bs1
        obtain ⟨V54, hV⟩ : ∃ V54, V54 = V53.alloc (.cells #[.int .i64 0] 2) := ⟨_, rfl⟩
        rw [← hV] at h ⊢
        clear hV
        refine wpAnyH_ready (rs := [3, 6]) (by kernel_rfl) (by simp) ?_
        refine (AllReadyH.cons rfl (fun K hK => ?_) (AllReadyH.cons rfl (fun K hK => ?_) AllReadyH.nil))
        · refine step_appAllL_Try (by rfl) _ _ (by rfl) w2.heap.size _ _ (by rfl) (h.ho _ _ rfl) A c ps (by rfl) (hrd.later h.hb (Nat.le_refl _)) (by simp; omega) h.hb.size ?_
          intro A3 c3 W3 ho hg hat
          have h := h.app ho hg hat
          clear ho hg hat
          refine hK.out _ _ (hSof _ h.hb) (fun _ => ?_)
          clear hK K
          try simp only [Act.put]
          try simp only [List.setIfInBounds_toArray]
          try simp only [List.set_cons_zero]
          try simp only [List.set_cons_succ]
          refine wpAnyH_ready (rs := [6]) (by kernel_rfl) (by simp) ?_
          refine (AllReadyH.cons rfl (fun K hK => ?_) AllReadyH.nil)
          · go_simp
            refine hK.out _ _ (hSof _ h.bs2.hb) (fun _ => ?_)
            clear hK K
            have h := h.bs2
            obtain ⟨V56, hV⟩ : ∃ V56, V56 = W3.alloc (.cells #[.int .i64 need] 2) := ⟨_, rfl⟩
            rw [← hV] at h ⊢
            clear hV
            refine wpAnyH_ready (rs := [7]) (by kernel_rfl) (by simp) ?_
            refine (AllReadyH.cons rfl (fun K hK => ?_) AllReadyH.nil)
            · refine step_appL_Try (by rfl) _ _ (by rfl) w2.heap.size _ _ (by rfl) (h.ho _ _ rfl) _ need (by rfl) (h.h6 _ rfl).1 (by simp; omega) h.hb.size ?_
              intro g7 c7 W7 ho hg hat hlt
              have h := h.app ho hg (hat.elim (fun e => .inl (by rw [e]; rfl)) (fun e => .inr (by rw [e]; rfl)))
              clear ho hg hat hlt
              refine hK.out _ _ (hSof _ h.hb) (fun _ => ?_)
              clear hK K
              try simp only [Act.put]
              try simp only [List.setIfInBounds_toArray]
              try simp only [List.set_cons_zero]
              try simp only [List.set_cons_succ]
              refine wpAnyH_ready (rs := [9]) (by kernel_rfl) (by simp) ?_
              refine (AllReadyH.cons rfl (fun K hK => ?_) AllReadyH.nil)
              · obtain ⟨k1, k2, k3⟩ := h.h8 _ rfl
                have y1 := lt_of_block k1
                have y2 := frozen_of_row _ _ 0 _ _ k1
                have y3 := cell_of_row _ _ 0 _ _ _ k1
                simp only [List.getElem?_toArray, List.getElem?_cons_zero] at y3
                go_simp
                refine hK.out _ _ (hSof _ (h.hb.setCell (p := ⟨V0.heap.size, 0, none⟩) k2 _)) (fun _ => ?_)
                clear hK K
                refine wpAnyH_done (by kernel_rfl) ?_ _
                go_wp2_with fail
                go_meet
                exact h.fin (by simp) (by simp)
        · go_simp
          refine hK.out _ _ (hSof _ h.bs2.hb) (fun _ => ?_)
          clear hK K
          have h := h.bs2
          obtain ⟨V59, hV⟩ : ∃ V59, V59 = V54.alloc (.cells #[.int .i64 need] 2) := ⟨_, rfl⟩
          rw [← hV] at h ⊢
          clear hV
          refine wpAnyH_ready (rs := [3]) (by kernel_rfl) (by simp) ?_
          refine (AllReadyH.cons rfl (fun K hK => ?_) AllReadyH.nil)
          · refine step_appAllL_Try (by rfl) _ _ (by rfl) w2.heap.size _ _ (by rfl) (h.ho _ _ rfl) A c ps (by rfl) (hrd.later h.hb (Nat.le_refl _)) (by simp; omega) h.hb.size ?_
            intro A3 c3 W3 ho hg hat
            have h := h.app ho hg hat
            clear ho hg hat
            refine hK.out _ _ (hSof _ h.hb) (fun _ => ?_)
            clear hK K
            try simp only [Act.put]
            try simp only [List.setIfInBounds_toArray]
            try simp only [List.set_cons_zero]
            try simp only [List.set_cons_succ]
            refine wpAnyH_ready (rs := [7]) (by kernel_rfl) (by simp) ?_
            refine (AllReadyH.cons rfl (fun K hK => ?_) AllReadyH.nil)
            · refine step_appL_Try (by rfl) _ _ (by rfl) w2.heap.size _ _ (by rfl) (h.ho _ _ rfl) _ need (by rfl) (h.h6 _ rfl).1 (by simp; omega) h.hb.size ?_
              intro g7 c7 W7 ho hg hat hlt
              have h := h.app ho hg (hat.elim (fun e => .inl (by rw [e]; rfl)) (fun e => .inr (by rw [e]; rfl)))
              clear ho hg hat hlt
              refine hK.out _ _ (hSof _ h.hb) (fun _ => ?_)
              clear hK K
              try simp only [Act.put]
              try simp only [List.setIfInBounds_toArray]
              try simp only [List.set_cons_zero]
              try simp only [List.set_cons_succ]
              refine wpAnyH_ready (rs := [9]) (by kernel_rfl) (by simp) ?_
              refine (AllReadyH.cons rfl (fun K hK => ?_) AllReadyH.nil)
              · obtain ⟨k1, k2, k3⟩ := h.h8 _ rfl
                have y1 := lt_of_block k1
                have y2 := frozen_of_row _ _ 0 _ _ k1
                have y3 := cell_of_row _ _ 0 _ _ _ k1
                simp only [List.getElem?_toArray, List.getElem?_cons_zero] at y3
                go_simp
                refine hK.out _ _ (hSof _ (h.hb.setCell (p := ⟨V0.heap.size, 0, none⟩) k2 _)) (fun _ => ?_)
                clear hK K
                refine wpAnyH_done (by kernel_rfl) ?_ _
                go_wp2_with fail
                go_meet
                exact h.fin (by simp) (by simp)
      · go_simp
        refine hK.out _ _ (hSof _ h.bs2.hb) (fun _ => ?_)
        clear hK K
        have h := h.bs2
        obtain ⟨V63, hV⟩ : ∃ V63, V63 = V53.alloc (.cells #[.int .i64 need] 2) := ⟨_, rfl⟩
        rw [← hV] at h ⊢
        clear hV
        refine wpAnyH_ready (rs := [0]) (by kernel_rfl) (by simp) ?_
        refine (AllReadyH.cons rfl (fun K hK => ?_) AllReadyH.nil)
        · go_simp
          refine hK.out _ _ (hSof _ h.bs1.hb) (fun _ => ?_)
          clear hK K
          have h := h.bs1
          obtain ⟨V64, hV⟩ : ∃ V64, V64 = V63.alloc (.cells #[.int .i64 0] 2) := ⟨_, rfl⟩
          rw [← hV] at h ⊢
          clear hV
          refine wpAnyH_ready (rs := [3]) (by kernel_rfl) (by simp) ?_
          refine (AllReadyH.cons rfl (fun K hK => ?_) AllReadyH.nil)
          · refine step_appAllL_Try (by rfl) _ _ (by rfl) w2.heap.size _ _ (by rfl) (h.ho _ _ rfl) A c ps (by rfl) (hrd.later h.hb (Nat.le_refl _)) (by simp; omega) h.hb.size ?_
            intro A3 c3 W3 ho hg hat
            have h := h.app ho hg hat
            clear ho hg hat
            refine hK.out _ _ (hSof _ h.hb) (fun _ => ?_)
            clear hK K
            try simp only [Act.put]
            try simp only [List.setIfInBounds_toArray]
            try simp only [List.set_cons_zero]
            try simp only [List.set_cons_succ]
            refine wpAnyH_ready (rs := [7]) (by kernel_rfl) (by simp) ?_
            refine (AllReadyH.cons rfl (fun K hK => ?_) AllReadyH.nil)
            · refine step_appL_Try (by rfl) _ _ (by rfl) w2.heap.size _ _ (by rfl) (h.ho _ _ rfl) _ need (by rfl) (h.h6 _ rfl).1 (by simp; omega) h.hb.size ?_
              intro g7 c7 W7 ho hg hat hlt
              have h := h.app ho hg (hat.elim (fun e => .inl (by rw [e]; rfl)) (fun e => .inr (by rw [e]; rfl)))
              clear ho hg hat hlt
              refine hK.out _ _ (hSof _ h.hb) (fun _ => ?_)
              clear hK K
              try simp only [Act.put]
              try simp only [List.setIfInBounds_toArray]
              try simp only [List.set_cons_zero]
              try simp only [List.set_cons_succ]
              refine wpAnyH_ready (rs := [9]) (by kernel_rfl) (by simp) ?_
              refine (AllReadyH.cons rfl (fun K hK => ?_) AllReadyH.nil)
              · obtain ⟨k1, k2, k3⟩ := h.h8 _ rfl
                have y1 := lt_of_block k1
                have y2 := frozen_of_row _ _ 0 _ _ k1
                have y3 := cell_of_row _ _ 0 _ _ _ k1
                simp only [List.getElem?_toArray, List.getElem?_cons_zero] at y3
                go_simp
                refine hK.out _ _ (hSof _ (h.hb.setCell (p := ⟨V0.heap.size, 0, none⟩) k2 _)) (fun _ => ?_)
                clear hK K
                refine wpAnyH_done (by kernel_rfl) ?_ _
                go_wp2_with fail
                go_meet
                exact h.fin (by simp) (by simp)
  case rest =>
    obtain ⟨g, R, cap, rfl, hcg, hcr, hRl, hg2, hR2, hRg, hbw⟩ := hcut
    have hM2 := (hbw.block _ (lt_of_block hM)).trans hM
    obtain ⟨n, hn⟩ : ∃ n, n = (allL need ps).length := ⟨_, rfl⟩
    obtain ⟨m, hm⟩ : ∃ m, m = n - 2 := ⟨_, rfl⟩
    have hnl : n = ps.length + 2 := by rw [hn, allL_len]
    rw [← hn] at hcg hcr
    have hn9 : n ≤ 202 := by omega
    have hn2 : 2 ≤ n := by omega
    have hwm : IntKind.i64.wrap ((n : Int) - 2) = (m : Int) := by rw [IntWalk.i64_in _ (by omega)]; omega
    have hmk := run_make_row' (P := Try.prog) 23 3 (.int .i64 0) 8 Try.underlying23 info_int_Try rfl .i64 .i64 n (by omega) (by omega)
    have hs0 := lt_of_block hcg
    have hs1 := lt_of_block hM2
    have c1 := cell_of_row _ _ 0 _ _ _ hcg
    simp only [List.getElem?_toArray, List.getElem?_cons_zero] at c1
    have hsm := lt_of_block hM
    have hs2 := hbw.size
    clear HSof hT hM hrd
    generalize hnb : wc.heap.size = nb at *
    have HCG := Lib.hid hcg; have HCR := Lib.hid hcr; have HM2 := Lib.hid hM2; have HN := Lib.hid hn; have HM := Lib.hid hm; have HNL := Lib.hid hnl; have HNB := Lib.hid hnb; have HBW := Lib.hid hbw; have HB2 := Lib.hid hb2; have HPS := Lib.hid hps; clear hcg hcr hM2 hn hm hnl hnb hbw hb2 hps
    go_wp2
    rw [HNB.out]
    rw [show nb + 1 + 1 + 1 = nb + 3 from rfl, show nb + 1 + 1 = nb + 2 from rfl]
    clear hmk
    obtain ⟨w3, hw3⟩ : ∃ w3, w3 = (((wc.alloc (.cells #[.int .i64 (n : Int)] 3)).alloc (.cells (madeCells #[.int .i64 0] n) 3)).alloc (.cells #[.slice (some ⟨nb + 1, 0, none⟩) n n] 23)).alloc (.cells #[.int .i64 (m : Int)] 3) := ⟨_, rfl⟩
    rw [← hw3]
    obtain ⟨hW, hB, hI⟩ := w1_start (al := alF need ps) (m : Int) HNB.out HCG.out (fun j hj => HCR.out j hj) HM2.out HBW.out ⟨hs0, hs1, hRl, hs2⟩ hw3
    have hal : ∀ j, j < n → 0 ≤ alF need ps j ∧ alF need ps j ≤ 1000000000000 := fun j hj => alF_rng HASC.out HNEED.out j (by have := HNL.out; omega)
    have hL := Lp1.start (alF need ps) n most
    have hm1 : m + 1 = n - 1 := by have := HM.out; omega
    have hmono : ∀ i j, i ≤ j → j < n → alF need ps i ≤ alF need ps j := fun i j h1 h2 => alF_mono HASC.out i j h1 (by have := HNL.out; omega)
    clear HCG HCR HM2 HBW HNB hw3 c1
    obtain ⟨al, hale⟩ : ∃ al, al = alF need ps := ⟨_, rfl⟩
    rw [← hale] at hW hal hL hmono
    have HW := Lib.hid hW; have HB := Lib.hid hB; have HI := Lib.hid hI; have HAL := Lib.hid hal; have HL := Lib.hid hL; have HM1 := Lib.hid hm1; have HMONO := Lib.hid hmono; have HALE := Lib.hid hale; clear hW hB hI hal hL hm1 hmono hale
    generalize hmb : w.heap.size + 1 = mb at *
    have HMB := Lib.hid hmb; clear hmb
    go_loopw [10] (fun pv wr => ∃ (ib i : Nat) (z : Int) (b : Nat → Int), pv = .pointer (some ⟨ib, 0, none⟩) ∧ wr.heap[ib]? = some (.cells #[.int .i64 z] 3 (0, 0)) ∧ nb + 3 ≤ ib ∧ z + 1 = i ∧ i < n ∧ W1 w2 wr nb mb g R n cap most al ∧ BI wr (nb + 1) 3 n b ∧ Lp1 al n most b i) (fun pv wr => (ptI wr pv + 1).toNat)
    case atStart => exact ⟨nb + 3, n - 1, m, _, rfl, HI.out, Nat.le_refl _, by have := HM1.out; omega, by omega, HW.out, HB.out, HL.out⟩
    case round =>
      clear HW HB HI HL HM1
      obtain ⟨ib, i, z, b, rfl, hib, hib3, hz, hin, hW, hB, hL⟩ := hrel
      have ci := cell_of_row _ _ 0 _ _ _ hib
      have cb := cell_of_row _ _ 0 _ _ _ hW.cb
      simp only [List.getElem?_toArray, List.getElem?_cons_zero] at ci cb
      have li := lt_of_block hib
      have lb := lt_of_block hW.cb
      have lS := hB.lt
      cases i with
      | zero =>
        obtain rfl : z = -1 := by omega
        have c0 := hB.at_ (p := 0) (by omega)
        have hbs : BhIs al n most b := ⟨hL.last, fun j hj => hL.st j (Nat.zero_le _) hj, HMONO.out⟩
        have x1 : (0 : Int) < (n : Int) := by omega
        have hr := hL.rng
        obtain ⟨b0, hb0⟩ : ∃ b0, b0 = b 0 := ⟨_, rfl⟩
        rw [← hb0] at c0
        obtain ⟨w5, rfl⟩ : ∃ w5, w5 = wr := ⟨_, rfl⟩
        have hbw := HB2.out.trans (hW.hb.mono HB2.out.size)
        by_cases hbig : 1073741824 ≤ b0
        · have d1 : decide (1073741824 ≤ b0) = true := decide_eq_true hbig
          have hno : knO need ps most = none := by
            rw [knO_none HMOST.out HPS.out HASC.out, ← HALE.out, ← HNL.out]
            exact hbs.none (by omega) (by omega) (by omega)
          have HIB := Lib.hid hib; have HZ := Lib.hid hz; have HW := Lib.hid hW; have HB := Lib.hid hB; have HL := Lib.hid hL; have HBS := Lib.hid hbs; have HR := Lib.hid hr; have HB0 := Lib.hid hb0; have HBW := Lib.hid hbw; have HNO := Lib.hid hno; have HBIG := Lib.hid hbig; clear hib hz hW hB hL hbs hr hb0 hbw hno hbig
          go_wp2
          go_ret2
          exact ⟨_, false, rfl, HBW.out, by rw [HNO.out]; exact ⟨rfl, rfl⟩⟩
        have d1 : decide (1073741824 ≤ b0) = false := decide_eq_false hbig
        have hW6 := hW.alloc (.cells #[.int .i64 0] 3)
        have hB6 := hB.later ((Below.refl _ _).alloc (Nat.le_refl _) (.cells #[.int .i64 0] 3))
        have hlt : b 0 < 1073741824 := by omega
        have hI6 := heap_alloc_new w5 (.cells #[.int .i64 0] 3)
        clear hib hW hB hbw hbig hz
        have HW6 := Lib.hid hW6; have HB6 := Lib.hid hB6; have HI6 := Lib.hid hI6; have HL := Lib.hid hL; have HBS := Lib.hid hbs; have HR := Lib.hid hr; have HB0 := Lib.hid hb0; have HLT := Lib.hid hlt; clear hW6 hB6 hI6 hL hbs hr hb0 hlt
        go_wp2
        clear d1 c0 ci li cb
        go_loopw [11, 12] (fun ov pv wr => ∃ (ib i : Nat) (pre : List Nat), pv = .pointer (some ⟨ib, 0, none⟩) ∧ wr.heap[ib]? = some (.cells #[.int .i64 (i : Int)] 3 (0, 0)) ∧ nb + 3 ≤ ib ∧ i < n ∧ W1 w2 wr nb mb g R n cap most al ∧ BI wr (nb + 1) 3 n b ∧ wr.ownsRow (nb + 3) 3 1 ov (outI pre).length (ints (outI pre)) ∧ ov.ownBlock ≠ some ib ∧ pre.length ≤ i ∧ (pre.length : Int) + b i = b 0 ∧ (∀ l, ChT al n most b i l → ChT al n most b 0 (pre ++ l))) (fun _ pv wr => (b (ptI wr pv).toNat).toNat)
        case atStart => exact ⟨w5.heap.size, 0, [], rfl, HI6.out, by omega, by omega, HW6.out, HB6.out, ⟨rfl, .inl ⟨rfl, rfl⟩⟩, (by simp [Value.ownBlock]), Nat.le_refl _, by simp, fun l h => h⟩
        case round =>
          clear HW6 HB6 HI6
          obtain ⟨ib, i, pre, rfl, hib, hib3, hin, hW, hB, hown, hne, hpl, hsum, hch⟩ := hrel
          obtain ⟨OA, oc, rfl⟩ := own_slice1 hown
          have ci := cell_of_row _ _ 0 _ _ _ hib
          have cb := cell_of_row _ _ 0 _ _ _ hW.cb
          have cn := cell_of_row _ _ 0 _ _ _ hW.C.cn
          simp only [List.getElem?_toArray, List.getElem?_cons_zero] at ci cb cn
          have li := lt_of_block hib
          have lb := lt_of_block hW.cb
          have ln := lt_of_block hW.C.cn
          have lS := hB.lt
          have ce := hB.at_ hin
          have hr1 := HR.out i hin
          have x1 : (0 : Int) ≤ (i : Int) := by omega
          have x2 : (i : Int) < (n : Int) := by omega
          obtain ⟨bi, hbi⟩ : ∃ bi, bi = b i := ⟨_, rfl⟩
          rw [← hbi] at ce
          by_cases h0 : 0 < bi
          rotate_left
          · have d1 : decide (0 < bi) = false := decide_eq_false h0
            have hk : knO need ps most = some pre := by
              rw [knO_some, ← HALE.out, ← HNL.out]
              have := hch [] (.nil (by omega))
              rw [List.append_nil] at this
              exact this.bestW HBS.out HMOST.out (by omega) HLT.out
            have hbw := HB2.out.trans (hW.hb.mono HB2.out.size)
            have hrd := own_base (base' := w.heap.size) hown (by have := HB2.out.size; omega)
            have HIB := Lib.hid hib; have HW := Lib.hid hW; have HB := Lib.hid hB; have HOWN := Lib.hid hown; have HNE := Lib.hid hne; have HSUM := Lib.hid hsum; have HCH := Lib.hid hch; have HR1 := Lib.hid hr1; have HBI := Lib.hid hbi; have H0 := Lib.hid h0; have HK := Lib.hid hk; have HBW := Lib.hid hbw; have HRD := Lib.hid hrd; clear hib hW hB hown hne hsum hch hr1 hbi h0 hk hbw hrd
            go_wp2
            go_ret2
            exact ⟨_, true, rfl, HBW.out, by rw [HK.out]; exact ⟨rfl, HRD.out⟩⟩
          · have d1 : decide (0 < bi) = true := decide_eq_true h0
            have hi1 : i + 1 < n := by
              rcases Nat.lt_or_ge (i + 1) n with h1 | h1
              · exact h1
              · have h2 : i = n - 1 := by omega
                have h3 := HBS.out.last
                rw [← h2] at h3
                omega
            have hbl : b i < 1073741824 := by have := HLT.out; omega
            obtain ⟨q1, q2, q3, q4⟩ := hW.lt
            have hW4 := hW.alloc (.cells #[.int .i64 (n : Int)] 3)
            have hB4 := hB.later ((Below.refl _ _).alloc (Nat.le_refl _) (.cells #[.int .i64 (n : Int)] 3))
            have hx4 := heap_alloc_new wr (.cells #[.int .i64 (n : Int)] 3)
            have hi4 := (Below.heap_alloc wr (.cells #[.int .i64 (n : Int)] 3) _ li).trans hib
            have ho4 := hown.alloc (.cells #[.int .i64 (n : Int)] 3)
            have hol := hown.lt
            have hlR := hW.C.rl
            have ne : ∀ j, j < wr.heap.size → some j ≠ some wr.heap.size := fun j hj e => by have := Option.some.inj e; omega
            have hcall := follow3_ nb g mb R n cap i most al (nb + 2) ib wr.heap.size (nb + 1) n b _ hW4.C hW4.cb hi4 hx4 hB4 ⟨ne _ (by omega), ne _ (by omega), ne _ (by omega), ne _ (by omega), ne _ (by omega), ne _ (by omega), ne _ (by omega)⟩ hin (by omega) HAL.out HR.out
            clear q1 q2 q3 q4 hlR
            obtain ⟨xb, hxb⟩ : ∃ xb, xb = wr.heap.size := ⟨_, rfl⟩
            have HIB := Lib.hid hib; have HW := Lib.hid hW; have HB := Lib.hid hB; have HOWN := Lib.hid hown; have HNE := Lib.hid hne; have HSUM := Lib.hid hsum; have HCH := Lib.hid hch; have HR1 := Lib.hid hr1; have HBI := Lib.hid hbi; have H0 := Lib.hid h0; have HBL := Lib.hid hbl; have HW4 := Lib.hid hW4; have HB4 := Lib.hid hB4; have HX4 := Lib.hid hx4; have HI4 := Lib.hid hi4; have HO4 := Lib.hid ho4; have HOL := Lib.hid hol; have HCALL := Lib.hid hcall; have NE := Lib.hid ne; have HXB := Lib.hid hxb; clear hib hW hB hown hne hsum hch hr1 hbi h0 hbl hW4 hB4 hx4 hi4 ho4 hol hcall ne hxb
            go_wp2_with fail
            refine HCALL.out.mono ?_
            rintro e w6 ⟨rfl, t, hfl, hx6, hg6⟩
            have hnx := HBS.out.nxt hi1 hfl (by have := HBI.out; have := H0.out; omega) HBL.out
            obtain ⟨q, hq⟩ : ∃ q, q = nxv n b i t := ⟨_, rfl⟩
            rw [← hq] at hnx hx6
            rw [← HXB.out] at hx6 hg6 ⊢
            have hxl := lt_of_block hx6
            have cx6 := cell_of_row _ _ 0 _ _ _ hx6
            simp only [List.getElem?_toArray, List.getElem?_cons_zero] at cx6
            have hs6 := hg6.size
            have hW6 := HW4.out.kept hg6 (.inr (by have := HXB.out; omega))
            have hi6 := (hg6.block ib (by simp; omega) (fun e => by have := Option.some.inj e; have := HXB.out; omega)).trans HI4.out
            have hB6 : BI w6 (nb + 1) 3 n b := (hg6.block (nb + 1) (by simp; omega) (fun e => by have := Option.some.inj e; have := HXB.out; omega)).trans HB4.out
            have hob : ∀ k, (Value.slice OA (outI pre).length oc).ownBlock = some k → nb + 3 ≤ k ∧ k < xb ∧ k ≠ ib := fun k hk => by
              have h1 := HOL.out k hk
              exact ⟨h1.1, by have := HXB.out; omega, fun e => HNE.out (by rw [hk, e])⟩
            have ho6 := HO4.out.kept hg6 (by
              cases hk : (Value.slice OA (outI pre).length oc).ownBlock with
              | none => exact .inl rfl
              | some k => exact .inr (fun e => by have := (hob k hk).2.1; have := Option.some.inj e; omega))
            have hqn : q + 1 < n := hnx.2.1
            have hbq : b q = b i - 1 := hnx.2.2.2.1
            have wq : IntKind.i64.wrap ((q : Int) - 1) = (q : Int) - 1 := IntWalk.i64_in _ (by omega)
            simp only [World.size_alloc] at hs6
            clear HCALL HX4 HI4 HB4 HW4 HO4 hg6 cb cn ce ln d1
            have HQ := Lib.hid hq; have HNX := Lib.hid hnx; have HX6 := Lib.hid hx6; have HW6 := Lib.hid hW6; have HI6 := Lib.hid hi6; have HB6 := Lib.hid hB6; have HO6 := Lib.hid ho6; have HOB := Lib.hid hob; have HFL := Lib.hid hfl; have HBQ := Lib.hid hbq; clear hq hnx hx6 hW6 hi6 hB6 ho6 hob hfl hbq
            go_wp2_with (
              at_builtin
              go_loud (
                go_must (refine wpList_app1_Try (by rfl) _ _ (by rfl) (nb + 3) (.slice OA (outI pre).length oc) (outI pre) (by rfl) (HO6.out.alloc _) w6.heap.size ((q : Int) - 1) (by rfl) (heap_alloc_new _ _) (by rw [outI_len]; omega) (by simp; omega) ?_)
                intro gg cc w7 ho7 hg7 hat7 hlt7
                have hg67 := gb_then (World.grownBy_alloc w6 (.cells #[.int .i64 ((q : Int) - 1)] 3) _) hg7
                have hgk : ∀ k, k < nb + 3 ∨ k = xb ∨ k = ib → some k ≠ (Value.slice OA (outI pre).length oc).ownBlock := fun k hk e => by
                  obtain ⟨e1, e2, e3⟩ := HOB.out k e.symm
                  omega
                have hx7 := (hg67.block xb hxl (hgk _ (.inr (.inl rfl)))).trans HX6.out
                have hi7 := (hg67.block ib (lt_of_block HI6.out) (hgk _ (.inr (.inr rfl)))).trans HI6.out
                have hB7 : BI w7 (nb + 1) 3 n b := (hg67.block (nb + 1) HB6.out.lt (hgk _ (.inl (by omega)))).trans HB6.out
                have hW7 := HW6.out.keptO hg67 (fun k hk => (HOB.out k hk).1)
                have hgi : gg ≠ ib := by
                  have h1 := lt_of_block HI6.out
                  rcases hat7 with h | h
                  · exact (HOB.out gg h).2.2
                  · rw [h]; simp; omega
                have cx7 := cell_of_row _ _ 0 _ _ _ hx7
                have ci7 := cell_of_row _ _ 0 _ _ _ hi7
                simp only [List.getElem?_toArray, List.getElem?_cons_zero] at cx7 ci7
                have ef7 := frozen_of_row _ _ 0 _ _ hi7
                have lx7 := lt_of_block hx7
                have li7 := lt_of_block hi7
                have hgb := gb_set0 (w := w7) (S := ib) (j := 0) (.int .i64 (q : Int))
                have hW8 := (hW7.kept hgb (.inr hib3)).alloc (.cells #[.int .i64 (q : Int)] 3)
                have hB8 : BI ((w7.setCell ⟨ib, 0, none⟩ (.int .i64 (q : Int))).alloc (.cells #[.int .i64 (q : Int)] 3)) (nb + 1) 3 n b := (Below.heap_alloc _ _ _ (by simpa using hB7.lt)).trans ((hgb.block (nb + 1) hB7.lt (fun e => by have := Option.some.inj e; omega)).trans hB7)
                rw [← outI_snoc] at ho7
                have ho8 := (ho7.kept hgb (.inr (fun e => hgi (Option.some.inj e)))).alloc (.cells #[.int .i64 (q : Int)] 3)
                have hch8 : ∀ l, ChT al n most b q l → ChT al n most b 0 (pre ++ [q] ++ l) := fun l hl => by
                  rw [List.append_assoc]
                  exact HCH.out _ (.cons (by rw [← HBI.out]; exact H0.out) HNX.out hl)
                have hsum8 : ((pre ++ [q]).length : Int) + b q = b 0 := by
                  have h1 := HSUM.out
                  have h2 := HBQ.out
                  simp only [List.length_append, List.length_cons, List.length_nil]
                  omega
                have hpl8 : (pre ++ [q]).length ≤ q := by
                  have := HNX.out.1
                  simp only [List.length_append, List.length_cons, List.length_nil]
                  omega
                have hlen8 : (outI (pre ++ [q])).length = (outI pre).length + 1 := by rw [outI_snoc]; simp
                have hne8 : (Value.slice (some ⟨gg, 0, none⟩) ((outI pre).length + 1) cc).ownBlock ≠ some w7.heap.size := fun e => by
                  have e9 : gg = w7.heap.size := Option.some.inj e
                  omega
                have hi8 := heap_alloc_new (w7.setCell ⟨ib, 0, none⟩ (.int .i64 (q : Int))) (.cells #[.int .i64 (q : Int)] 3)
                have hme := ptI_new (w := w7.setCell ⟨ib, 0, none⟩ (.int .i64 (q : Int))) (z := (q : Int)) (T := 3)
                rw [heapSize_setCell] at hi8 hme
                clear ho7 hg7 hat7 hlt7 hg67 hgk hgb
                have HX7 := Lib.hid hx7; have HI7 := Lib.hid hi7; have HB7 := Lib.hid hB7; have HW7 := Lib.hid hW7; have HGI := Lib.hid hgi; have HW8 := Lib.hid hW8; have HB8 := Lib.hid hB8; have HO8 := Lib.hid ho8; have HCH8 := Lib.hid hch8; have HSUM8 := Lib.hid hsum8; have HPL8 := Lib.hid hpl8; have HLEN8 := Lib.hid hlen8; have HNE8 := Lib.hid hne8; have HI8 := Lib.hid hi8; have HME := Lib.hid hme; clear hx7 hi7 hB7 hW7 hgi hW8 hB8 ho8 hch8 hsum8 hpl8 hlen8 hne8 hi8 hme
                skip))
            go_roundw
            case rel => exact ⟨_, q, pre ++ [q], rfl, HI8.out, by omega, by omega, HW8.out, HB8.out, HO8.out, HNE8.out, HPL8.out, HSUM8.out, HCH8.out⟩
            case measure => rw [ptI_at ci, HME.out]; have := HBI.out; have := H0.out; have := HBQ.out; simp only [Int.toNat_natCast]; omega
      | succ k =>
        obtain rfl : z = (k : Int) := by omega
        have y1 : decide ((0 : Int) ≤ (k : Int)) = true := decide_eq_true (by omega)
        have x1 : (0 : Int) ≤ (k : Int) := by omega
        have x2 : (k : Int) < (n : Int) := by omega
        have ef := hB.free k
        have ce := hB.at_ (p := k) (by omega)
        have ci4 : (wr.setCell ⟨nb + 1, k, none⟩ (.int .i64 1073741824)).cell? ⟨ib, 0, none⟩ = some (.int .i64 (k : Int)) := (World.cell?_setCell_far _ _ _ _ (by show nb + 1 ≠ ib; omega)).trans ci
        have li4 : ib < (wr.setCell ⟨nb + 1, k, none⟩ (.int .i64 1073741824)).heap.size := by simpa using li
        have hput := hB.put k 1073741824
        have hgb := gb_set0 (w := wr) (S := nb + 1) (j := k) (.int .i64 1073741824)
        have hW4 := hW.kept hgb (.inl rfl)
        have hi4 := (hgb.block ib li (fun e => by have := Option.some.inj e; omega)).trans hib
        obtain ⟨q1, q2, q3, q4⟩ := hW.lt
        have hb9 : ∀ j, j < n → 0 ≤ upD b k 1073741824 j ∧ upD b k 1073741824 j ≤ 1073741824 := fun j hj => by
          by_cases e : j = k
          · rw [e, upD_same]; omega
          · rw [upD_other _ _ e]; exact hL.rng j hj
        have ne : ∀ j, j ≠ nb + 1 → some j ≠ some (nb + 1) := fun j hj e => hj (Option.some.inj e)
        have hcall := follow2_ nb g mb R n cap k most al (nb + 2) ib (nb + 1) n (upD b k 1073741824) _ hW4.C hW4.cb hi4 hput (upD_same _ _ _) ⟨ne _ (by omega), ne _ (by omega), ne _ (by omega), ne _ (by omega), ne _ (by omega), ne _ (by omega)⟩ (by omega) (by omega) HAL.out hb9
        have hwk : IntKind.i64.wrap ((k : Int) - 1) = (k : Int) - 1 := IntWalk.i64_in _ (by omega)
        clear ne hb9 q1 q2 q3 q4
        have HIB := Lib.hid hib; have HZ := Lib.hid hz; have HW := Lib.hid hW; have HB := Lib.hid hB; have HL := Lib.hid hL; have HPUT := Lib.hid hput; have HGB := Lib.hid hgb; have HW4 := Lib.hid hW4; have HI4 := Lib.hid hi4; have HCALL := Lib.hid hcall; clear hib hz hW hB hL hput hgb hW4 hi4 hcall
        go_wp2_with fail
        refine HCALL.out.mono ?_
        rintro e w5 ⟨rfl, t, hfl, hB5, hg5⟩
        have hW5 := HW4.out.kept hg5 (.inl rfl)
        have hi5 := (hg5.block ib (by simpa using li) (fun e => by have := Option.some.inj e; omega)).trans HI4.out
        have hL5 := HL.out.step hin hfl
        have ci5 := cell_of_row _ _ 0 _ _ _ hi5
        simp only [List.getElem?_toArray, List.getElem?_cons_zero] at ci5
        have li5 := lt_of_block hi5
        have ls5 := lt_of_block hW5.cb
        have hW6 := hW5.alloc (.cells #[.int .i64 ((k : Int) - 1)] 3)
        have hB6 := hB5.later ((Below.refl _ _).alloc (Nat.le_refl _) (.cells #[.int .i64 ((k : Int) - 1)] 3))
        clear hg5 hfl HCALL HPUT HGB HW4 HI4 ef ce ci4 li4
        have HB5 := Lib.hid hB5; have HW5 := Lib.hid hW5; have HI5 := Lib.hid hi5; have HL5 := Lib.hid hL5; have HW6 := Lib.hid hW6; have HB6 := Lib.hid hB6; clear hB5 hW5 hi5 hL5 hW6 hB6
        go_wp2
        go_roundw
        case rel => exact ⟨w5.heap.size, k, (k : Int) - 1, _, rfl, heap_alloc_new _ _, by omega, by omega, by omega, HW6.out, HB6.out, HL5.out⟩
        case measure => rw [ptI_at ci, ptI_new]; omega
end Go.Proofs.Ytdimaapiloojeaa
