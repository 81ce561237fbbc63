/- Texts of this claim, laid together: TnGate, TnLen, TnHi, TnHaP, TnBdU, TnOwn, TnVal, TnPull, TnPl, TnPl2. -/
import Derived.Test.YtlmhgcllikcedaaMaF
import Derived.Maps.AppendAt
/- Gates, and the ends of them. -/
namespace Go.Proofs.Ytlmhgcllikcedaa
open Go.RowKit

/-- A gate: its row, its ends. -/
abbrev Gt := Int × Int × Int
def Gt.l (g : Gt) : Int × Int := (g.2.1, g.1)
def Gt.r (g : Gt) : Int × Int := (g.2.2, g.1)
def cellsG (gs : List Gt) (j : Nat) : Value := if j % 3 = 0 then .int .i64 (gs.getD (j / 3) (0, 0, 0)).1 else if j % 3 = 1 then .int .i64 (gs.getD (j / 3) (0, 0, 0)).2.1 else .int .i64 (gs.getD (j / 3) (0, 0, 0)).2.2
/-- The slice at A holds these gates. -/
def RdG (w : World) (A : Option Addr) (gs : List Gt) : Prop := gs.length ≤ 281474976710656 ∧ Rd w A 3 gs.length (cellsG gs)
theorem RdG.at_ {w : World} {A : Option Addr} {gs : List Gt} (h : RdG w A gs) {k : Nat} (hk : k < gs.length) :
    ∃ b off, A = some ⟨b, off, none⟩ ∧ b < w.heap.size ∧ w.cell? ⟨b, off + k * 3, none⟩ = some (.int .i64 gs[k].1) ∧ w.cell? ⟨b, off + k * 3 + 1, none⟩ = some (.int .i64 gs[k].2.1) ∧ w.cell? ⟨b, off + k * 3 + 2, none⟩ = some (.int .i64 gs[k].2.2) := by
  obtain ⟨b, off, e, hlt, hc⟩ := h.2 (by omega)
  have e0 := hc (k * 3) (by omega)
  have e1 := hc (k * 3 + 1) (by omega)
  have e2 := hc (k * 3 + 2) (by omega)
  have hx : gs.getD k (0, 0, 0) = gs[k] := by simp [List.getD_eq_getElem?_getD, hk]
  refine ⟨b, off, e, hlt, ?_, ?_, ?_⟩
  · rw [e0]
    unfold cellsG
    rw [if_pos (by omega), show k * 3 / 3 = k by omega, hx]
  · rw [show off + k * 3 + 1 = off + (k * 3 + 1) by omega, e1]
    unfold cellsG
    rw [if_neg (by omega), if_pos (by omega), show (k * 3 + 1) / 3 = k by omega, hx]
  · rw [show off + k * 3 + 2 = off + (k * 3 + 2) by omega, e2]
    unfold cellsG
    rw [if_neg (by omega), if_neg (by omega), show (k * 3 + 2) / 3 = k by omega, hx]
theorem RdG.later {w w' : World} {B : Nat} {A : Option Addr} {gs : List Gt} (h : RdG w A gs) (hb : Below B w w') (hB : w.heap.size ≤ B) : RdG w' A gs := ⟨h.1, h.2.later hb hB⟩
/-- A block of two cells, both stored. -/
theorem res2_ {w : World} {T : Nat} {a b : Value} {ty : TypeId} (h : w.heap[T]? = some (.cells #[a, b] ty (0, 0))) (u v : Value) :
    (w.setCell ⟨T, 0, none⟩ u).cell? ⟨T, 0, none⟩ = some u ∧ ((w.setCell ⟨T, 0, none⟩ u).setCell ⟨T, 1, none⟩ v).cell? ⟨T, 0, none⟩ = some u ∧ ((w.setCell ⟨T, 0, none⟩ u).setCell ⟨T, 1, none⟩ v).cell? ⟨T, 1, none⟩ = some v := by
  have y0 := cell_of_row _ _ 0 _ _ _ h
  have y1 := cell_of_row _ _ 1 _ _ _ h
  simp only [List.getElem?_toArray, List.getElem?_cons_zero, List.getElem?_cons_succ] at y0 y1
  have e1 := World.cell?_setCell_same (v := u) _ _ y0
  have e2 : (w.setCell ⟨T, 0, none⟩ u).cell? ⟨T, 1, none⟩ = some b := (World.cell?_setCell_other _ _ _ _ (by simp)).trans y1
  exact ⟨e1, (World.cell?_setCell_other _ _ _ _ (by simp)).trans e1, World.cell?_setCell_same (v := v) _ _ e2⟩
set_option maxRecDepth 100000 in
set_option maxHeartbeats 4000000 in
theorem tnPull1_ (A : Option Addr) (c X i : Nat) (gs : List Gt) (w : World) (hr : RdG w A gs) (hi : i < gs.length) (hX : w.cell? ⟨X, 0, none⟩ = some (.slice A gs.length c)) (hXl : X < w.heap.size) :
    Calls Try.prog 109 #[.int .i64 (i : Int), .pointer (some ⟨X, 0, none⟩)] w fun e w' => e = .returned (.agg #[.int .i64 (Gt.l gs[i]).1, .int .i64 (Gt.l gs[i]).2]) ∧ Below w.heap.size w w' := by
  unfold Gt.l
  obtain ⟨w1, hw1⟩ : ∃ w1, w1 = w.alloc (.cells #[.int .i64 0, .int .i64 0] 45) := ⟨_, rfl⟩
  have hb1 : Below w.heap.size w w1 := by rw [hw1]; exact (Below.refl _ _).alloc (Nat.le_refl _) _
  have hx1 : w1.heap[w.heap.size]? = some (.cells #[.int .i64 0, .int .i64 0] 45 (0, 0)) := by rw [hw1]; exact heap_alloc_new _ _
  obtain ⟨b, off, rfl, hl, g0, g1, g2⟩ := hr.at_ hi
  have hX := below_at hb1 (Nat.le_refl _) hX
  have g0 := below_at hb1 (Nat.le_refl _) g0
  have g1 := below_at hb1 (Nat.le_refl _) g1
  have g2 := below_at hb1 (Nat.le_refl _) g2
  have hXl : X < w1.heap.size := Nat.lt_of_lt_of_le hXl hb1.size
  have hl : b < w1.heap.size := Nat.lt_of_lt_of_le hl hb1.size
  have q1 : (0 : Int) ≤ (i : Int) := by omega
  have q2 : (i : Int) < (gs.length : Int) := by omega
  generalize gs[i].1 = Y at *
  generalize gs[i].2.1 = L at *
  generalize gs[i].2.2 = R at *
  have hb2 := fun u v => (hb1.drew.setCell (p := ⟨w.heap.size, 0, none⟩) (Nat.le_refl _) u).setCell (p := ⟨w.heap.size, 1, none⟩) (Nat.le_refl _) v
  have z0 := frozen_of_row _ _ 0 _ _ hx1
  have z1 := frozen_of_row _ _ 1 _ _ hx1
  have hx1l := lt_of_block hx1
  have y0 := cell_of_row _ _ 0 _ _ _ hx1
  have y1 := cell_of_row _ _ 1 _ _ _ hx1
  simp only [List.getElem?_toArray, List.getElem?_cons_zero, List.getElem?_cons_succ] at y0 y1
  have hxd : w1.drew.heap[w.heap.size]? = some (.cells #[.int .i64 0, .int .i64 0] 45 (0, 0)) := hx1
  have HR := Lib.hid hr; have HB1 := Lib.hid hb1; have HW1 := Lib.hid hw1; have HB2 := Lib.hid hb2; have HXD := Lib.hid hxd; clear hr hb1 hw1 hb2 hxd
  go_enter Try.func109, Try.ntmps109
  go_upto_region 1 with fail
  rw [← HW1.out]
  clear hx1
  go_still_tail 11, (by kernel_rfl)
  change wpList _ _ _ _ _ w1.drew
  have hX2 : w1.drew.cell? ⟨X, 0, none⟩ = some (.slice (some ⟨b, off, none⟩) gs.length c) := hX
  go_wp2
  refine bodyPost_ret (v := .agg #[.int .i64 L, .int .i64 Y]) (by obtain ⟨r1, _, r3⟩ := res2_ (w := w1) HXD.out (.int .i64 L) (.int .i64 Y); simp [results, Try.results109, go_sem, r1, r3]) rfl ⟨rfl, HB2.out _ _⟩
set_option maxRecDepth 100000 in
set_option maxHeartbeats 4000000 in
theorem tnPull2_ (A : Option Addr) (c X i : Nat) (gs : List Gt) (w : World) (hr : RdG w A gs) (hi : i < gs.length) (hX : w.cell? ⟨X, 0, none⟩ = some (.slice A gs.length c)) (hXl : X < w.heap.size) :
    Calls Try.prog 110 #[.int .i64 (i : Int), .pointer (some ⟨X, 0, none⟩)] w fun e w' => e = .returned (.agg #[.int .i64 (Gt.r gs[i]).1, .int .i64 (Gt.r gs[i]).2]) ∧ Below w.heap.size w w' := by
  unfold Gt.r
  obtain ⟨w1, hw1⟩ : ∃ w1, w1 = w.alloc (.cells #[.int .i64 0, .int .i64 0] 45) := ⟨_, rfl⟩
  have hb1 : Below w.heap.size w w1 := by rw [hw1]; exact (Below.refl _ _).alloc (Nat.le_refl _) _
  have hx1 : w1.heap[w.heap.size]? = some (.cells #[.int .i64 0, .int .i64 0] 45 (0, 0)) := by rw [hw1]; exact heap_alloc_new _ _
  obtain ⟨b, off, rfl, hl, g0, g1, g2⟩ := hr.at_ hi
  have hX := below_at hb1 (Nat.le_refl _) hX
  have g0 := below_at hb1 (Nat.le_refl _) g0
  have g1 := below_at hb1 (Nat.le_refl _) g1
  have g2 := below_at hb1 (Nat.le_refl _) g2
  have hXl : X < w1.heap.size := Nat.lt_of_lt_of_le hXl hb1.size
  have hl : b < w1.heap.size := Nat.lt_of_lt_of_le hl hb1.size
  have q1 : (0 : Int) ≤ (i : Int) := by omega
  have q2 : (i : Int) < (gs.length : Int) := by omega
  generalize gs[i].1 = Y at *
  generalize gs[i].2.1 = L at *
  generalize gs[i].2.2 = R at *
  have hb2 := fun u v => (hb1.drew.setCell (p := ⟨w.heap.size, 0, none⟩) (Nat.le_refl _) u).setCell (p := ⟨w.heap.size, 1, none⟩) (Nat.le_refl _) v
  have z0 := frozen_of_row _ _ 0 _ _ hx1
  have z1 := frozen_of_row _ _ 1 _ _ hx1
  have hx1l := lt_of_block hx1
  have y0 := cell_of_row _ _ 0 _ _ _ hx1
  have y1 := cell_of_row _ _ 1 _ _ _ hx1
  simp only [List.getElem?_toArray, List.getElem?_cons_zero, List.getElem?_cons_succ] at y0 y1
  have hxd : w1.drew.heap[w.heap.size]? = some (.cells #[.int .i64 0, .int .i64 0] 45 (0, 0)) := hx1
  have HR := Lib.hid hr; have HB1 := Lib.hid hb1; have HW1 := Lib.hid hw1; have HB2 := Lib.hid hb2; have HXD := Lib.hid hxd; clear hr hb1 hw1 hb2 hxd
  go_enter Try.func110, Try.ntmps110
  go_upto_region 1 with fail
  rw [← HW1.out]
  clear hx1
  go_still_tail 11, (by kernel_rfl)
  change wpList _ _ _ _ _ w1.drew
  have hX2 : w1.drew.cell? ⟨X, 0, none⟩ = some (.slice (some ⟨b, off, none⟩) gs.length c) := hX
  go_wp2
  refine bodyPost_ret (v := .agg #[.int .i64 R, .int .i64 Y]) (by obtain ⟨r1, _, r3⟩ := res2_ (w := w1) HXD.out (.int .i64 R) (.int .i64 Y); simp [results, Try.results110, go_sem, r1, r3]) rfl ⟨rfl, HB2.out _ _⟩
end Go.Proofs.Ytlmhgcllikcedaa
/- The length of a path. -/
namespace Go.Proofs.Ytlmhgcllikcedaa
open Go.RowKit

def LenPost (r : List (Int × Int) × Int) (w : World) (e : Ending) (w' : World) : Prop := ∃ A c, e = .returned (.tuple #[.slice A r.1.length c, .int .i64 r.2]) ∧ RdR w' A r.1 ∧ r.1.length ≤ c ∧ (r.2 = 0 → LenS 500 r.1 ∧ r.1.length ≤ 64) ∧ Below w.heap.size w w'
theorem LenPost.bad {r : List (Int × Int) × Int} {x : Int} {w w' : World} (h : r = ([], x)) (hx : x ≠ 0) (hb : Below w.heap.size w w') : LenPost r w (.returned (.tuple #[.slice none 0 0, .int .i64 x])) w' := by
  subst h
  exact ⟨none, 0, rfl, rdR_nil9 _ _, Nat.le_refl _, fun h => absurd h hx, hb⟩
theorem LenS.up {k m : Nat} {o : List (Int × Int)} (h : LenS k o) (hk : k ≤ m) : LenS m o := ⟨Nat.le_trans h.ln hk, h.ps.mono (by omega), h.nm, h.rg⟩
theorem any_take_offP {ps : List (Int × Int)} {k j : Nat} (h : (ps.take k).any offP = false) (hj : j < k) (hk : k ≤ ps.length) : offP (ps.getD j (0, 0)) = false := by
  have h1 := List.any_eq_false.1 h (ps.getD j (0, 0)) (by
    have : ps.getD j (0, 0) = ps[j]'(by omega) := by simp [List.getD_eq_getElem?_getD, show j < ps.length by omega]
    rw [this]
    refine List.mem_take_iff_getElem.2 ⟨j, by omega, rfl⟩)
  simpa using h1
theorem rdR_one {w : World} {R : Nat} {K S : Int} (h : w.heap[R]? = some (.cells #[.int .i64 K, .int .i64 S] 26 (0, 0))) : RdR w (some ⟨R, 0, none⟩) [(K, S)] := by
  refine ⟨by simp, fun _ => ⟨R, 0, rfl, lt_of_block h, fun j hj => ?_⟩⟩
  rw [cell_of_row _ _ _ _ _ _ h]
  simp at hj
  obtain rfl | rfl : j = 0 ∨ j = 1 := by omega
  all_goals rfl
theorem offP_getD {ps : List (Int × Int)} (h : ps.any offP = false) (i : Nat) : offP (ps.getD i (0, 0)) = false := by
  rcases Nat.lt_or_ge i ps.length with hi | hi
  · have : ps.getD i (0, 0) = ps[i] := by simp [List.getD_eq_getElem?_getD, hi]
    rw [this]
    simpa using List.any_eq_false.1 h ps[i] (List.getElem_mem _)
  · have : ps.getD i (0, 0) = (0, 0) := by simp [List.getD_eq_getElem?_getD, hi]
    rw [this]; rfl
theorem sqA_low {a b c : Int} {ps : List (Int × Int)} (hl : latB a b c = false) (h : ps.any offP = false) (i : Nat) : -9000000000000000000 ≤ sqA a b c ps i := by
  obtain ⟨⟨la1, la2⟩, ⟨lb1, lb2⟩, ⟨lc1, lc2⟩, _⟩ := lat_rng hl
  have hs := stp_stp (offP_getD h (i - 1)) (offP_getD h i)
  unfold sqA sqN prodG
  generalize stp (ps.getD (i - 1) (0, 0)) (ps.getD i (0, 0)) = s at *
  obtain ⟨x, y⟩ := s
  obtain ⟨⟨s1, s2⟩, s3, s4⟩ := hs
  simp only at s1 s2 s3 s4 ⊢
  have e1 := mul_rng (show -10000 ≤ a by omega) la2 s1 s2
  have e2 := mul_rng lb1 lb2 s3 s4
  have e3 := mul_rng lb1 lb2 s1 s2
  have e4 := mul_rng (show -10000 ≤ c by omega) lc2 s3 s4
  have e5 := mul_rng s1 s2 (show -40000000000 ≤ a * x + b * y by omega) (by omega)
  have e6 := mul_rng s3 s4 (show -40000000000 ≤ b * x + c * y by omega) (by omega)
  omega
/-- The sum's steps: k of them done. -/
theorem lenF_take {l : List Int} {k : Nat} (h : k < l.length) : lenF (l.take (k + 1)) [] = stepL (lenF (l.take k) []) l[k] (nrt l[k]) := by
  rw [List.take_succ_eq_append_getElem h, lenF_snoc]
set_option maxRecDepth 100000 in
set_option maxHeartbeats 8000000 in
theorem tnLength_ (PA : Option Addr) (pc : Nat) (a b c : Int) (ps : List (Int × Int)) (w : World) (hr : RdR w PA ps) :
    Calls Try.prog 22 #[.agg #[.int .i64 a, .int .i64 b, .int .i64 c], .slice PA ps.length pc] w (LenPost (lenR a b c ps) w) := by
  have hln := hr.1
  have hb : Below w.heap.size w (w.alloc (.cells #[.int .i64 a, .int .i64 b, .int .i64 c] 38)) := (Below.refl _ _).alloc (Nat.le_refl _) _
  have hx := heap_alloc_new w (.cells #[.int .i64 a, .int .i64 b, .int .i64 c] 38)
  by_cases h500 : 500 < ps.length
  · have hres : lenR a b c ps = ([], 3) := by unfold lenR; rw [if_pos h500]
    have f1 : decide ((500 : Int) < (ps.length : Int)) = true := decide_eq_true (by omega)
    have f2 : (500 : Int) < (ps.length : Int) := by omega
    have HR := Lib.hid hr; have HB := Lib.hid hb; have HX := Lib.hid hx; have HRES := Lib.hid hres; clear hr hb hx hres
    go_enter Try.func22, Try.ntmps22
    go_wp2
    go_ret2
    exact LenPost.bad HRES.out (by decide) HB.out
  have f1 : decide ((500 : Int) < (ps.length : Int)) = false := decide_eq_false (by omega)
  have f2 : ¬ (500 : Int) < (ps.length : Int) := by omega
  have HR := Lib.hid hr; have HB := Lib.hid hb; have HX := Lib.hid hx; clear hr hb hx
  go_enter Try.func22, Try.ntmps22
  go_wp2_with fail
  refine (gCheck_ a b c _).mono ?_
  rintro e w1 ⟨rfl, b1⟩
  have hx1 := (b1.block _ (lt_of_block HX.out)).trans HX.out
  have hb1 := HB.out.trans (b1.mono HB.out.size)
  clear b1 HB HX f1 f2
  have he : latE a b c = if latB a b c = true then 2 else 0 := rfl
  by_cases hlat : latB a b c = true
  · rw [if_pos hlat] at he
    have hres : lenR a b c ps = ([], 2) := by unfold lenR; rw [if_neg h500, if_pos hlat]
    rw [he]
    have HE := Lib.hid he; have HB1 := Lib.hid hb1; have HX1 := Lib.hid hx1; have HRES := Lib.hid hres; have HLAT := Lib.hid hlat; clear he hb1 hx1 hres hlat
    go_wp2
    go_ret2
    exact LenPost.bad HRES.out (by decide) HB1.out
  rw [if_neg hlat] at he
  rw [he]
  have hres : lenR a b c ps = if ps.any offP = true then ([], 2)
      else if (sqsK a b c ps ps.length).any (fun n => decide (1000000000000 < n)) = true then ([], 7)
      else if 64 < (lenF (sqsK a b c ps ps.length) []).length then ([], 3) else (lenF (sqsK a b c ps ps.length) [], 0) := by
    unfold lenR; rw [if_neg h500, if_neg hlat]
  have hlat : latB a b c = false := by simpa using hlat
  have h500 : ps.length ≤ 500 := by omega
  generalize lenR a b c ps = res at *
  have HE := Lib.hid he; have HB1 := Lib.hid hb1; have HX1 := Lib.hid hx1; have HRES := Lib.hid hres; have HLAT := Lib.hid hlat; clear he hb1 hx1 hres hlat
  go_wp2
  go_loopw [6, 7, 8, 9, 10, 24] (fun sv _ _ _ _ iv wr => ∃ k : Nat, iv = .int .i64 (k : Int) ∧ k ≤ ps.length ∧ (ps.take k).any offP = false ∧ wr.ownsRow (w.heap.size + 1) 2 1 sv (sqsK a b c ps k).length (ints (sqsK a b c ps k)) ∧ wr.heap[w.heap.size]? = some (.cells #[.int .i64 a, .int .i64 b, .int .i64 c] 38 (0, 0)) ∧ Below w.heap.size w wr) (fun _ _ _ _ _ iv _ => ps.length - (intOf iv).toNat)
  case atStart => exact ⟨0, rfl, Nat.zero_le _, rfl, own_nilR _ _ _ _, HX1.out, HB1.out⟩
  case round =>
    clear HX1 HB1
    obtain ⟨k, rfl, hk, hno, hown, hx, hbw⟩ := hrel
    by_cases hkl : k < ps.length
    · by_cases h0 : k = 0
      · obtain ⟨bl, ol, rfl, hbl, q0, q1⟩ := (HR.out.later hbw (Nat.le_refl _)).at_ hkl
        have hcur : ps[k] = ps.getD k (0, 0) := by simp [List.getD_eq_getElem?_getD, hkl]
        rw [hcur] at q0 q1
        have hsn := List.take_succ_eq_append_getElem hkl
        rw [hcur] at hsn
        have t1 : IntKind.i64.wrap ((k : Int) - 1) = -1 := by subst h0; rfl
        have p0 : wr.cell? ⟨bl, ol, none⟩ = some (.int .i64 (ps.getD (k - 1) (0, 0)).1) := by subst h0; simpa using q0
        have p1 : wr.cell? ⟨bl, ol + 1, none⟩ = some (.int .i64 (ps.getD (k - 1) (0, 0)).2) := by subst h0; simpa using q1
        have hpo : offP (ps.getD k (0, 0)) = false → offP (ps.getD (k - 1) (0, 0)) = false := by subst h0; exact id
        have y1 : (0 : Int) < (ps.length : Int) := by omega
        have y3 : 0 < ps.length := by omega
        have hsq := fun W => gSquare_ a b c (ps.getD (k - 1) (0, 0)) (ps.getD k (0, 0)) W
        have hsb : sqB a b c (ps.getD (k - 1) (0, 0)) (ps.getD k (0, 0)) = offP (ps.getD k (0, 0)) := by
          unfold sqB
          rw [HLAT.out, Bool.false_or]
          cases h : offP (ps.getD k (0, 0)) with
          | true => simp
          | false => rw [hpo h]; rfl
        have hsv : sqN a b c (ps.getD (k - 1) (0, 0)) (ps.getD k (0, 0)) = sqA a b c ps k := rfl
        have hss := sqsK_succ a b c ps k
        unfold SqPost at hsq
        rw [hsb, hsv] at hsq
        obtain ⟨prv, hprv⟩ : ∃ prv, prv = (ps.getD (k - 1) (0, 0)) := ⟨_, rfl⟩
        obtain ⟨cur, hcu⟩ : ∃ cur, cur = ps.getD k (0, 0) := ⟨_, rfl⟩
        rw [← hprv] at hsq p0 p1
        rw [← hcu] at hsq q0 q1 hsn
        obtain ⟨sq, hsqe⟩ : ∃ sq, sq = sqA a b c ps k := ⟨_, rfl⟩
        rw [← hsqe] at hsq hss
        obtain ⟨cx, hcx⟩ : ∃ cx, cx = cur.1 := ⟨_, rfl⟩
        obtain ⟨cy, hcy⟩ : ∃ cy, cy = cur.2 := ⟨_, rfl⟩
        obtain ⟨px, hpx⟩ : ∃ px, px = prv.1 := ⟨_, rfl⟩
        obtain ⟨py, hpy⟩ : ∃ py, py = prv.2 := ⟨_, rfl⟩
        rw [← hcx, ← hcy, ← hpx, ← hpy] at hsq
        rw [← hcx] at q0
        rw [← hcy] at q1
        rw [← hpx] at p0
        rw [← hpy] at p1
        have x1 : (0 : Int) ≤ (k : Int) := by omega
        have x2 : (k : Int) < (ps.length : Int) := by omega
        have hvl := hown.lt
        clear hcur hpo hsb hsv
        have HNO := Lib.hid hno; have HOWN := Lib.hid hown; have HX := Lib.hid hx; have HBW := Lib.hid hbw; have HSN := Lib.hid hsn; have HSS := Lib.hid hss; have HSQ := Lib.hid hsq; have HSQE := Lib.hid hsqe; have HPRV := Lib.hid hprv; have HCU := Lib.hid hcu; have HCX := Lib.hid hcx; have HCY := Lib.hid hcy; have HPX := Lib.hid hpx; have HPY := Lib.hid hpy; have HVL := Lib.hid hvl; have H0 := Lib.hid h0; clear hno hown hx hbw hsn hss hsq hsqe hprv hcu hcx hcy hpx hpy hvl h0
        go_upto_region 9 with fail
        have hT := heap_alloc_new wr (.cells #[.int .i64 cx, .int .i64 cy] 45)
        have hbT : Below wr.heap.size wr (wr.alloc (.cells #[.int .i64 cx, .int .i64 cy] 45)) := (Below.refl _ _).alloc (Nat.le_refl _) _
        have hown2 := own_keepR HOWN.out hbT
        have hx2 := (hbT.block _ (lt_of_block HX.out)).trans HX.out
        have hbw2 := HBW.out.trans (hbT.mono HBW.out.size)
        have p0 := below_at hbT (Nat.le_refl _) p0
        have p1 := below_at hbT (Nat.le_refl _) p1
        have hbl2 := Nat.lt_of_lt_of_le hbl hbT.size
        clear hbT HOWN HX HBW q0 q1 hbl HVL
        obtain ⟨w2, hw2⟩ : ∃ w2, w2 = wr.alloc (.cells #[.int .i64 cx, .int .i64 cy] 45) := ⟨_, rfl⟩
        rw [← hw2] at hT hown2 hx2 hbw2 p0 p1 hbl2 ⊢
        clear hw2
        generalize wr.heap.size = T4 at *
        have t0 := cell_of_row _ _ 0 _ _ _ hT
        have tt1 := cell_of_row _ _ 1 _ _ _ hT
        have c0 := cell_of_row _ _ 0 _ _ _ hx2
        have c1 := cell_of_row _ _ 1 _ _ _ hx2
        have c2 := cell_of_row _ _ 2 _ _ _ hx2
        simp only [List.getElem?_toArray, List.getElem?_cons_zero, List.getElem?_cons_succ] at t0 tt1 c0 c1 c2
        have l1 := lt_of_block hT
        have l2 := lt_of_block hx2
        have hvl := hown2.lt
        have HT := Lib.hid hT; have HOWN2 := Lib.hid hown2; have HX2 := Lib.hid hx2; have HBW2 := Lib.hid hbw2; have HVL := Lib.hid hvl; clear hT hown2 hx2 hbw2 hvl
        cases hof : offP cur with
        | true =>
          have hres2 : res = ([], 2) := by
            rw [HRES.out, if_pos]
            refine List.any_eq_true.2 ⟨cur, ?_, hof⟩
            rw [HCU.out]
            have : ps.getD k (0, 0) = ps[k] := by simp [List.getD_eq_getElem?_getD, hkl]
            rw [this]; exact List.getElem_mem _
          have hsq := HSQ.out
          simp only [hof, ↓reduceIte] at hsq
          clear HSQ
          have HSQ := Lib.hid hsq; have HRES2 := Lib.hid hres2; have HOF := Lib.hid hof; clear hsq hres2 hof
          have hbelc : ∀ (u : Bel w2.heap.size w2) b o, b < w2.heap.size → u.wd.cell? ⟨b, o, none⟩ = w2.cell? ⟨b, o, none⟩ := fun u b o h => u.h.cell (p := ⟨b, o, none⟩) h
          have hbeln : Nonempty (Bel w2.heap.size w2) := ⟨⟨w2, Below.refl _ _⟩⟩
          refine wp_region_bel w2.heap.size (by kernel_rfl) (by kernel_rfl) ?_
          repeat (go_big_quiet_step ((go_at_call 63; exact quiet_bel (Nat.le_refl _) (HSQ.out _))))
          refine wpQuiet_nil ?_
          intro wB hB0; obtain ⟨uB, hu⟩ := hB0; have hbB0 := uB.h; rw [← hu] at hbB0; clear hu uB hbelc hbeln
          obtain ⟨hbB, hcB, hsB⟩ := bcell2 hbB0; clear hbB0
          have hb3 := HBW2.out.trans (hbB.mono HBW2.out.size)
          clear hcB hsB hbB
          have HB3 := Lib.hid hb3; clear hb3
          go_wp2
          go_ret2
          exact LenPost.bad HRES2.out (by decide) HB3.out
        | false =>
          have hno2 : (ps.take (k + 1)).any offP = false := by rw [HSN.out, List.any_append, HNO.out]; simp [hof]
          have hsq := HSQ.out
          simp only [hof, Bool.false_eq_true, ↓reduceIte] at hsq
          clear HSQ
          have HSQ := Lib.hid hsq; have HNO2 := Lib.hid hno2; have HOF := Lib.hid hof; clear hsq hno2 hof
          have hbelc : ∀ (u : Bel w2.heap.size w2) b o, b < w2.heap.size → u.wd.cell? ⟨b, o, none⟩ = w2.cell? ⟨b, o, none⟩ := fun u b o h => u.h.cell (p := ⟨b, o, none⟩) h
          have hbeln : Nonempty (Bel w2.heap.size w2) := ⟨⟨w2, Below.refl _ _⟩⟩
          refine wp_region_bel w2.heap.size (by kernel_rfl) (by kernel_rfl) ?_
          repeat (go_big_quiet_step ((go_at_call 63; exact quiet_bel (Nat.le_refl _) (HSQ.out _))))
          refine wpQuiet_nil ?_
          intro wB hB0; obtain ⟨uB, hu⟩ := hB0; have hbB0 := uB.h; rw [← hu] at hbB0; clear hu uB hbelc hbeln
          obtain ⟨hbB, hcB, hsB⟩ := bcell2 hbB0; clear hbB0
          have hb3 := HBW2.out.trans (hbB.mono HBW2.out.size)
          have hown3 := own_keepR HOWN2.out hbB
          have hx3 := (hbB.block _ (lt_of_block HX2.out)).trans HX2.out
          clear hcB hsB hbB HX2 HOWN2 HBW2 HT HVL t0 tt1 c0 c1 c2 l1 l2 p0 p1
          have hvl := hown3.lt
          have hsz := hb3.size
          have hs1 := lt_of_block hx3
          have hrl := sqsK_length a b c ps k
          generalize hSL : sqsK a b c ps k = SL at *
          have HB3 := Lib.hid hb3; have HOWN3 := Lib.hid hown3; have HX3 := Lib.hid hx3; have HVL := Lib.hid hvl; have HSZ := Lib.hid hsz; have HS1 := Lib.hid hs1; have HRL := Lib.hid hrl; have HSL := Lib.hid hSL; clear hb3 hown3 hx3 hvl hsz hs1 hrl hSL
          go_wp2_with (refine wpList_appL_Try (by rfl) _ _ (by rfl) (w.heap.size + 1) u6 SL (by rfl) (by repeat (first | exact HOWN3.out | refine World.ownsRow.alloc ?_ _)) wB.heap.size sq (by rfl) (heap_alloc_new _ _) (by have := HRL.out; omega) (by simp; have := HS1.out; omega) ?_; intro g cap w3 hown4 hgrow hat4 hlt4)
          have hb4 : Below w.heap.size w w3 := (HB3.out.alloc HB3.out.size _).grown hgrow (by simp; have := HSZ.out; omega) (fun k' hk' => by have := (HVL.out k' hk').1; omega)
          have hx4 := (hgrow.block _ (by simp; have := HS1.out; omega) (fun h => by have := (HVL.out _ h.symm).1; omega)).trans ((Below.heap_alloc wB _ _ HS1.out).trans HX3.out)
          rw [← HSS.out] at hown4
          have hlen : SL.length + 1 = (sqsK a b c ps (k + 1)).length := by rw [sqsK_length, HRL.out]
          rw [hlen] at hown4 ⊢
          clear hgrow hat4 hlt4 hlen
          have HB4 := Lib.hid hb4; have HX4 := Lib.hid hx4; have HOWN4 := Lib.hid hown4; clear hb4 hx4 hown4
          go_wp2
          go_roundw
          case rel => exact ⟨k + 1, by go_num, by omega, HNO2.out, HOWN4.out, HX4.out, HB4.out⟩
          case measure => simp [intOf]; omega
      · obtain ⟨bl, ol, rfl, hbl, q0, q1⟩ := (HR.out.later hbw (Nat.le_refl _)).at_ hkl
        have hcur : ps[k] = ps.getD k (0, 0) := by simp [List.getD_eq_getElem?_getD, hkl]
        rw [hcur] at q0 q1
        have hsn := List.take_succ_eq_append_getElem hkl
        rw [hcur] at hsn
        have t1 : IntKind.i64.wrap ((k : Int) - 1) = ((k - 1 : Nat) : Int) := by rw [IntWalk.i64_in _ (by omega)]; omega
        obtain ⟨b2, o2, e2, _, p0, p1⟩ := (HR.out.later hbw (Nat.le_refl _)).at_ (show k - 1 < ps.length by omega)
        injection e2 with e2; injection e2 with e3 e4; subst e3; subst e4
        have hprev : ps[k - 1]'(by omega) = ps.getD (k - 1) (0, 0) := by simp [List.getD_eq_getElem?_getD, show k - 1 < ps.length by omega]
        rw [hprev] at p0 p1
        have hpo : offP (ps.getD k (0, 0)) = false → offP (ps.getD (k - 1) (0, 0)) = false := fun _ => any_take_offP hno (by omega) hk
        have y1 : ((k - 1 : Nat) : Int) < (ps.length : Int) := by omega
        have y2 : (0 : Int) ≤ ((k - 1 : Nat) : Int) := by omega
        obtain ⟨j, hj⟩ : ∃ j, j = k - 1 := ⟨_, rfl⟩
        rw [← hj] at t1 p0 p1 hpo y1 y2
        have hsq := fun W => gSquare_ a b c (ps.getD j (0, 0)) (ps.getD k (0, 0)) W
        have hsb : sqB a b c (ps.getD j (0, 0)) (ps.getD k (0, 0)) = offP (ps.getD k (0, 0)) := by
          unfold sqB
          rw [HLAT.out, Bool.false_or]
          cases h : offP (ps.getD k (0, 0)) with
          | true => simp
          | false => rw [hpo h]; rfl
        have hsv : sqN a b c (ps.getD j (0, 0)) (ps.getD k (0, 0)) = sqA a b c ps k := by unfold sqA; rw [hj]
        have hss := sqsK_succ a b c ps k
        unfold SqPost at hsq
        rw [hsb, hsv] at hsq
        obtain ⟨prv, hprv⟩ : ∃ prv, prv = (ps.getD j (0, 0)) := ⟨_, rfl⟩
        obtain ⟨cur, hcu⟩ : ∃ cur, cur = ps.getD k (0, 0) := ⟨_, rfl⟩
        rw [← hprv] at hsq p0 p1
        rw [← hcu] at hsq q0 q1 hsn
        obtain ⟨sq, hsqe⟩ : ∃ sq, sq = sqA a b c ps k := ⟨_, rfl⟩
        rw [← hsqe] at hsq hss
        obtain ⟨cx, hcx⟩ : ∃ cx, cx = cur.1 := ⟨_, rfl⟩
        obtain ⟨cy, hcy⟩ : ∃ cy, cy = cur.2 := ⟨_, rfl⟩
        obtain ⟨px, hpx⟩ : ∃ px, px = prv.1 := ⟨_, rfl⟩
        obtain ⟨py, hpy⟩ : ∃ py, py = prv.2 := ⟨_, rfl⟩
        rw [← hcx, ← hcy, ← hpx, ← hpy] at hsq
        rw [← hcx] at q0
        rw [← hcy] at q1
        rw [← hpx] at p0
        rw [← hpy] at p1
        have x1 : (0 : Int) ≤ (k : Int) := by omega
        have x2 : (k : Int) < (ps.length : Int) := by omega
        have hvl := hown.lt
        clear hcur hpo hsb hsv hprev
        have HNO := Lib.hid hno; have HOWN := Lib.hid hown; have HX := Lib.hid hx; have HBW := Lib.hid hbw; have HSN := Lib.hid hsn; have HSS := Lib.hid hss; have HSQ := Lib.hid hsq; have HSQE := Lib.hid hsqe; have HPRV := Lib.hid hprv; have HCU := Lib.hid hcu; have HCX := Lib.hid hcx; have HCY := Lib.hid hcy; have HPX := Lib.hid hpx; have HPY := Lib.hid hpy; have HVL := Lib.hid hvl; have H0 := Lib.hid h0; have HJ := Lib.hid hj; clear hno hown hx hbw hsn hss hsq hsqe hprv hcu hcx hcy hpx hpy hvl h0 hj
        go_upto_region 9 with fail
        have hT := heap_alloc_new wr (.cells #[.int .i64 cx, .int .i64 cy] 45)
        have hbT : Below wr.heap.size wr (wr.alloc (.cells #[.int .i64 cx, .int .i64 cy] 45)) := (Below.refl _ _).alloc (Nat.le_refl _) _
        have hown2 := own_keepR HOWN.out hbT
        have hx2 := (hbT.block _ (lt_of_block HX.out)).trans HX.out
        have hbw2 := HBW.out.trans (hbT.mono HBW.out.size)
        have p0 := below_at hbT (Nat.le_refl _) p0
        have p1 := below_at hbT (Nat.le_refl _) p1
        have hbl2 := Nat.lt_of_lt_of_le hbl hbT.size
        clear hbT HOWN HX HBW q0 q1 hbl HVL
        obtain ⟨w2, hw2⟩ : ∃ w2, w2 = wr.alloc (.cells #[.int .i64 cx, .int .i64 cy] 45) := ⟨_, rfl⟩
        rw [← hw2] at hT hown2 hx2 hbw2 p0 p1 hbl2 ⊢
        clear hw2
        generalize wr.heap.size = T4 at *
        have t0 := cell_of_row _ _ 0 _ _ _ hT
        have tt1 := cell_of_row _ _ 1 _ _ _ hT
        have c0 := cell_of_row _ _ 0 _ _ _ hx2
        have c1 := cell_of_row _ _ 1 _ _ _ hx2
        have c2 := cell_of_row _ _ 2 _ _ _ hx2
        simp only [List.getElem?_toArray, List.getElem?_cons_zero, List.getElem?_cons_succ] at t0 tt1 c0 c1 c2
        have l1 := lt_of_block hT
        have l2 := lt_of_block hx2
        have hvl := hown2.lt
        have HT := Lib.hid hT; have HOWN2 := Lib.hid hown2; have HX2 := Lib.hid hx2; have HBW2 := Lib.hid hbw2; have HVL := Lib.hid hvl; clear hT hown2 hx2 hbw2 hvl
        cases hof : offP cur with
        | true =>
          have hres2 : res = ([], 2) := by
            rw [HRES.out, if_pos]
            refine List.any_eq_true.2 ⟨cur, ?_, hof⟩
            rw [HCU.out]
            have : ps.getD k (0, 0) = ps[k] := by simp [List.getD_eq_getElem?_getD, hkl]
            rw [this]; exact List.getElem_mem _
          have hsq := HSQ.out
          simp only [hof, ↓reduceIte] at hsq
          clear HSQ
          have HSQ := Lib.hid hsq; have HRES2 := Lib.hid hres2; have HOF := Lib.hid hof; clear hsq hres2 hof
          have hbelc : ∀ (u : Bel w2.heap.size w2) b o, b < w2.heap.size → u.wd.cell? ⟨b, o, none⟩ = w2.cell? ⟨b, o, none⟩ := fun u b o h => u.h.cell (p := ⟨b, o, none⟩) h
          have hbeln : Nonempty (Bel w2.heap.size w2) := ⟨⟨w2, Below.refl _ _⟩⟩
          refine wp_region_bel w2.heap.size (by kernel_rfl) (by kernel_rfl) ?_
          repeat (go_big_quiet_step ((go_at_call 63; exact quiet_bel (Nat.le_refl _) (HSQ.out _))))
          refine wpQuiet_nil ?_
          intro wB hB0; obtain ⟨uB, hu⟩ := hB0; have hbB0 := uB.h; rw [← hu] at hbB0; clear hu uB hbelc hbeln
          obtain ⟨hbB, hcB, hsB⟩ := bcell2 hbB0; clear hbB0
          have hb3 := HBW2.out.trans (hbB.mono HBW2.out.size)
          clear hcB hsB hbB
          have HB3 := Lib.hid hb3; clear hb3
          go_wp2
          go_ret2
          exact LenPost.bad HRES2.out (by decide) HB3.out
        | false =>
          have hno2 : (ps.take (k + 1)).any offP = false := by rw [HSN.out, List.any_append, HNO.out]; simp [hof]
          have hsq := HSQ.out
          simp only [hof, Bool.false_eq_true, ↓reduceIte] at hsq
          clear HSQ
          have HSQ := Lib.hid hsq; have HNO2 := Lib.hid hno2; have HOF := Lib.hid hof; clear hsq hno2 hof
          have hbelc : ∀ (u : Bel w2.heap.size w2) b o, b < w2.heap.size → u.wd.cell? ⟨b, o, none⟩ = w2.cell? ⟨b, o, none⟩ := fun u b o h => u.h.cell (p := ⟨b, o, none⟩) h
          have hbeln : Nonempty (Bel w2.heap.size w2) := ⟨⟨w2, Below.refl _ _⟩⟩
          refine wp_region_bel w2.heap.size (by kernel_rfl) (by kernel_rfl) ?_
          repeat (go_big_quiet_step ((go_at_call 63; exact quiet_bel (Nat.le_refl _) (HSQ.out _))))
          refine wpQuiet_nil ?_
          intro wB hB0; obtain ⟨uB, hu⟩ := hB0; have hbB0 := uB.h; rw [← hu] at hbB0; clear hu uB hbelc hbeln
          obtain ⟨hbB, hcB, hsB⟩ := bcell2 hbB0; clear hbB0
          have hb3 := HBW2.out.trans (hbB.mono HBW2.out.size)
          have hown3 := own_keepR HOWN2.out hbB
          have hx3 := (hbB.block _ (lt_of_block HX2.out)).trans HX2.out
          clear hcB hsB hbB HX2 HOWN2 HBW2 HT HVL t0 tt1 c0 c1 c2 l1 l2 p0 p1
          have hvl := hown3.lt
          have hsz := hb3.size
          have hs1 := lt_of_block hx3
          have hrl := sqsK_length a b c ps k
          generalize hSL : sqsK a b c ps k = SL at *
          have HB3 := Lib.hid hb3; have HOWN3 := Lib.hid hown3; have HX3 := Lib.hid hx3; have HVL := Lib.hid hvl; have HSZ := Lib.hid hsz; have HS1 := Lib.hid hs1; have HRL := Lib.hid hrl; have HSL := Lib.hid hSL; clear hb3 hown3 hx3 hvl hsz hs1 hrl hSL
          go_wp2_with (refine wpList_appL_Try (by rfl) _ _ (by rfl) (w.heap.size + 1) u6 SL (by rfl) (by repeat (first | exact HOWN3.out | refine World.ownsRow.alloc ?_ _)) wB.heap.size sq (by rfl) (heap_alloc_new _ _) (by have := HRL.out; omega) (by simp; have := HS1.out; omega) ?_; intro g cap w3 hown4 hgrow hat4 hlt4)
          have hb4 : Below w.heap.size w w3 := (HB3.out.alloc HB3.out.size _).grown hgrow (by simp; have := HSZ.out; omega) (fun k' hk' => by have := (HVL.out k' hk').1; omega)
          have hx4 := (hgrow.block _ (by simp; have := HS1.out; omega) (fun h => by have := (HVL.out _ h.symm).1; omega)).trans ((Below.heap_alloc wB _ _ HS1.out).trans HX3.out)
          rw [← HSS.out] at hown4
          have hlen : SL.length + 1 = (sqsK a b c ps (k + 1)).length := by rw [sqsK_length, HRL.out]
          rw [hlen] at hown4 ⊢
          clear hgrow hat4 hlt4 hlen
          have HB4 := Lib.hid hb4; have HX4 := Lib.hid hx4; have HOWN4 := Lib.hid hown4; clear hb4 hx4 hown4
          go_wp2
          go_roundw
          case rel => exact ⟨k + 1, by go_num, by omega, HNO2.out, HOWN4.out, HX4.out, HB4.out⟩
          case measure => simp [intOf]; omega
    · obtain rfl : k = ps.length := by omega
      rw [List.take_length] at hno
      have x3 : ¬ (ps.length : Int) < (ps.length : Int) := by omega
      have hres := HRES.out
      rw [if_neg (by rw [hno]; decide)] at hres
      have hrl := sqsK_length a b c ps ps.length
      obtain ⟨SL, hSL⟩ : ∃ SL, SL = sqsK a b c ps ps.length := ⟨_, rfl⟩
      rw [← hSL] at hown hres hrl
      have hlow : ∀ z ∈ SL, -9000000000000000000 ≤ z := fun z hz => by
        rw [hSL] at hz
        obtain ⟨i, _, rfl⟩ := List.mem_map.1 hz
        exact sqA_low HLAT.out hno i
      obtain ⟨SA, sc, rfl, hrd⟩ := RdV.of_own hown (by omega)
      obtain ⟨n, hn⟩ : ∃ n, SL.length = n := ⟨_, rfl⟩
      rw [hn]
      have hn500 : n ≤ 500 := by omega
      clear HRES hown hrl
      by_cases hn0 : 0 < n
      · obtain ⟨g1, g2, g3, g4, g5, g6, g7, g8⟩ := len_facts hn0
        have hmx := maxI6_ SA sc SL wr hrd (by omega)
        rw [hn] at hmx
        have HRES := Lib.hid hres; have HNO := Lib.hid hno; have HSL := Lib.hid hSL; have HRD := Lib.hid hrd; have HN := Lib.hid hn; have HX := Lib.hid hx; have HBW := Lib.hid hbw; have HMX := Lib.hid hmx; have HLOW := Lib.hid hlow; clear hres hno hSL hrd hn hx hbw hmx hlow
        go_wp2_with fail
        refine HMX.out.mono ?_
        rintro e w5 ⟨m, rfl, hmm, b1⟩
        have hbw5 := HBW.out.trans (b1.mono HBW.out.size)
        have hrd := HRD.out.later b1 (Nat.le_refl _)
        have hm12 := hmm 1000000000000
        clear b1 HBW HRD HX hmm g1 g2 g3 g4 g5 g6 g7 g8
        by_cases hbig : 1000000000000 < m
        · have f1 : decide (1000000000000 < m) = true := decide_eq_true hbig
          have hres2 := HRES.out
          rw [if_pos (hm12.1 hbig)] at hres2
          have HRES2 := Lib.hid hres2; have HBW5 := Lib.hid hbw5; have HRD := Lib.hid hrd; have HM12 := Lib.hid hm12; clear hres2 hbw5 hrd hm12
          go_wp2
          go_ret2
          exact LenPost.bad HRES2.out (by decide) HBW5.out
        · have f1 : decide (1000000000000 < m) = false := decide_eq_false hbig
          have hany : SL.any (fun n => decide (1000000000000 < n)) = false := by
            cases h : SL.any (fun n => decide (1000000000000 < n)) with
            | false => rfl
            | true => exact absurd (hm12.2 h) hbig
          have hres2 := HRES.out
          rw [if_neg (by rw [hany]; decide)] at hres2
          have HRES2 := Lib.hid hres2; have HBW5 := Lib.hid hbw5; have HRD := Lib.hid hrd; have HM12 := Lib.hid hm12; have HANY := Lib.hid hany; clear hres2 hbw5 hrd hm12 hany
          go_wp2
          go_loopw [11, 13, 14, 15, 58] (fun ov _ _ _ iv wq => ∃ (k : Nat) (o : List (Int × Int)) (A : Option Addr) (cc : Nat), iv = .int .i64 (k : Int) ∧ k ≤ n ∧ o = lenF (SL.take k) [] ∧ ov = .slice A o.length cc ∧ RdR wq A o ∧ o.length ≤ cc ∧ LenS k o ∧ Below w5.heap.size w5 wq) (fun _ _ _ _ iv _ => n - (intOf iv).toNat)
          case atStart => exact ⟨0, [], none, 0, rfl, Nat.zero_le _, rfl, rfl, rdR_nil9 _ _, Nat.le_refl _, LenS.zero, Below.refl _ _⟩
          case round =>
            obtain ⟨k, o, A, cc, rfl, hk, ho, rfl, hro, hoc, hls, hbq⟩ := hrel
            by_cases hkn : k < n
            · have hkS : k < SL.length := by rw [HN.out]; exact hkn
              obtain ⟨bl, ol, rfl, hbl, q0⟩ := (HRD.out.later hbq (Nat.le_refl _)).at_ hkS
              have hz := List.any_eq_false.1 HANY.out SL[k] (List.getElem_mem _)
              have hlf := lenF_take hkS
              rw [← ho] at hlf
              have hlow := HLOW.out SL[k] (List.getElem_mem hkS)
              generalize SL[k] = z at *
              have hz : z ≤ 1000000000000 := by simpa using hz
              have x1 : (0 : Int) ≤ (k : Int) := by omega
              have x2 : (k : Int) < (n : Int) := by omega
              have hcall := fun W => tnRoot_ z W (by omega) (by omega)
              have HO := Lib.hid ho; have HRO := Lib.hid hro; have HOC := Lib.hid hoc; have HLS := Lib.hid hls; have HBQ := Lib.hid hbq; have HLF := Lib.hid hlf; have HZ := Lib.hid hz; have HCALL := Lib.hid hcall; have HKS := Lib.hid hkS; have HLOW := Lib.hid hlow; clear ho hro hoc hls hbq hlf hz hcall hkS hlow
              go_wp2_with fail
              refine (HCALL.out _).mono ?_
              rintro e wR hpost
              obtain ⟨K, S, x, rfl, b1, hr0, hr1⟩ := root_nrt hpost HZ.out
              have hrr : 0 < z → IsRt z.toNat K.toNat S.toNat ∧ 0 < S := fun h0 => by
                obtain ⟨K2, S2, x2, e2, _, _, _, h3⟩ := hpost
                injection e2 with e2; injection e2 with e2
                simp only [Array.mk.injEq, List.cons.injEq, Value.agg.injEq, Value.int.injEq, true_and, and_true] at e2
                obtain ⟨⟨e3, e4⟩, _⟩ := e2
                have := h3 h0 HZ.out
                rw [e3, e4]; exact ⟨this.2.2.2, this.2.2.1⟩
              have hro1 := HRO.out.later b1 (Nat.le_refl _)
              have hbq1 := HBQ.out.trans (b1.mono HBQ.out.size)
              clear b1 HRO HBQ hpost q0 hbl
              have hbT : Below wR.heap.size wR (wR.alloc (.cells #[.int .i64 K, .int .i64 S] 26)) := (Below.refl _ _).alloc (Nat.le_refl _) _
              have hT := heap_alloc_new wR (.cells #[.int .i64 K, .int .i64 S] 26)
              have hro2 := hro1.later hbT (Nat.le_refl _)
              have hbq2 := hbq1.trans (hbT.mono hbq1.size)
              clear hbT hro1 hbq1
              by_cases hK : 0 < K
              · have hz0 : 0 < z := by
                  rcases Int.lt_or_le 0 z with h | h
                  · exact h
                  · have := hr0 h; omega
                obtain ⟨hnr, _, hx0⟩ := hr1 hz0
                obtain ⟨hrt, hS⟩ := hrr hz0
                have hlf2 : lenF (SL.take (k + 1)) [] = mg 1 o [(K, S)] := by rw [HLF.out, ← hnr]; unfold stepL; rw [if_pos hz0]
                have hls2 := HLS.out.step HZ.out hz0 hrt hK hS
                have f1 : decide (0 < K) = true := decide_eq_true hK
                clear hr0 hr1 hrr
                have HT := Lib.hid hT; have HRO2 := Lib.hid hro2; have HBQ2 := Lib.hid hbq2; have HZ0 := Lib.hid hz0; have HNR := Lib.hid hnr; have HX0 := Lib.hid hx0; have HRT := Lib.hid hrt; have HS := Lib.hid hS; have HLF2 := Lib.hid hlf2; have HLS2 := Lib.hid hls2; clear hT hro2 hbq2 hz0 hnr hx0 hrt hS hlf2 hls2
                go_upto_region 22 with fail
                obtain ⟨w6, hw6⟩ : ∃ w6, w6 = wR.alloc (.cells #[.int .i64 K, .int .i64 S] 26) := ⟨_, rfl⟩
                have hT := HT.out
                have hro2 := HRO2.out
                have hbq2 := HBQ2.out
                rw [← hw6] at hT hro2 hbq2 ⊢
                clear HT HRO2 HBQ2 hw6
                generalize wR.heap.size = T4 at *
                have t0 := cell_of_row _ _ 0 _ _ _ hT
                have tt1 := cell_of_row _ _ 1 _ _ _ hT
                simp only [List.getElem?_toArray, List.getElem?_cons_zero, List.getElem?_cons_succ] at t0 tt1
                have l1 := lt_of_block hT
                have hbN : Below w6.heap.size w6 (w6.alloc (.cells #[.int .i64 K, .int .i64 S] 26)) := (Below.refl _ _).alloc (Nat.le_refl _) _
                have hN := rdR_one (heap_alloc_new w6 (.cells #[.int .i64 K, .int .i64 S] 26))
                have hro3 := hro2.later hbN (Nat.le_refl _)
                have hbq3 := hbq2.trans (hbN.mono hbq2.size)
                have hmed : Med [(K, S)] := fun y hy => by
                  have hr := (nrt_rng HZ0.out HZ.out HRT.out).1
                  rw [List.mem_singleton.1 hy]
                  simp only; omega
                have hmg := fun W h1 h2 => tnMerge_ A (some ⟨w6.heap.size, 0, none⟩) cc 1 1 (.inl rfl) o [(K, S)] W h1 h2 HOC.out (by simp) (HLS.out.med (by omega)) hmed (by have := HLS.out.ln; simp; omega)
                have HT := Lib.hid hT; have HRO2 := Lib.hid hro2; have HBQ2 := Lib.hid hbq2; have HBN := Lib.hid hbN; have HN := Lib.hid hN; have HRO3 := Lib.hid hro3; have HBQ3 := Lib.hid hbq3; have HMED := Lib.hid hmed; have HMG := Lib.hid hmg; clear hT hro2 hbq2 hbN hN hro3 hbq3 hmed hmg
                go_wp2_with fail
                refine (HMG.out _ HRO3.out HN.out).mono ?_
                rintro e w7 ⟨A7, c7, rfl, hro7, hc7, b1⟩
                have hbq7 := HBQ3.out.trans (b1.mono HBQ3.out.size)
                clear b1
                rw [← HLF2.out] at hro7 hc7 ⊢
                have hls7 := HLS2.out
                rw [← HLF2.out] at hls7
                have HRO7 := Lib.hid hro7; have HC7 := Lib.hid hc7; have HBQ7 := Lib.hid hbq7; have HLS7 := Lib.hid hls7; clear hro7 hc7 hbq7 hls7
                go_wp2
                go_roundw
                case rel => exact ⟨k + 1, _, _, _, by go_num, by omega, rfl, rfl, HRO7.out, HC7.out, HLS7.out, HBQ7.out⟩
                case measure => simp [intOf]; omega
              · have f1 : decide (0 < K) = false := decide_eq_false hK
                have hz0 : ¬ 0 < z := fun h => by have := (hr1 h).2.1; omega
                have hlf2 : o = lenF (SL.take (k + 1)) [] := by rw [HLF.out]; unfold stepL; rw [if_neg hz0]
                have hls2 := HLS.out.more
                clear hr0 hr1 hrr
                have HT := Lib.hid hT; have HRO2 := Lib.hid hro2; have HBQ2 := Lib.hid hbq2; have HZ0 := Lib.hid hz0; have HLF2 := Lib.hid hlf2; have HLS2 := Lib.hid hls2; clear hT hro2 hbq2 hz0 hlf2 hls2
                go_wp2
                go_roundw
                case rel => exact ⟨k + 1, o, _, _, by go_num, by omega, HLF2.out, rfl, HRO2.out, HOC.out, HLS2.out, HBQ2.out⟩
                case measure => simp [intOf]; omega
            · obtain rfl : k = n := by omega
              have x3 : ¬ (k : Int) < (k : Int) := by omega
              rw [show SL.take k = SL by rw [← HN.out, List.take_length]] at ho
              have hres2 := HRES2.out
              rw [← ho] at hres2
              have hb9 := HBW5.out.trans (hbq.mono HBW5.out.size)
              by_cases h64 : 64 < o.length
              · have f1 : decide ((64 : Int) < (o.length : Int)) = true := decide_eq_true (by omega)
                have f2 : (64 : Int) < (o.length : Int) := by omega
                rw [if_pos h64] at hres2
                have HO := Lib.hid ho; have HRO := Lib.hid hro; have HOC := Lib.hid hoc; have HLS := Lib.hid hls; have HBQ := Lib.hid hbq; have HRES2 := Lib.hid hres2; have HB9 := Lib.hid hb9; clear ho hro hoc hls hbq hres2 hb9
                go_wp2
                go_ret2
                exact LenPost.bad HRES2.out (by decide) HB9.out
              · have f1 : decide ((64 : Int) < (o.length : Int)) = false := decide_eq_false (by omega)
                have f2 : ¬ (64 : Int) < (o.length : Int) := by omega
                rw [if_neg h64] at hres2
                have HO := Lib.hid ho; have HRO := Lib.hid hro; have HOC := Lib.hid hoc; have HLS := Lib.hid hls; have HBQ := Lib.hid hbq; have HRES2 := Lib.hid hres2; have HB9 := Lib.hid hb9; clear ho hro hoc hls hbq hres2 hb9
                go_wp2
                go_ret2
                rw [HRES2.out]
                exact ⟨A, cc, rfl, HRO.out, HOC.out, fun _ => ⟨HLS.out.up (by omega), Nat.not_lt.1 h64⟩, HB9.out⟩
      · obtain rfl : n = 0 := by omega
        have hany : SL.any (fun n => decide (1000000000000 < n)) = false := by rw [List.eq_nil_of_length_eq_zero hn]; rfl
        have hres2 := hres
        rw [if_neg (by rw [hany]; decide)] at hres2
        obtain ⟨W5, hw5⟩ : ∃ W5, W5 = wr := ⟨_, rfl⟩
        rw [← hw5] at hrd hx hbw ⊢
        clear hw5
        have hbw5 := hbw
        clear hbw
        have HRES := Lib.hid hres; have HRES2 := Lib.hid hres2; have HNO := Lib.hid hno; have HSL := Lib.hid hSL; have HRD := Lib.hid hrd; have HX := Lib.hid hx; have HBW5 := Lib.hid hbw5; have HANY := Lib.hid hany; have HN := Lib.hid hn; have HLOW := Lib.hid hlow; clear hres hres2 hno hSL hrd hx hbw5 hany hn hlow
        go_wp2
        go_loopw [11, 13, 14, 15, 58] (fun ov _ _ _ iv wq => ∃ (k : Nat) (o : List (Int × Int)) (A : Option Addr) (cc : Nat), iv = .int .i64 (k : Int) ∧ k ≤ 0 ∧ o = lenF (SL.take k) [] ∧ ov = .slice A o.length cc ∧ RdR wq A o ∧ o.length ≤ cc ∧ LenS k o ∧ Below W5.heap.size W5 wq) (fun _ _ _ _ iv _ => 0 - (intOf iv).toNat)
        case atStart => exact ⟨0, [], none, 0, rfl, Nat.zero_le _, rfl, rfl, rdR_nil9 _ _, Nat.le_refl _, LenS.zero, Below.refl _ _⟩
        case round =>
          obtain ⟨k, o, A, cc, rfl, hk, ho, rfl, hro, hoc, hls, hbq⟩ := hrel
          by_cases hkn : k < 0
          · omega
          · obtain rfl : k = 0 := by omega
            have x3 : ¬ (0 : Int) < (0 : Int) := by omega
            rw [show SL.take 0 = SL by rw [← HN.out, List.take_length]] at ho
            have hres2 := HRES2.out
            rw [← ho] at hres2
            have hb9 := HBW5.out.trans (hbq.mono HBW5.out.size)
            by_cases h64 : 64 < o.length
            · have f1 : decide ((64 : Int) < (o.length : Int)) = true := decide_eq_true (by omega)
              have f2 : (64 : Int) < (o.length : Int) := by omega
              rw [if_pos h64] at hres2
              have HO := Lib.hid ho; have HRO := Lib.hid hro; have HOC := Lib.hid hoc; have HLS := Lib.hid hls; have HBQ := Lib.hid hbq; have HRES2 := Lib.hid hres2; have HB9 := Lib.hid hb9; clear ho hro hoc hls hbq hres2 hb9
              go_wp2
              go_ret2
              exact LenPost.bad HRES2.out (by decide) HB9.out
            · have f1 : decide ((64 : Int) < (o.length : Int)) = false := decide_eq_false (by omega)
              have f2 : ¬ (64 : Int) < (o.length : Int) := by omega
              rw [if_neg h64] at hres2
              have HO := Lib.hid ho; have HRO := Lib.hid hro; have HOC := Lib.hid hoc; have HLS := Lib.hid hls; have HBQ := Lib.hid hbq; have HRES2 := Lib.hid hres2; have HB9 := Lib.hid hb9; clear ho hro hoc hls hbq hres2 hb9
              go_wp2
              go_ret2
              rw [HRES2.out]
              exact ⟨A, cc, rfl, HRO.out, HOC.out, fun _ => ⟨HLS.out.up (by omega), Nat.not_lt.1 h64⟩, HB9.out⟩
end Go.Proofs.Ytlmhgcllikcedaa
/- How great the bounds of a length are. -/
namespace Go.Proofs.Ytlmhgcllikcedaa
open Go.RowKit

theorem sd_pos {x : Int × Int} (h : 0 < x.1) : sdR x = 0 := by unfold sdR; rw [if_neg (by omega)]
theorem lo1_pos {X : Int} (sc b : Nat) : ∀ {xs : List (Int × Int)}, Pos X xs → loS sc b 1 xs = 0 ∧ hiS sc b 1 xs = 0
  | [], _ => ⟨rfl, rfl⟩
  | x :: l, h => by
    have ih := lo1_pos sc b (xs := l) fun y hy => h y (List.mem_cons_of_mem _ hy)
    have hx := sd_pos (h x (List.mem_cons_self ..)).1
    rw [loS, hiS, hx, if_neg (by decide), if_neg (by decide), ih.1, ih.2]
    exact ⟨rfl, rfl⟩
/-- A sum over the roots, each with a weight of its radicand. -/
def smF (f : Nat → Nat) : List (Int × Int) → Nat
  | [] => 0
  | x :: l => x.1.natAbs * f x.2.toNat + smF f l
theorem smF_cons (f : Nat → Nat) (x : Int × Int) (l : List (Int × Int)) : smF f (x :: l) = x.1.natAbs * f x.2.toNat + smF f l := rfl
theorem smF_mg {X Y : Int} (f : Nat → Nat) (xs ys : List (Int × Int)) (hx : Pos X xs) (hy : Pos Y ys) : smF f (mg 1 xs ys) = smF f xs + smF f ys := by
  generalize hbz : (1 : Int) = bz
  fun_induction mg bz xs ys with
  | case1 ys =>
    subst hbz
    simp [smF]
  | case2 x xs => simp [smF]
  | case3 x xs y ys h ih =>
    have i := ih (fun q hq => hx q (List.mem_cons_of_mem _ hq)) hy
    simp only [smF_cons] at i ⊢
    omega
  | case4 x xs y ys h h2 ih =>
    have i := ih hx (fun q hq => hy q (List.mem_cons_of_mem _ hq))
    subst hbz
    simp only [smF_cons, Int.one_mul] at i ⊢
    omega
  | case5 x xs y ys h h2 h3 ih =>
    have a := hx x (List.mem_cons_self ..)
    have c := hy y (List.mem_cons_self ..)
    subst hbz; omega
  | case6 x xs y ys h h2 h3 ih =>
    have a := hx x (List.mem_cons_self ..)
    have c := hy y (List.mem_cons_self ..)
    have e : y.2 = x.2 := by omega
    have i := ih (fun q hq => hx q (List.mem_cons_of_mem _ hq)) (fun q hq => hy q (List.mem_cons_of_mem _ hq))
    subst hbz
    have h4 : (x.1 + 1 * y.1).natAbs = x.1.natAbs + y.1.natAbs := by omega
    simp only [smF_cons, e, h4, Nat.add_mul] at i ⊢
    omega
theorem lo0_sm {X : Int} (sc b : Nat) : ∀ {xs : List (Int × Int)}, Pos X xs → loS sc b 0 xs = sc * smF (fun s => rtN s b) xs ∧ hiS sc b 0 xs = sc * smF (fun s => moN s b) xs
  | [], _ => ⟨by simp [loS, smF], by simp [hiS, smF]⟩
  | x :: l, h => by
    have ih := lo0_sm sc b (xs := l) fun y hy => h y (List.mem_cons_of_mem _ hy)
    have hx := sd_pos (h x (List.mem_cons_self ..)).1
    rw [loS, hiS, hx, if_pos rfl, if_pos rfl, ih.1, ih.2, smF, smF, Nat.mul_add, Nat.mul_add, Nat.mul_comm _ sc, Nat.mul_assoc, Nat.mul_assoc]
    exact ⟨rfl, rfl⟩
/-- A step of so much adds at most a million times the scale. -/
theorem step_le {n : Int} {K S : Nat} (b : Nat) (h0 : 0 < n) (h1 : n ≤ 1000000000000) (hr : IsRt n.toNat K S) : K * rtN S b ≤ 1000000 * 2 ^ b := by
  have e := hr.1
  have hq : rtN S b * rtN S b ≤ S * 4 ^ b := Nat.sqrt_le (S * 4 ^ b)
  have h2 : (K * rtN S b) * (K * rtN S b) ≤ (1000000 * 2 ^ b) * (1000000 * 2 ^ b) := by
    have a1 : (K * rtN S b) * (K * rtN S b) = (K * K) * (rtN S b * rtN S b) := by
      rw [Nat.mul_mul_mul_comm]
    have a2 : (1000000 * 2 ^ b) * (1000000 * 2 ^ b) = 1000000000000 * 4 ^ b := by
      rw [Nat.mul_mul_mul_comm, ← Nat.pow_add, show b + b = 2 * b by omega, Nat.pow_mul]
    rw [a1, a2]
    refine Nat.le_trans (Nat.mul_le_mul_left _ hq) ?_
    rw [← Nat.mul_assoc, ← e]
    exact Nat.mul_le_mul_right _ (by omega)
  rcases Nat.lt_or_ge (1000000 * 2 ^ b) (K * rtN S b) with h | h
  · have := Nat.mul_lt_mul'' h h
    omega
  · exact h
/-- What holds of the sum of a path's steps. -/
theorem lenF_sum (b : Nat) : ∀ (l : List Int) (o : List (Int × Int)) (k : Nat), (∀ n ∈ l, n ≤ 1000000000000) → LenS k o → (∀ n ∈ l, 0 < n → ∃ K S : Nat, IsRt n.toNat K S) → LenS (k + l.length) (lenF l o) ∧ smF (fun s => rtN s b) (lenF l o) ≤ smF (fun s => rtN s b) o + l.length * (1000000 * 2 ^ b)
  | [], o, k, _, h, _ => ⟨h, by rw [lenF]; omega⟩
  | n :: l, o, k, hn, h, hex => by
    rw [lenF]
    have hn1 := hn n (List.mem_cons_self ..)
    by_cases h0 : 0 < n
    · obtain ⟨K, S, hr⟩ := hex n (List.mem_cons_self ..) h0
      obtain ⟨⟨r1, r2⟩, r3, r4⟩ := nrt_rng h0 hn1 hr
      have hst : stepL o n (nrt n) = mg 1 o [((K : Int), (S : Int))] := by unfold stepL; rw [if_pos h0, nrt_is h0 hr]
      have hs1 : LenS (k + 1) (mg 1 o [((K : Int), (S : Int))]) := h.step hn1 h0 (by simpa using hr) (by omega) (by omega)
      have hp : Pos 1000000 [((K : Int), (S : Int))] := fun x hx => by
        rw [List.mem_singleton.1 hx]
        simp only; omega
      have hm := smF_mg (fun s => rtN s b) o _ h.ps hp
      obtain ⟨i1, i2⟩ := lenF_sum b l (mg 1 o [((K : Int), (S : Int))]) (k + 1) (fun m hm => hn m (List.mem_cons_of_mem _ hm)) hs1 (fun m hm => hex m (List.mem_cons_of_mem _ hm))
      rw [hst]
      refine ⟨by rw [List.length_cons, show k + (l.length + 1) = k + 1 + l.length by omega]; exact i1, ?_⟩
      have hl := step_le b h0 hn1 hr
      rw [hm] at i2
      simp only [smF, Int.natAbs_natCast, Int.toNat_natCast, Nat.add_zero] at i2
      rw [List.length_cons, Nat.add_mul, Nat.one_mul]
      omega
    · have hst : stepL o n (nrt n) = o := by unfold stepL; rw [if_neg h0]
      obtain ⟨i1, i2⟩ := lenF_sum b l o (k + 1) (fun m hm => hn m (List.mem_cons_of_mem _ hm)) h.more (fun m hm => hex m (List.mem_cons_of_mem _ hm))
      rw [hst]
      refine ⟨by rw [List.length_cons, show k + (l.length + 1) = k + 1 + l.length by omega]; exact i1, ?_⟩
      rw [List.length_cons, Nat.add_mul, Nat.one_mul]
      omega
/-- Every number has a normal root. -/
theorem isRt_ex (n : Nat) (h0 : 0 < n) : ∃ K S : Nat, IsRt n K S := by
  induction n using Nat.strongRecOn with
  | _ n ih =>
    by_cases h : ∃ d, 1 < d ∧ d * d ∣ n
    · obtain ⟨d, hd, q, hq⟩ := h
      have hq0 : 0 < q := by
        rcases Nat.eq_zero_or_pos q with h | h
        · subst h; omega
        · exact h
      have hlt : q < n := by
        rw [hq]
        have h4 : 2 * 2 ≤ d * d := Nat.mul_le_mul (by omega) (by omega)
        calc q < 4 * q := by omega
          _ ≤ d * d * q := Nat.mul_le_mul_right _ h4
      obtain ⟨K, S, e, hs⟩ := ih q hlt hq0
      refine ⟨d * K, S, ?_, hs⟩
      rw [hq, e, ← Nat.mul_assoc, Nat.mul_mul_mul_comm]
    · refine ⟨1, n, by simp, h0, fun d hd hdv => h ⟨d, hd, hdv⟩⟩
/-- The upper bound of a value, as an int64. -/
def hiOf (sc : Nat) (xs : List (Int × Int)) (b : Nat) : Int := if badQ (intB xs) (lsV sc xs b) (lsB sc xs b) = true then 0 else hiQ (intB xs) (lsV sc xs b) (lsB sc xs b)
theorem lenR_ok {a b c : Int} {ps : List (Int × Int)} (h : (lenR a b c ps).2 = 0) : ps.length ≤ 500 ∧ latB a b c = false ∧ ps.any offP = false ∧ (∀ n ∈ sqsK a b c ps ps.length, n ≤ 1000000000000) ∧ (lenF (sqsK a b c ps ps.length) []).length ≤ 64 ∧ lenR a b c ps = (lenF (sqsK a b c ps ps.length) [], 0) := by
  unfold lenR at h ⊢
  split at h
  · cases h
  · rename_i h1
    split at h
    · cases h
    · rename_i h2
      split at h
      · cases h
      · rename_i h3
        split at h
        · cases h
        · rename_i h4
          split at h
          · cases h
          · rename_i h5
            rw [if_neg h1, if_neg h2, if_neg h3, if_neg h4, if_neg h5]
            refine ⟨by omega, by simpa using h2, by simpa using h3, fun n hn => ?_, by omega, rfl⟩
            have := List.any_eq_false.1 (Bool.eq_false_iff.2 h4) n hn
            simpa using this
theorem hiOf_len {a b c : Int} {ps : List (Int × Int)} (h : (lenR a b c ps).2 = 0) (sc q : Nat) (hs : sc ≤ 100000) : badQ (intB (lenR a b c ps).1) (lsV sc (lenR a b c ps).1 q) (lsB sc (lenR a b c ps).1 q) = false ∧ 0 ≤ hiOf sc (lenR a b c ps).1 q ∧ hiOf sc (lenR a b c ps).1 q ≤ 50000000000001 := by
  obtain ⟨h1, h2, h3, h4, h5, h6⟩ := lenR_ok h
  obtain ⟨i1, i2⟩ := lenF_sum q (sqsK a b c ps ps.length) [] 0 h4 LenS.zero (fun n _ h0 => isRt_ex n.toNat (by omega))
  rw [h6]
  simp only
  rw [sqsK_length] at i1 i2
  generalize lenF (sqsK a b c ps ps.length) [] = o at *
  have hp := i1.ps
  obtain ⟨l1, l2⟩ := lo1_pos sc q hp
  have l3 := (lo0_sm sc q hp).1
  have hlb : lsB sc o q = false := by
    unfold lsB flB gF vF
    simp [l2]
  have hlv : lsV sc o q ≤ 50000000000000 := by
    unfold lsV flV gF vF
    simp only [show ¬ (0 = 1) by decide, if_false, show ¬ (3 = 1) by decide, show (0 < 2) by decide, if_true, show ¬ (3 < 2) by decide, l2, Nat.zero_le, Nat.sub_zero]
    have hq := Nat.two_pow_pos q
    have h7 : smF (fun s => rtN s q) o ≤ 500 * (1000000 * 2 ^ q) := by
      have : ps.length * (1000000 * 2 ^ q) ≤ 500 * (1000000 * 2 ^ q) := Nat.mul_le_mul_right _ h1
      simp only [smF] at i2
      omega
    have h8 := Nat.mul_le_mul hs h7
    rw [l3]
    refine Nat.le_of_lt_succ ((Nat.div_lt_iff_lt_mul hq).2 ?_)
    rw [Nat.succ_mul]
    generalize smF (fun s => rtN s q) o = Y at *
    generalize 2 ^ q = X at *
    omega
  have hlo : loQ (lsV sc o q) false = (lsV sc o q : Int) := by unfold loQ; rw [if_neg (by omega)]; rfl
  have hhi : 0 ≤ hiQ (intB o) (lsV sc o q) false ∧ hiQ (intB o) (lsV sc o q) false ≤ 50000000000001 := by
    unfold hiQ
    rw [hlo]
    split <;> omega
  have hb : badQ (intB o) (lsV sc o q) (lsB sc o q) = false := by
    rw [hlb]
    unfold badQ
    rw [decide_eq_false (by omega), decide_eq_false (by omega)]
    rfl
  refine ⟨hb, ?_⟩
  unfold hiOf
  rw [hb, hlb, if_neg (by decide)]
  exact hhi
end Go.Proofs.Ytlmhgcllikcedaa
/- Bounds of lengths: plain (the first half of BoHaP, for seats without Need). -/
namespace Go.Proofs.Ytlmhgcllikcedaa
open Go.RowKit

theorem lo_fl {sc q : Nat} {xs : List (Int × Int)} (h : lsV sc xs q ≤ 4000000000000000000) : loQ (lsV sc xs q) (lsB sc xs q) = flI (loI sc q xs) q := by
  rw [← (ls_is sc q xs).1]
  unfold loQ
  rw [if_neg (by omega)]
/-- What the upper bound is. -/
theorem hi_is {sc q : Nat} {xs : List (Int × Int)} (hb : badQ (intB xs) (lsV sc xs q) (lsB sc xs q) = false) : hiOf sc xs q = flI (loI sc q xs) q + (if intB xs = true then 0 else 1) := by
  have hv : lsV sc xs q ≤ 4000000000000000000 := by
    unfold badQ at hb
    rw [Bool.or_eq_false_iff, decide_eq_false_iff_not] at hb
    omega
  unfold hiOf
  rw [hb, if_neg (by decide)]
  unfold hiQ
  rw [lo_fl hv]
  split <;> omega
theorem hi_char {sc q : Nat} (hsc : 0 < sc) {xs : List (Int × Int)} (hn : Nm xs) (hb : badQ (intB xs) (lsV sc xs q) (lsB sc xs q) = false) (hs : stopQ sc xs q = true) :
    upI sc q xs ≤ hiOf sc xs q * ((2 ^ q : Nat) : Int) ∧ (hiOf sc xs q - 1) * ((2 ^ q : Nat) : Int) ≤ loI sc q xs ∧ (loI sc q xs = upI sc q xs ∧ (hiOf sc xs q - 1) * ((2 ^ q : Nat) : Int) < loI sc q xs ∨ loI sc q xs < upI sc q xs) := by
  have hq := Nat.two_pow_pos q
  rw [hi_is hb]
  by_cases hi : intB xs = true
  · rw [if_pos hi]
    obtain ⟨e1, e2⟩ := int_val sc hn.ps (int_all.1 hi) q
    rw [e1, e2, flI_mul, Int.add_zero]
    rw [Int.sub_mul]
    refine ⟨Int.le_refl _, by omega, .inl ⟨rfl, by omega⟩⟩
  · rw [if_neg hi]
    have hi : intB xs = false := by simpa using hi
    have hg := up_gap hsc hn hi q
    rw [stop_iff hi] at hs
    have h1 := (flI_iff (loI sc q xs) _ q).1 rfl
    have h2 := (flI_iff (upI sc q xs - 1) _ q).1 hs.symm
    generalize flI (loI sc q xs) q = F at *
    rw [show F + 1 - 1 = F by omega]
    exact ⟨by omega, h1.1, .inr (by omega)⟩
/-- A sum over steps. -/
noncomputable def stW (f : Nat → Nat) : List Int → Nat
  | [] => 0
  | n :: l => (if 0 < n then (nrt n).1.natAbs * f (nrt n).2.toNat else 0) + stW f l
theorem stW_app (f : Nat → Nat) (m : List Int) : ∀ l, stW f (l ++ m) = stW f l + stW f m
  | [] => by simp [stW]
  | n :: l => by rw [List.cons_append, stW, stW, stW_app f m l, Nat.add_assoc]
theorem smF_lenF (f : Nat → Nat) : ∀ (l : List Int) (o : List (Int × Int)) (k : Nat), (∀ n ∈ l, n ≤ 1000000000000) → LenS k o → LenS (k + l.length) (lenF l o) ∧ smF f (lenF l o) = smF f o + stW f l
  | [], o, k, _, h => ⟨h, by simp [lenF, stW]⟩
  | n :: l, o, k, hn, h => by
    have hn1 := hn n (List.mem_cons_self ..)
    rw [lenF, stW]
    by_cases h0 : 0 < n
    · obtain ⟨K, S, hr⟩ := isRt_ex n.toNat (by omega)
      obtain ⟨⟨r1, r2⟩, r3, r4⟩ := nrt_rng h0 hn1 hr
      have hst : stepL o n (nrt n) = mg 1 o [((K : Int), (S : Int))] := by unfold stepL; rw [if_pos h0, nrt_is h0 hr]
      have hs1 := h.step (K := (K : Int)) (S := (S : Int)) hn1 h0 (by simpa using hr) (by omega) (by omega)
      have hp : Pos 1000000 [((K : Int), (S : Int))] := fun x hx => by
        rw [List.mem_singleton.1 hx]
        simp only; omega
      have hm := smF_mg f o _ h.ps hp
      obtain ⟨i1, i2⟩ := smF_lenF f l (mg 1 o [((K : Int), (S : Int))]) (k + 1) (fun m hm => hn m (List.mem_cons_of_mem _ hm)) hs1
      rw [hst, if_pos h0, nrt_is h0 hr]
      refine ⟨by rw [List.length_cons, show k + (l.length + 1) = k + 1 + l.length by omega]; exact i1, ?_⟩
      rw [i2, hm]
      simp only [smF, Int.natAbs_natCast, Int.toNat_natCast, Nat.add_zero]
      omega
    · obtain ⟨i1, i2⟩ := smF_lenF f l o (k + 1) (fun m hm => hn m (List.mem_cons_of_mem _ hm)) h.more
      have hst : stepL o n (nrt n) = o := by unfold stepL; rw [if_neg h0]
      rw [hst, if_neg h0]
      refine ⟨by rw [List.length_cons, show k + (l.length + 1) = k + 1 + l.length by omega]; exact i1, by rw [i2]; omega⟩
theorem sqN_same (a b c : Int) (p : Int × Int) : sqN a b c p p = 0 := by unfold sqN prodG stp; simp
/-- The squares of the parts. -/
theorem sqs_take {a b c : Int} {ps : List (Int × Int)} {k : Nat} : sqsK a b c (ps.take (k + 1)) (k + 1) = sqsK a b c ps (k + 1) := by
  unfold sqsK
  refine List.map_congr_left fun i hi => ?_
  have := List.mem_range.1 hi
  unfold sqA
  have e : ∀ j, j < k + 1 → (ps.take (k + 1)).getD j (0, 0) = ps.getD j (0, 0) := fun j hj => by
    rw [List.getD_eq_getElem?_getD, List.getD_eq_getElem?_getD, List.getElem?_take, if_pos hj]
  rw [e _ (by omega), e _ (by omega)]
theorem sqs_drop {a b c : Int} {ps : List (Int × Int)} {k : Nat} (hk : k < ps.length) : ∃ l, sqsK a b c (ps.drop k) (ps.length - k) = 0 :: l ∧ sqsK a b c ps ps.length = sqsK a b c ps (k + 1) ++ l := by
  refine ⟨(List.range (ps.length - k - 1)).map fun i => sqA a b c ps (i + (k + 1)), ?_, ?_⟩
  · unfold sqsK
    rw [show ps.length - k = ps.length - k - 1 + 1 by omega, List.range_succ_eq_map, List.map_cons, List.map_map]
    congr 1
    · unfold sqA
      exact sqN_same _ _ _ _
    · refine List.map_congr_left fun i hi => ?_
      have := List.mem_range.1 hi
      show sqA a b c (ps.drop k) (i + 1) = _
      unfold sqA
      have e : ∀ j, (ps.drop k).getD j (0, 0) = ps.getD (k + j) (0, 0) := fun j => by
        rw [List.getD_eq_getElem?_getD, List.getD_eq_getElem?_getD, List.getElem?_drop]
      rw [e, e, show k + (i + 1 - 1) = i + (k + 1) - 1 by omega, show k + (i + 1) = i + (k + 1) by omega]
  · unfold sqsK
    rw [show List.range ps.length = List.range (k + 1) ++ (List.range (ps.length - k - 1)).map (· + (k + 1)) by
      rw [show ps.length = (k + 1) + (ps.length - k - 1) by omega, List.range_add]
      congr 1
      rw [show k + 1 + (ps.length - k - 1) - k - 1 = ps.length - k - 1 by omega]
      refine List.map_congr_left fun i _ => by omega]
    rw [List.map_append, List.map_map]
    rfl
/-- A path of at most 64 points that is right. -/
theorem lenR_of {a b c : Int} {ps : List (Int × Int)} (hl : ps.length ≤ 64) (h1 : latB a b c = false) (h2 : ps.any offP = false) (h3 : ∀ n ∈ sqsK a b c ps ps.length, n ≤ 1000000000000) : lenR a b c ps = (lenF (sqsK a b c ps ps.length) [], 0) := by
  have hs := (smF_lenF (fun _ => 0) _ [] 0 h3 LenS.zero).1.ln
  rw [sqsK_length] at hs
  unfold lenR
  rw [if_neg (by omega), if_neg (by rw [h1]; decide), if_neg (by rw [h2]; decide), if_neg ?_, if_neg (by omega)]
  intro h
  obtain ⟨n, hn, h⟩ := List.any_eq_true.1 h
  have := h3 n hn
  simp at h
  omega
theorem LenS.nrm {k : Nat} {o : List (Int × Int)} (h : LenS k o) : Nm o := ⟨h.nm, fun x hx => by have := h.ps x hx; omega⟩
/-- The bounds of a length. -/
theorem len_lo {X : Int} {xs : List (Int × Int)} (sc q : Nat) (h : Pos X xs) : loI sc q xs = ((sc * smF (fun s => rtN s q) xs : Nat) : Int) ∧ upI sc q xs = ((sc * smF (fun s => moN s q) xs : Nat) : Int) := by
  unfold loI upI
  obtain ⟨h1, h2⟩ := lo0_sm sc q h
  obtain ⟨h3, h4⟩ := lo1_pos sc q h
  rw [h1, h2, h3, h4]
  omega
theorem lenR_sum {a b c : Int} {ps : List (Int × Int)} (h : (lenR a b c ps).2 = 0) (sc q : Nat) : Nm (lenR a b c ps).1 ∧ loI sc q (lenR a b c ps).1 = ((sc * stW (fun s => rtN s q) (sqsK a b c ps ps.length) : Nat) : Int) ∧ upI sc q (lenR a b c ps).1 = ((sc * stW (fun s => moN s q) (sqsK a b c ps ps.length) : Nat) : Int) ∧ LenS ps.length (lenR a b c ps).1 := by
  obtain ⟨_, _, _, h4, _, h6⟩ := lenR_ok h
  obtain ⟨i1, i2⟩ := smF_lenF (fun s => rtN s q) _ [] 0 h4 LenS.zero
  have i3 := (smF_lenF (fun s => moN s q) _ [] 0 h4 LenS.zero).2
  rw [sqsK_length, Nat.zero_add] at i1
  rw [h6]
  simp only
  obtain ⟨l1, l2⟩ := len_lo sc q i1.ps
  rw [l1, l2, i2, i3]
  simp only [smF, Nat.zero_add]
  exact ⟨i1.nrm, trivial, trivial, i1⟩
/-- For paths of few points the search ends. -/
theorem len_halts {a b c : Int} {ps : List (Int × Int)} (h : (lenR a b c ps).2 = 0) (hl : ps.length ≤ 38) {sc : Nat} (hsc : 0 < sc) (hs : sc ≤ 1000000000) : ∀ Q, 32 * 2 ^ 40 ≤ Q → stopQ sc (lenR a b c ps).1 Q = true := by
  obtain ⟨h1, _, _, h4⟩ := lenR_sum h sc 0
  have hln := h4.ln
  intro Q hQ
  refine halts_of hsc hs h1 (by omega) (fun x hx => ?_) Q (Nat.le_trans ?_ hQ)
  · have h5 := h4.ps x hx
    have h6 := h4.rg x hx
    omega
  · exact Nat.mul_le_mul_left 32 (Nat.pow_le_pow_right (by decide) (by omega))
theorem hi_mono {a b c : Int} {ps : List (Int × Int)} (h : (lenR a b c ps).2 = 0) {sc q Q : Nat} (hsc : 0 < sc) (hs : sc ≤ 100000) (h1 : stopQ sc (lenR a b c ps).1 q = true) (hq : q ≤ Q) : stopQ sc (lenR a b c ps).1 Q = true ∧ hiOf sc (lenR a b c ps).1 Q = hiOf sc (lenR a b c ps).1 q := by
  have hn := (lenR_sum h sc 0).1
  obtain ⟨s1, s2⟩ := stop_mono hsc hn h1 hq
  refine ⟨s1, ?_⟩
  rw [hi_is (hiOf_len h sc Q hs).1, hi_is (hiOf_len h sc q hs).1, s2]
end Go.Proofs.Ytlmhgcllikcedaa
/- Bounds: one contract, and its answer. -/
namespace Go.Proofs.Ytlmhgcllikcedaa
open Go.RowKit

theorem sqrt_is {n r : Nat} (h1 : r * r ≤ n) (h2 : n < (r + 1) * (r + 1)) : Nat.sqrt n = r := by
  have a := Nat.sqrt_le n
  have b := Nat.lt_succ_sqrt n
  rw [Nat.succ_eq_add_one] at b
  generalize Nat.sqrt n = s at *
  rcases Nat.lt_trichotomy s r with h | h | h
  · have := Nat.mul_le_mul (show s + 1 ≤ r by omega) (show s + 1 ≤ r by omega)
    omega
  · exact h
  · have := Nat.mul_le_mul (show r + 1 ≤ s by omega) (show r + 1 ≤ s by omega)
    omega
def bigQ : Nat := 32 * 2 ^ 40
/-- The greatest whole number that is not above the scaled value. -/
def flT (sc : Nat) (xs : List (Int × Int)) : Int := flI (loI sc bigQ xs) bigQ
theorem flT_eq {sc q : Nat} (hsc : 0 < sc) {xs : List (Int × Int)} (hn : Nm xs) (h : stopQ sc xs q = true) (hq : q ≤ bigQ) : flT sc xs = flI (loI sc q xs) q := (stop_mono hsc hn h hq).2
def upT (sc : Nat) (xs : List (Int × Int)) : Int := flT sc xs + (if intB xs = true then 0 else 1)
def bndV (sc : Nat) (xs : List (Int × Int)) : (Int × Int) × Int := if flT sc xs < -4000000000000000000 ∨ 4000000000000000000 < upT sc xs then ((0, 0), 7) else ((flT sc xs, upT sc xs), 0)
theorem bad_iff {sc q : Nat} (hsc : 0 < sc) {xs : List (Int × Int)} (hn : Nm xs) (h : stopQ sc xs q = true) (hq : q ≤ bigQ) :
    (if badQ (intB xs) (lsV sc xs q) (lsB sc xs q) = true then (((0 : Int), (0 : Int)), (7 : Int)) else ((loQ (lsV sc xs q) (lsB sc xs q), hiQ (intB xs) (lsV sc xs q) (lsB sc xs q)), 0)) = bndV sc xs := by
  obtain ⟨l1, l2⟩ := ls_is sc q xs
  have hF := flT_eq hsc hn h hq
  unfold bndV upT
  rw [hF]
  generalize flI (loI sc q xs) q = F at *
  generalize lsV sc xs q = v at *
  generalize lsB sc xs q = t at *
  have hi01 : (if intB xs = true then (0 : Int) else 1) = 0 ∨ (if intB xs = true then (0 : Int) else 1) = 1 := by split <;> simp
  have hq2 : hiQ (intB xs) v t = loQ v t + (if intB xs = true then 0 else 1) := by
    unfold hiQ
    split <;> omega
  rw [hq2]
  generalize (if intB xs = true then (0 : Int) else 1) = z at *
  unfold badQ
  rw [hq2]
  by_cases h4 : 4000000000000000000 < v
  · rw [if_pos (by simp [h4]), if_pos]
    cases t
    · simp at l1; omega
    · simp at l1; omega
  · have hlo : loQ v t = F := by
      unfold loQ
      rw [if_neg h4]
      exact l1
    rw [hlo, decide_eq_false h4, Bool.false_or]
    by_cases h5 : 4000000000000000000 < F + z
    · rw [if_pos (decide_eq_true h5), if_pos (.inr h5)]
    · rw [if_neg (by simp; omega), if_neg]
      cases t
      · simp at l1; omega
      · simp at l1; omega
def bndO (xs : List (Int × Int)) (sc : Int) : (Int × Int) × Int := if chkE xs ≠ 0 then ((0, 0), chkE xs) else if sc < 1 ∨ 1000000000 < sc then ((0, 0), 2) else bndV sc.toNat xs
def IvPost (r : (Int × Int) × Int) (w : World) (e : Ending) (w' : World) : Prop := e = .returned (.tuple #[.agg #[.int .i64 r.1.1, .int .i64 r.1.2], .int .i64 r.2]) ∧ Below w.heap.size w w'
theorem chk_nm {xs : List (Int × Int)} (h : chkE xs = 0) : xs.length ≤ 64 ∧ Nm xs ∧ ∀ x ∈ xs, (-1000000000 ≤ x.1 ∧ x.1 ≤ 1000000000) ∧ 1 ≤ x.2 ∧ x.2 ≤ 1000000000000 := by
  unfold chkE at h
  split at h
  · cases h
  · rename_i h1
    split at h
    · cases h
    · rename_i h2
      split at h
      · rename_i h3
        have hr : ∀ x ∈ xs, x.1 ≠ 0 ∧ (-1000000000 ≤ x.1 ∧ x.1 ≤ 1000000000) ∧ 1 ≤ x.2 ∧ x.2 ≤ 1000000000000 := fun x hx => by
          have h4 : xs.any rngB = false := by simpa using h2
          have := List.any_eq_false.1 h4 x hx
          unfold rngB wrongB at this
          simp at this
          omega
        exact ⟨by omega, ⟨h3, fun x hx => (hr x hx).1⟩, fun x hx => (hr x hx).2⟩
      · cases h
theorem bnd_stops {xs : List (Int × Int)} (h : chkE xs = 0) (hl : xs.length ≤ 38) {sc : Nat} (h1 : 0 < sc) (h2 : sc ≤ 1000000000) : stopQ sc xs bigQ = true := by
  obtain ⟨_, hn, hr⟩ := chk_nm h
  refine halts_of h1 h2 hn hl (fun x hx => by have := hr x hx; omega) _ ?_
  exact Nat.mul_le_mul_left 32 (Nat.pow_le_pow_right (by decide) (by omega))
theorem tnBounds_ (A : Option Addr) (c : Nat) (sc : Int) (xs : List (Int × Int)) (w : World) (hr : RdR w A xs) (hl : chkE xs = 0 → xs.length ≤ 38) :
    Calls Try.prog 20 #[.slice A xs.length c, .int .i64 sc] w (IvPost (bndO xs sc) w) := by
  unfold bndO
  by_cases h0 : chkE xs = 0
  · rw [if_neg (by simpa using h0)]
    by_cases hsc : sc < 1 ∨ 1000000000 < sc
    · rw [if_pos hsc]
      exact tnBounds_arg A c sc xs w hr h0 hsc
    · rw [if_neg hsc]
      obtain ⟨n, rfl⟩ : ∃ n : Nat, sc = (n : Int) := ⟨sc.toNat, by omega⟩
      rw [Int.toNat_natCast]
      have hs := bnd_stops h0 (hl h0) (sc := n) (by omega) (by omega)
      refine (tnBounds_ok A c n xs w hr h0 (by omega) (by omega) 40 (Nat.le_refl _) hs).mono ?_
      rintro e w' ⟨b, _, hb, hst, rfl, hbw⟩
      have h1 := bad_iff (sc := n) (by omega) (chk_nm h0).2.1 hst hb
      rw [← h1]
      refine ⟨?_, hbw⟩
      split <;> rfl
  · rw [if_pos h0]
    exact tnBounds_err A c sc xs w hr h0
end Go.Proofs.Ytlmhgcllikcedaa
/- Lists of roots, points and gates of the call's own (printed by mkTnOwn.py). -/
namespace Go.Proofs.Ytlmhgcllikcedaa
open Go.RowKit

theorem own_sliceN {w : World} {base e s n : Nat} {v : Value} {xs : List Value} (h : w.ownsRow base e s v n xs) : ∃ A c, v = .slice A n c ∧ n ≤ c := by
  rcases h.2 with ⟨rfl, h0⟩ | ⟨g, cap, cur, rfl, _, _, hn, _⟩
  · exact ⟨none, 0, by rw [h0], by omega⟩
  · exact ⟨_, cap, rfl, hn⟩
def gateC (wl : List Gt) : List Value := wl.flatMap fun x => [.int .i64 x.1, .int .i64 x.2.1, .int .i64 x.2.2]
theorem gateC_length : ∀ wl, (gateC wl).length = wl.length * 3
  | [] => rfl
  | x :: wl => by
    have ih := gateC_length wl
    unfold gateC at ih ⊢
    simp only [List.flatMap_cons, List.length_append, List.length_cons, List.length_nil, ih]
    omega
theorem gateC_append (xs ys : List Gt) : gateC (xs ++ ys) = gateC xs ++ gateC ys := by unfold gateC; simp
theorem gateC_one (wl : List Gt) : ∀ u ∈ gateC wl, u.oneCell' = true := by
  intro u hu
  simp only [gateC, List.mem_flatMap] at hu
  obtain ⟨x, _, hx⟩ := hu
  simp only [List.mem_cons, List.not_mem_nil, or_false] at hx
  rcases hx with rfl | rfl | rfl <;> rfl
theorem gateC_get : ∀ (wl : List Gt) (j : Nat), j < wl.length * 3 → (gateC wl)[j]? = some (cellsG wl j)
  | [], j, h => by simp at h
  | x :: wl, j, h => by
    have e : gateC (x :: wl) = [.int .i64 x.1, .int .i64 x.2.1, .int .i64 x.2.2] ++ gateC wl := by unfold gateC; simp
    rw [e]
    rcases Nat.lt_or_ge j 3 with h2 | h2
    · rw [List.getElem?_append_left (by simpa using h2)]
      obtain rfl | rfl | rfl : j = 0 ∨ j = 1 ∨ j = 2 := by omega
      all_goals simp [cellsG]
    · rw [List.getElem?_append_right (by simpa using h2)]
      have ih := gateC_get wl (j - 3) (by simp at h; omega)
      simp only [List.length_cons, List.length_nil, Nat.zero_add]
      rw [ih]
      unfold cellsG
      rw [show (j - 3) % 3 = j % 3 by omega, show j / 3 = (j - 3) / 3 + 1 by omega]
      simp [List.getD_eq_getElem?_getD]
theorem own_rdG {w : World} {base e n c : Nat} {A : Option Addr} {wl : List Gt} (h : w.ownsRow base e 3 (.slice A n c) n (gateC wl)) : Rd w A 3 wl.length (cellsG wl) := fun h0 => by
  have hl : n = wl.length := by have := h.1; rw [gateC_length] at this; omega
  obtain ⟨g, cap, hv, _, hlt⟩ := h.form (by omega)
  injection hv with hA
  subst hA
  refine ⟨g, 0, rfl, hlt, fun j hj => ?_⟩
  have := h.cells (g := g) rfl j (cellsG wl j) (gateC_get wl j hj)
  unfold Addr.add at this
  by_cases hj0 : j = 0
  · subst hj0; simpa using this
  · simpa [hj0] using this
theorem RdG.of_own {w : World} {base e n c : Nat} {A : Option Addr} {wl : List Gt} (h : w.ownsRow base e 3 (.slice A n c) n (gateC wl)) (hl : wl.length ≤ 281474976710656) : RdG w A wl := ⟨hl, own_rdG h⟩
theorem infoRo_Try : (Try.prog.info? 26).map (fun i => (i.zero, i.size, i.bytes)) = some (some (.agg #[.int .i64 0, .int .i64 0]), 2, 16) := by kernel_rfl
theorem rdRo_none {w : World} {wl : List (Int × Int)} (h : RdR w none wl) : wl = [] := by
  rcases Nat.eq_zero_or_pos wl.length with h0 | h0
  · exact List.eq_nil_of_length_eq_zero h0
  · obtain ⟨b, off, e, _⟩ := h.2 (by omega)
    cases e
theorem run_appAllRo_Try (w : World) (base : Nat) (v : Value) (xs : List (Int × Int)) (hown : w.ownsRow base 26 2 v xs.length (rootC xs)) (A : Option Addr) (c : Nat) (wl : List (Int × Int)) (hrd : RdR w A wl)
    (hn : xs.length + wl.length ≤ 1000000) (hbase : base ≤ w.heap.size) (ty : TypeId) :
    ∃ v' w', (Builtin.append_ #[22, 22] ty #[v, .slice A wl.length c]).run Try.prog w = .ok v' w' ∧ w'.ownsRow base 26 2 v' (xs ++ wl).length (rootC (xs ++ wl)) ∧ w.grownBy w' v.ownBlock ∧
      (v'.ownBlock = v.ownBlock ∨ v'.ownBlock = some w.heap.size) := by
  obtain ⟨i0, hi, hz0, hz1, hz2⟩ := info_parts infoRo_Try
  cases A with
  | none =>
    obtain rfl := rdRo_none hrd
    refine ⟨v, w, ?_, by simpa using hown, World.grownBy.refl w _, .inl rfl⟩
    rcases hown.2 with ⟨rfl, _⟩ | ⟨g, cap, cur, rfl, _, _, hnc, _⟩
    · simp [Builtin.append_, run_underlying Try.underlying22, sizeOf, typeInfo, hi, Builtin.lenOf, Builtin.firstCells]
    · simp [Builtin.append_, run_underlying Try.underlying22, sizeOf, typeInfo, hi, Builtin.lenOf, Builtin.firstCells, hnc, storeCells]
  | some ad =>
    have hnews : ∀ j u, (rootC wl)[j]? = some u → w.cell? (ad.add j) = some u := fun j u hu => by
      have hj : j < wl.length * 2 := by
        have := (List.getElem?_eq_some_iff.1 hu).1
        rwa [rootC_length] at this
      rw [rootC_get wl j hj] at hu
      obtain ⟨b, off, e, _, hc⟩ := hrd.2 (by omega)
      obtain rfl : ad = ⟨b, off, none⟩ := Option.some.inj e
      have h9 := hc j hj
      rw [← Option.some.inj hu, ← h9]
      by_cases h0 : j = 0
      · subst h0; simp [Addr.add]
      · simp [Addr.add, h0]
    obtain ⟨v', w', hr, h2, h3, _, h5⟩ := run_append_own_at (P := Try.prog) w base 22 ty 26 i0 _ 2 16 Try.underlying22 hi hz0 hz1 hz2 rfl (by omega) v xs.length (rootC xs) hown ad wl.length c (rootC wl) (rootC_length wl) hnews (rootC_one wl)
      (by unfold maxLen; omega) (by omega) hbase
    refine ⟨v', w', hr, ?_, h3, h5⟩
    rw [List.length_append, rootC_append]
    exact h2
theorem wp_appAllRo_Try {o : Oper} {a : Act} {K : Act → World → Prop} {Q : Exit → Act → World → Prop} {w : World} (s x : Operand)
    (ho : o.op = .call { callee := .builtin .append, args := #[s, x], argTypes := #[22, 22] })
    (base : Nat) (v : Value) (xs : List (Int × Int)) (hs : a.eval s = v) (hown : w.ownsRow base 26 2 v xs.length (rootC xs)) (A : Option Addr) (c : Nat) (wl : List (Int × Int)) (hx : a.eval x = .slice A wl.length c) (hrd : RdR w A wl)
    (hn : xs.length + wl.length ≤ 1000000) (hbase : base ≤ w.heap.size)
    (h : ∀ A' c' w', w'.ownsRow base 26 2 (.slice A' (xs ++ wl).length c') (xs ++ wl).length (rootC (xs ++ wl)) → w.grownBy w' v.ownBlock → ((Value.slice A' (xs ++ wl).length c').ownBlock = v.ownBlock ∨ (Value.slice A' (xs ++ wl).length c').ownBlock = some w.heap.size) → K (a.put o.dst (.slice A' (xs ++ wl).length c')) w') : o.wp Try.prog a w K Q := by
  obtain ⟨v', w', hr, h2, h3, h4⟩ := run_appAllRo_Try w base v xs hown A c wl hrd hn hbase o.type
  obtain ⟨A', c', rfl, _⟩ := own_sliceN h2
  unfold Oper.wp execOp
  simp only [ho, resolve, invoke, builtin, Sem.run_bind, Sem.run_pure, Result.andThen_ok, List.map_toArray, List.map_cons, List.map_nil, hs, hx, hr]
  exact h A' c' w' h2 h3 h4
theorem wpList_appAllRo_Try {ops : Array Oper} {rest : List Oper} {o : Oper} {a : Act} {Q : Exit → Act → World → Prop} {w : World} (hgd : o.guard = none) (s x : Operand)
    (ho : o.op = .call { callee := .builtin .append, args := #[s, x], argTypes := #[22, 22] })
    (base : Nat) (v : Value) (xs : List (Int × Int)) (hs : a.eval s = v) (hown : w.ownsRow base 26 2 v xs.length (rootC xs)) (A : Option Addr) (c : Nat) (wl : List (Int × Int)) (hx : a.eval x = .slice A wl.length c) (hrd : RdR w A wl)
    (hn : xs.length + wl.length ≤ 1000000) (hbase : base ≤ w.heap.size)
    (h : ∀ A' c' w', w'.ownsRow base 26 2 (.slice A' (xs ++ wl).length c') (xs ++ wl).length (rootC (xs ++ wl)) → w.grownBy w' v.ownBlock → ((Value.slice A' (xs ++ wl).length c').ownBlock = v.ownBlock ∨ (Value.slice A' (xs ++ wl).length c').ownBlock = some w.heap.size) → wpList Try.prog ops Q rest (a.put o.dst (.slice A' (xs ++ wl).length c')) w') :
    wpList Try.prog ops Q (o :: rest) a w :=
  wpList_plain hgd fun _ hK => wp_appAllRo_Try s x ho base v xs hs hown A c wl hx hrd hn hbase fun A' c' w' h2 h3 h4 => hK _ _ (h A' c' w' h2 h3 h4)
theorem step_appAllRo_Try {ops : Array Oper} {o : Oper} {a : Act} {K : Act → World → Prop} {Q : Exit → Act → World → Prop} {E : Prop} {w : World} (hgd : o.guard = none) (s x : Operand)
    (ho : o.op = .call { callee := .builtin .append, args := #[s, x], argTypes := #[22, 22] })
    (base : Nat) (v : Value) (xs : List (Int × Int)) (hs : a.eval s = v) (hown : w.ownsRow base 26 2 v xs.length (rootC xs)) (A : Option Addr) (c : Nat) (wl : List (Int × Int)) (hx : a.eval x = .slice A wl.length c) (hrd : RdR w A wl)
    (hn : xs.length + wl.length ≤ 1000000) (hbase : base ≤ w.heap.size)
    (h : ∀ A' c' w', w'.ownsRow base 26 2 (.slice A' (xs ++ wl).length c') (xs ++ wl).length (rootC (xs ++ wl)) → w.grownBy w' v.ownBlock → ((Value.slice A' (xs ++ wl).length c').ownBlock = v.ownBlock ∨ (Value.slice A' (xs ++ wl).length c').ownBlock = some w.heap.size) → K (a.put o.dst (.slice A' (xs ++ wl).length c')) w') :
    if Region.wanted o (yielded ops a.tmps) = true then Oper.wp Try.prog o a w K Q else E := by
  have hw : Region.wanted o (yielded ops a.tmps) = true := by simp [Region.wanted, hgd]
  rw [if_pos hw]
  exact wp_appAllRo_Try s x ho base v xs hs hown A c wl hx hrd hn hbase h
theorem step_app1Ro_Try {ops : Array Oper} {o : Oper} {a : Act} {K : Act → World → Prop} {Q : Exit → Act → World → Prop} {E : Prop} {w : World} (hgd : o.guard = none) (s x : Operand)
    (ho : o.op = .call { callee := .builtin .append, args := #[s, x], argTypes := #[22, 22] })
    (base : Nat) (v : Value) (xs : List (Int × Int)) (hs : a.eval s = v) (hown : w.ownsRow base 26 2 v xs.length (rootC xs)) (b : Nat) (z : (Int × Int)) (hx : a.eval x = .slice (some ⟨b, 0, none⟩) 1 1)
    (hb : w.heap[b]? = some (.cells #[.int .i64 z.1, .int .i64 z.2] 26 (0, 0))) (hn : xs.length ≤ 1000000) (hbase : base ≤ w.heap.size)
    (h : ∀ g cap w', w'.ownsRow base 26 2 (.slice (some ⟨g, 0, none⟩) (xs.length + 1) cap) (xs ++ [z]).length (rootC (xs ++ [z])) → w.grownBy w' v.ownBlock → (v.ownBlock = some g ∨ g = w.heap.size) → g < w'.heap.size →
      K (a.put o.dst (.slice (some ⟨g, 0, none⟩) (xs.length + 1) cap)) w') :
    if Region.wanted o (yielded ops a.tmps) = true then Oper.wp Try.prog o a w K Q else E := by
  obtain ⟨i0, hi, hz0, hz1, hz2⟩ := info_parts infoRo_Try
  refine step_append_lies w hgd s x 22 ho base 26 i0 _ 2 16 Try.underlying22 hi hz0 hz1 hz2 rfl (by omega) v xs.length (rootC xs) hs hown ⟨b, 0, none⟩ 1 1 (rootC [z]) hx rfl
    (World.news_of_block hb) (rootC_one [z]) (by omega) (by unfold maxLen; omega) (by omega) hbase w.heap.size rfl fun g cap w' h2 h3 h4 h5 => h g cap w' ?_ h3 h4 h5
  rw [List.length_append, rootC_append]
  exact h2
theorem wpList_app1Ro_Try {ops : Array Oper} {rest : List Oper} {o : Oper} {a : Act} {Q : Exit → Act → World → Prop} {w : World} (hgd : o.guard = none) (s x : Operand)
    (ho : o.op = .call { callee := .builtin .append, args := #[s, x], argTypes := #[22, 22] })
    (base : Nat) (v : Value) (xs : List (Int × Int)) (hs : a.eval s = v) (hown : w.ownsRow base 26 2 v xs.length (rootC xs)) (b : Nat) (z : (Int × Int)) (hx : a.eval x = .slice (some ⟨b, 0, none⟩) 1 1)
    (hb : w.heap[b]? = some (.cells #[.int .i64 z.1, .int .i64 z.2] 26 (0, 0))) (hn : xs.length ≤ 1000000) (hbase : base ≤ w.heap.size)
    (h : ∀ g cap w', w'.ownsRow base 26 2 (.slice (some ⟨g, 0, none⟩) (xs.length + 1) cap) (xs ++ [z]).length (rootC (xs ++ [z])) → w.grownBy w' v.ownBlock → (v.ownBlock = some g ∨ g = w.heap.size) → g < w'.heap.size →
      wpList Try.prog ops Q rest (a.put o.dst (.slice (some ⟨g, 0, none⟩) (xs.length + 1) cap)) w') : wpList Try.prog ops Q (o :: rest) a w := by
  obtain ⟨i0, hi, hz0, hz1, hz2⟩ := info_parts infoRo_Try
  refine wpList_append_lies w hgd s x 22 ho base 26 i0 _ 2 16 Try.underlying22 hi hz0 hz1 hz2 rfl (by omega) v xs.length (rootC xs) hs hown ⟨b, 0, none⟩ 1 1 (rootC [z]) hx rfl
    (World.news_of_block hb) (rootC_one [z]) (by omega) (by unfold maxLen; omega) (by omega) hbase w.heap.size rfl fun g cap w' h2 h3 h4 h5 => h g cap w' ?_ h3 h4 h5
  rw [List.length_append, rootC_append]
  exact h2
theorem wpList_copyRo_Try {ops : Array Oper} {rest : List Oper} {o : Oper} {a : Act} {Q : Exit → Act → World → Prop} {w : World} (hgd : o.guard = none) (s x : Operand)
    (ho : o.op = .call { callee := .builtin .append, args := #[s, x], argTypes := #[22, 22] })
    (base : Nat) (v : Value) (hs : a.eval s = v) (hown : w.ownsRow base 26 2 v ([] : List (Int × Int)).length (rootC [])) (A : Option Addr) (c : Nat) (wl : List (Int × Int)) (hx : a.eval x = .slice A wl.length c) (hrd : RdR w A wl)
    (hn : wl.length ≤ 1000000) (hbase : base ≤ w.heap.size)
    (h : ∀ A' c' w', w'.ownsRow base 26 2 (.slice A' wl.length c') wl.length (rootC wl) → w.grownBy w' v.ownBlock → wpList Try.prog ops Q rest (a.put o.dst (.slice A' wl.length c')) w') :
    wpList Try.prog ops Q (o :: rest) a w :=
  wpList_appAllRo_Try hgd s x ho base v [] hs hown A c wl hx hrd (by simpa using hn) hbase fun A' c' w' h2 h3 _ => by
    rw [List.nil_append] at h2
    exact h A' c' w' h2 h3
theorem own_emptyRo {w : World} {b base : Nat} (hb : w.heap[b]? = some (.cells #[] 26 (0, 0))) (h : base ≤ b) : w.ownsRow base 26 2 (.slice (some ⟨b, 0, none⟩) 0 0) ([] : List (Int × Int)).length (rootC []) :=
  ⟨rfl, .inr ⟨b, 0, #[], rfl, h, hb, Nat.le_refl _, by unfold maxLen; omega, rfl, rfl⟩⟩
theorem step_copyRo_Try {ops : Array Oper} {o : Oper} {a : Act} {K : Act → World → Prop} {Q : Exit → Act → World → Prop} {E : Prop} {w : World} (hgd : o.guard = none) (s x : Operand)
    (ho : o.op = .call { callee := .builtin .append, args := #[s, x], argTypes := #[22, 22] })
    (base : Nat) (v : Value) (hs : a.eval s = v) (hown : w.ownsRow base 26 2 v ([] : List (Int × Int)).length (rootC [])) (A : Option Addr) (c : Nat) (wl : List (Int × Int)) (hx : a.eval x = .slice A wl.length c) (hrd : RdR w A wl)
    (hn : wl.length ≤ 1000000) (hbase : base ≤ w.heap.size)
    (h : ∀ A' c' w', w'.ownsRow base 26 2 (.slice A' wl.length c') wl.length (rootC wl) → w.grownBy w' v.ownBlock → ((Value.slice A' wl.length c').ownBlock = v.ownBlock ∨ (Value.slice A' wl.length c').ownBlock = some w.heap.size) → K (a.put o.dst (.slice A' wl.length c')) w') :
    if Region.wanted o (yielded ops a.tmps) = true then Oper.wp Try.prog o a w K Q else E :=
  step_appAllRo_Try hgd s x ho base v [] hs hown A c wl hx hrd (by simpa using hn) hbase fun A' c' w' h2 h3 h4 => by
    rw [List.nil_append] at h2
    exact h A' c' w' h2 h3 h4
theorem infoPo_Try : (Try.prog.info? 45).map (fun i => (i.zero, i.size, i.bytes)) = some (some (.agg #[.int .i64 0, .int .i64 0]), 2, 16) := by kernel_rfl
theorem rdPo_none {w : World} {wl : List (Int × Int)} (h : RdR w none wl) : wl = [] := by
  rcases Nat.eq_zero_or_pos wl.length with h0 | h0
  · exact List.eq_nil_of_length_eq_zero h0
  · obtain ⟨b, off, e, _⟩ := h.2 (by omega)
    cases e
theorem run_appAllPo_Try (w : World) (base : Nat) (v : Value) (xs : List (Int × Int)) (hown : w.ownsRow base 45 2 v xs.length (rootC xs)) (A : Option Addr) (c : Nat) (wl : List (Int × Int)) (hrd : RdR w A wl)
    (hn : xs.length + wl.length ≤ 1000000) (hbase : base ≤ w.heap.size) (ty : TypeId) :
    ∃ v' w', (Builtin.append_ #[39, 39] ty #[v, .slice A wl.length c]).run Try.prog w = .ok v' w' ∧ w'.ownsRow base 45 2 v' (xs ++ wl).length (rootC (xs ++ wl)) ∧ w.grownBy w' v.ownBlock ∧
      (v'.ownBlock = v.ownBlock ∨ v'.ownBlock = some w.heap.size) := by
  obtain ⟨i0, hi, hz0, hz1, hz2⟩ := info_parts infoPo_Try
  cases A with
  | none =>
    obtain rfl := rdPo_none hrd
    refine ⟨v, w, ?_, by simpa using hown, World.grownBy.refl w _, .inl rfl⟩
    rcases hown.2 with ⟨rfl, _⟩ | ⟨g, cap, cur, rfl, _, _, hnc, _⟩
    · simp [Builtin.append_, run_underlying Try.underlying39, sizeOf, typeInfo, hi, Builtin.lenOf, Builtin.firstCells]
    · simp [Builtin.append_, run_underlying Try.underlying39, sizeOf, typeInfo, hi, Builtin.lenOf, Builtin.firstCells, hnc, storeCells]
  | some ad =>
    have hnews : ∀ j u, (rootC wl)[j]? = some u → w.cell? (ad.add j) = some u := fun j u hu => by
      have hj : j < wl.length * 2 := by
        have := (List.getElem?_eq_some_iff.1 hu).1
        rwa [rootC_length] at this
      rw [rootC_get wl j hj] at hu
      obtain ⟨b, off, e, _, hc⟩ := hrd.2 (by omega)
      obtain rfl : ad = ⟨b, off, none⟩ := Option.some.inj e
      have h9 := hc j hj
      rw [← Option.some.inj hu, ← h9]
      by_cases h0 : j = 0
      · subst h0; simp [Addr.add]
      · simp [Addr.add, h0]
    obtain ⟨v', w', hr, h2, h3, _, h5⟩ := run_append_own_at (P := Try.prog) w base 39 ty 45 i0 _ 2 16 Try.underlying39 hi hz0 hz1 hz2 rfl (by omega) v xs.length (rootC xs) hown ad wl.length c (rootC wl) (rootC_length wl) hnews (rootC_one wl)
      (by unfold maxLen; omega) (by omega) hbase
    refine ⟨v', w', hr, ?_, h3, h5⟩
    rw [List.length_append, rootC_append]
    exact h2
theorem wp_appAllPo_Try {o : Oper} {a : Act} {K : Act → World → Prop} {Q : Exit → Act → World → Prop} {w : World} (s x : Operand)
    (ho : o.op = .call { callee := .builtin .append, args := #[s, x], argTypes := #[39, 39] })
    (base : Nat) (v : Value) (xs : List (Int × Int)) (hs : a.eval s = v) (hown : w.ownsRow base 45 2 v xs.length (rootC xs)) (A : Option Addr) (c : Nat) (wl : List (Int × Int)) (hx : a.eval x = .slice A wl.length c) (hrd : RdR w A wl)
    (hn : xs.length + wl.length ≤ 1000000) (hbase : base ≤ w.heap.size)
    (h : ∀ A' c' w', w'.ownsRow base 45 2 (.slice A' (xs ++ wl).length c') (xs ++ wl).length (rootC (xs ++ wl)) → w.grownBy w' v.ownBlock → ((Value.slice A' (xs ++ wl).length c').ownBlock = v.ownBlock ∨ (Value.slice A' (xs ++ wl).length c').ownBlock = some w.heap.size) → K (a.put o.dst (.slice A' (xs ++ wl).length c')) w') : o.wp Try.prog a w K Q := by
  obtain ⟨v', w', hr, h2, h3, h4⟩ := run_appAllPo_Try w base v xs hown A c wl hrd hn hbase o.type
  obtain ⟨A', c', rfl, _⟩ := own_sliceN h2
  unfold Oper.wp execOp
  simp only [ho, resolve, invoke, builtin, Sem.run_bind, Sem.run_pure, Result.andThen_ok, List.map_toArray, List.map_cons, List.map_nil, hs, hx, hr]
  exact h A' c' w' h2 h3 h4
theorem wpList_appAllPo_Try {ops : Array Oper} {rest : List Oper} {o : Oper} {a : Act} {Q : Exit → Act → World → Prop} {w : World} (hgd : o.guard = none) (s x : Operand)
    (ho : o.op = .call { callee := .builtin .append, args := #[s, x], argTypes := #[39, 39] })
    (base : Nat) (v : Value) (xs : List (Int × Int)) (hs : a.eval s = v) (hown : w.ownsRow base 45 2 v xs.length (rootC xs)) (A : Option Addr) (c : Nat) (wl : List (Int × Int)) (hx : a.eval x = .slice A wl.length c) (hrd : RdR w A wl)
    (hn : xs.length + wl.length ≤ 1000000) (hbase : base ≤ w.heap.size)
    (h : ∀ A' c' w', w'.ownsRow base 45 2 (.slice A' (xs ++ wl).length c') (xs ++ wl).length (rootC (xs ++ wl)) → w.grownBy w' v.ownBlock → ((Value.slice A' (xs ++ wl).length c').ownBlock = v.ownBlock ∨ (Value.slice A' (xs ++ wl).length c').ownBlock = some w.heap.size) → wpList Try.prog ops Q rest (a.put o.dst (.slice A' (xs ++ wl).length c')) w') :
    wpList Try.prog ops Q (o :: rest) a w :=
  wpList_plain hgd fun _ hK => wp_appAllPo_Try s x ho base v xs hs hown A c wl hx hrd hn hbase fun A' c' w' h2 h3 h4 => hK _ _ (h A' c' w' h2 h3 h4)
theorem step_appAllPo_Try {ops : Array Oper} {o : Oper} {a : Act} {K : Act → World → Prop} {Q : Exit → Act → World → Prop} {E : Prop} {w : World} (hgd : o.guard = none) (s x : Operand)
    (ho : o.op = .call { callee := .builtin .append, args := #[s, x], argTypes := #[39, 39] })
    (base : Nat) (v : Value) (xs : List (Int × Int)) (hs : a.eval s = v) (hown : w.ownsRow base 45 2 v xs.length (rootC xs)) (A : Option Addr) (c : Nat) (wl : List (Int × Int)) (hx : a.eval x = .slice A wl.length c) (hrd : RdR w A wl)
    (hn : xs.length + wl.length ≤ 1000000) (hbase : base ≤ w.heap.size)
    (h : ∀ A' c' w', w'.ownsRow base 45 2 (.slice A' (xs ++ wl).length c') (xs ++ wl).length (rootC (xs ++ wl)) → w.grownBy w' v.ownBlock → ((Value.slice A' (xs ++ wl).length c').ownBlock = v.ownBlock ∨ (Value.slice A' (xs ++ wl).length c').ownBlock = some w.heap.size) → K (a.put o.dst (.slice A' (xs ++ wl).length c')) w') :
    if Region.wanted o (yielded ops a.tmps) = true then Oper.wp Try.prog o a w K Q else E := by
  have hw : Region.wanted o (yielded ops a.tmps) = true := by simp [Region.wanted, hgd]
  rw [if_pos hw]
  exact wp_appAllPo_Try s x ho base v xs hs hown A c wl hx hrd hn hbase h
theorem step_app1Po_Try {ops : Array Oper} {o : Oper} {a : Act} {K : Act → World → Prop} {Q : Exit → Act → World → Prop} {E : Prop} {w : World} (hgd : o.guard = none) (s x : Operand)
    (ho : o.op = .call { callee := .builtin .append, args := #[s, x], argTypes := #[39, 39] })
    (base : Nat) (v : Value) (xs : List (Int × Int)) (hs : a.eval s = v) (hown : w.ownsRow base 45 2 v xs.length (rootC xs)) (b : Nat) (z : (Int × Int)) (hx : a.eval x = .slice (some ⟨b, 0, none⟩) 1 1)
    (hb : w.heap[b]? = some (.cells #[.int .i64 z.1, .int .i64 z.2] 45 (0, 0))) (hn : xs.length ≤ 1000000) (hbase : base ≤ w.heap.size)
    (h : ∀ g cap w', w'.ownsRow base 45 2 (.slice (some ⟨g, 0, none⟩) (xs.length + 1) cap) (xs ++ [z]).length (rootC (xs ++ [z])) → w.grownBy w' v.ownBlock → (v.ownBlock = some g ∨ g = w.heap.size) → g < w'.heap.size →
      K (a.put o.dst (.slice (some ⟨g, 0, none⟩) (xs.length + 1) cap)) w') :
    if Region.wanted o (yielded ops a.tmps) = true then Oper.wp Try.prog o a w K Q else E := by
  obtain ⟨i0, hi, hz0, hz1, hz2⟩ := info_parts infoPo_Try
  refine step_append_lies w hgd s x 39 ho base 45 i0 _ 2 16 Try.underlying39 hi hz0 hz1 hz2 rfl (by omega) v xs.length (rootC xs) hs hown ⟨b, 0, none⟩ 1 1 (rootC [z]) hx rfl
    (World.news_of_block hb) (rootC_one [z]) (by omega) (by unfold maxLen; omega) (by omega) hbase w.heap.size rfl fun g cap w' h2 h3 h4 h5 => h g cap w' ?_ h3 h4 h5
  rw [List.length_append, rootC_append]
  exact h2
theorem wpList_app1Po_Try {ops : Array Oper} {rest : List Oper} {o : Oper} {a : Act} {Q : Exit → Act → World → Prop} {w : World} (hgd : o.guard = none) (s x : Operand)
    (ho : o.op = .call { callee := .builtin .append, args := #[s, x], argTypes := #[39, 39] })
    (base : Nat) (v : Value) (xs : List (Int × Int)) (hs : a.eval s = v) (hown : w.ownsRow base 45 2 v xs.length (rootC xs)) (b : Nat) (z : (Int × Int)) (hx : a.eval x = .slice (some ⟨b, 0, none⟩) 1 1)
    (hb : w.heap[b]? = some (.cells #[.int .i64 z.1, .int .i64 z.2] 45 (0, 0))) (hn : xs.length ≤ 1000000) (hbase : base ≤ w.heap.size)
    (h : ∀ g cap w', w'.ownsRow base 45 2 (.slice (some ⟨g, 0, none⟩) (xs.length + 1) cap) (xs ++ [z]).length (rootC (xs ++ [z])) → w.grownBy w' v.ownBlock → (v.ownBlock = some g ∨ g = w.heap.size) → g < w'.heap.size →
      wpList Try.prog ops Q rest (a.put o.dst (.slice (some ⟨g, 0, none⟩) (xs.length + 1) cap)) w') : wpList Try.prog ops Q (o :: rest) a w := by
  obtain ⟨i0, hi, hz0, hz1, hz2⟩ := info_parts infoPo_Try
  refine wpList_append_lies w hgd s x 39 ho base 45 i0 _ 2 16 Try.underlying39 hi hz0 hz1 hz2 rfl (by omega) v xs.length (rootC xs) hs hown ⟨b, 0, none⟩ 1 1 (rootC [z]) hx rfl
    (World.news_of_block hb) (rootC_one [z]) (by omega) (by unfold maxLen; omega) (by omega) hbase w.heap.size rfl fun g cap w' h2 h3 h4 h5 => h g cap w' ?_ h3 h4 h5
  rw [List.length_append, rootC_append]
  exact h2
theorem wpList_copyPo_Try {ops : Array Oper} {rest : List Oper} {o : Oper} {a : Act} {Q : Exit → Act → World → Prop} {w : World} (hgd : o.guard = none) (s x : Operand)
    (ho : o.op = .call { callee := .builtin .append, args := #[s, x], argTypes := #[39, 39] })
    (base : Nat) (v : Value) (hs : a.eval s = v) (hown : w.ownsRow base 45 2 v ([] : List (Int × Int)).length (rootC [])) (A : Option Addr) (c : Nat) (wl : List (Int × Int)) (hx : a.eval x = .slice A wl.length c) (hrd : RdR w A wl)
    (hn : wl.length ≤ 1000000) (hbase : base ≤ w.heap.size)
    (h : ∀ A' c' w', w'.ownsRow base 45 2 (.slice A' wl.length c') wl.length (rootC wl) → w.grownBy w' v.ownBlock → wpList Try.prog ops Q rest (a.put o.dst (.slice A' wl.length c')) w') :
    wpList Try.prog ops Q (o :: rest) a w :=
  wpList_appAllPo_Try hgd s x ho base v [] hs hown A c wl hx hrd (by simpa using hn) hbase fun A' c' w' h2 h3 _ => by
    rw [List.nil_append] at h2
    exact h A' c' w' h2 h3
theorem own_emptyPo {w : World} {b base : Nat} (hb : w.heap[b]? = some (.cells #[] 45 (0, 0))) (h : base ≤ b) : w.ownsRow base 45 2 (.slice (some ⟨b, 0, none⟩) 0 0) ([] : List (Int × Int)).length (rootC []) :=
  ⟨rfl, .inr ⟨b, 0, #[], rfl, h, hb, Nat.le_refl _, by unfold maxLen; omega, rfl, rfl⟩⟩
theorem step_copyPo_Try {ops : Array Oper} {o : Oper} {a : Act} {K : Act → World → Prop} {Q : Exit → Act → World → Prop} {E : Prop} {w : World} (hgd : o.guard = none) (s x : Operand)
    (ho : o.op = .call { callee := .builtin .append, args := #[s, x], argTypes := #[39, 39] })
    (base : Nat) (v : Value) (hs : a.eval s = v) (hown : w.ownsRow base 45 2 v ([] : List (Int × Int)).length (rootC [])) (A : Option Addr) (c : Nat) (wl : List (Int × Int)) (hx : a.eval x = .slice A wl.length c) (hrd : RdR w A wl)
    (hn : wl.length ≤ 1000000) (hbase : base ≤ w.heap.size)
    (h : ∀ A' c' w', w'.ownsRow base 45 2 (.slice A' wl.length c') wl.length (rootC wl) → w.grownBy w' v.ownBlock → ((Value.slice A' wl.length c').ownBlock = v.ownBlock ∨ (Value.slice A' wl.length c').ownBlock = some w.heap.size) → K (a.put o.dst (.slice A' wl.length c')) w') :
    if Region.wanted o (yielded ops a.tmps) = true then Oper.wp Try.prog o a w K Q else E :=
  step_appAllPo_Try hgd s x ho base v [] hs hown A c wl hx hrd (by simpa using hn) hbase fun A' c' w' h2 h3 h4 => by
    rw [List.nil_append] at h2
    exact h A' c' w' h2 h3 h4
theorem infoGa_Try : (Try.prog.info? 68).map (fun i => (i.zero, i.size, i.bytes)) = some (some (.agg #[.int .i64 0, .int .i64 0, .int .i64 0]), 3, 24) := by kernel_rfl
theorem rdGa_none {w : World} {wl : List Gt} (h : RdG w none wl) : wl = [] := by
  rcases Nat.eq_zero_or_pos wl.length with h0 | h0
  · exact List.eq_nil_of_length_eq_zero h0
  · obtain ⟨b, off, e, _⟩ := h.2 (by omega)
    cases e
theorem run_appAllGa_Try (w : World) (base : Nat) (v : Value) (xs : List Gt) (hown : w.ownsRow base 68 3 v xs.length (gateC xs)) (A : Option Addr) (c : Nat) (wl : List Gt) (hrd : RdG w A wl)
    (hn : xs.length + wl.length ≤ 1000000) (hbase : base ≤ w.heap.size) (ty : TypeId) :
    ∃ v' w', (Builtin.append_ #[46, 46] ty #[v, .slice A wl.length c]).run Try.prog w = .ok v' w' ∧ w'.ownsRow base 68 3 v' (xs ++ wl).length (gateC (xs ++ wl)) ∧ w.grownBy w' v.ownBlock ∧
      (v'.ownBlock = v.ownBlock ∨ v'.ownBlock = some w.heap.size) := by
  obtain ⟨i0, hi, hz0, hz1, hz2⟩ := info_parts infoGa_Try
  cases A with
  | none =>
    obtain rfl := rdGa_none hrd
    refine ⟨v, w, ?_, by simpa using hown, World.grownBy.refl w _, .inl rfl⟩
    rcases hown.2 with ⟨rfl, _⟩ | ⟨g, cap, cur, rfl, _, _, hnc, _⟩
    · simp [Builtin.append_, run_underlying Try.underlying46, sizeOf, typeInfo, hi, Builtin.lenOf, Builtin.firstCells]
    · simp [Builtin.append_, run_underlying Try.underlying46, sizeOf, typeInfo, hi, Builtin.lenOf, Builtin.firstCells, hnc, storeCells]
  | some ad =>
    have hnews : ∀ j u, (gateC wl)[j]? = some u → w.cell? (ad.add j) = some u := fun j u hu => by
      have hj : j < wl.length * 3 := by
        have := (List.getElem?_eq_some_iff.1 hu).1
        rwa [gateC_length] at this
      rw [gateC_get wl j hj] at hu
      obtain ⟨b, off, e, _, hc⟩ := hrd.2 (by omega)
      obtain rfl : ad = ⟨b, off, none⟩ := Option.some.inj e
      have h9 := hc j hj
      rw [← Option.some.inj hu, ← h9]
      by_cases h0 : j = 0
      · subst h0; simp [Addr.add]
      · simp [Addr.add, h0]
    obtain ⟨v', w', hr, h2, h3, _, h5⟩ := run_append_own_at (P := Try.prog) w base 46 ty 68 i0 _ 3 24 Try.underlying46 hi hz0 hz1 hz2 rfl (by omega) v xs.length (gateC xs) hown ad wl.length c (gateC wl) (gateC_length wl) hnews (gateC_one wl)
      (by unfold maxLen; omega) (by omega) hbase
    refine ⟨v', w', hr, ?_, h3, h5⟩
    rw [List.length_append, gateC_append]
    exact h2
theorem wp_appAllGa_Try {o : Oper} {a : Act} {K : Act → World → Prop} {Q : Exit → Act → World → Prop} {w : World} (s x : Operand)
    (ho : o.op = .call { callee := .builtin .append, args := #[s, x], argTypes := #[46, 46] })
    (base : Nat) (v : Value) (xs : List Gt) (hs : a.eval s = v) (hown : w.ownsRow base 68 3 v xs.length (gateC xs)) (A : Option Addr) (c : Nat) (wl : List Gt) (hx : a.eval x = .slice A wl.length c) (hrd : RdG w A wl)
    (hn : xs.length + wl.length ≤ 1000000) (hbase : base ≤ w.heap.size)
    (h : ∀ A' c' w', w'.ownsRow base 68 3 (.slice A' (xs ++ wl).length c') (xs ++ wl).length (gateC (xs ++ wl)) → w.grownBy w' v.ownBlock → ((Value.slice A' (xs ++ wl).length c').ownBlock = v.ownBlock ∨ (Value.slice A' (xs ++ wl).length c').ownBlock = some w.heap.size) → K (a.put o.dst (.slice A' (xs ++ wl).length c')) w') : o.wp Try.prog a w K Q := by
  obtain ⟨v', w', hr, h2, h3, h4⟩ := run_appAllGa_Try w base v xs hown A c wl hrd hn hbase o.type
  obtain ⟨A', c', rfl, _⟩ := own_sliceN h2
  unfold Oper.wp execOp
  simp only [ho, resolve, invoke, builtin, Sem.run_bind, Sem.run_pure, Result.andThen_ok, List.map_toArray, List.map_cons, List.map_nil, hs, hx, hr]
  exact h A' c' w' h2 h3 h4
theorem wpList_appAllGa_Try {ops : Array Oper} {rest : List Oper} {o : Oper} {a : Act} {Q : Exit → Act → World → Prop} {w : World} (hgd : o.guard = none) (s x : Operand)
    (ho : o.op = .call { callee := .builtin .append, args := #[s, x], argTypes := #[46, 46] })
    (base : Nat) (v : Value) (xs : List Gt) (hs : a.eval s = v) (hown : w.ownsRow base 68 3 v xs.length (gateC xs)) (A : Option Addr) (c : Nat) (wl : List Gt) (hx : a.eval x = .slice A wl.length c) (hrd : RdG w A wl)
    (hn : xs.length + wl.length ≤ 1000000) (hbase : base ≤ w.heap.size)
    (h : ∀ A' c' w', w'.ownsRow base 68 3 (.slice A' (xs ++ wl).length c') (xs ++ wl).length (gateC (xs ++ wl)) → w.grownBy w' v.ownBlock → ((Value.slice A' (xs ++ wl).length c').ownBlock = v.ownBlock ∨ (Value.slice A' (xs ++ wl).length c').ownBlock = some w.heap.size) → wpList Try.prog ops Q rest (a.put o.dst (.slice A' (xs ++ wl).length c')) w') :
    wpList Try.prog ops Q (o :: rest) a w :=
  wpList_plain hgd fun _ hK => wp_appAllGa_Try s x ho base v xs hs hown A c wl hx hrd hn hbase fun A' c' w' h2 h3 h4 => hK _ _ (h A' c' w' h2 h3 h4)
theorem step_appAllGa_Try {ops : Array Oper} {o : Oper} {a : Act} {K : Act → World → Prop} {Q : Exit → Act → World → Prop} {E : Prop} {w : World} (hgd : o.guard = none) (s x : Operand)
    (ho : o.op = .call { callee := .builtin .append, args := #[s, x], argTypes := #[46, 46] })
    (base : Nat) (v : Value) (xs : List Gt) (hs : a.eval s = v) (hown : w.ownsRow base 68 3 v xs.length (gateC xs)) (A : Option Addr) (c : Nat) (wl : List Gt) (hx : a.eval x = .slice A wl.length c) (hrd : RdG w A wl)
    (hn : xs.length + wl.length ≤ 1000000) (hbase : base ≤ w.heap.size)
    (h : ∀ A' c' w', w'.ownsRow base 68 3 (.slice A' (xs ++ wl).length c') (xs ++ wl).length (gateC (xs ++ wl)) → w.grownBy w' v.ownBlock → ((Value.slice A' (xs ++ wl).length c').ownBlock = v.ownBlock ∨ (Value.slice A' (xs ++ wl).length c').ownBlock = some w.heap.size) → K (a.put o.dst (.slice A' (xs ++ wl).length c')) w') :
    if Region.wanted o (yielded ops a.tmps) = true then Oper.wp Try.prog o a w K Q else E := by
  have hw : Region.wanted o (yielded ops a.tmps) = true := by simp [Region.wanted, hgd]
  rw [if_pos hw]
  exact wp_appAllGa_Try s x ho base v xs hs hown A c wl hx hrd hn hbase h
theorem step_app1Ga_Try {ops : Array Oper} {o : Oper} {a : Act} {K : Act → World → Prop} {Q : Exit → Act → World → Prop} {E : Prop} {w : World} (hgd : o.guard = none) (s x : Operand)
    (ho : o.op = .call { callee := .builtin .append, args := #[s, x], argTypes := #[46, 46] })
    (base : Nat) (v : Value) (xs : List Gt) (hs : a.eval s = v) (hown : w.ownsRow base 68 3 v xs.length (gateC xs)) (b : Nat) (z : Gt) (hx : a.eval x = .slice (some ⟨b, 0, none⟩) 1 1)
    (hb : w.heap[b]? = some (.cells #[.int .i64 z.1, .int .i64 z.2.1, .int .i64 z.2.2] 68 (0, 0))) (hn : xs.length ≤ 1000000) (hbase : base ≤ w.heap.size)
    (h : ∀ g cap w', w'.ownsRow base 68 3 (.slice (some ⟨g, 0, none⟩) (xs.length + 1) cap) (xs ++ [z]).length (gateC (xs ++ [z])) → w.grownBy w' v.ownBlock → (v.ownBlock = some g ∨ g = w.heap.size) → g < w'.heap.size →
      K (a.put o.dst (.slice (some ⟨g, 0, none⟩) (xs.length + 1) cap)) w') :
    if Region.wanted o (yielded ops a.tmps) = true then Oper.wp Try.prog o a w K Q else E := by
  obtain ⟨i0, hi, hz0, hz1, hz2⟩ := info_parts infoGa_Try
  refine step_append_lies w hgd s x 46 ho base 68 i0 _ 3 24 Try.underlying46 hi hz0 hz1 hz2 rfl (by omega) v xs.length (gateC xs) hs hown ⟨b, 0, none⟩ 1 1 (gateC [z]) hx rfl
    (World.news_of_block hb) (gateC_one [z]) (by omega) (by unfold maxLen; omega) (by omega) hbase w.heap.size rfl fun g cap w' h2 h3 h4 h5 => h g cap w' ?_ h3 h4 h5
  rw [List.length_append, gateC_append]
  exact h2
theorem wpList_app1Ga_Try {ops : Array Oper} {rest : List Oper} {o : Oper} {a : Act} {Q : Exit → Act → World → Prop} {w : World} (hgd : o.guard = none) (s x : Operand)
    (ho : o.op = .call { callee := .builtin .append, args := #[s, x], argTypes := #[46, 46] })
    (base : Nat) (v : Value) (xs : List Gt) (hs : a.eval s = v) (hown : w.ownsRow base 68 3 v xs.length (gateC xs)) (b : Nat) (z : Gt) (hx : a.eval x = .slice (some ⟨b, 0, none⟩) 1 1)
    (hb : w.heap[b]? = some (.cells #[.int .i64 z.1, .int .i64 z.2.1, .int .i64 z.2.2] 68 (0, 0))) (hn : xs.length ≤ 1000000) (hbase : base ≤ w.heap.size)
    (h : ∀ g cap w', w'.ownsRow base 68 3 (.slice (some ⟨g, 0, none⟩) (xs.length + 1) cap) (xs ++ [z]).length (gateC (xs ++ [z])) → w.grownBy w' v.ownBlock → (v.ownBlock = some g ∨ g = w.heap.size) → g < w'.heap.size →
      wpList Try.prog ops Q rest (a.put o.dst (.slice (some ⟨g, 0, none⟩) (xs.length + 1) cap)) w') : wpList Try.prog ops Q (o :: rest) a w := by
  obtain ⟨i0, hi, hz0, hz1, hz2⟩ := info_parts infoGa_Try
  refine wpList_append_lies w hgd s x 46 ho base 68 i0 _ 3 24 Try.underlying46 hi hz0 hz1 hz2 rfl (by omega) v xs.length (gateC xs) hs hown ⟨b, 0, none⟩ 1 1 (gateC [z]) hx rfl
    (World.news_of_block hb) (gateC_one [z]) (by omega) (by unfold maxLen; omega) (by omega) hbase w.heap.size rfl fun g cap w' h2 h3 h4 h5 => h g cap w' ?_ h3 h4 h5
  rw [List.length_append, gateC_append]
  exact h2
theorem wpList_copyGa_Try {ops : Array Oper} {rest : List Oper} {o : Oper} {a : Act} {Q : Exit → Act → World → Prop} {w : World} (hgd : o.guard = none) (s x : Operand)
    (ho : o.op = .call { callee := .builtin .append, args := #[s, x], argTypes := #[46, 46] })
    (base : Nat) (v : Value) (hs : a.eval s = v) (hown : w.ownsRow base 68 3 v ([] : List Gt).length (gateC [])) (A : Option Addr) (c : Nat) (wl : List Gt) (hx : a.eval x = .slice A wl.length c) (hrd : RdG w A wl)
    (hn : wl.length ≤ 1000000) (hbase : base ≤ w.heap.size)
    (h : ∀ A' c' w', w'.ownsRow base 68 3 (.slice A' wl.length c') wl.length (gateC wl) → w.grownBy w' v.ownBlock → wpList Try.prog ops Q rest (a.put o.dst (.slice A' wl.length c')) w') :
    wpList Try.prog ops Q (o :: rest) a w :=
  wpList_appAllGa_Try hgd s x ho base v [] hs hown A c wl hx hrd (by simpa using hn) hbase fun A' c' w' h2 h3 _ => by
    rw [List.nil_append] at h2
    exact h A' c' w' h2 h3
theorem own_emptyGa {w : World} {b base : Nat} (hb : w.heap[b]? = some (.cells #[] 68 (0, 0))) (h : base ≤ b) : w.ownsRow base 68 3 (.slice (some ⟨b, 0, none⟩) 0 0) ([] : List Gt).length (gateC []) :=
  ⟨rfl, .inr ⟨b, 0, #[], rfl, h, hb, Nat.le_refl _, by unfold maxLen; omega, rfl, rfl⟩⟩
theorem step_copyGa_Try {ops : Array Oper} {o : Oper} {a : Act} {K : Act → World → Prop} {Q : Exit → Act → World → Prop} {E : Prop} {w : World} (hgd : o.guard = none) (s x : Operand)
    (ho : o.op = .call { callee := .builtin .append, args := #[s, x], argTypes := #[46, 46] })
    (base : Nat) (v : Value) (hs : a.eval s = v) (hown : w.ownsRow base 68 3 v ([] : List Gt).length (gateC [])) (A : Option Addr) (c : Nat) (wl : List Gt) (hx : a.eval x = .slice A wl.length c) (hrd : RdG w A wl)
    (hn : wl.length ≤ 1000000) (hbase : base ≤ w.heap.size)
    (h : ∀ A' c' w', w'.ownsRow base 68 3 (.slice A' wl.length c') wl.length (gateC wl) → w.grownBy w' v.ownBlock → ((Value.slice A' wl.length c').ownBlock = v.ownBlock ∨ (Value.slice A' wl.length c').ownBlock = some w.heap.size) → K (a.put o.dst (.slice A' wl.length c')) w') :
    if Region.wanted o (yielded ops a.tmps) = true then Oper.wp Try.prog o a w K Q else E :=
  step_appAllGa_Try hgd s x ho base v [] hs hown A c wl hx hrd (by simpa using hn) hbase fun A' c' w' h2 h3 h4 => by
    rw [List.nil_append] at h2
    exact h A' c' w' h2 h3 h4
end Go.Proofs.Ytlmhgcllikcedaa
/- What is wrong with a thread through gates. -/
namespace Go.Proofs.Ytlmhgcllikcedaa
open Go.RowKit

theorem offB_same (p : Int × Int) : offB p p p = offP p := by
  unfold offB
  cases h : offP p <;> simp [h]
set_option maxRecDepth 100000 in
set_option maxHeartbeats 4000000 in
theorem tnValid_ (A : Option Addr) (c : Nat) (xs : List (Int × Int)) (w : World) (hr : RdR w A xs) :
    Calls Try.prog 108 #[.slice A xs.length c] w (BoolPost (!xs.any offP) w) := by
  have hln := hr.1
  have hb := Below.refl w.heap.size w
  have HR := Lib.hid hr; have HB := Lib.hid hb; clear hr hb
  go_enter Try.func108, Try.ntmps108
  go_wp2
  go_loopw [4, 5, 6, 9] (fun _ _ _ iv wr => ∃ k : Nat, iv = .int .i64 (k : Int) ∧ k ≤ xs.length ∧ (xs.take k).any offP = false ∧ Below w.heap.size w wr) (fun _ _ _ iv _ => xs.length - (intOf iv).toNat)
  case atStart => exact ⟨0, rfl, Nat.zero_le _, rfl, HB.out⟩
  case round =>
    obtain ⟨k, rfl, hk, hno, hbw⟩ := hrel
    by_cases hlt : k < xs.length
    · have q1 : (0 : Int) ≤ (k : Int) := by omega
      have q2 : (k : Int) < (xs.length : Int) := by omega
      have d2 : decide ((k : Int) < (xs.length : Int)) = true := decide_eq_true q2
      have q3 : IntKind.i64.wrap ((k : Int) + 1) = ((k + 1 : Nat) : Int) := by rw [IntWalk.i64_in _ (by omega)]; omega
      have hrr := HR.out.later hbw (Nat.le_refl _)
      obtain ⟨bl, ol, rfl, hbl, g0, g1⟩ := hrr.at_ hlt
      have hnx : (xs.take (k + 1)).any offP = offP xs[k] := by
        rw [List.take_succ_eq_append_getElem hlt, List.any_append, hno]; simp
      have hall : offP xs[k] = true → xs.any offP = true := fun h => List.any_eq_true.2 ⟨_, List.getElem_mem _, h⟩
      have hS := fun W => gSide_ xs[k] xs[k] xs[k] W
      unfold SidePost at hS
      rw [offB_same] at hS
      have hbT : Below w.heap.size w (wr.alloc (.cells #[.int .i64 xs[k].1, .int .i64 xs[k].2] 45)) := hbw.alloc hbw.size _
      generalize sideV xs[k] xs[k] xs[k] = V at *
      generalize hp : offP xs[k] = P at *
      generalize xs[k].1 = X at *
      generalize xs[k].2 = Y at *
      cases P with
      | true =>
        simp only [↓reduceIte] at hS
        have hres : xs.any offP = true := hall rfl
        have HNO := Lib.hid hno; have HBW := Lib.hid hbw; have HRR := Lib.hid hrr; have HNX := Lib.hid hnx; have HALL := Lib.hid hall; have HS := Lib.hid hS; have HBT := Lib.hid hbT; have HP := Lib.hid hp; have HRES := Lib.hid hres; clear hno hbw hrr hnx hall hS hbT hp hres
        go_wp2_with fail
        refine (HS.out _).mono ?_
        rintro e w1 ⟨rfl, b1⟩
        have hb1 := HBT.out.trans (b1.mono HBT.out.size)
        clear b1
        have HB1 := Lib.hid hb1; clear hb1
        go_wp2
        go_ret
        exact ⟨by rw [HRES.out]; rfl, HB1.out⟩
      | false =>
        simp only [Bool.false_eq_true, ↓reduceIte] at hS
        have HNO := Lib.hid hno; have HBW := Lib.hid hbw; have HRR := Lib.hid hrr; have HNX := Lib.hid hnx; have HALL := Lib.hid hall; have HS := Lib.hid hS; have HBT := Lib.hid hbT; have HP := Lib.hid hp; clear hno hbw hrr hnx hall hS hbT hp
        go_wp2_with fail
        refine (HS.out _).mono ?_
        rintro e w1 ⟨rfl, b1⟩
        have hb1 := HBT.out.trans (b1.mono HBT.out.size)
        clear b1
        have HB1 := Lib.hid hb1; clear hb1
        go_wp2
        go_roundw
        case rel => exact ⟨k + 1, by go_num, by omega, HNX.out, HB1.out⟩
        case measure => simp [intOf]; omega
    · obtain rfl : k = xs.length := by omega
      rw [List.take_length] at hno
      have x3 : ¬ (xs.length : Int) < (xs.length : Int) := by omega
      have d2 : decide ((xs.length : Int) < (xs.length : Int)) = false := decide_eq_false x3
      have HNO := Lib.hid hno; have HBW := Lib.hid hbw; clear hno hbw
      go_wp2
      go_ret
      exact ⟨by rw [HNO.out]; rfl, HBW.out⟩
theorem rdR_two {w : World} {R : Nat} {o p : Int × Int} (h : w.heap[R]? = some (.cells #[.int .i64 o.1, .int .i64 o.2, .int .i64 p.1, .int .i64 p.2] 45 (0, 0))) : RdR w (some ⟨R, 0, none⟩) [o, p] := by
  refine ⟨by simp, fun _ => ⟨R, 0, rfl, lt_of_block h, fun j hj => ?_⟩⟩
  rw [cell_of_row _ _ _ _ _ _ h]
  simp at hj
  obtain rfl | rfl | rfl | rfl : j = 0 ∨ j = 1 ∨ j = 2 ∨ j = 3 := by omega
  all_goals rfl
/-- Two points, in a block made for the call. -/
theorem tnValid2_ (o p : Int × Int) (w : World) :
    Calls Try.prog 108 #[.slice (some ⟨w.heap.size, 0, none⟩) 2 2] (w.alloc (.cells #[.int .i64 o.1, .int .i64 o.2, .int .i64 p.1, .int .i64 p.2] 45)) fun e w' => e = .returned (.bool (!(offP o || offP p))) ∧ Below w.heap.size w w' := by
  have hb : Below w.heap.size w (w.alloc (.cells #[.int .i64 o.1, .int .i64 o.2, .int .i64 p.1, .int .i64 p.2] 45)) := (Below.refl _ _).alloc (Nat.le_refl _) _
  refine (tnValid_ (some ⟨w.heap.size, 0, none⟩) 2 [o, p] _ (rdR_two (heap_alloc_new _ _))).mono ?_
  rintro e w' ⟨rfl, b⟩
  exact ⟨by simp, hb.trans (b.mono hb.size)⟩
/-- A gate that is none. -/
def badG (g : Gt) : Bool := (offP g.l || offP g.r) || decide (g.2.2 < g.2.1)
/-- The rows rise. -/
def preG : Int → List Gt → Bool
  | _, [] => true
  | y, g :: l => decide (y < g.1) && preG g.1 l
def lastG : Int → List Gt → Int
  | y, [] => y
  | _, g :: l => lastG g.1 l
theorem preG_app : ∀ (l m : List Gt) (y : Int), preG y (l ++ m) = (preG y l && preG (lastG y l) m)
  | [], m, y => by simp [preG, lastG]
  | g :: l, m, y => by rw [List.cons_append, preG, preG, preG_app l m, lastG]; simp [Bool.and_assoc]
theorem lastG_snoc (g : Gt) : ∀ (l : List Gt) (y : Int), lastG y (l ++ [g]) = g.1
  | [], _ => rfl
  | x :: l, y => by rw [List.cons_append, lastG]; exact lastG_snoc g l x.1
def ascG (y : Int) (gs : List Gt) (t : Int) : Bool := preG y gs && decide (lastG y gs < t)
def gErr (o : Int × Int) (gs : List Gt) (p : Int × Int) : Int := if 100 < gs.length then 3 else if (offP o || offP p) = true then 2 else if gs.any badG = true then 2 else if ascG o.2 gs p.2 = true then 0 else 6
set_option maxRecDepth 100000 in
set_option maxHeartbeats 8000000 in
theorem tnlcheck_ (A : Option Addr) (c : Nat) (o p : Int × Int) (gs : List Gt) (w : World) (hr : RdG w A gs) :
    Calls Try.prog 70 #[.agg #[.int .i64 o.1, .int .i64 o.2], .slice A gs.length c, .agg #[.int .i64 p.1, .int .i64 p.2]] w fun e w' => e = .returned (.int .i64 (gErr o gs p)) ∧ Below w.heap.size w w' := by
  have hln := hr.1
  obtain ⟨w0, hw0⟩ : ∃ w0, w0 = ((w.alloc (.cells #[.int .i64 o.1, .int .i64 o.2] 45)).alloc (.cells #[.int .i64 p.1, .int .i64 p.2] 45)) := ⟨_, rfl⟩
  have hb0 : Below w.heap.size w w0 := by rw [hw0]; exact ((Below.refl _ _).alloc (Nat.le_refl _) _).alloc (by simp) _
  have k0 : w0.cell? ⟨w.heap.size, 0, none⟩ = some (.int .i64 o.1) := by rw [hw0]; go_simp
  have k1 : w0.cell? ⟨w.heap.size, 1, none⟩ = some (.int .i64 o.2) := by rw [hw0]; go_simp
  have k2 : w0.cell? ⟨w.heap.size + 1, 0, none⟩ = some (.int .i64 p.1) := by rw [hw0]; go_simp
  have k3 : w0.cell? ⟨w.heap.size + 1, 1, none⟩ = some (.int .i64 p.2) := by rw [hw0]; go_simp
  have hs0 : w.heap.size + 2 ≤ w0.heap.size := by rw [hw0]; simp
  have hr0 := hr.later hb0 (Nat.le_refl _)
  by_cases hlong : 100 < gs.length
  · have y1 : (100 : Int) < (gs.length : Int) := by omega
    have y2 : decide ((100 : Int) < (gs.length : Int)) = true := decide_eq_true y1
    have hres : gErr o gs p = 3 := by unfold gErr; rw [if_pos hlong]
    rw [hw0] at hb0
    clear hr0 hw0 k0 k1 k2 k3 hs0
    have HR := Lib.hid hr; have HB0 := Lib.hid hb0; have HRES := Lib.hid hres; clear hr hb0 hres
    go_enter Try.func70, Try.ntmps70
    go_wp2
    go_ret
    exact ⟨by rw [HRES.out]; rfl, HB0.out⟩
  have y1 : ¬ (100 : Int) < (gs.length : Int) := by omega
  have y2 : decide ((100 : Int) < (gs.length : Int)) = false := decide_eq_false y1
  have hres0 : gErr o gs p = if (offP o || offP p) = true then 2 else if gs.any badG = true then 2 else if ascG o.2 gs p.2 = true then 0 else 6 := by unfold gErr; rw [if_neg hlong]
  have hv := tnValid2_ o p w0
  have HR := Lib.hid hr; have HR0 := Lib.hid hr0; have HB0 := Lib.hid hb0; have HRES0 := Lib.hid hres0; have HV := Lib.hid hv; clear hr hr0 hb0 hres0 hv
  go_enter Try.func70, Try.ntmps70
  go_upto_region 1 with fail
  rw [← hw0]
  clear hw0 HR
  have x0 : w.heap.size < w0.heap.size := by omega
  have x1 : w.heap.size + 1 < w0.heap.size := by omega
  have HS0 := Lib.hid hs0; clear hs0
  go_wp2_with fail
  refine HV.out.mono ?_
  rintro e w1 ⟨rfl, b1⟩
  have hr1 := HR0.out.later b1 (Nat.le_refl _)
  have k0 := below_at b1 (Nat.le_refl _) k0
  have k1 := below_at b1 (Nat.le_refl _) k1
  have k2 := below_at b1 (Nat.le_refl _) k2
  have k3 := below_at b1 (Nat.le_refl _) k3
  have hs1 : w.heap.size + 2 ≤ w1.heap.size := Nat.le_trans HS0.out b1.size
  have hb1 := HB0.out.trans (b1.mono HB0.out.size)
  clear b1 x0 x1
  have hl0 : w.heap.size < w1.heap.size := by omega
  have hl1 : w.heap.size + 1 < w1.heap.size := by omega
  cases hoff : offP o || offP p with
  | true =>
    have hres : gErr o gs p = 2 := by rw [HRES0.out, hoff]; rfl
    have HB1 := Lib.hid hb1; have HR1 := Lib.hid hr1; have HS1 := Lib.hid hs1; have HRES := Lib.hid hres; have HOFF := Lib.hid hoff; clear hb1 hr1 hs1 hres hoff
    go_wp2
    go_ret
    exact ⟨by rw [HRES.out]; rfl, HB1.out⟩
  | false =>
    have hres1 : gErr o gs p = if gs.any badG = true then 2 else if ascG o.2 gs p.2 = true then 0 else 6 := by rw [HRES0.out, hoff]; rfl
    have HB1 := Lib.hid hb1; have HR1 := Lib.hid hr1; have HS1 := Lib.hid hs1; have HRES1 := Lib.hid hres1; have HOFF := Lib.hid hoff; clear hb1 hr1 hs1 hres1 hoff
    go_wp2
    go_loopw [8, 22] (fun _ iv wr => ∃ k : Nat, iv = .int .i64 (k : Int) ∧ k ≤ gs.length ∧ (gs.take k).any badG = false ∧ Below w1.heap.size w1 wr) (fun _ iv _ => gs.length - (intOf iv).toNat)
    case atStart => exact ⟨0, rfl, Nat.zero_le _, rfl, Below.refl _ _⟩
    case round =>
      obtain ⟨k, rfl, hk, hno, hbw⟩ := hrel
      by_cases hlt : k < gs.length
      · have q1 : (0 : Int) ≤ (k : Int) := by omega
        have q2 : (k : Int) < (gs.length : Int) := by omega
        have d2 : decide ((k : Int) < (gs.length : Int)) = true := decide_eq_true q2
        have q3 : IntKind.i64.wrap ((k : Int) + 1) = ((k + 1 : Nat) : Int) := by rw [IntWalk.i64_in _ (by omega)]; omega
        have hrr := HR1.out.later hbw (Nat.le_refl _)
        obtain ⟨bl, ol, rfl, hbl, g0, g1, g2⟩ := hrr.at_ hlt
        have hnx : (gs.take (k + 1)).any badG = badG gs[k] := by
          rw [List.take_succ_eq_append_getElem hlt, List.any_append, hno]; simp
        have hall : badG gs[k] = true → gs.any badG = true := fun h => List.any_eq_true.2 ⟨_, List.getElem_mem _, h⟩
        have hbg : badG gs[k] = ((offP (gs[k].2.1, gs[k].1) || offP (gs[k].2.2, gs[k].1)) || decide (gs[k].2.2 < gs[k].2.1)) := rfl
        have hbT : Below w1.heap.size w1 (wr.alloc (.cells #[.int .i64 gs[k].1, .int .i64 gs[k].2.1, .int .i64 gs[k].2.2] 68)) := hbw.alloc hbw.size _
        have hT := heap_alloc_new wr (.cells #[.int .i64 gs[k].1, .int .i64 gs[k].2.1, .int .i64 gs[k].2.2] 68)
        have hv := fun W => tnValid2_ (gs[k].2.1, gs[k].1) (gs[k].2.2, gs[k].1) W
        generalize badG gs[k] = B at *
        generalize gs[k].1 = Y at *
        generalize gs[k].2.1 = L at *
        generalize gs[k].2.2 = R at *
        generalize hoo : (offP (L, Y) || offP (R, Y)) = O at *
        have HNO := Lib.hid hno; have HBW := Lib.hid hbw; have HRR := Lib.hid hrr; have HNX := Lib.hid hnx; have HALL := Lib.hid hall; have HBT := Lib.hid hbT; have HT := Lib.hid hT; have HV := Lib.hid hv; have HBG := Lib.hid hbg; have HOO := Lib.hid hoo; clear hno hbw hrr hnx hall hbT hT hv hbg hoo
        go_upto_region 8 with fail
        have hT := HT.out
        have hbT := HBT.out
        clear HT HBT
        generalize wr.alloc (.cells #[.int .i64 Y, .int .i64 L, .int .i64 R] 68) = w2 at *
        generalize wr.heap.size = T2 at *
        have t0 := cell_of_row _ _ 0 _ _ _ hT
        have t1 := cell_of_row _ _ 1 _ _ _ hT
        have t2 := cell_of_row _ _ 2 _ _ _ hT
        simp only [List.getElem?_toArray, List.getElem?_cons_zero, List.getElem?_cons_succ] at t0 t1 t2
        have hTl := lt_of_block hT
        have HT := Lib.hid hT; have HBT := Lib.hid hbT; clear hT hbT
        go_wp2_with fail
        refine (HV.out _).mono ?_
        rintro e w3 ⟨rfl, b1⟩
        have t1 := below_at b1 (Nat.le_refl _) t1
        have t2 := below_at b1 (Nat.le_refl _) t2
        have hTl := Nat.lt_of_lt_of_le hTl b1.size
        have hb3 := HBT.out.trans (b1.mono HBT.out.size)
        clear b1 t0
        cases O with
        | true =>
          have hres : gErr o gs p = 2 := by rw [HRES1.out, HALL.out (by rw [HBG.out]; rfl)]; rfl
          have hb4 := HB1.out.trans (hb3.mono HB1.out.size)
          clear hb3
          have HB4 := Lib.hid hb4; have HRES := Lib.hid hres; clear hb4 hres
          go_wp2
          go_ret
          exact ⟨by rw [HRES.out]; rfl, HB4.out⟩
        | false =>
          by_cases hRL : R < L
          · have d5 : decide (R < L) = true := decide_eq_true hRL
            have hres : gErr o gs p = 2 := by rw [HRES1.out, HALL.out (by rw [HBG.out, d5]; rfl)]; rfl
            have hb4 := HB1.out.trans (hb3.mono HB1.out.size)
            clear hb3
            have HB4 := Lib.hid hb4; have HRES := Lib.hid hres; clear hb4 hres
            go_wp2
            go_ret
            exact ⟨by rw [HRES.out]; rfl, HB4.out⟩
          · have d5 : decide (R < L) = false := decide_eq_false hRL
            have hnx2 : (gs.take (k + 1)).any badG = false := by rw [HNX.out, HBG.out, d5]; rfl
            have HB3 := Lib.hid hb3; have HNX2 := Lib.hid hnx2; clear hb3 hnx2
            go_wp2
            go_roundw
            case rel => exact ⟨k + 1, by go_num, by omega, HNX2.out, HB3.out⟩
            case measure => simp [intOf]; omega
      · obtain rfl : k = gs.length := by omega
        rw [List.take_length] at hno
        have hres2 : gErr o gs p = if ascG o.2 gs p.2 = true then 0 else 6 := by rw [HRES1.out, hno]; rfl
        have x3 : ¬ (gs.length : Int) < (gs.length : Int) := by omega
        have d2 : decide ((gs.length : Int) < (gs.length : Int)) = false := decide_eq_false x3
        have hr2 := HR1.out.later hbw (Nat.le_refl _)
        have k1 := below_at hbw (Nat.le_refl _) k1
        have k3 := below_at hbw (Nat.le_refl _) k3
        have hl0 := Nat.lt_of_lt_of_le hl0 hbw.size
        have hl1 := Nat.lt_of_lt_of_le hl1 hbw.size
        have hb2 := HB1.out.trans (hbw.mono HB1.out.size)
        clear hbw k0 k2
        obtain ⟨w2, rfl⟩ : ∃ w2, w2 = wr := ⟨_, rfl⟩
        have HNO := Lib.hid hno; have HR2 := Lib.hid hr2; have HB2 := Lib.hid hb2; have HRES2 := Lib.hid hres2; clear hno hr2 hb2 hres2
        go_wp2
        go_loopw [9, 11, 51] (fun yv _ iv wr => ∃ k : Nat, iv = .int .i64 (k : Int) ∧ yv = .int .i64 (lastG o.2 (gs.take k)) ∧ k ≤ gs.length ∧ preG o.2 (gs.take k) = true ∧ Below w2.heap.size w2 wr) (fun _ _ iv _ => gs.length - (intOf iv).toNat)
        case atStart => exact ⟨0, rfl, rfl, Nat.zero_le _, rfl, Below.refl _ _⟩
        case round =>
          obtain ⟨k, rfl, rfl, hk, hno, hbw⟩ := hrel
          by_cases hlt : k < gs.length
          · have q1 : (0 : Int) ≤ (k : Int) := by omega
            have q2 : (k : Int) < (gs.length : Int) := by omega
            have d2 : decide ((k : Int) < (gs.length : Int)) = true := decide_eq_true q2
            have q3 : IntKind.i64.wrap ((k : Int) + 1) = ((k + 1 : Nat) : Int) := by rw [IntWalk.i64_in _ (by omega)]; omega
            have hrr := HR2.out.later hbw (Nat.le_refl _)
            obtain ⟨bl, ol, rfl, hbl, g0, g1, g2⟩ := hrr.at_ hlt
            have hsp : preG o.2 gs = (preG o.2 (gs.take (k + 1)) && preG (lastG o.2 (gs.take (k + 1))) (gs.drop (k + 1))) := by rw [← preG_app, List.take_append_drop]
            have hnx : preG o.2 (gs.take (k + 1)) = decide (lastG o.2 (gs.take k) < gs[k].1) := by
              rw [List.take_succ_eq_append_getElem hlt, preG_app, hno]; simp [preG]
            have hla : lastG o.2 (gs.take (k + 1)) = gs[k].1 := by rw [List.take_succ_eq_append_getElem hlt, lastG_snoc]
            have hbT : Below w2.heap.size w2 (wr.alloc (.cells #[.int .i64 gs[k].1, .int .i64 gs[k].2.1, .int .i64 gs[k].2.2] 68)) := hbw.alloc hbw.size _
            generalize gs[k].1 = Y at *
            generalize gs[k].2.1 = L at *
            generalize gs[k].2.2 = R at *
            generalize hLG : lastG o.2 (gs.take k) = LG at *
            by_cases hy : Y ≤ LG
            · have d5 : decide (Y ≤ LG) = true := decide_eq_true hy
              have hres : gErr o gs p = 6 := by
                rw [HRES2.out]; unfold ascG; rw [hsp, hnx, decide_eq_false (by omega)]; rfl
              have hb4 := HB2.out.trans (hbT.mono HB2.out.size)
              clear hbT
              have HNO := Lib.hid hno; have HBW := Lib.hid hbw; have HRR := Lib.hid hrr; have HSP := Lib.hid hsp; have HNX := Lib.hid hnx; have HLA := Lib.hid hla; have HLG := Lib.hid hLG; have HB4 := Lib.hid hb4; have HRES := Lib.hid hres; clear hno hbw hrr hsp hnx hla hLG hb4 hres
              go_wp2
              go_ret
              exact ⟨by rw [HRES.out]; rfl, HB4.out⟩
            · have d5 : decide (Y ≤ LG) = false := decide_eq_false hy
              have hnx2 : preG o.2 (gs.take (k + 1)) = true := by rw [hnx]; exact decide_eq_true (by omega)
              have HNO := Lib.hid hno; have HBW := Lib.hid hbw; have HRR := Lib.hid hrr; have HSP := Lib.hid hsp; have HNX := Lib.hid hnx; have HLA := Lib.hid hla; have HLG := Lib.hid hLG; have HBT := Lib.hid hbT; have HNX2 := Lib.hid hnx2; clear hno hbw hrr hsp hnx hla hLG hbT hnx2
              go_wp2
              go_roundw
              case rel => exact ⟨k + 1, by go_num, by rw [HLA.out], by omega, HNX2.out, HBT.out⟩
              case measure => simp [intOf]; omega
          · obtain rfl : k = gs.length := by omega
            rw [List.take_length] at hno ⊢
            have hres3 : gErr o gs p = if lastG o.2 gs < p.2 then 0 else 6 := by
              rw [HRES2.out]; unfold ascG; rw [hno]; simp
            have x3 : ¬ (gs.length : Int) < (gs.length : Int) := by omega
            have d2 : decide ((gs.length : Int) < (gs.length : Int)) = false := decide_eq_false x3
            have k1 := below_at hbw (Nat.le_refl _) k1
            have k3 := below_at hbw (Nat.le_refl _) k3
            have hl1 := Nat.lt_of_lt_of_le hl1 hbw.size
            have hb3 := HB2.out.trans (hbw.mono HB2.out.size)
            clear hbw
            generalize hLG : lastG o.2 gs = LG at *
            by_cases hy : p.2 ≤ LG
            · have d5 : decide (p.2 ≤ LG) = true := decide_eq_true hy
              have hres : gErr o gs p = 6 := by rw [hres3, if_neg (by omega)]
              clear hres3
              have HNO := Lib.hid hno; have HB3 := Lib.hid hb3; have HRES := Lib.hid hres; have HLG := Lib.hid hLG; clear hno hb3 hres hLG
              go_wp2
              go_ret
              exact ⟨by rw [HRES.out]; rfl, HB3.out⟩
            · have d5 : decide (p.2 ≤ LG) = false := decide_eq_false hy
              have hres : gErr o gs p = 0 := by rw [hres3, if_pos (by omega)]
              clear hres3
              have HNO := Lib.hid hno; have HB3 := Lib.hid hb3; have HRES := Lib.hid hres; have HLG := Lib.hid hLG; clear hno hb3 hres hLG
              go_wp2
              go_ret
              exact ⟨by rw [HRES.out]; rfl, HB3.out⟩
end Go.Proofs.Ytlmhgcllikcedaa
/- pull: where the taut thread bends next. -/
namespace Go.Proofs.Ytlmhgcllikcedaa
open Go.RowKit

def gL (gs : List Gt) (j : Nat) : Int × Int := Gt.l (gs.getD j (0, 0, 0))
def gR (gs : List Gt) (j : Nat) : Int × Int := Gt.r (gs.getD j (0, 0, 0))
/-- From gate i on, with the ends l and r that hold it so far. -/
def pullR (o : Int × Int) (gs : List Gt) : Nat → Nat → Nat → Nat → (Int × Int) × Nat
  | 0, _, _, _ => (gL gs (gs.length - 1), gs.length - 1)
  | f + 1, i, l, r =>
    if lfV o (gR gs i) (gL gs l) < 0 then (gL gs l, l)
    else if lfV o (gR gs r) (gL gs i) < 0 then (gR gs r, r)
    else pullR o gs f (i + 1) (if lfV o (gL gs l) (gL gs i) ≤ 0 then i else l) (if lfV o (gR gs i) (gR gs r) ≤ 0 then i else r)
def pullF (o : Int × Int) (gs : List Gt) (first : Nat) : (Int × Int) × Nat := pullR o gs (gs.length - first) first first first
theorem getD_at {α : Type} {l : List α} {k : Nat} (h : k < l.length) (d : α) : l.getD k d = l[k] := by simp [List.getD_eq_getElem?_getD, h]
set_option maxRecDepth 100000 in
set_option maxHeartbeats 16000000 in
theorem tnPull_ (A : Option Addr) (c first : Nat) (o : Int × Int) (gs : List Gt) (w : World) (hr : RdG w A gs) (hf : first < gs.length) :
    Calls Try.prog 71 #[.agg #[.int .i64 o.1, .int .i64 o.2], .slice A gs.length c, .int .i64 (first : Int)] w fun e w' => e = .returned (.tuple #[.agg #[.int .i64 (pullF o gs first).1.1, .int .i64 (pullF o gs first).1.2], .int .i64 ((pullF o gs first).2 : Int)]) ∧ Below w.heap.size w w' := by
  have hln := hr.1
  obtain ⟨w1, hw1⟩ : ∃ w1, w1 = ((w.alloc (.cells #[.int .i64 o.1, .int .i64 o.2] 45)).alloc (.cells #[.slice A gs.length c] 46)).alloc (.cells #[.int .i64 0, .int .i64 0] 45) := ⟨_, rfl⟩
  have hb1 : Below w.heap.size w w1 := by rw [hw1]; exact (((Below.refl _ _).alloc (Nat.le_refl _) _).alloc (by simp) _).alloc (by simp; omega) _
  have k0 : w1.cell? ⟨w.heap.size, 0, none⟩ = some (.int .i64 o.1) := by rw [hw1]; go_simp
  have k1 : w1.cell? ⟨w.heap.size, 1, none⟩ = some (.int .i64 o.2) := by rw [hw1]; go_simp
  have kX : w1.cell? ⟨w.heap.size + 1, 0, none⟩ = some (.slice A gs.length c) := by rw [hw1]; go_simp
  have hT : w1.heap[w.heap.size + 2]? = some (.cells #[.int .i64 0, .int .i64 0] 45 (0, 0)) := by
    rw [hw1]
    have := heap_alloc_new ((w.alloc (.cells #[.int .i64 o.1, .int .i64 o.2] 45)).alloc (.cells #[.slice A gs.length c] 46)) (.cells #[.int .i64 0, .int .i64 0] 45)
    simpa using this
  have hr1 := hr.later hb1 (Nat.le_refl _)
  have hs1 : w.heap.size + 3 ≤ w1.heap.size := by rw [hw1]; simp
  have hp1 : ∀ j W, j < gs.length → Below w1.heap.size w1 W → Calls Try.prog 109 #[.int .i64 (j : Int), .pointer (some ⟨w.heap.size + 1, 0, none⟩)] W fun e w' => e = .returned (.agg #[.int .i64 (gL gs j).1, .int .i64 (gL gs j).2]) ∧ Below W.heap.size W w' := fun j W hj hW => by
    have := tnPull1_ A c (w.heap.size + 1) j gs W (hr1.later hW (Nat.le_refl _)) hj (below_at hW (Nat.le_refl _) kX) (by have := hW.size; omega)
    unfold gL
    rw [getD_at hj]
    exact this
  have hp2 : ∀ j W, j < gs.length → Below w1.heap.size w1 W → Calls Try.prog 110 #[.int .i64 (j : Int), .pointer (some ⟨w.heap.size + 1, 0, none⟩)] W fun e w' => e = .returned (.agg #[.int .i64 (gR gs j).1, .int .i64 (gR gs j).2]) ∧ Below W.heap.size W w' := fun j W hj hW => by
    have := tnPull2_ A c (w.heap.size + 1) j gs W (hr1.later hW (Nat.le_refl _)) hj (below_at hW (Nat.le_refl _) kX) (by have := hW.size; omega)
    unfold gR
    rw [getD_at hj]
    exact this
  clear hr hr1
  have HB1 := Lib.hid hb1; have HS1 := Lib.hid hs1; have HT := Lib.hid hT; have HP1 := Lib.hid hp1; have HP2 := Lib.hid hp2; have HLN := Lib.hid hln; clear hb1 hs1 hT hp1 hp2 hln
  go_enter Try.func71, Try.ntmps71
  go_upto_region 1 with fail
  rw [← hw1]
  clear hw1
  go_wp2
  go_loopw [8, 9, 12, 24, 38] (fun lv rv iv _ _ wr => ∃ i l r : Nat, lv = .int .i64 (l : Int) ∧ rv = .int .i64 (r : Int) ∧ iv = .int .i64 (i : Int) ∧ i ≤ gs.length ∧ l < gs.length ∧ r < gs.length ∧ pullF o gs first = pullR o gs (gs.length - i) i l r ∧ Below w1.heap.size w1 wr) (fun _ _ iv _ _ _ => gs.length - (intOf iv).toNat)
  case atStart => exact ⟨first, first, first, rfl, rfl, rfl, Nat.le_of_lt hf, hf, hf, rfl, Below.refl _ _⟩
  case round =>
    obtain ⟨i, l, r, rfl, rfl, rfl, hi, hl, hrr, hpf, hbw⟩ := hrel
    have k0 := below_at hbw (Nat.le_refl _) k0
    have k1 := below_at hbw (Nat.le_refl _) k1
    have kX := below_at hbw (Nat.le_refl _) kX
    have hlO : w.heap.size < wr.heap.size := by have := HS1.out; have := hbw.size; omega
    have hlX : w.heap.size + 1 < wr.heap.size := by have := HS1.out; have := hbw.size; omega
    by_cases hlt : i < gs.length
    · have q1 : (0 : Int) ≤ (i : Int) := by omega
      have q2 : (i : Int) < (gs.length : Int) := by omega
      have d2 : decide ((i : Int) < (gs.length : Int)) = true := decide_eq_true q2
      have q3 : IntKind.i64.wrap ((i : Int) + 1) = ((i + 1 : Nat) : Int) := by have := HLN.out; rw [IntWalk.i64_in _ (by omega)]; omega
      have hstep : pullF o gs first = if lfV o (gR gs i) (gL gs l) < 0 then (gL gs l, l) else if lfV o (gR gs r) (gL gs i) < 0 then (gR gs r, r) else pullR o gs (gs.length - (i + 1)) (i + 1) (if lfV o (gL gs l) (gL gs i) ≤ 0 then i else l) (if lfV o (gR gs i) (gR gs r) ≤ 0 then i else r) := by
        rw [hpf, show gs.length - i = (gs.length - (i + 1)) + 1 by omega, pullR]
      have hc1 := fun W => tnLefter_ o (gR gs i) (gL gs l) W
      have hc2 := fun W => tnLefter_ o (gR gs r) (gL gs i) W
      have hc3 := fun W => tnLefter_ o (gL gs l) (gL gs i) W
      have hc4 := fun W => tnLefter_ o (gR gs i) (gR gs r) W
      generalize lfV o (gR gs i) (gL gs l) = V1 at *
      generalize lfV o (gR gs r) (gL gs i) = V2 at *
      generalize lfV o (gL gs l) (gL gs i) = V3 at *
      generalize lfV o (gR gs i) (gR gs r) = V4 at *
      have hcl := HP1.out l wr hl hbw
      clear hpf
      by_cases h1 : V1 < 0
      · have d5 : decide (V1 < 0) = true := decide_eq_true h1
        rw [if_pos h1] at hstep
        have HI := Lib.hid hi; have HL := Lib.hid hl; have HRR := Lib.hid hrr; have HBW := Lib.hid hbw; have HLT := Lib.hid hlt; have HSTEP := Lib.hid hstep; have HC1 := Lib.hid hc1; have HC2 := Lib.hid hc2; have HC3 := Lib.hid hc3; have HC4 := Lib.hid hc4; have HCL := Lib.hid hcl; have H1 := Lib.hid h1; clear hi hl hrr hbw hlt hstep hc1 hc2 hc3 hc4 hcl h1
        go_upto_region 7 with fail
        have hbelc : ∀ (u : Bel wr.heap.size wr) b o, b < wr.heap.size → u.wd.cell? ⟨b, o, none⟩ = wr.cell? ⟨b, o, none⟩ := fun u b o h => u.h.cell (p := ⟨b, o, none⟩) h
        have hbeln : Nonempty (Bel wr.heap.size wr) := ⟨⟨wr, Below.refl _ _⟩⟩
        refine wp_region_bel wr.heap.size (by kernel_rfl) (by kernel_rfl) ?_
        repeat (go_big_quiet_step ((first | (go_at_call 109; exact quiet_bel (Nat.le_refl _) (HP1.out _ _ (by first | exact HL.out | exact HLT.out | exact HRR.out) (HBW.out.trans ((Bel.h _).mono HBW.out.size)))) | (go_at_call 110; exact quiet_bel (Nat.le_refl _) (HP2.out _ _ (by first | exact HL.out | exact HLT.out | exact HRR.out) (HBW.out.trans ((Bel.h _).mono HBW.out.size)))) | (go_at_call 111; exact quiet_bel (Nat.le_refl _) (HC1.out _)))))
        refine wpQuiet_nil ?_
        intro wB hB0; obtain ⟨uB, hu⟩ := hB0; have hbB0 := uB.h; rw [← hu] at hbB0; clear hu uB hbelc hbeln
        obtain ⟨hbB, hcB, hsB⟩ := bcell2 hbB0; clear hbB0
        have hb2 := HBW.out.trans (hbB.mono HBW.out.size)
        have hT2 := (hb2.block _ (lt_of_block HT.out)).trans HT.out
        have kX := below_at hbB (Nat.le_refl _) kX
        clear hbB hcB hsB k0 k1 hlO hlX
        have hlX : w.heap.size + 1 < wB.heap.size := by have := HS1.out; have := hb2.size; omega
        have HB2 := Lib.hid hb2; have HT2 := Lib.hid hT2; clear hb2 hT2
        go_wp2_with fail
        refine (HP1.out l _ HL.out HB2.out).mono ?_
        rintro e w3 ⟨rfl, b1⟩
        have hT3 := (b1.block _ (lt_of_block HT2.out)).trans HT2.out
        have hb3 := HB2.out.trans (b1.mono HB2.out.size)
        clear b1 kX hlX
        have z0 := frozen_of_row _ _ 0 _ _ hT3
        have z1 := frozen_of_row _ _ 1 _ _ hT3
        have y0 := cell_of_row _ _ 0 _ _ _ hT3
        have y1 := cell_of_row _ _ 1 _ _ _ hT3
        have hTl := lt_of_block hT3
        simp only [List.getElem?_toArray, List.getElem?_cons_zero, List.getElem?_cons_succ] at y0 y1
        have hb4 := fun u v => ((HB1.out.trans (hb3.mono HB1.out.size)).setCell (p := ⟨w.heap.size + 2, 0, none⟩) (by show w.heap.size ≤ w.heap.size + 2; omega) u).setCell (p := ⟨w.heap.size + 2, 1, none⟩) (by show w.heap.size ≤ w.heap.size + 2; omega) v
        have HB4 := Lib.hid hb4; have HT3 := Lib.hid hT3; have HB3 := Lib.hid hb3; clear hb4 hT3 hb3
        go_wp2
        refine bodyPost_ret (v := .tuple #[.agg #[.int .i64 (gL gs l).1, .int .i64 (gL gs l).2], .int .i64 (l : Int)]) (by obtain ⟨r1, _, r3⟩ := res2_ (w := w3) HT3.out (.int .i64 (gL gs l).1) (.int .i64 (gL gs l).2); simp [results, Try.results71, go_sem, r1, r3]) rfl ⟨by rw [HSTEP.out], HB4.out _ _⟩
      · have d5 : decide (V1 < 0) = false := decide_eq_false h1
        rw [if_neg h1] at hstep
        have hcr := fun W (hW : Below w1.heap.size w1 W) => HP2.out r W hrr hW
        have HI := Lib.hid hi; have HL := Lib.hid hl; have HRR := Lib.hid hrr; have HBW := Lib.hid hbw; have HLT := Lib.hid hlt; have HSTEP := Lib.hid hstep; have HC1 := Lib.hid hc1; have HC2 := Lib.hid hc2; have HC3 := Lib.hid hc3; have HC4 := Lib.hid hc4; have HCL := Lib.hid hcl; have H1 := Lib.hid h1; have HCR := Lib.hid hcr; clear hi hl hrr hbw hlt hstep hc1 hc2 hc3 hc4 hcl h1 hcr
        go_upto_region 7 with fail
        have hbelc : ∀ (u : Bel wr.heap.size wr) b o, b < wr.heap.size → u.wd.cell? ⟨b, o, none⟩ = wr.cell? ⟨b, o, none⟩ := fun u b o h => u.h.cell (p := ⟨b, o, none⟩) h
        have hbeln : Nonempty (Bel wr.heap.size wr) := ⟨⟨wr, Below.refl _ _⟩⟩
        refine wp_region_bel wr.heap.size (by kernel_rfl) (by kernel_rfl) ?_
        repeat (go_big_quiet_step ((first | (go_at_call 109; exact quiet_bel (Nat.le_refl _) (HP1.out _ _ (by first | exact HL.out | exact HLT.out | exact HRR.out) (HBW.out.trans ((Bel.h _).mono HBW.out.size)))) | (go_at_call 110; exact quiet_bel (Nat.le_refl _) (HP2.out _ _ (by first | exact HL.out | exact HLT.out | exact HRR.out) (HBW.out.trans ((Bel.h _).mono HBW.out.size)))) | (go_at_call 111; exact quiet_bel (Nat.le_refl _) (HC1.out _)))))
        refine wpQuiet_nil ?_
        intro wB hB0; obtain ⟨uB, hu⟩ := hB0; have hbB0 := uB.h; rw [← hu] at hbB0; clear hu uB hbelc hbeln
        obtain ⟨hbB, hcB, hsB⟩ := bcell2 hbB0; clear hbB0
        have hbw2 := HBW.out.trans (hbB.mono HBW.out.size)
        have k0 := below_at hbB (Nat.le_refl _) k0
        have k1 := below_at hbB (Nat.le_refl _) k1
        have kX := below_at hbB (Nat.le_refl _) kX
        have hlO := Nat.lt_of_lt_of_le hlO hbB.size
        have hlX := Nat.lt_of_lt_of_le hlX hbB.size
        clear hbB hcB hsB
        obtain ⟨wr2, rfl⟩ : ∃ wr2, wr2 = wB := ⟨_, rfl⟩
        have HBW2 := Lib.hid hbw2; clear hbw2
        by_cases h2 : V2 < 0
        · have d6 : decide (V2 < 0) = true := decide_eq_true h2
          have hst2 := HSTEP.out
          rw [if_pos h2] at hst2
          have HST2 := Lib.hid hst2; have H2 := Lib.hid h2; clear hst2 h2
          go_upto_region 9 with fail
          have hbelc : ∀ (u : Bel wr2.heap.size wr2) b o, b < wr2.heap.size → u.wd.cell? ⟨b, o, none⟩ = wr2.cell? ⟨b, o, none⟩ := fun u b o h => u.h.cell (p := ⟨b, o, none⟩) h
          have hbeln : Nonempty (Bel wr2.heap.size wr2) := ⟨⟨wr2, Below.refl _ _⟩⟩
          refine wp_region_bel wr2.heap.size (by kernel_rfl) (by kernel_rfl) ?_
          repeat (go_big_quiet_step ((first | (go_at_call 109; exact quiet_bel (Nat.le_refl _) (HP1.out _ _ (by first | exact HL.out | exact HLT.out | exact HRR.out) (HBW2.out.trans ((Bel.h _).mono HBW2.out.size)))) | (go_at_call 110; exact quiet_bel (Nat.le_refl _) (HP2.out _ _ (by first | exact HL.out | exact HLT.out | exact HRR.out) (HBW2.out.trans ((Bel.h _).mono HBW2.out.size)))) | (go_at_call 111; exact quiet_bel (Nat.le_refl _) (HC2.out _)))))
          refine wpQuiet_nil ?_
          intro wB hB0; obtain ⟨uB, hu⟩ := hB0; have hbB0 := uB.h; rw [← hu] at hbB0; clear hu uB hbelc hbeln
          obtain ⟨hbB, hcB, hsB⟩ := bcell2 hbB0; clear hbB0
          have hb2 := HBW2.out.trans (hbB.mono HBW2.out.size)
          have hT2 := (hb2.block _ (lt_of_block HT.out)).trans HT.out
          have kX := below_at hbB (Nat.le_refl _) kX
          clear hbB hcB hsB k0 k1 hlO hlX
          have hlX : w.heap.size + 1 < wB.heap.size := by have := HS1.out; have := hb2.size; omega
          have HB2 := Lib.hid hb2; have HT2 := Lib.hid hT2; clear hb2 hT2
          go_wp2_with fail
          refine (HP2.out r _ HRR.out HB2.out).mono ?_
          rintro e w3 ⟨rfl, b1⟩
          have hT3 := (b1.block _ (lt_of_block HT2.out)).trans HT2.out
          have hb3 := HB2.out.trans (b1.mono HB2.out.size)
          clear b1 kX hlX
          have z0 := frozen_of_row _ _ 0 _ _ hT3
          have z1 := frozen_of_row _ _ 1 _ _ hT3
          have y0 := cell_of_row _ _ 0 _ _ _ hT3
          have y1 := cell_of_row _ _ 1 _ _ _ hT3
          have hTl := lt_of_block hT3
          simp only [List.getElem?_toArray, List.getElem?_cons_zero, List.getElem?_cons_succ] at y0 y1
          have hb4 := fun u v => ((HB1.out.trans (hb3.mono HB1.out.size)).setCell (p := ⟨w.heap.size + 2, 0, none⟩) (by show w.heap.size ≤ w.heap.size + 2; omega) u).setCell (p := ⟨w.heap.size + 2, 1, none⟩) (by show w.heap.size ≤ w.heap.size + 2; omega) v
          have HB4 := Lib.hid hb4; have HT3 := Lib.hid hT3; have HB3 := Lib.hid hb3; clear hb4 hT3 hb3
          go_wp2
          refine bodyPost_ret (v := .tuple #[.agg #[.int .i64 (gR gs r).1, .int .i64 (gR gs r).2], .int .i64 (r : Int)]) (by obtain ⟨r1, _, r3⟩ := res2_ (w := w3) HT3.out (.int .i64 (gR gs r).1) (.int .i64 (gR gs r).2); simp [results, Try.results71, go_sem, r1, r3]) rfl ⟨by rw [HST2.out], HB4.out _ _⟩
        · have d6 : decide (V2 < 0) = false := decide_eq_false h2
          have hst2 := HSTEP.out
          rw [if_neg h2] at hst2
          have HST2 := Lib.hid hst2; have H2 := Lib.hid h2; clear hst2 h2
          go_upto_region 9 with fail
          have hbelc : ∀ (u : Bel wr2.heap.size wr2) b o, b < wr2.heap.size → u.wd.cell? ⟨b, o, none⟩ = wr2.cell? ⟨b, o, none⟩ := fun u b o h => u.h.cell (p := ⟨b, o, none⟩) h
          have hbeln : Nonempty (Bel wr2.heap.size wr2) := ⟨⟨wr2, Below.refl _ _⟩⟩
          refine wp_region_bel wr2.heap.size (by kernel_rfl) (by kernel_rfl) ?_
          repeat (go_big_quiet_step ((first | (go_at_call 109; exact quiet_bel (Nat.le_refl _) (HP1.out _ _ (by first | exact HL.out | exact HLT.out | exact HRR.out) (HBW2.out.trans ((Bel.h _).mono HBW2.out.size)))) | (go_at_call 110; exact quiet_bel (Nat.le_refl _) (HP2.out _ _ (by first | exact HL.out | exact HLT.out | exact HRR.out) (HBW2.out.trans ((Bel.h _).mono HBW2.out.size)))) | (go_at_call 111; exact quiet_bel (Nat.le_refl _) (HC2.out _)))))
          refine wpQuiet_nil ?_
          intro wB hB0; obtain ⟨uB, hu⟩ := hB0; have hbB0 := uB.h; rw [← hu] at hbB0; clear hu uB hbelc hbeln
          obtain ⟨hbB, hcB, hsB⟩ := bcell2 hbB0; clear hbB0
          have hbw3 := HBW2.out.trans (hbB.mono HBW2.out.size)
          have k0 := below_at hbB (Nat.le_refl _) k0
          have k1 := below_at hbB (Nat.le_refl _) k1
          have kX := below_at hbB (Nat.le_refl _) kX
          have hlO := Nat.lt_of_lt_of_le hlO hbB.size
          have hlX := Nat.lt_of_lt_of_le hlX hbB.size
          clear hbB hcB hsB
          obtain ⟨wr3, rfl⟩ : ∃ wr3, wr3 = wB := ⟨_, rfl⟩
          have HBW3 := Lib.hid hbw3; clear hbw3
          by_cases h3 : V3 ≤ 0
          · have d7 : decide (V3 ≤ 0) = true := decide_eq_true h3
            have hst3 := HST2.out
            rw [if_pos h3] at hst3
            have HST3 := Lib.hid hst3; have H3 := Lib.hid h3; clear hst3 h3
            go_upto_region 11 with fail
            have hbelc : ∀ (u : Bel wr3.heap.size wr3) b o, b < wr3.heap.size → u.wd.cell? ⟨b, o, none⟩ = wr3.cell? ⟨b, o, none⟩ := fun u b o h => u.h.cell (p := ⟨b, o, none⟩) h
            have hbeln : Nonempty (Bel wr3.heap.size wr3) := ⟨⟨wr3, Below.refl _ _⟩⟩
            refine wp_region_bel wr3.heap.size (by kernel_rfl) (by kernel_rfl) ?_
            repeat (go_big_quiet_step ((first | (go_at_call 109; exact quiet_bel (Nat.le_refl _) (HP1.out _ _ (by first | exact HL.out | exact HLT.out | exact HRR.out) (HBW3.out.trans ((Bel.h _).mono HBW3.out.size)))) | (go_at_call 110; exact quiet_bel (Nat.le_refl _) (HP2.out _ _ (by first | exact HL.out | exact HLT.out | exact HRR.out) (HBW3.out.trans ((Bel.h _).mono HBW3.out.size)))) | (go_at_call 111; exact quiet_bel (Nat.le_refl _) (HC3.out _)))))
            refine wpQuiet_nil ?_
            intro wB hB0; obtain ⟨uB, hu⟩ := hB0; have hbB0 := uB.h; rw [← hu] at hbB0; clear hu uB hbelc hbeln
            obtain ⟨hbB, hcB, hsB⟩ := bcell2 hbB0; clear hbB0
            have hbw4 := HBW3.out.trans (hbB.mono HBW3.out.size)
            have k0 := below_at hbB (Nat.le_refl _) k0
            have k1 := below_at hbB (Nat.le_refl _) k1
            have kX := below_at hbB (Nat.le_refl _) kX
            have hlO := Nat.lt_of_lt_of_le hlO hbB.size
            have hlX := Nat.lt_of_lt_of_le hlX hbB.size
            clear hbB hcB hsB
            obtain ⟨wr4, rfl⟩ : ∃ wr4, wr4 = wB := ⟨_, rfl⟩
            have HBW4 := Lib.hid hbw4; clear hbw4
            by_cases h4 : V4 ≤ 0
            · have d8 : decide (V4 ≤ 0) = true := decide_eq_true h4
              have hst4 := HST3.out
              rw [if_pos h4] at hst4
              have HST4 := Lib.hid hst4; have H4 := Lib.hid h4; clear hst4 h4
              go_upto_region 13 with fail
              have hbelc : ∀ (u : Bel wr4.heap.size wr4) b o, b < wr4.heap.size → u.wd.cell? ⟨b, o, none⟩ = wr4.cell? ⟨b, o, none⟩ := fun u b o h => u.h.cell (p := ⟨b, o, none⟩) h
              have hbeln : Nonempty (Bel wr4.heap.size wr4) := ⟨⟨wr4, Below.refl _ _⟩⟩
              refine wp_region_bel wr4.heap.size (by kernel_rfl) (by kernel_rfl) ?_
              repeat (go_big_quiet_step ((first | (go_at_call 109; exact quiet_bel (Nat.le_refl _) (HP1.out _ _ (by first | exact HL.out | exact HLT.out | exact HRR.out) (HBW4.out.trans ((Bel.h _).mono HBW4.out.size)))) | (go_at_call 110; exact quiet_bel (Nat.le_refl _) (HP2.out _ _ (by first | exact HL.out | exact HLT.out | exact HRR.out) (HBW4.out.trans ((Bel.h _).mono HBW4.out.size)))) | (go_at_call 111; exact quiet_bel (Nat.le_refl _) (HC4.out _)))))
              refine wpQuiet_nil ?_
              intro wB hB0; obtain ⟨uB, hu⟩ := hB0; have hbB0 := uB.h; rw [← hu] at hbB0; clear hu uB hbelc hbeln
              obtain ⟨hbB, hcB, hsB⟩ := bcell2 hbB0; clear hbB0
              have hbw5 := HBW4.out.trans (hbB.mono HBW4.out.size)
              clear hbB hcB hsB k0 k1 kX hlO hlX
              have HBW5 := Lib.hid hbw5; clear hbw5
              go_wp2
              go_roundw
              case rel => exact ⟨i + 1, i, i, by go_num, by go_num, by go_num, by have := HLT.out; omega, HLT.out, HLT.out, HST4.out, HBW5.out⟩
              case measure => have := HLT.out; simp [intOf]; omega
            · have d8 : decide (V4 ≤ 0) = false := decide_eq_false h4
              have hst4 := HST3.out
              rw [if_neg h4] at hst4
              have HST4 := Lib.hid hst4; have H4 := Lib.hid h4; clear hst4 h4
              go_upto_region 13 with fail
              have hbelc : ∀ (u : Bel wr4.heap.size wr4) b o, b < wr4.heap.size → u.wd.cell? ⟨b, o, none⟩ = wr4.cell? ⟨b, o, none⟩ := fun u b o h => u.h.cell (p := ⟨b, o, none⟩) h
              have hbeln : Nonempty (Bel wr4.heap.size wr4) := ⟨⟨wr4, Below.refl _ _⟩⟩
              refine wp_region_bel wr4.heap.size (by kernel_rfl) (by kernel_rfl) ?_
              repeat (go_big_quiet_step ((first | (go_at_call 109; exact quiet_bel (Nat.le_refl _) (HP1.out _ _ (by first | exact HL.out | exact HLT.out | exact HRR.out) (HBW4.out.trans ((Bel.h _).mono HBW4.out.size)))) | (go_at_call 110; exact quiet_bel (Nat.le_refl _) (HP2.out _ _ (by first | exact HL.out | exact HLT.out | exact HRR.out) (HBW4.out.trans ((Bel.h _).mono HBW4.out.size)))) | (go_at_call 111; exact quiet_bel (Nat.le_refl _) (HC4.out _)))))
              refine wpQuiet_nil ?_
              intro wB hB0; obtain ⟨uB, hu⟩ := hB0; have hbB0 := uB.h; rw [← hu] at hbB0; clear hu uB hbelc hbeln
              obtain ⟨hbB, hcB, hsB⟩ := bcell2 hbB0; clear hbB0
              have hbw5 := HBW4.out.trans (hbB.mono HBW4.out.size)
              clear hbB hcB hsB k0 k1 kX hlO hlX
              have HBW5 := Lib.hid hbw5; clear hbw5
              go_wp2
              go_roundw
              case rel => exact ⟨i + 1, i, r, by go_num, by go_num, by go_num, by have := HLT.out; omega, HLT.out, HRR.out, HST4.out, HBW5.out⟩
              case measure => have := HLT.out; simp [intOf]; omega
          · have d7 : decide (V3 ≤ 0) = false := decide_eq_false h3
            have hst3 := HST2.out
            rw [if_neg h3] at hst3
            have HST3 := Lib.hid hst3; have H3 := Lib.hid h3; clear hst3 h3
            go_upto_region 11 with fail
            have hbelc : ∀ (u : Bel wr3.heap.size wr3) b o, b < wr3.heap.size → u.wd.cell? ⟨b, o, none⟩ = wr3.cell? ⟨b, o, none⟩ := fun u b o h => u.h.cell (p := ⟨b, o, none⟩) h
            have hbeln : Nonempty (Bel wr3.heap.size wr3) := ⟨⟨wr3, Below.refl _ _⟩⟩
            refine wp_region_bel wr3.heap.size (by kernel_rfl) (by kernel_rfl) ?_
            repeat (go_big_quiet_step ((first | (go_at_call 109; exact quiet_bel (Nat.le_refl _) (HP1.out _ _ (by first | exact HL.out | exact HLT.out | exact HRR.out) (HBW3.out.trans ((Bel.h _).mono HBW3.out.size)))) | (go_at_call 110; exact quiet_bel (Nat.le_refl _) (HP2.out _ _ (by first | exact HL.out | exact HLT.out | exact HRR.out) (HBW3.out.trans ((Bel.h _).mono HBW3.out.size)))) | (go_at_call 111; exact quiet_bel (Nat.le_refl _) (HC3.out _)))))
            refine wpQuiet_nil ?_
            intro wB hB0; obtain ⟨uB, hu⟩ := hB0; have hbB0 := uB.h; rw [← hu] at hbB0; clear hu uB hbelc hbeln
            obtain ⟨hbB, hcB, hsB⟩ := bcell2 hbB0; clear hbB0
            have hbw4 := HBW3.out.trans (hbB.mono HBW3.out.size)
            have k0 := below_at hbB (Nat.le_refl _) k0
            have k1 := below_at hbB (Nat.le_refl _) k1
            have kX := below_at hbB (Nat.le_refl _) kX
            have hlO := Nat.lt_of_lt_of_le hlO hbB.size
            have hlX := Nat.lt_of_lt_of_le hlX hbB.size
            clear hbB hcB hsB
            obtain ⟨wr4, rfl⟩ : ∃ wr4, wr4 = wB := ⟨_, rfl⟩
            have HBW4 := Lib.hid hbw4; clear hbw4
            by_cases h4 : V4 ≤ 0
            · have d8 : decide (V4 ≤ 0) = true := decide_eq_true h4
              have hst4 := HST3.out
              rw [if_pos h4] at hst4
              have HST4 := Lib.hid hst4; have H4 := Lib.hid h4; clear hst4 h4
              go_upto_region 13 with fail
              have hbelc : ∀ (u : Bel wr4.heap.size wr4) b o, b < wr4.heap.size → u.wd.cell? ⟨b, o, none⟩ = wr4.cell? ⟨b, o, none⟩ := fun u b o h => u.h.cell (p := ⟨b, o, none⟩) h
              have hbeln : Nonempty (Bel wr4.heap.size wr4) := ⟨⟨wr4, Below.refl _ _⟩⟩
              refine wp_region_bel wr4.heap.size (by kernel_rfl) (by kernel_rfl) ?_
              repeat (go_big_quiet_step ((first | (go_at_call 109; exact quiet_bel (Nat.le_refl _) (HP1.out _ _ (by first | exact HL.out | exact HLT.out | exact HRR.out) (HBW4.out.trans ((Bel.h _).mono HBW4.out.size)))) | (go_at_call 110; exact quiet_bel (Nat.le_refl _) (HP2.out _ _ (by first | exact HL.out | exact HLT.out | exact HRR.out) (HBW4.out.trans ((Bel.h _).mono HBW4.out.size)))) | (go_at_call 111; exact quiet_bel (Nat.le_refl _) (HC4.out _)))))
              refine wpQuiet_nil ?_
              intro wB hB0; obtain ⟨uB, hu⟩ := hB0; have hbB0 := uB.h; rw [← hu] at hbB0; clear hu uB hbelc hbeln
              obtain ⟨hbB, hcB, hsB⟩ := bcell2 hbB0; clear hbB0
              have hbw5 := HBW4.out.trans (hbB.mono HBW4.out.size)
              clear hbB hcB hsB k0 k1 kX hlO hlX
              have HBW5 := Lib.hid hbw5; clear hbw5
              go_wp2
              go_roundw
              case rel => exact ⟨i + 1, l, i, by go_num, by go_num, by go_num, by have := HLT.out; omega, HL.out, HLT.out, HST4.out, HBW5.out⟩
              case measure => have := HLT.out; simp [intOf]; omega
            · have d8 : decide (V4 ≤ 0) = false := decide_eq_false h4
              have hst4 := HST3.out
              rw [if_neg h4] at hst4
              have HST4 := Lib.hid hst4; have H4 := Lib.hid h4; clear hst4 h4
              go_upto_region 13 with fail
              have hbelc : ∀ (u : Bel wr4.heap.size wr4) b o, b < wr4.heap.size → u.wd.cell? ⟨b, o, none⟩ = wr4.cell? ⟨b, o, none⟩ := fun u b o h => u.h.cell (p := ⟨b, o, none⟩) h
              have hbeln : Nonempty (Bel wr4.heap.size wr4) := ⟨⟨wr4, Below.refl _ _⟩⟩
              refine wp_region_bel wr4.heap.size (by kernel_rfl) (by kernel_rfl) ?_
              repeat (go_big_quiet_step ((first | (go_at_call 109; exact quiet_bel (Nat.le_refl _) (HP1.out _ _ (by first | exact HL.out | exact HLT.out | exact HRR.out) (HBW4.out.trans ((Bel.h _).mono HBW4.out.size)))) | (go_at_call 110; exact quiet_bel (Nat.le_refl _) (HP2.out _ _ (by first | exact HL.out | exact HLT.out | exact HRR.out) (HBW4.out.trans ((Bel.h _).mono HBW4.out.size)))) | (go_at_call 111; exact quiet_bel (Nat.le_refl _) (HC4.out _)))))
              refine wpQuiet_nil ?_
              intro wB hB0; obtain ⟨uB, hu⟩ := hB0; have hbB0 := uB.h; rw [← hu] at hbB0; clear hu uB hbelc hbeln
              obtain ⟨hbB, hcB, hsB⟩ := bcell2 hbB0; clear hbB0
              have hbw5 := HBW4.out.trans (hbB.mono HBW4.out.size)
              clear hbB hcB hsB k0 k1 kX hlO hlX
              have HBW5 := Lib.hid hbw5; clear hbw5
              go_wp2
              go_roundw
              case rel => exact ⟨i + 1, l, r, by go_num, by go_num, by go_num, by have := HLT.out; omega, HL.out, HRR.out, HST4.out, HBW5.out⟩
              case measure => have := HLT.out; simp [intOf]; omega
    · obtain rfl : i = gs.length := by omega
      have x3 : ¬ (gs.length : Int) < (gs.length : Int) := by omega
      have d2 : decide ((gs.length : Int) < (gs.length : Int)) = false := decide_eq_false x3
      rw [Nat.sub_self, pullR] at hpf
      have hq := fun W (hW : Below w1.heap.size w1 W) => HP1.out (gs.length - 1) W (by omega) hW
      have q4 : IntKind.i64.wrap ((gs.length : Int) - 1) = ((gs.length - 1 : Nat) : Int) := by have := HLN.out; rw [IntWalk.i64_in _ (by omega)]; omega
      have hT2 := (hbw.block _ (lt_of_block HT.out)).trans HT.out
      generalize hN : gs.length - 1 = N1 at *
      have hcall : ∀ W, Below wr.heap.size wr W → Calls Try.prog 109 #[.int .i64 (N1 : Int), .pointer (some ⟨w.heap.size + 1, 0, none⟩)] W fun e w' => (e = .returned (.agg #[.int .i64 (gL gs N1).1, .int .i64 (gL gs N1).2]) ∧ Below w.heap.size w w') ∧ w'.cell? ⟨w.heap.size + 1, 0, none⟩ = some (.slice A gs.length c) ∧ w.heap.size + 1 < w'.heap.size ∧ w'.heap[w.heap.size + 2]? = some (.cells #[.int .i64 0, .int .i64 0] 45 (0, 0)) := fun W hW => by
        refine (hq W (hbw.trans (hW.mono hbw.size))).mono ?_
        rintro e w' ⟨he, hb⟩
        have hb5 := hW.trans (hb.mono hW.size)
        exact ⟨⟨he, HB1.out.trans ((hbw.trans (hb5.mono hbw.size)).mono HB1.out.size)⟩, below_at hb5 (Nat.le_refl _) kX, Nat.lt_of_lt_of_le hlX hb5.size, (hb5.block _ (lt_of_block hT2)).trans hT2⟩
      clear k0 k1 hlO hl hrr hq
      obtain ⟨w2, rfl⟩ : ∃ w2, w2 = wr := ⟨_, rfl⟩
      have HBW := Lib.hid hbw; have HT2 := Lib.hid hT2; have HN := Lib.hid hN; have HCALL := Lib.hid hcall; have HPF := Lib.hid hpf; clear hbw hT2 hN hcall hpf
      go_upto_region 15 with fail
      go_region_with (go_at_call 109; refine (HCALL.out _ (by first | exact Below.refl _ _ | exact (Below.refl _ _).drew)).mono ?_; rintro e w3 ⟨⟨rfl, b3⟩, kX3, hlX3, hT3⟩; have z0 := frozen_of_row _ _ 0 _ _ hT3; have z1 := frozen_of_row _ _ 1 _ _ hT3; have y0 := cell_of_row _ _ 0 _ _ _ hT3; have y1 := cell_of_row _ _ 1 _ _ _ hT3; have hTl := lt_of_block hT3; simp only [List.getElem?_toArray, List.getElem?_cons_zero, List.getElem?_cons_succ] at y0 y1)
      all_goals (
        have hb4 := fun u v => (b3.setCell (p := ⟨w.heap.size + 2, 0, none⟩) (by show w.heap.size ≤ w.heap.size + 2; omega) u).setCell (p := ⟨w.heap.size + 2, 1, none⟩) (by show w.heap.size ≤ w.heap.size + 2; omega) v
        have HB4 := Lib.hid hb4
        have HT3 := Lib.hid hT3
        clear hb4 hT3 b3
        go_wp2
        refine bodyPost_ret (v := .tuple #[.agg #[.int .i64 (gL gs N1).1, .int .i64 (gL gs N1).2], .int .i64 (N1 : Int)]) (by obtain ⟨r1, _, r3⟩ := res2_ (w := w3) HT3.out (.int .i64 (gL gs N1).1) (.int .i64 (gL gs N1).2); simp [results, Try.results71, go_sem, r1, r3]) rfl ⟨by rw [HPF.out], HB4.out _ _⟩)
end Go.Proofs.Ytlmhgcllikcedaa
/- pull, by slopes: plain. -/
namespace Go.Proofs.Ytlmhgcllikcedaa
open Go.RowKit

/-- How far to the right a line goes in one row. -/
def slo (o p : Int × Int) : Rat := ((p.1 - o.1 : Int) : Rat) * ((p.2 - o.2 : Int) : Rat)⁻¹
theorem rpos {x : Int} (h : 0 < x) : (0 : Rat) < (x : Rat) ∧ (x : Rat) * (x : Rat)⁻¹ = 1 ∧ (0 : Rat) < (x : Rat)⁻¹ := by
  have h0 : (0 : Rat) < (x : Rat) := by exact_mod_cast h
  exact ⟨h0, Rat.mul_inv_cancel _ (by grind), Rat.inv_pos.2 h0⟩
theorem slo_mul {o p : Int × Int} (h : o.2 < p.2) : slo o p * ((p.2 - o.2 : Int) : Rat) = ((p.1 - o.1 : Int) : Rat) := by
  obtain ⟨h1, h2, h3⟩ := rpos (show 0 < p.2 - o.2 by omega)
  unfold slo
  generalize ((p.2 - o.2 : Int) : Rat)⁻¹ = i at *
  grind
theorem crs_slo {o p q : Int × Int} (h1 : o.2 < p.2) (h2 : o.2 < q.2) : ((crsG (stp o p) (stp o q) : Int) : Rat) = (slo o p - slo o q) * (((p.2 - o.2 : Int) : Rat) * ((q.2 - o.2 : Int) : Rat)) := by
  have e1 := slo_mul h1
  have e2 := slo_mul h2
  have e3 : ((crsG (stp o p) (stp o q) : Int) : Rat) = ((p.1 - o.1 : Int) : Rat) * ((q.2 - o.2 : Int) : Rat) - ((p.2 - o.2 : Int) : Rat) * ((q.1 - o.1 : Int) : Rat) := by
    show (((p.1 - o.1) * (q.2 - o.2) - (p.2 - o.2) * (q.1 - o.1) : Int) : Rat) = _
    rw [Rat.intCast_sub, Rat.intCast_mul, Rat.intCast_mul]
  rw [e3, ← e1, ← e2]
  grind
theorem sgn_iff {x : Int} {a b m : Rat} (h : (x : Rat) = (a - b) * m) (hm : 0 < m) : (x < 0 ↔ a < b) ∧ (0 < x ↔ b < a) ∧ (x = 0 ↔ a = b) := by
  have k1 : a < b → x < 0 := fun h1 => by
    have := Rat.mul_pos (show (0 : Rat) < b - a by grind) hm
    have h2 : (x : Rat) < 0 := by grind
    exact_mod_cast h2
  have k2 : b < a → 0 < x := fun h1 => by
    have := Rat.mul_pos (show (0 : Rat) < a - b by grind) hm
    have h2 : (0 : Rat) < (x : Rat) := by grind
    exact_mod_cast h2
  have k3 : a = b → x = 0 := fun h1 => by
    have h2 : (x : Rat) = 0 := by rw [h, h1]; grind
    exact_mod_cast h2
  refine ⟨⟨fun hx => ?_, k1⟩, ⟨fun hx => ?_, k2⟩, ⟨fun hx => ?_, k3⟩⟩
  all_goals
    rcases (by grind : a < b ∨ b < a ∨ a = b) with h1 | h1 | h1
    all_goals first | exact h1 | (have := k1 h1; omega) | (have := k2 h1; omega) | (have := k3 h1; omega)
theorem lf_slo {o p q : Int × Int} (ho : offP o = false) (hp : offP p = false) (hq : offP q = false) (h1 : o.2 < p.2) (h2 : o.2 < q.2) :
    (lfV o p q < 0 ↔ slo o p < slo o q) ∧ (lfV o p q ≤ 0 ↔ slo o p ≤ slo o q) ∧ (lfV o p q = 0 ↔ slo o p = slo o q) := by
  have hoff : offB o p q = false := by unfold offB; simp [ho, hp, hq]
  have hm : (0 : Rat) < ((p.2 - o.2 : Int) : Rat) * ((q.2 - o.2 : Int) : Rat) := Rat.mul_pos (rpos (by omega)).1 (rpos (by omega)).1
  obtain ⟨k1, k2, k3⟩ := sgn_iff (crs_slo h1 h2) hm
  have hv : lfV o p q = cmpV (crsG (stp o p) (stp o q)) 0 := by unfold lfV sideV; rw [hoff]; rfl
  rw [hv]
  generalize crsG (stp o p) (stp o q) = x at *
  have hc : (cmpV x 0 < 0 ↔ x < 0) ∧ (cmpV x 0 ≤ 0 ↔ x ≤ 0) ∧ (cmpV x 0 = 0 ↔ x = 0) := by
    unfold cmpV
    split
    · omega
    · split <;> omega
  refine ⟨hc.1.trans k1, hc.2.1.trans ?_, hc.2.2.trans k3⟩
  constructor
  · intro h
    rcases (by grind : slo o p ≤ slo o q ∨ slo o q < slo o p) with h3 | h3
    · exact h3
    · have := k2.2 h3; omega
  · intro h
    rcases (by omega : x ≤ 0 ∨ 0 < x) with h3 | h3
    · exact h3
    · have := k2.1 h3; grind
/-- From a point on the line on. -/
theorem slo_shift {o m p : Int × Int} (h1 : o.2 < m.2) (h2 : m.2 < p.2) : (slo o p < slo o m ↔ slo m p < slo o m) ∧ (slo o m < slo o p ↔ slo o m < slo m p) ∧ (slo o p = slo o m ↔ slo m p = slo o m) := by
  have e1 := slo_mul h1
  have e2 := slo_mul h2
  have e3 := slo_mul (show o.2 < p.2 by omega)
  have a1 := (rpos (show 0 < p.2 - m.2 by omega)).1
  have a2 := (rpos (show 0 < p.2 - o.2 by omega)).1
  have c1 : ((p.1 - o.1 : Int) : Rat) = ((p.1 - m.1 : Int) : Rat) + ((m.1 - o.1 : Int) : Rat) := by rw [← Rat.intCast_add]; congr 1; omega
  have c2 : ((p.2 - o.2 : Int) : Rat) = ((p.2 - m.2 : Int) : Rat) + ((m.2 - o.2 : Int) : Rat) := by rw [← Rat.intCast_add]; congr 1; omega
  have key : (slo m p - slo o m) * ((p.2 - m.2 : Int) : Rat) = (slo o p - slo o m) * ((p.2 - o.2 : Int) : Rat) := by grind
  generalize slo m p = x at *
  generalize slo o p = y at *
  generalize slo o m = z at *
  generalize ((p.2 - m.2 : Int) : Rat) = u at *
  generalize ((p.2 - o.2 : Int) : Rat) = v at *
  have k1 : x < z → y < z := fun h => by
    have q1 := Rat.mul_pos (show 0 < z - x by grind) a1
    rcases (by grind : y < z ∨ 0 ≤ y - z) with h3 | h3
    · exact h3
    · have := Rat.mul_nonneg h3 (Rat.le_of_lt a2); grind
  have k2 : z < x → z < y := fun h => by
    have q1 := Rat.mul_pos (show 0 < x - z by grind) a1
    rcases (by grind : z < y ∨ 0 ≤ z - y) with h3 | h3
    · exact h3
    · have := Rat.mul_nonneg h3 (Rat.le_of_lt a2); grind
  have k3 : x = z → y = z := fun h => by
    rcases (by grind : y < z ∨ z < y ∨ y = z) with h3 | h3 | h3
    · have := Rat.mul_pos (show 0 < z - y by grind) a2; grind
    · have := Rat.mul_pos (show 0 < y - z by grind) a2; grind
    · exact h3
  refine ⟨⟨fun h => ?_, k1⟩, ⟨fun h => ?_, k2⟩, ⟨fun h => ?_, k3⟩⟩
  all_goals
    rcases (by grind : x < z ∨ z < x ∨ x = z) with h1 | h1 | h1
    all_goals first | exact h1 | (have := k1 h1; grind) | (have := k2 h1; grind) | (have := k3 h1; grind)
/-- Gates one below the other, all valid. -/
structure GtsOk (o : Int × Int) (gs : List Gt) (first : Nat) : Prop where
  po : offP o = false
  ok : ∀ k, k < gs.length → badG (gs.getD k (0, 0, 0)) = false
  beg : first < gs.length → o.2 < (gs.getD first (0, 0, 0)).1
  asc : ∀ k, k + 1 < gs.length → (gs.getD k (0, 0, 0)).1 < (gs.getD (k + 1) (0, 0, 0)).1
theorem asc_lt {gs : List Gt} (h : ∀ k, k + 1 < gs.length → (gs.getD k (0, 0, 0)).1 < (gs.getD (k + 1) (0, 0, 0)).1) {i : Nat} : ∀ j, i < j → j < gs.length → (gs.getD i (0, 0, 0)).1 < (gs.getD j (0, 0, 0)).1 := by
  intro j
  induction j with
  | zero => intro h1; omega
  | succ j ih =>
    intro h1 h2
    have h3 := h j h2
    rcases (by omega : i = j ∨ i < j) with rfl | h4
    · exact h3
    · have := ih h4 (by omega); omega
section
variable {o : Int × Int} {gs : List Gt} {first : Nat}
theorem GtsOk.pt (h : GtsOk o gs first) {k : Nat} (hk : k < gs.length) : offP (gL gs k) = false ∧ offP (gR gs k) = false ∧ (gL gs k).1 ≤ (gR gs k).1 := by
  have := h.ok k hk
  unfold badG at this
  simp only [Bool.or_eq_false_iff, decide_eq_false_iff_not] at this
  exact ⟨this.1.1, this.1.2, by show (gs.getD k (0, 0, 0)).2.1 ≤ (gs.getD k (0, 0, 0)).2.2; omega⟩
theorem gL_y (gs : List Gt) (k : Nat) : (gL gs k).2 = (gs.getD k (0, 0, 0)).1 ∧ (gR gs k).2 = (gs.getD k (0, 0, 0)).1 := ⟨rfl, rfl⟩
theorem GtsOk.low (h : GtsOk o gs first) {k : Nat} (h1 : first ≤ k) (hk : k < gs.length) : o.2 < (gs.getD k (0, 0, 0)).1 := by
  have hb := h.beg (by omega)
  rcases (by omega : first = k ∨ first < k) with rfl | h2
  · exact hb
  · have := asc_lt h.asc k h2 hk; omega
theorem GtsOk.lr (h : GtsOk o gs first) {k : Nat} (h1 : first ≤ k) (hk : k < gs.length) : slo o (gL gs k) ≤ slo o (gR gs k) := by
  have hy := h.low h1 hk
  have hx := (h.pt hk).2.2
  obtain ⟨e1, e2⟩ := gL_y gs k
  obtain ⟨i1, i2, i3⟩ := rpos (show 0 < (gs.getD k (0, 0, 0)).1 - o.2 by omega)
  unfold slo
  rw [e1, e2]
  have hc : (((gL gs k).1 - o.1 : Int) : Rat) ≤ (((gR gs k).1 - o.1 : Int) : Rat) := by
    have : (gL gs k).1 - o.1 ≤ (gR gs k).1 - o.1 := by omega
    exact_mod_cast this
  have := Rat.mul_nonneg (show (0 : Rat) ≤ (((gR gs k).1 - o.1 : Int) : Rat) - (((gL gs k).1 - o.1 : Int) : Rat) by grind) (Rat.le_of_lt i3)
  generalize (((gs.getD k (0, 0, 0)).1 - o.2 : Int) : Rat)⁻¹ = z at *
  grind
/-- What pull finds: on the left, on the right, or the end. -/
structure PullL (o : Int × Int) (gs : List Gt) (first at_ : Nat) : Prop where
  ge : first ≤ at_
  ex : ∃ i, at_ < i ∧ i < gs.length ∧ slo o (gR gs i) < slo o (gL gs at_) ∧ (∀ k, first ≤ k → k < i → slo o (gL gs k) ≤ slo o (gL gs at_) ∧ slo o (gL gs at_) ≤ slo o (gR gs k)) ∧ ∀ k, at_ < k → k < i → slo o (gL gs k) < slo o (gL gs at_)
structure PullR (o : Int × Int) (gs : List Gt) (first at_ : Nat) : Prop where
  ge : first ≤ at_
  ex : ∃ i, at_ < i ∧ i < gs.length ∧ slo o (gR gs at_) < slo o (gL gs i) ∧ (∀ k, first ≤ k → k < i → slo o (gL gs k) ≤ slo o (gR gs at_) ∧ slo o (gR gs at_) ≤ slo o (gR gs k)) ∧ ∀ k, at_ < k → k < i → slo o (gR gs at_) < slo o (gR gs k)
def PullE (o : Int × Int) (gs : List Gt) (first : Nat) : Prop := ∀ k, first ≤ k → k < gs.length → slo o (gL gs k) ≤ slo o (gL gs (gs.length - 1)) ∧ slo o (gL gs (gs.length - 1)) ≤ slo o (gR gs k)
def PullS (o : Int × Int) (gs : List Gt) (first : Nat) (r : (Int × Int) × Nat) : Prop := (r.1 = gL gs r.2 ∧ PullL o gs first r.2) ∨ (r.1 = gR gs r.2 ∧ PullR o gs first r.2) ∨ (r = (gL gs (gs.length - 1), gs.length - 1) ∧ PullE o gs first)
/-- The ends that hold the thread so far. -/
structure Fun (o : Int × Int) (gs : List Gt) (first i l r : Nat) : Prop where
  l1 : first ≤ l
  r1 : first ≤ r
  li : l < i ∨ l = first ∧ i = first
  ri : r < i ∨ r = first ∧ i = first
  hl : ∀ k, first ≤ k → k < i → slo o (gL gs k) ≤ slo o (gL gs l)
  hr : ∀ k, first ≤ k → k < i → slo o (gR gs r) ≤ slo o (gR gs k)
  sl : ∀ k, l < k → k < i → slo o (gL gs k) < slo o (gL gs l)
  sr : ∀ k, r < k → k < i → slo o (gR gs r) < slo o (gR gs k)
  ne : first < i → slo o (gL gs l) ≤ slo o (gR gs r)
theorem pullR_spec (h : GtsOk o gs first) (hend : gL gs (gs.length - 1) = gR gs (gs.length - 1)) : ∀ (f i l r : Nat), f = gs.length - i → first < gs.length → first ≤ i → i ≤ gs.length → Fun o gs first i l r → PullS o gs first (pullR o gs f i l r)
  | 0, i, l, r, hf, h0, h1, h2, hF => by
    rw [pullR]
    refine .inr (.inr ⟨rfl, fun k hk1 hk2 => ?_⟩)
    obtain rfl : i = gs.length := by omega
    have a1 := hF.hl k hk1 hk2
    have a2 := hF.hr k hk1 hk2
    have a3 := hF.hl (gs.length - 1) (by omega) (by omega)
    have a4 := hF.hr (gs.length - 1) (by omega) (by omega)
    have a5 := hF.ne h0
    rw [← hend] at a4
    constructor <;> grind
  | f + 1, i, l, r, hf, h0, h1, h2, hF => by
    have hi : i < gs.length := by omega
    have hll : l < gs.length := by rcases hF.li with h | h <;> omega
    have hrl : r < gs.length := by rcases hF.ri with h | h <;> omega
    have yi := h.low h1 hi
    have yl := h.low hF.l1 hll
    have yr := h.low hF.r1 hrl
    obtain ⟨pi1, pi2, pi3⟩ := h.pt hi
    obtain ⟨pl1, pl2, _⟩ := h.pt hll
    obtain ⟨pr1, pr2, _⟩ := h.pt hrl
    have c1 := (lf_slo h.po pi2 pl1 (p := gR gs i) (q := gL gs l) yi yl).1
    have c2 := (lf_slo h.po pr2 pi1 (p := gR gs r) (q := gL gs i) yr yi).1
    have c3 := (lf_slo h.po pl1 pi1 (p := gL gs l) (q := gL gs i) yl yi).2.1
    have c4 := (lf_slo h.po pi2 pr2 (p := gR gs i) (q := gR gs r) yi yr).2.1
    have lri := h.lr h1 hi
    rw [pullR]
    by_cases hc1 : lfV o (gR gs i) (gL gs l) < 0
    · rw [if_pos hc1]
      have s1 := c1.1 hc1
      have hli : l < i := by
        rcases hF.li with h | ⟨h3, h4⟩
        · exact h
        · rw [h3, ← h4] at s1; grind
      have hne := hF.ne (by have := hF.l1; omega)
      exact .inl ⟨rfl, hF.l1, i, hli, hi, s1, fun k k1 k2 => ⟨hF.hl k k1 k2, by have := hF.hr k k1 k2; grind⟩, hF.sl⟩
    rw [if_neg hc1]
    have s1 : slo o (gL gs l) ≤ slo o (gR gs i) := by
      rcases (by grind : slo o (gL gs l) ≤ slo o (gR gs i) ∨ slo o (gR gs i) < slo o (gL gs l)) with h | h
      · exact h
      · exact absurd (c1.2 h) hc1
    by_cases hc2 : lfV o (gR gs r) (gL gs i) < 0
    · rw [if_pos hc2]
      have s2 := c2.1 hc2
      have hri : r < i := by
        rcases hF.ri with h | ⟨h3, h4⟩
        · exact h
        · rw [h3, ← h4] at s2; grind
      have hne := hF.ne (by have := hF.r1; omega)
      exact .inr (.inl ⟨rfl, hF.r1, i, hri, hi, s2, fun k k1 k2 => ⟨by have := hF.hl k k1 k2; grind, hF.hr k k1 k2⟩, hF.sr⟩)
    rw [if_neg hc2]
    have s2 : slo o (gL gs i) ≤ slo o (gR gs r) := by
      rcases (by grind : slo o (gL gs i) ≤ slo o (gR gs r) ∨ slo o (gR gs r) < slo o (gL gs i)) with h | h
      · exact h
      · exact absurd (c2.2 h) hc2
    refine pullR_spec h hend f (i + 1) _ _ (by omega) h0 (by omega) (by omega) ?_
    -- the new ends
    have L : ∃ l', l' = (if lfV o (gL gs l) (gL gs i) ≤ 0 then i else l) ∧ first ≤ l' ∧ l' < i + 1 ∧ (∀ k, first ≤ k → k < i + 1 → slo o (gL gs k) ≤ slo o (gL gs l')) ∧ (∀ k, l' < k → k < i + 1 → slo o (gL gs k) < slo o (gL gs l')) ∧ slo o (gL gs l') ≤ slo o (gR gs i) ∧ slo o (gL gs l') ≤ slo o (gR gs r) ∨ l' = (if lfV o (gL gs l) (gL gs i) ≤ 0 then i else l) ∧ False := by
      by_cases hc : lfV o (gL gs l) (gL gs i) ≤ 0
      · have := c3.1 hc
        refine ⟨i, .inl ⟨by rw [if_pos hc], h1, by omega, fun k k1 k2 => ?_, fun k k1 k2 => by omega, lri, s2⟩⟩
        rcases (by omega : k = i ∨ k < i) with rfl | hk
        · grind
        · have := hF.hl k k1 hk; grind
      · have hlt : slo o (gL gs i) < slo o (gL gs l) := by
          rcases (by grind : slo o (gL gs i) < slo o (gL gs l) ∨ slo o (gL gs l) ≤ slo o (gL gs i)) with h | h
          · exact h
          · exact absurd (c3.2 h) hc
        have hli : l < i := by
          rcases hF.li with h | ⟨h3, h4⟩
          · exact h
          · rw [h3, ← h4] at hlt; grind
        refine ⟨l, .inl ⟨by rw [if_neg hc], hF.l1, by omega, fun k k1 k2 => ?_, fun k k1 k2 => ?_, s1, hF.ne (by have := hF.l1; omega)⟩⟩
        · rcases (by omega : k = i ∨ k < i) with rfl | hk
          · grind
          · exact hF.hl k k1 hk
        · rcases (by omega : k = i ∨ k < i) with rfl | hk
          · exact hlt
          · exact hF.sl k k1 hk
    have R : ∃ r', r' = (if lfV o (gR gs i) (gR gs r) ≤ 0 then i else r) ∧ first ≤ r' ∧ r' < i + 1 ∧ (∀ k, first ≤ k → k < i + 1 → slo o (gR gs r') ≤ slo o (gR gs k)) ∧ (∀ k, r' < k → k < i + 1 → slo o (gR gs r') < slo o (gR gs k)) ∧ (r' = i ∨ r' = r) := by
      by_cases hc : lfV o (gR gs i) (gR gs r) ≤ 0
      · have := c4.1 hc
        refine ⟨i, by rw [if_pos hc], h1, by omega, fun k k1 k2 => ?_, fun k k1 k2 => by omega, .inl rfl⟩
        rcases (by omega : k = i ∨ k < i) with rfl | hk
        · grind
        · have := hF.hr k k1 hk; grind
      · have hlt : slo o (gR gs r) < slo o (gR gs i) := by
          rcases (by grind : slo o (gR gs r) < slo o (gR gs i) ∨ slo o (gR gs i) ≤ slo o (gR gs r)) with h | h
          · exact h
          · exact absurd (c4.2 h) hc
        have hri : r < i := by
          rcases hF.ri with h | ⟨h3, h4⟩
          · exact h
          · rw [h3, ← h4] at hlt; grind
        refine ⟨r, by rw [if_neg hc], hF.r1, by omega, fun k k1 k2 => ?_, fun k k1 k2 => ?_, .inr rfl⟩
        · rcases (by omega : k = i ∨ k < i) with rfl | hk
          · grind
          · exact hF.hr k k1 hk
        · rcases (by omega : k = i ∨ k < i) with rfl | hk
          · exact hlt
          · exact hF.sr k k1 hk
    obtain ⟨l', L | ⟨_, hfalse⟩⟩ := L
    rotate_left
    · exact hfalse.elim
    obtain ⟨el, L1, L2, L3, L4, L5, L6⟩ := L
    obtain ⟨r', er, R1, R2, R3, R4, R5⟩ := R
    rw [← el, ← er]
    exact ⟨L1, R1, .inl L2, .inl R2, L3, R3, L4, R4, fun _ => by rcases R5 with h | h <;> rw [h] <;> assumption⟩
theorem pull_spec (h : GtsOk o gs first) (hend : gL gs (gs.length - 1) = gR gs (gs.length - 1)) (hf : first < gs.length) : PullS o gs first (pullF o gs first) :=
  pullR_spec h hend _ first first first rfl hf (Nat.le_refl _) (Nat.le_of_lt hf) ⟨Nat.le_refl _, Nat.le_refl _, .inr ⟨rfl, rfl⟩, .inr ⟨rfl, rfl⟩, fun k h1 h2 => by omega, fun k h1 h2 => by omega, fun k h1 h2 => by omega, fun k h1 h2 => by omega, fun h => by omega⟩
end
end Go.Proofs.Ytlmhgcllikcedaa
/- The taut thread as a list, and straight. -/
namespace Go.Proofs.Ytlmhgcllikcedaa
open Go.RowKit

section
variable {o : Int × Int} {gs : List Gt} {first : Nat}
theorem GtsOk.atL (h : GtsOk o gs first) {a : Nat} (ha : a < gs.length) : GtsOk (gL gs a) gs (a + 1) :=
  ⟨(h.pt ha).1, h.ok, fun h1 => by rw [(gL_y gs a).1]; exact asc_lt h.asc (a + 1) (by omega) h1, h.asc⟩
theorem GtsOk.atR (h : GtsOk o gs first) {a : Nat} (ha : a < gs.length) : GtsOk (gR gs a) gs (a + 1) :=
  ⟨(h.pt ha).2.1, h.ok, fun h1 => by rw [(gL_y gs a).2]; exact asc_lt h.asc (a + 1) (by omega) h1, h.asc⟩
/-- Behind a bend on the left the thread goes more to the left. -/
theorem turnL (h : GtsOk o gs first) (hend : gL gs (gs.length - 1) = gR gs (gs.length - 1)) {a : Nat} (hP : PullL o gs first a) : slo (gL gs a) (pullF (gL gs a) gs (a + 1)).1 < slo o (gL gs a) := by
  obtain ⟨hge, i, hai, hi, hlt, _, hsl⟩ := hP
  have ha : a < gs.length := by omega
  have hya := h.low hge ha
  have h' := h.atL ha
  have hs := pull_spec h' hend (show a + 1 < gs.length by omega)
  generalize pullF (gL gs a) gs (a + 1) = r at *
  have ylow : ∀ k, a < k → k < gs.length → (gL gs a).2 < (gs.getD k (0, 0, 0)).1 := fun k h1 h2 => by rw [(gL_y gs a).1]; exact asc_lt h.asc k h1 h2
  have hR : slo (gL gs a) (gR gs i) < slo o (gL gs a) := (slo_shift (m := gL gs a) (p := gR gs i) (by rw [(gL_y gs a).1]; exact hya) (ylow i hai hi)).1.1 hlt
  have hL : ∀ k, a < k → k < i → slo (gL gs a) (gL gs k) < slo o (gL gs a) := fun k h1 h2 => (slo_shift (m := gL gs a) (p := gL gs k) (by rw [(gL_y gs a).1]; exact hya) (ylow k h1 (by omega))).1.1 (hsl k h1 h2)
  rcases hs with ⟨e, hge2, i2, q1, q2, q3, q4, q5⟩ | ⟨e, hge2, i2, q1, q2, q3, q4, q5⟩ | ⟨e, q4⟩
  · rw [e]
    rcases Nat.lt_or_ge r.2 i with h3 | h3
    · exact hL _ (by omega) h3
    · have := (q4 i (by omega) (by omega)).2
      grind
  · rw [e]
    rcases (by omega : i < i2 ∨ i2 = i ∨ i2 < i) with h3 | h3 | h3
    · have := (q4 i (by omega) h3).2
      grind
    · subst h3
      have := h'.lr (k := i2) (by omega) hi
      grind
    · have := hL i2 (by omega) h3
      grind
  · rw [e]
    have := (q4 i (by omega) hi).2
    show slo (gL gs a) (gL gs (gs.length - 1)) < _
    grind
theorem turnR (h : GtsOk o gs first) (hend : gL gs (gs.length - 1) = gR gs (gs.length - 1)) {a : Nat} (hP : PullR o gs first a) : slo o (gR gs a) < slo (gR gs a) (pullF (gR gs a) gs (a + 1)).1 := by
  obtain ⟨hge, i, hai, hi, hlt, _, hsl⟩ := hP
  have ha : a < gs.length := by omega
  have hya := h.low hge ha
  have h' := h.atR ha
  have hs := pull_spec h' hend (show a + 1 < gs.length by omega)
  generalize pullF (gR gs a) gs (a + 1) = r at *
  have ylow : ∀ k, a < k → k < gs.length → (gR gs a).2 < (gs.getD k (0, 0, 0)).1 := fun k h1 h2 => by rw [(gL_y gs a).2]; exact asc_lt h.asc k h1 h2
  have hR : slo o (gR gs a) < slo (gR gs a) (gL gs i) := (slo_shift (m := gR gs a) (p := gL gs i) (by rw [(gL_y gs a).2]; exact hya) (ylow i hai hi)).2.1.1 hlt
  have hL : ∀ k, a < k → k < i → slo o (gR gs a) < slo (gR gs a) (gR gs k) := fun k h1 h2 => (slo_shift (m := gR gs a) (p := gR gs k) (by rw [(gL_y gs a).2]; exact hya) (ylow k h1 (by omega))).2.1.1 (hsl k h1 h2)
  rcases hs with ⟨e, hge2, i2, q1, q2, q3, q4, q5⟩ | ⟨e, hge2, i2, q1, q2, q3, q4, q5⟩ | ⟨e, q4⟩
  · rw [e]
    rcases (by omega : i < i2 ∨ i2 = i ∨ i2 < i) with h3 | h3 | h3
    · have := (q4 i (by omega) h3).1
      grind
    · subst h3
      have := h'.lr (k := i2) (by omega) hi
      grind
    · have := hL i2 (by omega) h3
      grind
  · rw [e]
    rcases Nat.lt_or_ge r.2 i with h3 | h3
    · exact hL _ (by omega) h3
    · have := (q4 i (by omega) (by omega)).1
      grind
  · rw [e]
    have := (q4 i (by omega) hi).1
    show _ < slo (gR gs a) (gL gs (gs.length - 1))
    grind
/-- Where pull ends, and what is true there. -/
theorem pull_next (h : GtsOk o gs first) (hend : gL gs (gs.length - 1) = gR gs (gs.length - 1)) (hf : first < gs.length) : first ≤ (pullF o gs first).2 ∧ (pullF o gs first).2 < gs.length ∧ GtsOk (pullF o gs first).1 gs ((pullF o gs first).2 + 1) ∧ o.2 < (pullF o gs first).1.2 ∧
    ((pullF o gs first).2 + 1 < gs.length → lfV o (pullF o gs first).1 (pullF (pullF o gs first).1 gs ((pullF o gs first).2 + 1)).1 ≠ 0) := by
  have hs := pull_spec h hend hf
  generalize pullF o gs first = r at *
  have key : ∀ b : Int × Int, b = gL gs r.2 ∨ b = gR gs r.2 → r.1 = b → first ≤ r.2 → r.2 < gs.length → (r.2 + 1 < gs.length → slo b (pullF b gs (r.2 + 1)).1 ≠ slo o b) →
      first ≤ r.2 ∧ r.2 < gs.length ∧ GtsOk r.1 gs (r.2 + 1) ∧ o.2 < r.1.2 ∧ (r.2 + 1 < gs.length → lfV o r.1 (pullF r.1 gs (r.2 + 1)).1 ≠ 0) := fun b hb e h1 h2 hne => by
    rw [e]
    have hk : GtsOk b gs (r.2 + 1) := by rcases hb with rfl | rfl <;> first | exact h.atL h2 | exact h.atR h2
    have hy : b.2 = (gs.getD r.2 (0, 0, 0)).1 := by rcases hb with rfl | rfl <;> rfl
    have hoy : o.2 < b.2 := by rw [hy]; exact h.low h1 h2
    refine ⟨h1, h2, hk, hoy, fun h3 h0 => hne h3 ?_⟩
    have hs2 := pull_spec hk hend h3
    -- the next point is one of the gates' ends
    have hq : ∃ k, r.2 + 1 ≤ k ∧ k < gs.length ∧ ((pullF b gs (r.2 + 1)).1 = gL gs k ∨ (pullF b gs (r.2 + 1)).1 = gR gs k) := by
      rcases hs2 with ⟨e, p1, i, p2, p3, _⟩ | ⟨e, p1, i, p2, p3, _⟩ | ⟨e, _⟩
      · exact ⟨_, p1, by omega, .inl e⟩
      · exact ⟨_, p1, by omega, .inr e⟩
      · exact ⟨gs.length - 1, by omega, by omega, .inl (by rw [e])⟩
    obtain ⟨k, k1, k2, hq⟩ := hq
    have pk := h.pt k2
    have yk : b.2 < (pullF b gs (r.2 + 1)).1.2 ∧ offP (pullF b gs (r.2 + 1)).1 = false := by
      rcases hq with e | e <;> rw [e, hy]
      · exact ⟨by rw [(gL_y gs k).1]; exact asc_lt h.asc k (by omega) k2, pk.1⟩
      · exact ⟨by rw [(gL_y gs k).2]; exact asc_lt h.asc k (by omega) k2, pk.2.1⟩
    generalize (pullF b gs (r.2 + 1)).1 = t at *
    have := (lf_slo (o := o) (p := b) (q := t) h.po hk.po yk.2 hoy (by omega)).2.2.1 h0
    exact (slo_shift (o := o) (m := b) (p := t) hoy yk.1).2.2.1 this.symm
  rcases hs with ⟨e, p⟩ | ⟨e, p⟩ | ⟨e, p⟩
  · obtain ⟨hge, i, p2, p3, _⟩ := id p
    exact key _ (.inl rfl) e hge (by omega) fun _ => by have := turnL h hend p; grind
  · obtain ⟨hge, i, p2, p3, _⟩ := id p
    exact key _ (.inr rfl) e hge (by omega) fun _ => by have := turnR h hend p; grind
  · have e2 : r.2 = gs.length - 1 := by rw [e]
    exact key (gL gs r.2) (.inl rfl) (by rw [e2, e]) (by omega) (by omega) fun h => by omega
end
/-- The points behind o of the taut thread. -/
def tautR (gs : List Gt) : Nat → Int × Int → Nat → List (Int × Int)
  | 0, _, _ => []
  | f + 1, o, next => if next < gs.length then (pullF o gs next).1 :: tautR gs f (pullF o gs next).1 ((pullF o gs next).2 + 1) else []
theorem tautR_done (gs : List Gt) (f : Nat) (o : Int × Int) : tautR gs f o gs.length = [] := by
  cases f with
  | zero => rfl
  | succ f => rw [tautR, if_neg (by omega)]
/-- The cells of a list of pairs. -/
theorem RdR.all {w : World} {A : Option Addr} {xs : List (Int × Int)} (h : RdR w A xs) (h0 : 0 < xs.length) : ∃ b off, A = some ⟨b, off, none⟩ ∧ b < w.heap.size ∧ ∀ k, k < xs.length → w.cell? ⟨b, off + k * 2, none⟩ = some (.int .i64 (xs.getD k (0, 0)).1) ∧ w.cell? ⟨b, off + k * 2 + 1, none⟩ = some (.int .i64 (xs.getD k (0, 0)).2) := by
  obtain ⟨b, off, e, hlt, hc⟩ := h.2 (by omega)
  refine ⟨b, off, e, hlt, fun k hk => ?_⟩
  have e0 := hc (k * 2) (by omega)
  have e1 := hc (k * 2 + 1) (by omega)
  unfold cellsR at e0 e1
  refine ⟨?_, ?_⟩
  · rw [e0]
    simp
  · rw [show off + k * 2 + 1 = off + (k * 2 + 1) by omega, e1]
    rw [if_neg (by omega), show (k * 2 + 1) / 2 = k by omega]
set_option maxRecDepth 100000 in
set_option maxHeartbeats 4000000 in
theorem tnStraight_ (A : Option Addr) (c : Nat) (xs : List (Int × Int)) (w : World) (hr : RdR w A xs) (hb : 2 < xs.length → lfV (xs.getD (xs.length - 3) (0, 0)) (xs.getD (xs.length - 2) (0, 0)) (xs.getD (xs.length - 1) (0, 0)) ≠ 0) :
    Calls Try.prog 72 #[.slice A xs.length c] w fun e w' => e = .returned (.slice A xs.length c) ∧ Below w.heap.size w w' := by
  have hln := hr.1
  obtain ⟨w0, rfl⟩ : ∃ w0, w0 = w := ⟨_, rfl⟩
  by_cases h2 : 2 < xs.length
  · have d1 : decide ((2 : Int) < (xs.length : Int)) = true := decide_eq_true (by omega)
    obtain ⟨b, off, rfl, hlt, hc⟩ := hr.all (by omega)
    obtain ⟨a0, a1⟩ := hc (xs.length - 3) (by omega)
    obtain ⟨b0, b1⟩ := hc (xs.length - 2) (by omega)
    obtain ⟨c0, c1⟩ := hc (xs.length - 1) (by omega)
    have hne := hb h2
    have hcall := fun W => tnLefter_ (xs.getD (xs.length - 3) (0, 0)) (xs.getD (xs.length - 2) (0, 0)) (xs.getD (xs.length - 1) (0, 0)) W
    generalize xs.getD (xs.length - 3) (0, 0) = p at *
    generalize xs.getD (xs.length - 2) (0, 0) = q at *
    generalize xs.getD (xs.length - 1) (0, 0) = r at *
    have t3 : IntKind.i64.wrap ((xs.length : Int) - 3) = ((xs.length - 3 : Nat) : Int) := by rw [IntWalk.i64_in _ (by omega)]; omega
    have t2 : IntKind.i64.wrap ((xs.length : Int) - 2) = ((xs.length - 2 : Nat) : Int) := by rw [IntWalk.i64_in _ (by omega)]; omega
    have t1 : IntKind.i64.wrap ((xs.length : Int) - 1) = ((xs.length - 1 : Nat) : Int) := by rw [IntWalk.i64_in _ (by omega)]; omega
    have s3 : (0 : Int) ≤ ((xs.length - 3 : Nat) : Int) ∧ ((xs.length - 3 : Nat) : Int) < (xs.length : Int) := by omega
    have s2 : (0 : Int) ≤ ((xs.length - 2 : Nat) : Int) ∧ ((xs.length - 2 : Nat) : Int) < (xs.length : Int) := by omega
    have s1 : (0 : Int) ≤ ((xs.length - 1 : Nat) : Int) ∧ ((xs.length - 1 : Nat) : Int) < (xs.length : Int) := by omega
    obtain ⟨s31, s32⟩ := s3
    obtain ⟨s21, s22⟩ := s2
    obtain ⟨s11, s12⟩ := s1
    have hN : (2 : Int) < (xs.length : Int) := by omega
    clear hr hc hb h2
    generalize hk3 : xs.length - 3 = k3 at *
    generalize hk2 : xs.length - 2 = k2 at *
    generalize hk1 : xs.length - 1 = k1 at *
    generalize lfV p q r = V at *
    have d2 : (V == 0) = false := by simpa using hne
    have HLN := Lib.hid hln; have HNE := Lib.hid hne; have HCALL := Lib.hid hcall; have HK3 := Lib.hid hk3; have HK2 := Lib.hid hk2; have HK1 := Lib.hid hk1; clear hln hne hcall hk3 hk2 hk1
    go_enter Try.func72, Try.ntmps72
    go_upto_region 2 with fail
    have hbelc : ∀ (u : Bel w0.heap.size w0) b o, b < w0.heap.size → u.wd.cell? ⟨b, o, none⟩ = w0.cell? ⟨b, o, none⟩ := fun u b o h => u.h.cell (p := ⟨b, o, none⟩) h
    have hbeln : Nonempty (Bel w0.heap.size w0) := ⟨⟨w0, Below.refl _ _⟩⟩
    refine wp_region_bel w0.heap.size (by kernel_rfl) (by kernel_rfl) ?_
    repeat (go_big_quiet_step ((go_at_call 111; exact quiet_bel (Nat.le_refl _) (HCALL.out _))))
    refine wpQuiet_nil ?_
    intro wB hB0; obtain ⟨uB, hu⟩ := hB0; have hbB0 := uB.h; rw [← hu] at hbB0; clear hu uB hbelc hbeln
    obtain ⟨hbB, hcB, hsB⟩ := bcell2 hbB0; clear hbB0
    have HBB := Lib.hid hbB; clear hbB
    clear hcB hsB
    go_wp2
    go_ret
    exact ⟨rfl, HBB.out⟩
  · have d1 : decide ((2 : Int) < (xs.length : Int)) = false := decide_eq_false (by omega)
    clear hb
    have HR := Lib.hid hr; have HLN := Lib.hid hln; clear hr hln
    go_enter Try.func72, Try.ntmps72
    go_upto_region 2 with fail
    have hbelc : ∀ (u : Bel w0.heap.size w0) b o, b < w0.heap.size → u.wd.cell? ⟨b, o, none⟩ = w0.cell? ⟨b, o, none⟩ := fun u b o h => u.h.cell (p := ⟨b, o, none⟩) h
    have hbeln : Nonempty (Bel w0.heap.size w0) := ⟨⟨w0, Below.refl _ _⟩⟩
    refine wp_region_bel w0.heap.size (by kernel_rfl) (by kernel_rfl) ?_
    repeat (go_big_quiet_step ((fail)))
    refine wpQuiet_nil ?_
    intro wB hB0; obtain ⟨uB, hu⟩ := hB0; have hbB0 := uB.h; rw [← hu] at hbB0; clear hu uB hbelc hbeln
    obtain ⟨hbB, hcB, hsB⟩ := bcell2 hbB0; clear hbB0
    have HBB := Lib.hid hbB; clear hbB
    clear hcB hsB
    go_wp2
    go_ret
    exact ⟨rfl, HBB.out⟩
end Go.Proofs.Ytlmhgcllikcedaa
