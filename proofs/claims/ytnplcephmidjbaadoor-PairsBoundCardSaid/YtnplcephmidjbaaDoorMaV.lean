/- Texts of this claim, laid together: RRows, RBefore. -/
import Derived.Test.YtnplcephmidjbaaDoorMaB
import Derived.Test.YtnplcephmidjbaaDoorMaC
import Derived.Test.YtnplcephmidjbaaDoorMaU
/- The reference's rows: which works are before each work. -/
namespace Go.Proofs.YtnplcephmidjbaaDoor
open Go.RowKit

/-- The row of work b, after its first a works. -/
def rowF (pls : Nat → Nat) (M : Nat → Nat → Bool) (b : Nat) : Nat → Nat → Bool
  | 0, _ => false
  | a + 1, x => if tP (pls a) (pls b) = true then rowF pls M b a x || decide (x = a) || (decide (x < a) && M a x) else rowF pls M b a x
/-- The row while a row is put into it. -/
def inF (pls : Nat → Nat) (M : Nat → Nat → Bool) (b a c x : Nat) : Bool := rowF pls M b a x || decide (x = a) || (decide (x < c) && M a x)
theorem rowF_iff {pls : Nat → Nat} {M : Nat → Nat → Bool} {b : Nat} : ∀ {a x : Nat}, rowF pls M b a x = true ↔ ∃ a', a' < a ∧ tP (pls a') (pls b) = true ∧ (x = a' ∨ x < a' ∧ M a' x = true)
  | 0, x => ⟨(fun h => by cases h), (fun ⟨_, h, _⟩ => absurd h (by omega))⟩
  | a + 1, x => by
    unfold rowF
    by_cases ht : tP (pls a) (pls b) = true
    · rw [if_pos ht, Bool.or_eq_true, Bool.or_eq_true, Bool.and_eq_true, decide_eq_true_eq, decide_eq_true_eq, rowF_iff]
      constructor
      · rintro ((⟨a', h1, h2, h3⟩ | h) | h)
        · exact ⟨a', by omega, h2, h3⟩
        · exact ⟨a, by omega, ht, .inl h⟩
        · exact ⟨a, by omega, ht, .inr h⟩
      · rintro ⟨a', h1, h2, h3⟩
        by_cases he : a' = a
        · subst he
          rcases h3 with h3 | h3
          · exact .inl (.inr h3)
          · exact .inr h3
        · exact .inl (.inl ⟨a', by omega, h2, h3⟩)
    · rw [if_neg ht, rowF_iff]
      constructor
      · rintro ⟨a', h1, h2, h3⟩; exact ⟨a', by omega, h2, h3⟩
      · rintro ⟨a', h1, h2, h3⟩
        by_cases he : a' = a
        · subst he; exact absurd h2 ht
        · exact ⟨a', by omega, h2, h3⟩
/-- Which works are before which. -/
def befM (P : Nat) (ws : List GW) (b a : Nat) : Bool := (setsOf P ws b).testBit a
theorem rowF_bef {P : Nat} {ws : List GW} {b : Nat} (hb : b < ws.length) (x : Nat) : rowF (plsOf ws) (befM P ws) b b x = befM P ws b x := by
  have h : rowF (plsOf ws) (befM P ws) b b x = true ↔ befM P ws b x = true := by
    rw [rowF_iff]
    unfold befM
    rw [setsOf_bef hb]
    constructor
    · rintro ⟨a', h1, h2, h3⟩
      rcases h3 with rfl | ⟨_, h3⟩
      · exact .one h1 h2
      · exact .step ((setsOf_bef (by omega) x).1 h3) h1 h2
    · intro h
      cases h with
      | one h1 h2 => exact ⟨x, h1, h2, .inl rfl⟩
      | step h1 h2 h3 => exact ⟨_, h2, h3, .inr ⟨h1.lt, (setsOf_bef (by omega) x).2 h1⟩⟩
  cases h1 : rowF (plsOf ws) (befM P ws) b b x <;> cases h2 : befM P ws b x <;> simp [h1, h2] at h ⊢
theorem inF_zero (pls : Nat → Nat) (M : Nat → Nat → Bool) (b a x : Nat) : inF pls M b a 0 x = (rowF pls M b a x || decide (x = a)) := by unfold inF; simp
theorem inF_last {pls : Nat → Nat} {M : Nat → Nat → Bool} {b a : Nat} (ht : tP (pls a) (pls b) = true) (x : Nat) : inF pls M b a a x = rowF pls M b (a + 1) x := by
  rw [rowF, if_pos ht]; rfl
theorem inF_step (pls : Nat → Nat) (M : Nat → Nat → Bool) (b a c x : Nat) : inF pls M b a (c + 1) x = if x = c then (inF pls M b a c c || M a c) else inF pls M b a c x := by
  unfold inF
  by_cases h : x = c
  · subst h; simp
  · rw [if_neg h]
    congr 2
    rw [decide_eq_decide]
    omega
theorem tP_touch {ws : List GW} {a b : Nat} (ha : a < ws.length) (hb : b < ws.length) (h1 : 0 ≤ ws[a].pl) (h2 : 0 ≤ ws[b].pl) : touchB ws[a].pl ws[b].pl = tP (plsOf ws a) (plsOf ws b) := by
  unfold touchB tP plsOf
  rw [show ws.getD a gwE = ws[a] by simp [List.getD_eq_getElem?_getD, ha], show ws.getD b gwE = ws[b] by simp [List.getD_eq_getElem?_getD, hb], decide_eq_decide]
  omega
def rowV (R : Nat → Nat) (n k : Nat) : List Value := (List.range k).map fun b => Value.slice (some ⟨R b, 0, none⟩) n n
theorem rowV_len (R : Nat → Nat) (n k : Nat) : (rowV R n k).length = k := by unfold rowV; simp
theorem rowV_get {R : Nat → Nat} {n k b : Nat} (h : b < k) : (rowV R n k)[b]? = some (Value.slice (some ⟨R b, 0, none⟩) n n) := by unfold rowV; simp [h]
theorem rowV_put (R : Nat → Nat) (n k q : Nat) : rowV (updF R k q) n (k + 1) = rowV R n k ++ [Value.slice (some ⟨q, 0, none⟩) n n] := by
  unfold rowV
  rw [List.range_succ, List.map_append]
  congr 1
  · apply List.map_congr_left
    intro b hb
    rw [updF_other]
    have := List.mem_range.1 hb
    omega
  · simp [updF_same]
theorem box1_grown {w w1 w2 : World} {p : Int} {A : Option Addr} {c n : Nat} (h : Box1 w w1 p A c n) {row : Option Nat} (hg : w1.grownBy w2 row) (hr : ∀ k, row = some k → w.heap.size < k) : Box1 w w2 p A c n :=
  ⟨(hg.cell_far ⟨w.heap.size, 0, none⟩ h.2.2 (fun e => by have := hr _ e.symm; simp at this)).trans h.1, (hg.cell_far ⟨w.heap.size, 1, none⟩ h.2.2 (fun e => by have := hr _ e.symm; simp at this)).trans h.2.1, Nat.lt_of_lt_of_le h.2.2 hg.size⟩
def RowsPost (P : Nat) (ws : List GW) (w : World) (e : Ending) (w' : World) : Prop := ∃ A c, e = .returned (.slice A ws.length c) ∧ MatB w' A ws.length (befM P ws) ∧ Below w.heap.size w w'

set_option maxRecDepth 100000 in
set_option maxHeartbeats 8000000 in
theorem rRows_ (P : Nat) (A : Option Addr) (c : Nat) (ws : List GW) (w : World) (hok : errSheet P ws = 0) (ha : RdW w A ws) :
    Calls Tryd.prog 60 #[.agg #[.int .i64 (P : Int), .slice A ws.length c]] w (RowsPost P ws w) := by
  obtain ⟨hp2, hp24, hn, hall⟩ := okAll hok
  have hb2 : Below w.heap.size w (w.alloc (.cells #[.int .i64 (P : Int), .slice A ws.length c] 24)) := (Below.refl _ _).alloc (Nat.le_refl _) _
  have hbx := Box1.made w (P : Int) A c ws.length 24
  have HA := Lib.hid ha; have HB2 := Lib.hid hb2; have HALL := Lib.hid hall; have HOK := Lib.hid hok; have HBX := Lib.hid hbx; clear ha hb2 hall hok hbx
  go_enter Tryd.func60, Tryd.ntmps60
  go_wp2
  go_loopw [3, 4] (fun v iv wr => ∃ (k : Nat) (R : Nat → Nat), iv = .int .i64 k ∧ k ≤ ws.length ∧ Box1 w wr P A c ws.length ∧ wr.ownsRow (w.heap.size + 1) 76 1 v (rowV R ws.length k).length (rowV R ws.length k) ∧ (∀ b, b < k → w.heap.size < R b ∧ BoB wr (R b) ws.length (befM P ws b)) ∧ Below w.heap.size w wr) (fun _ iv _ => ws.length - (intOf iv).toNat)
  case atStart => exact ⟨0, fun _ => 0, rfl, Nat.zero_le _, HBX.out, World.ownsRow_nil _ _ _ _, fun b h => absurd h (by omega), HB2.out⟩
  case round =>
    obtain ⟨k, R, rfl, hk, hx, hown, hrows, hbw⟩ := hrel
    obtain ⟨wq, rfl⟩ : ∃ wq : World, wq = wr := ⟨_, rfl⟩
    obtain ⟨c0, c1, hs0⟩ := hx
    have hx1 : Hid (Box1 w wq P A c ws.length) := ⟨c0, c1, hs0⟩
    obtain ⟨OA, oc, rfl⟩ := own_slice1 hown
    by_cases hlt : k < ws.length
    · have hmk := run_make_row' (P := Tryd.prog) 76 4 (.bool false) 1 Tryd.underlying76 infoB_Tryd rfl .i64 .i64 ws.length (by omega) (by omega)
      have hm0 := BoB.made wq ws.length
      have hx2 : Box1 w (wq.alloc (.cells (madeCells #[.bool false] ws.length) 4)) P A c ws.length := hx1.out.later ((Below.refl _ _).alloc (Nat.le_refl _) _)
      have hB0 : Below (wq.heap.size + 1) (wq.alloc (.cells (madeCells #[.bool false] ws.length) 4)) (wq.alloc (.cells (madeCells #[.bool false] ws.length) 4)) := Below.refl _ _
      have HOWN := Lib.hid hown; have HROWS := Lib.hid hrows; have HBW := Lib.hid hbw; have HM0 := Lib.hid hm0; have HX2 := Lib.hid hx2; have HB0 := Lib.hid hB0; clear hown hrows hbw hm0 hx2 hB0
      go_wp2
      clear hmk
      go_loopw [6] (fun iv wr => ∃ a : Nat, iv = .int .i64 a ∧ a ≤ k ∧ BoB wr wq.heap.size ws.length (rowF (plsOf ws) (befM P ws) k a) ∧ Below wq.heap.size wq wr) (fun iv _ => k - (intOf iv).toNat)
      case atStart => exact ⟨0, rfl, Nat.zero_le _, HM0.out, (Below.refl _ _).alloc (Nat.le_refl _) _⟩
      case round =>
        clear HM0 HX2 HB0
        obtain ⟨a, rfl, hak, hro, hbr⟩ := hrel
        have hxr := hx1.out.later hbr
        obtain ⟨d0, d1, ds0⟩ := hxr
        have hrl := hro.lt
        by_cases hal : a < k
        · have haw : a < ws.length := by omega
          have hbq := HBW.out.trans (hbr.mono HBW.out.size)
          obtain ⟨b, off, rfl, hbL, t1, t2, t3⟩ := (HA.out.later hbq (Nat.le_refl _)).at_ haw
          obtain ⟨b', off', hA', _, u1, u2, u3⟩ := (HA.out.later hbq (Nat.le_refl _)).at_ hlt
          injection hA' with hA'; injection hA' with hA1 hA2; subst hA1; subst hA2
          obtain ⟨_, p1, p2, _⟩ := HALL.out ws[a] (List.getElem_mem haw)
          obtain ⟨_, p3, p4, _⟩ := HALL.out ws[k] (List.getElem_mem hlt)
          have htp := tP_touch haw hlt p1 p3
          have x1 : (0 : Int) ≤ (a : Int) := by omega
          have x2 : (a : Int) < (ws.length : Int) := by omega
          have x3 : (0 : Int) ≤ (k : Int) := by omega
          have x4 : (k : Int) < (ws.length : Int) := by omega
          by_cases ht : touchB ws[a].pl ws[k].pl = true
          rotate_left
          · have ht' : touchB ws[a].pl ws[k].pl = false := by simpa using ht
            have hro2 : BoB wr wq.heap.size ws.length (rowF (plsOf ws) (befM P ws) k (a + 1)) := hro.congr fun x _ => by rw [rowF, if_neg (by rw [← htp]; exact ht)]
            clear ht
            generalize ws[a].pl = pa at *
            generalize ws[k].pl = pb at *
            have HRO := Lib.hid hro; have HRO2 := Lib.hid hro2; have HBR := Lib.hid hbr; have HBQ := Lib.hid hbq; have HTP := Lib.hid htp; clear hro hro2 hbr hbq htp
            go_wp2
            go_region_held3 (fun wX => Below wr.heap.size wr wX ∧ (∀ b o, b < wr.heap.size → wX.cell? ⟨b, o, none⟩ = wr.cell? ⟨b, o, none⟩) ∧ wr.heap.size ≤ wX.heap.size) ((refine bcell2 ?_; first | exact (Below.refl _ _).drew | exact ‹Below wr.heap.size wr _ ∧ _›.1.trans (hbH.mono ‹Below wr.heap.size wr _ ∧ _›.1.size) | exact ‹Below wr.heap.size wr _ ∧ _›.1.alloc ‹Below wr.heap.size wr _ ∧ _›.1.size _ | exact ‹Below wr.heap.size wr _ ∧ _›.1)) ((first | (go_at_call 42; refine (touch_ _ _ _ _ _ _ _ (by omega) (by omega) (by omega) (by omega)).mono ?_; rintro e w2 ⟨rfl, hbH⟩)))
            obtain ⟨hbX, hcX, hsX⟩ := ‹Below wr.heap.size wr _ ∧ _›
            have q1 := HRO2.out.later hbX
            have q2 := HBR.out.trans (hbX.mono HBR.out.size)
            clear hbX hcX
            have Q1 := Lib.hid q1; have Q2 := Lib.hid q2; clear q1 q2
            go_wp2
            go_roundw
            case rel => exact ⟨a + 1, by go_num, by omega, Q1.out, Q2.out⟩
            case measure => simp [intOf]; omega
          · have htq : tP (plsOf ws a) (plsOf ws k) = true := by rw [← htp]; exact ht
            generalize ws[a].pl = pa at *
            generalize ws[k].pl = pb at *
            have HRO := Lib.hid hro; have HBR := Lib.hid hbr; have HBQ := Lib.hid hbq; have HTP := Lib.hid htp; have HTQ := Lib.hid htq; clear hro hbr hbq htp htq
            go_wp2
            go_region_held3 (fun wX => Below wr.heap.size wr wX ∧ (∀ b o, b < wr.heap.size → wX.cell? ⟨b, o, none⟩ = wr.cell? ⟨b, o, none⟩) ∧ wr.heap.size ≤ wX.heap.size) ((refine bcell2 ?_; first | exact (Below.refl _ _).drew | exact ‹Below wr.heap.size wr _ ∧ _›.1.trans (hbH.mono ‹Below wr.heap.size wr _ ∧ _›.1.size) | exact ‹Below wr.heap.size wr _ ∧ _›.1.alloc ‹Below wr.heap.size wr _ ∧ _›.1.size _ | exact ‹Below wr.heap.size wr _ ∧ _›.1)) ((first | (go_at_call 42; refine (touch_ _ _ _ _ _ _ _ (by omega) (by omega) (by omega) (by omega)).mono ?_; rintro e w2 ⟨rfl, hbH⟩)))
            obtain ⟨hbX, hcX, hsX⟩ := ‹Below wr.heap.size wr _ ∧ _›
            have q1 := HRO.out.later hbX
            have q2 := HBR.out.trans (hbX.mono HBR.out.size)
            have q3 := HRO.out.at_ (show a < ws.length from haw)
            have q3' := q1.at_ (show a < ws.length from haw)
            have q4 := q1.free a
            have q5 : BoB (w2.setCell ⟨wq.heap.size, a, none⟩ (.bool true)) wq.heap.size ws.length (inF (plsOf ws) (befM P ws) k a 0) := (q1.put a true).congr fun x _ => by
              rw [inF_zero]
              by_cases h : x = a
              · simp [h]
              · simp [h]
            have q6 : Below wq.heap.size wq (w2.setCell ⟨wq.heap.size, a, none⟩ (.bool true)) := q2.setCell (Nat.le_refl _) _
            have hrl2 : wq.heap.size < w2.heap.size := Nat.lt_of_lt_of_le hrl hsX
            clear hbX hcX
            have Q1 := Lib.hid q1; have Q2 := Lib.hid q2; have Q5 := Lib.hid q5; have Q6 := Lib.hid q6; clear q1 q2 q5 q6
            go_wp2
            go_loopw [7] (fun iv wr => ∃ x : Nat, iv = .int .i64 x ∧ x ≤ a ∧ BoB wr wq.heap.size ws.length (inF (plsOf ws) (befM P ws) k a x) ∧ Below wq.heap.size wq wr) (fun iv _ => a - (intOf iv).toNat)
            case atStart => exact ⟨0, rfl, Nat.zero_le _, Q5.out, Q6.out⟩
            case round =>
              clear Q1 Q2 Q5 Q6 q3 q3' q4 hsX hrl2
              obtain ⟨x, rfl, hxa, hro, hbr⟩ := hrel
              have hxr := hx1.out.later hbr
              have hrl := hro.lt
              by_cases hxl : x < a
              · have y1 : (0 : Int) ≤ (x : Int) := by omega
                have y2 : (x : Int) < (ws.length : Int) := by omega
                have hxw : x < ws.length := by omega
                have e1 := hro.at_ hxw
                have e2 := hro.free x
                obtain ⟨gb, gcap, hgv, _⟩ := HOWN.out.form (show 0 < (rowV R ws.length k).length by rw [rowV_len]; omega)
                injection hgv with hgA hgn hgc
                subst hgA
                have e3 := HOWN.out.cellAt a (by rw [rowV_len]; omega)
                have e3' : wq.cell? ⟨gb, a, none⟩ = some (.slice (some ⟨R a, 0, none⟩) ws.length ws.length) := by rw [e3, rowV_get hal]
                have hgl := World.block_lt_of_cell? wq _ e3'
                have e4 := below_at hbr (Nat.le_refl _) e3'
                obtain ⟨hRa, hRo⟩ := HROWS.out a hal
                have e5 := below_at hbr (Nat.le_refl _) (hRo.at_ hxw)
                have hst := inF_step (plsOf ws) (befM P ws) k a x
                have y3 : (a : Int) < ((rowV R ws.length k).length : Int) := by rw [rowV_len]; omega
                clear e3 e3'
                generalize hcv : inF (plsOf ws) (befM P ws) k a x x = cv at *
                generalize hmv : befM P ws a x = mv at *
                have q5 : BoB (wr.setCell ⟨wq.heap.size, x, none⟩ (.bool (cv || mv))) wq.heap.size ws.length (inF (plsOf ws) (befM P ws) k a (x + 1)) := (hro.put x (cv || mv)).congr fun y _ => by
                  rw [hst y]
                have q6 : Below wq.heap.size wq (wr.setCell ⟨wq.heap.size, x, none⟩ (.bool (cv || mv))) := hbr.setCell (Nat.le_refl _) _
                clear hst
                cases cv with
                | true =>
                  rw [Bool.true_or] at q5 q6
                  have HRO := Lib.hid hro; have HBR := Lib.hid hbr; have HCV := Lib.hid hcv; have HMV := Lib.hid hmv; have Q5 := Lib.hid q5; have Q6 := Lib.hid q6; have HRO := Lib.hid hRo; clear hro hbr hcv hmv q5 q6 hRo
                  go_wp2
                  go_roundw
                  case rel => exact ⟨x + 1, by go_num, by omega, Q5.out, Q6.out⟩
                  case measure => simp [intOf]; omega
                | false =>
                  rw [Bool.false_or] at q5 q6
                  have HRO := Lib.hid hro; have HBR := Lib.hid hbr; have HCV := Lib.hid hcv; have HMV := Lib.hid hmv; have Q5 := Lib.hid q5; have Q6 := Lib.hid q6; have HRO := Lib.hid hRo; clear hro hbr hcv hmv q5 q6 hRo
                  go_wp2
                  go_roundw
                  case rel => exact ⟨x + 1, by go_num, by omega, Q5.out, Q6.out⟩
                  case measure => simp [intOf]; omega
              · obtain rfl : x = a := by omega
                have hro2 : BoB wr wq.heap.size ws.length (rowF (plsOf ws) (befM P ws) k (x + 1)) := hro.congr fun y _ => inF_last HTQ.out y
                have HRO := Lib.hid hro; have HRO2 := Lib.hid hro2; have HBR := Lib.hid hbr; clear hro hro2 hbr
                go_wp2
                go_roundw
                case rel => exact ⟨x + 1, by go_num, by omega, HRO2.out, HBR.out⟩
                case measure => simp [intOf]; omega
        · obtain rfl : a = k := by omega
          have hro2 : BoB wr wq.heap.size ws.length (befM P ws a) := hro.congr fun y _ => rowF_bef hlt y
          have hown2 := own_below3 HOWN.out hbr
          have hlo := HOWN.out.lt
          have hbq := HBW.out.trans (hbr.mono HBW.out.size)
          have hrw2 : ∀ b, b < a → w.heap.size < R b ∧ BoB wr (R b) ws.length (befM P ws b) := fun b hb => ⟨(HROWS.out b hb).1, (HROWS.out b hb).2.later hbr⟩
          have hNR : ∀ b, b < a → R b < wq.heap.size := fun b hb => (HROWS.out b hb).2.lt
          have hTy : ∀ b, b < a → some (R b) ≠ (Value.slice OA (rowV R ws.length a).length oc).ownBlock := fun b hb => own_ne_type HOWN.out (HROWS.out b hb).2 (by decide)
          have hsr := hbr.size
          have hNq : some wq.heap.size ≠ (Value.slice OA (rowV R ws.length a).length oc).ownBlock := fun h => by have := (hlo _ h.symm).2; omega
          have hpt := rowV_put R ws.length a wq.heap.size
          have hrln := rowV_len R ws.length a
          generalize hRV : rowV R ws.length a = RV at *
          have HRO := Lib.hid hro; have HRO2 := Lib.hid hro2; have HOWN2 := Lib.hid hown2; have HLO := Lib.hid hlo; have HBQ := Lib.hid hbq; have HRW2 := Lib.hid hrw2; have HTY := Lib.hid hTy; have HBR := Lib.hid hbr; have HNQ := Lib.hid hNq; have HPT := Lib.hid hpt; have HRLN := Lib.hid hrln; have HRV := Lib.hid hRV; clear hro hro2 hown2 hlo hbq hrw2 hTy hbr hNq hpt hrln hRV
          go_wp2_with (at_builtin; go_must (refine wpList_appB_Tryd rfl _ _ rfl (w.heap.size + 1) (.slice OA RV.length oc) RV rfl (by repeat (first | exact HOWN2.out | refine World.ownsRow.alloc ?_ _ | refine own_drewN ?_ _)) wr.heap.size (some ⟨wq.heap.size, 0, none⟩) ws.length ws.length rfl (heap_alloc_new _ _) (by rw [HRLN.out]; omega) (by simp; omega) ?_); intro g cap w6 hown6 hgrow hat6 hlt6)
          have r1 : Box1 w w6 P A c ws.length := box1_grown ((hx1.out.later HBR.out).later ((Below.refl _ _).alloc (Nat.le_refl _) _)) hgrow (fun j hj => (HLO.out j hj).1)
          have r2 : Below w.heap.size w w6 := (HBQ.out.alloc HBQ.out.size _).grown hgrow (by have := HBQ.out.size; simp; omega) (fun j hj => by have := (HLO.out j hj).1; omega)
          have r3 : ∀ b, b < a + 1 → w.heap.size < updF R a wq.heap.size b ∧ BoB w6 (updF R a wq.heap.size b) ws.length (befM P ws b) := fun b hb => by
            by_cases he : b = a
            · subst he
              rw [updF_same]
              exact ⟨hs0, (HRO2.out.later ((Below.refl _ _).alloc (Nat.le_refl _) _)).kept hgrow HNQ.out⟩
            · rw [updF_other _ _ (fun e => he e.symm)]
              exact ⟨(HRW2.out b (by omega)).1, ((HRW2.out b (by omega)).2.later ((Below.refl _ _).alloc (Nat.le_refl _) _)).kept hgrow (HTY.out b (by omega))⟩
          have R1 := Lib.hid r1; have R2 := Lib.hid r2; have R3 := Lib.hid r3; have HOWN6 := Lib.hid hown6; have HGROW := Lib.hid hgrow; clear r1 r2 r3 hown6 hgrow
          go_wp2
          go_roundw
          case rel => exact ⟨a + 1, updF R a wq.heap.size, by go_num, by omega, R1.out, by rw [HPT.out]; exact HOWN6.out, R3.out, R2.out⟩
          case measure => simp [intOf]; omega
    · obtain rfl : k = ws.length := by omega
      have hmat : MatB wq OA ws.length (befM P ws) := fun b hb => by
        obtain ⟨gb, gcap, hgv, _⟩ := hown.form (show 0 < (rowV R ws.length ws.length).length by rw [rowV_len]; omega)
        injection hgv with hgA hgn hgc
        subst hgA
        have e3 := hown.cellAt b (by rw [rowV_len]; omega)
        have e3' : wq.cell? ⟨gb, b, none⟩ = some (.slice (some ⟨R b, 0, none⟩) ws.length ws.length) := by rw [e3, rowV_get hb]
        obtain ⟨_, hRo⟩ := hrows b hb
        exact ⟨gb, 0, R b, rfl, World.block_lt_of_cell? wq _ e3', by rw [Nat.zero_add]; exact e3', hRo.lt, fun a ha => hRo.at_ ha⟩
      have hrl := rowV_len R ws.length ws.length
      rw [hrl] at hown ⊢
      have HOWN := Lib.hid hown; have HROWS := Lib.hid hrows; have HBW := Lib.hid hbw; have HMAT := Lib.hid hmat; clear hown hrows hbw hmat
      go_wp2
      go_ret
      exact ⟨_, _, rfl, HMAT.out, HBW.out⟩
end Go.Proofs.YtnplcephmidjbaaDoor
/- The reference's Before. -/
namespace Go.Proofs.YtnplcephmidjbaaDoor
open Go.RowKit

theorem ask_zero {p a b : Int} {ws : List GW} (he : askErr p ws [a, b] = 0) : errSheet p ws = 0 ∧ (0 ≤ a ∧ a < ws.length) ∧ 0 ≤ b ∧ b < ws.length := by
  unfold askErr at he
  split at he
  · rename_i hok
    refine ⟨hok, ?_⟩
    split at he
    · cases he
    · rename_i h
      have hin : [a, b].any (badI ws.length) = false := by simpa using h
      simp [badI] at hin
      omega
  · rename_i h; exact absurd he h
set_option maxRecDepth 100000 in
set_option maxHeartbeats 4000000 in
theorem rBefore_ (p a b : Int) (A : Option Addr) (c : Nat) (ws : List GW) (w : World) (hsh : ShIn w p A ws) :
    Calls Tryd.prog 51 #[.agg #[.int .i64 p, .slice A ws.length c], .int .i64 a, .int .i64 b] w fun e w' => e = .returned (.tuple #[.bool (befB p ws a b), .int .i64 (askErr p ws [a, b])]) ∧ Below w.heap.size w w' := by
  have hb2 : Below w.heap.size w (w.alloc (.cells #[.int .i64 p, .slice A ws.length c] 24)) := (Below.refl _ _).alloc (Nat.le_refl _) _
  have hbx := Box1.made w p A c ws.length 24
  have HSH := Lib.hid hsh; have HB2 := Lib.hid hb2; have HBX := Lib.hid hbx; clear hsh hb2 hbx
  go_enter Tryd.func51, Tryd.ntmps51
  go_wp2_with fail
  refine (rTwo_ p a b A c ws _ (HSH.out.later HB2.out (Nat.le_refl _))).mono ?_
  rintro e w1 ⟨rfl, hb1⟩
  have hx1 := HBX.out.later hb1
  have Y1 := Lib.hid (HB2.out.trans (hb1.mono (by simp))); clear hb1 HBX
  obtain ⟨c0, c1, hs0⟩ := hx1
  by_cases he : askErr p ws [a, b] = 0
  rotate_left
  · have hr : befB p ws a b = false := by unfold befB; simp [he]
    generalize hge : askErr p ws [a, b] = E at *
    have HR := Lib.hid hr; have HGE := Lib.hid hge; clear hr hge
    go_wp2
    go_ret2
    refine ⟨?_, Y1.out⟩
    rw [HR.out]
    try rw [HGE.out]
    rfl
  obtain ⟨hok, ⟨z1, z2⟩, z3, z4⟩ := ask_zero he
  obtain ⟨hp3, hp24, hn, hall⟩ := okAll hok
  obtain ⟨P, rfl⟩ := Int.eq_ofNat_of_zero_le (show 0 ≤ p by omega)
  obtain ⟨i, rfl⟩ := Int.eq_ofNat_of_zero_le z1
  obtain ⟨k, rfl⟩ := Int.eq_ofNat_of_zero_le z3
  have hr : befB P ws i k = befM P ws k i := by unfold befB befM; rw [he]; rfl
  have hil : i < ws.length := by omega
  have hkl : k < ws.length := by omega
  have hce := he
  rw [he]
  clear he
  have HR := Lib.hid hr; have HCE := Lib.hid hce; have HOK := Lib.hid hok; have HALL := Lib.hid hall; clear hr hce hok hall
  go_wp2_with fail
  refine (rRows_ P A c ws _ HOK.out (HSH.out.rd.later Y1.out (Nat.le_refl _))).mono ?_
  rintro e w2 ⟨RA, rc, rfl, hM, hb2⟩
  obtain ⟨g, o, R, rfl, hg, m1, hR, m2⟩ := hM k hkl
  have m3 := m2 i hil
  clear m2 hM
  have Y2 := Lib.hid (Y1.out.trans (hb2.mono Y1.out.size)); clear hb2
  generalize befM P ws k i = mv at *
  go_wp2
  go_ret2
  refine ⟨?_, Y2.out⟩
  rw [HR.out, HCE.out]
  rfl
end Go.Proofs.YtnplcephmidjbaaDoor
