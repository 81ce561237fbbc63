/- Texts of this claim, laid together: TnLarge, TnLTri. -/
import Derived.Test.YtlmhgcllikcedaaMaI
import Derived.Test.YtlmhgcllikcedaaMaM
/- Has a thread points far out? -/
namespace Go.Proofs.Ytlmhgcllikcedaa
open Go.RowKit

/-- The value of a thread. -/
def thrC (t : Thr) (ga : Option Addr) (gc : Nat) (ra : Option Addr) (rc : Nat) : Array Value := #[.int .i64 t.o.1, .int .i64 t.o.2, .int .i64 t.p.1, .int .i64 t.p.2, .slice ga t.gs.length gc, .slice ra t.giv.length rc]
def gPts (gs : List Gt) : List (Int × Int) := gs.flatMap fun g => [g.l, g.r]
def bigP (p : Int × Int) : Bool := ((decide (1000 < p.1) || decide (p.1 < -1000)) || decide (1000 < p.2)) || decide (p.2 < -1000)
def bigT (t : Thr) : Bool := ([t.o, t.p] ++ gPts t.gs).any bigP
theorem gPts_length : ∀ gs, (gPts gs).length = gs.length * 2
  | [] => rfl
  | g :: gs => by
    have ih := gPts_length gs
    unfold gPts at ih ⊢
    simp only [List.flatMap_cons, List.length_append, List.length_cons, List.length_nil, ih]
    omega
theorem gPts_snoc (gs : List Gt) (g : Gt) : gPts (gs ++ [g]) = gPts gs ++ [g.l, g.r] := by unfold gPts; simp
theorem step_app2Po_Try {ops : Array Oper} {o : Oper} {a : Act} {K : Act → World → Prop} {Q : Exit → Act → World → Prop} {E : Prop} {w : World} (hgd : o.guard = none) (s x : Operand)
    (ho : o.op = .call { callee := .builtin .append, args := #[s, x], argTypes := #[39, 39] })
    (base : Nat) (v : Value) (xs : List (Int × Int)) (hs : a.eval s = v) (hown : w.ownsRow base 45 2 v xs.length (rootC xs)) (b : Nat) (z y : Int × Int) (hx : a.eval x = .slice (some ⟨b, 0, none⟩) 2 2)
    (hb : w.heap[b]? = some (.cells #[.int .i64 z.1, .int .i64 z.2, .int .i64 y.1, .int .i64 y.2] 45 (0, 0))) (hn : xs.length ≤ 1000000) (hbase : base ≤ w.heap.size)
    (h : ∀ g cap w', w'.ownsRow base 45 2 (.slice (some ⟨g, 0, none⟩) (xs.length + 2) cap) (xs ++ [z, y]).length (rootC (xs ++ [z, y])) → w.grownBy w' v.ownBlock → (v.ownBlock = some g ∨ g = w.heap.size) → g < w'.heap.size →
      K (a.put o.dst (.slice (some ⟨g, 0, none⟩) (xs.length + 2) cap)) w') :
    if Region.wanted o (yielded ops a.tmps) = true then Oper.wp Try.prog o a w K Q else E := by
  obtain ⟨i0, hi, hz0, hz1, hz2⟩ := info_parts infoPo_Try
  refine step_append_lies w hgd s x 39 ho base 45 i0 _ 2 16 Try.underlying39 hi hz0 hz1 hz2 rfl (by omega) v xs.length (rootC xs) hs hown ⟨b, 0, none⟩ 2 2 (rootC [z, y]) hx rfl
    (World.news_of_block hb) (rootC_one [z, y]) (by omega) (by unfold maxLen; omega) (by omega) hbase w.heap.size rfl fun g cap w' h2 h3 h4 h5 => h g cap w' ?_ h3 h4 h5
  rw [List.length_append, rootC_append]
  exact h2
set_option maxRecDepth 100000 in
set_option maxHeartbeats 16000000 in
theorem lLarge19_ (t : Thr) (ga : Option Addr) (gc : Nat) (ra : Option Addr) (rc : Nat) (w : World) (hrg : RdG w ga t.gs) (hln : t.gs.length ≤ 100) :
    Calls Try.prog 34 #[.agg (thrC t ga gc ra rc)] w fun e w' => e = .returned (.bool (bigT t)) ∧ Below w.heap.size w w' := by
  have hbig : ([t.o, t.p] ++ gPts t.gs).any bigP = bigT t := rfl
  unfold thrC
  generalize bigT t = res at *
  obtain ⟨⟨ox, oy⟩, ⟨px, py⟩, gs, giv⟩ := t
  simp only at hbig hrg hln ⊢
  generalize giv.length = rl at *
  obtain ⟨w1, hw1⟩ : ∃ w1, w1 = w.alloc (.cells #[.int .i64 ox, .int .i64 oy, .int .i64 px, .int .i64 py, .slice ga gs.length gc, .slice ra rl rc] 48) := ⟨_, rfl⟩
  have hb1 : Below w.heap.size w w1 := by rw [hw1]; exact (Below.refl _ _).alloc (Nat.le_refl _) _
  have hT : w1.heap[w.heap.size]? = some (.cells #[.int .i64 ox, .int .i64 oy, .int .i64 px, .int .i64 py, .slice ga gs.length gc, .slice ra rl rc] 48 (0, 0)) := by rw [hw1]; exact heap_alloc_new _ _
  have hrg1 := hrg.later hb1 (Nat.le_refl _)
  have t0 := cell_of_row _ _ 0 _ _ _ hT
  have t1 := cell_of_row _ _ 1 _ _ _ hT
  have t2 := cell_of_row _ _ 2 _ _ _ hT
  have t3 := cell_of_row _ _ 3 _ _ _ hT
  have t4 := cell_of_row _ _ 4 _ _ _ hT
  have t5 := cell_of_row _ _ 5 _ _ _ hT
  simp only [List.getElem?_toArray, List.getElem?_cons_zero, List.getElem?_cons_succ] at t0 t1 t2 t3 t4 t5
  have hTl := lt_of_block hT
  have hown0 : (w1.alloc (.cells #[.int .i64 ox, .int .i64 oy, .int .i64 px, .int .i64 py] 45)).ownsRow w1.heap.size 45 2 (.slice (some ⟨w1.heap.size, 0, none⟩) 2 2) ([(ox, oy), (px, py)] : List (Int × Int)).length (rootC [(ox, oy), (px, py)]) :=
    ⟨rfl, .inr ⟨w1.heap.size, 2, #[.int .i64 ox, .int .i64 oy, .int .i64 px, .int .i64 py], rfl, Nat.le_refl _, heap_alloc_new _ _, Nat.le_refl _, by unfold maxLen; omega, rfl, rfl⟩⟩
  have hbw0 : Below w1.heap.size w1 (w1.alloc (.cells #[.int .i64 ox, .int .i64 oy, .int .i64 px, .int .i64 py] 45)) := (Below.refl _ _).alloc (Nat.le_refl _) _
  have hb1s := hb1.size
  have HBIG := Lib.hid hbig; have HRG := Lib.hid hrg; have HB1 := Lib.hid hb1; have HT := Lib.hid hT; have HRG1 := Lib.hid hrg1; have HOWN0 := Lib.hid hown0; have HBW0 := Lib.hid hbw0; have HLN := Lib.hid hln; clear hbig hrg hb1 hT hrg1 hown0 hbw0 hln
  go_enter Try.func34, Try.ntmps34
  go_upto_region 1 with fail
  rw [← hw1]
  clear hw1

  go_wp2
  go_loopw [3, 4] (fun sv iv wr => ∃ (k : Nat) (W : List (Int × Int)) (g d : Nat), sv = .slice (some ⟨g, 0, none⟩) W.length d ∧ iv = .int .i64 (k : Int) ∧ k ≤ gs.length ∧ W = [(ox, oy), (px, py)] ++ gPts (gs.take k) ∧ W.length = 2 + k * 2 ∧ wr.ownsRow w1.heap.size 45 2 (.slice (some ⟨g, 0, none⟩) W.length d) W.length (rootC W) ∧ Below w1.heap.size w1 wr) (fun _ iv _ => gs.length - (intOf iv).toNat)
  case atStart => exact ⟨0, [(ox, oy), (px, py)], w1.heap.size, 2, rfl, rfl, Nat.zero_le _, rfl, rfl, HOWN0.out, HBW0.out⟩
  case round =>
    clear HOWN0 HBW0
    have hbig := HBIG.out
    clear HBIG
    obtain ⟨k, W, g, d, rfl, rfl, hk, hW, hWl, hown, hbw⟩ := hrel
    by_cases hlt : k < gs.length
    · have q1 : (0 : Int) ≤ (k : Int) := by omega
      have q2 : (k : Int) < (gs.length : Int) := by omega
      have d2 : decide ((k : Int) < (gs.length : Int)) = true := decide_eq_true q2
      have hl := HLN.out
      have q3 : IntKind.i64.wrap ((k : Int) + 1) = ((k + 1 : Nat) : Int) := by rw [IntWalk.i64_in _ (by omega)]; omega
      obtain ⟨bl, off, rfl, hbl, g0, g1, g2⟩ := HRG1.out.at_ hlt
      have hnx : ([(ox, oy), (px, py)] ++ gPts (gs.take (k + 1))) = W ++ [(gs[k].2.1, gs[k].1), (gs[k].2.2, gs[k].1)] := by
        rw [List.take_succ_eq_append_getElem hlt, gPts_snoc, hW, List.append_assoc]; rfl
      generalize gs[k].1 = Y at *
      generalize gs[k].2.1 = L at *
      generalize gs[k].2.2 = R at *
      have hpt : ∀ (x y : Int) (V : World), V.ownsRow w1.heap.size 45 2 (.slice (some ⟨g, 0, none⟩) W.length d) W.length (rootC W) → Below w1.heap.size w1 V → Calls Try.prog 37 #[.int .i64 x, .int .i64 y] V fun e w' => e = .returned (.agg #[.int .i64 x, .int .i64 y]) ∧ w'.ownsRow w1.heap.size 45 2 (.slice (some ⟨g, 0, none⟩) W.length d) W.length (rootC W) ∧ Below w1.heap.size w1 w' := fun x y V h1 h2 => by
        refine (lPt19_ x y V).mono ?_
        rintro e w' ⟨rfl, hb⟩
        exact ⟨rfl, own_keepR h1 hb, h2.trans (hb.mono h2.size)⟩
      have g0 := below_at hbw (Nat.le_refl _) g0
      have g1 := below_at hbw (Nat.le_refl _) g1
      have g2 := below_at hbw (Nat.le_refl _) g2
      have hbl := Nat.lt_of_lt_of_le hbl hbw.size
      have t4 := below_at hbw (Nat.le_refl _) t4
      have hTl := Nat.lt_of_lt_of_le hTl hbw.size
      have hsz := hbw.size
      have hvl := hown.lt
      have HK := Lib.hid hk; have HW := Lib.hid hW; have HWL := Lib.hid hWl; have HOWN := Lib.hid hown; have HBW := Lib.hid hbw; have HNX := Lib.hid hnx; have HPT := Lib.hid hpt; have HLT := Lib.hid hlt; have HL := Lib.hid hl; have HSZ := Lib.hid hsz; have HVL := Lib.hid hvl; clear hk hW hWl hown hbw hnx hpt hlt hl hsz hvl
      go_upto_region 5 with fail
      go_region_held3 (fun wX => Below w1.heap.size w1 wX ∧ (∀ b o, b < w1.heap.size → wX.cell? ⟨b, o, none⟩ = w1.cell? ⟨b, o, none⟩) ∧ w1.heap.size ≤ wX.heap.size)
        ((refine bcell2 ?_; first | exact HBW.out | exact HBW.out.drew | exact hB4 | exact hbX | exact ‹Below w1.heap.size w1 _ ∧ _›.1.alloc ‹Below w1.heap.size w1 _ ∧ _›.1.size _ | exact ‹Below w1.heap.size w1 _ ∧ _›.1))
        (first
          | (go_at_call 37; refine (HPT.out _ _ _ ?hq1 ?hq2).mono ?_; (case hq1 => first | exact hownX | exact HOWN.out | exact HOWN.out.drew); (case hq2 => exact ‹Below w1.heap.size w1 _ ∧ _›.1); rintro e w4 ⟨rfl, hownX, hbX⟩)
          | (refine step_app2Po_Try (by rfl) _ _ (by rfl) w1.heap.size (.slice (some ⟨g, 0, none⟩) W.length d) W (by rfl) (by first | exact hownX.alloc _ | exact (hownX.alloc _).drew | exact hownX) _ (L, Y) (R, Y) (by rfl) (heap_alloc_new _ _) (by have := HWL.out; have := HL.out; have := HLT.out; omega) (by have := hbX.size; simp; omega) ?_; intro g5 cap w5 hown5 hgrow hat5 hlt5; have hB4 : Below w1.heap.size w1 w5 := Below.grown (hbX.alloc hbX.size _) hgrow (by have := hbX.size; simp; omega) (fun k hk => (hownX.lt _ hk).1)))
      all_goals
        have hl2 : W.length + 2 = (W ++ [(L, Y), (R, Y)]).length := by simp
        rw [hl2] at hown5 ⊢
        have hWl2 : (W ++ [(L, Y), (R, Y)]).length = 2 + (k + 1) * 2 := by have := HWL.out; simp; omega
        clear hl2
        have HOWN5 := Lib.hid hown5; have HB4 := Lib.hid hB4; have HWL2 := Lib.hid hWl2; clear hown5 hB4 hWl2
        go_wp2
        go_roundw
        case rel => exact ⟨k + 1, W ++ [(L, Y), (R, Y)], g5, cap, rfl, by go_num, by omega, HNX.out.symm, HWL2.out, HOWN5.out, HB4.out⟩
        case measure => simp [intOf]; omega
    · obtain rfl : k = gs.length := by omega
      have d2 : decide ((gs.length : Int) < (gs.length : Int)) = false := decide_eq_false (by omega)
      rw [List.take_length] at hW
      have hl := HLN.out
      have hrd : RdR wr (some ⟨g, 0, none⟩) W := RdR.of_own hown (by omega)
      have hbw2 := HB1.out.trans (hbw.mono hb1s)
      obtain ⟨w2, rfl⟩ : ∃ w2, w2 = wr := ⟨_, rfl⟩
      rw [← hW] at hbig
      have hl2 : W.length ≤ 1000 := by omega
      have t4 := below_at hbw (Nat.le_refl _) t4
      have hTl := Nat.lt_of_lt_of_le hTl hbw.size
      clear hown hbw hW hWl t0 t1 t2 t3 t5
      have HRD := Lib.hid hrd; have HBW2 := Lib.hid hbw2; have HBIG := Lib.hid hbig; have HL2 := Lib.hid hl2; have HL := Lib.hid hl; clear hrd hbw2 hbig hl2 hl
      go_wp2
      go_loopw [2, 5] (fun rv iv wr => ∃ k : Nat, iv = .int .i64 (k : Int) ∧ k ≤ W.length ∧ (W.take k).any bigP = false ∧ Below w2.heap.size w2 wr) (fun _ iv _ => W.length - (intOf iv).toNat)
      case atStart => exact ⟨0, rfl, Nat.zero_le _, rfl, Below.refl _ _⟩
      case round =>
        obtain ⟨k, rfl, hk, hno, hbw⟩ := hrel
        have hb9 := HBW2.out.trans (hbw.mono HBW2.out.size)
        by_cases hlt : k < W.length
        · have q1 : (0 : Int) ≤ (k : Int) := by omega
          have q2 : (k : Int) < (W.length : Int) := by omega
          have d2 : decide ((k : Int) < (W.length : Int)) = true := decide_eq_true q2
          have hl2 := HL2.out
          have q3 : IntKind.i64.wrap ((k : Int) + 1) = ((k + 1 : Nat) : Int) := by rw [IntWalk.i64_in _ (by omega)]; omega
          obtain ⟨bl, ol, e, hbl, g0, g1⟩ := (HRD.out.later hbw (Nat.le_refl _)).at_ hlt
          injection e with e
          injection e with e1 e2
          subst e1; subst e2
          rw [Nat.zero_add] at g0 g1
          have hnx : (W.take (k + 1)).any bigP = bigP W[k] := by
            rw [List.take_succ_eq_append_getElem hlt, List.any_append, hno]; simp
          have hall : bigP W[k] = true → W.any bigP = true := fun h => List.any_eq_true.2 ⟨_, List.getElem_mem _, h⟩
          have hcs : (bigP W[k] = true ∧ (decide (1000 < W[k].1) = true ∨ (decide (1000 < W[k].1) = false ∧ decide (W[k].1 < -1000) = true) ∨ (decide (1000 < W[k].1) = false ∧ decide (W[k].1 < -1000) = false ∧ decide (1000 < W[k].2) = true) ∨ (decide (1000 < W[k].1) = false ∧ decide (W[k].1 < -1000) = false ∧ decide (1000 < W[k].2) = false ∧ decide (W[k].2 < -1000) = true))) ∨ (bigP W[k] = false ∧ decide (1000 < W[k].1) = false ∧ decide (W[k].1 < -1000) = false ∧ decide (1000 < W[k].2) = false ∧ decide (W[k].2 < -1000) = false) := by
            unfold bigP
            cases decide (1000 < W[k].1) <;> cases decide (W[k].1 < -1000) <;> cases decide (1000 < W[k].2) <;> cases decide (W[k].2 < -1000) <;> simp
          generalize bigP W[k] = P at *
          generalize W[k].1 = X at *
          generalize W[k].2 = Y at *
          rcases hcs with ⟨rfl, hcs⟩ | ⟨rfl, f1, f2, f3, f4⟩
          · have hres : res = true := HBIG.out.symm.trans (hall rfl)
            rcases hcs with f1 | ⟨f1, f2⟩ | ⟨f1, f2, f3⟩ | ⟨f1, f2, f3, f4⟩
            all_goals
              have HNO := Lib.hid hno; have HNX := Lib.hid hnx; have HALL := Lib.hid hall; have HRES := Lib.hid hres; have HB9 := Lib.hid hb9; have HBW := Lib.hid hbw; clear hno hnx hall hres hb9 hbw
              go_wp2
              go_ret
              exact ⟨by rw [HRES.out]; rfl, HB9.out⟩
          · have HNO := Lib.hid hno; have HNX := Lib.hid hnx; have HALL := Lib.hid hall; have HB9 := Lib.hid hb9; have HBW := Lib.hid hbw; clear hno hnx hall hb9 hbw
            go_wp2
            go_roundw
            case rel => exact ⟨k + 1, by go_num, by omega, HNX.out, HBW.out⟩
            case measure => simp [intOf]; omega
        · obtain rfl : k = W.length := by omega
          have d2 : decide ((W.length : Int) < (W.length : Int)) = false := decide_eq_false (by omega)
          rw [List.take_length] at hno
          have hres : res = false := HBIG.out.symm.trans hno
          have HNO := Lib.hid hno; have HRES := Lib.hid hres; have HB9 := Lib.hid hb9; have HBW := Lib.hid hbw; clear hno hres hb9 hbw
          go_wp2
          go_ret
          exact ⟨by rw [HRES.out]; rfl, HB9.out⟩
end Go.Proofs.Ytlmhgcllikcedaa
/- The law TensionTriangle, walked. -/
namespace Go.Proofs.Ytlmhgcllikcedaa
open Go.RowKit

theorem taut_ok {o p : Int × Int} {gs : List Gt} (h : gErr o gs p = 0) (hl : gs.length ≤ 20) : (tautV o gs p).2 = 0 ∧ 0 < (tautV o gs p).1.length ∧ (tautV o gs p).1.length ≤ 22 := by
  obtain ⟨l, e, _, _, h4⟩ := way_tht h
  rw [e]
  exact ⟨rfl, by simp, by simp; omega⟩
theorem taut_err {o p : Int × Int} {gs : List Gt} (h : (tautV o gs p).2 = 0) : gErr o gs p = 0 := by
  unfold tautV at h
  split at h
  · assumption
  · exact h
set_option maxRecDepth 100000 in
set_option maxHeartbeats 16000000 in
theorem lawTriangle_ (A : Option Addr) (d : Nat) (a b c : Int) (ps : List (Int × Int)) (t : Thr) (ga : Option Addr) (gc : Nat) (ra : Option Addr) (rc : Nat) (w : World) (hr : RdR w A ps) (hd : ps.length ≤ d) (hrg : RdG w ga t.gs) (hgc : t.gs.length ≤ gc) :
    Calls Try.prog 10 #[.agg #[.int .i64 a, .int .i64 b, .int .i64 c], .slice A ps.length d, .agg (thrC t ga gc ra rc)] w fun e w' => e = .returned (.bool true) ∧ Below w.heap.size w w' := by
  have haw := fun W => awake19_ W
  have hlarge := fun W (h : RdG W ga t.gs) (hl : t.gs.length ≤ 100) => lLarge19_ t ga gc ra rc W h hl
  unfold thrC at hlarge ⊢
  generalize bigT t = big at *
  obtain ⟨⟨ox, oy⟩, ⟨px, py⟩, gs, giv⟩ := t
  simp only at hlarge hrg hgc ⊢
  generalize giv.length = rl at *
  have hln := hr.1
  have hlg := hrg.1
  obtain ⟨w1, hw1⟩ : ∃ w1, w1 = (w.alloc (.cells #[.int .i64 a, .int .i64 b, .int .i64 c] 38)).alloc (.cells #[.int .i64 ox, .int .i64 oy, .int .i64 px, .int .i64 py, .slice ga gs.length gc, .slice ra rl rc] 48) := ⟨_, rfl⟩
  have hb1 : Below w.heap.size w w1 := by rw [hw1]; exact ((Below.refl _ _).alloc (Nat.le_refl _) _).alloc (by simp) _
  have hL1 : w1.heap[w.heap.size]? = some (.cells #[.int .i64 a, .int .i64 b, .int .i64 c] 38 (0, 0)) := by rw [hw1]; exact heap_alloc2_old _ _ _
  have hT1 : w1.heap[w.heap.size + 1]? = some (.cells #[.int .i64 ox, .int .i64 oy, .int .i64 px, .int .i64 py, .slice ga gs.length gc, .slice ra rl rc] 48 (0, 0)) := by rw [hw1]; exact heap_alloc2_new _ _ _
  have hr1 := hr.later hb1 (Nat.le_refl _)
  have hrg1 := hrg.later hb1 (Nat.le_refl _)
  clear hr hrg
  have t0 := cell_of_row _ _ 0 _ _ _ hT1
  have t1 := cell_of_row _ _ 1 _ _ _ hT1
  have t2 := cell_of_row _ _ 2 _ _ _ hT1
  have t3 := cell_of_row _ _ 3 _ _ _ hT1
  have t4 := cell_of_row _ _ 4 _ _ _ hT1
  have t5 := cell_of_row _ _ 5 _ _ _ hT1
  simp only [List.getElem?_toArray, List.getElem?_cons_zero, List.getElem?_cons_succ] at t0 t1 t2 t3 t4 t5
  have hTl := lt_of_block hT1
  by_cases h12 : 12 < ps.length
  · have d1 : decide ((12 : Int) < (ps.length : Int)) = true := decide_eq_true (by omega)
    have HAW := Lib.hid haw; have HLARGE := Lib.hid hlarge; have HB1 := Lib.hid hb1; have HL1 := Lib.hid hL1; have HT1 := Lib.hid hT1; have HR1 := Lib.hid hr1; have HRG1 := Lib.hid hrg1; have HLN := Lib.hid hln; have HLG := Lib.hid hlg; have HD := Lib.hid hd; have HGC := Lib.hid hgc; have H12 := Lib.hid h12; clear haw hlarge hb1 hL1 hT1 hr1 hrg1 hln hlg hd hgc h12
    go_enter Try.func10, Try.ntmps10
    go_upto_region 1 with fail
    rw [← hw1]
    clear hw1
    go_wp2_with fail
    refine (HAW.out _).mono ?_
    rintro e w2 ⟨rfl, b1⟩
    have hb2 := HB1.out.trans (b1.mono HB1.out.size)
    clear b1 t0 t1 t2 t3 t4 t5 hTl
    have HB2 := Lib.hid hb2; clear hb2
    go_wp2
    go_ret
    exact ⟨rfl, HB2.out⟩
  have d1 : decide ((12 : Int) < (ps.length : Int)) = false := decide_eq_false (by omega)
  by_cases g12 : 12 < gs.length
  · have d2 : decide ((12 : Int) < (gs.length : Int)) = true := decide_eq_true (by omega)
    have HAW := Lib.hid haw; have HLARGE := Lib.hid hlarge; have HB1 := Lib.hid hb1; have HL1 := Lib.hid hL1; have HT1 := Lib.hid hT1; have HR1 := Lib.hid hr1; have HRG1 := Lib.hid hrg1; have HLN := Lib.hid hln; have HLG := Lib.hid hlg; have HD := Lib.hid hd; have HGC := Lib.hid hgc; have H12 := Lib.hid h12; have G12 := Lib.hid g12; clear haw hlarge hb1 hL1 hT1 hr1 hrg1 hln hlg hd hgc h12 g12
    go_enter Try.func10, Try.ntmps10
    go_upto_region 1 with fail
    rw [← hw1]
    clear hw1
    go_wp2_with fail
    refine (HAW.out _).mono ?_
    rintro e w2 ⟨rfl, b1⟩
    have hb2 := HB1.out.trans (b1.mono HB1.out.size)
    clear b1 t0 t1 t2 t3 t4 t5 hTl
    have HB2 := Lib.hid hb2; clear hb2
    go_wp2
    go_ret
    exact ⟨rfl, HB2.out⟩
  have d2 : decide ((12 : Int) < (gs.length : Int)) = false := decide_eq_false (by omega)
  have hcl := hlarge w1 hrg1 (by omega)
  have HAW := Lib.hid haw; have HLARGE := Lib.hid hlarge; have HB1 := Lib.hid hb1; have HL1 := Lib.hid hL1; have HT1 := Lib.hid hT1; have HR1 := Lib.hid hr1; have HRG1 := Lib.hid hrg1; have HLN := Lib.hid hln; have HLG := Lib.hid hlg; have HD := Lib.hid hd; have HGC := Lib.hid hgc; have H12 := Lib.hid h12; have G12 := Lib.hid g12; have HCL := Lib.hid hcl; clear haw hlarge hb1 hL1 hT1 hr1 hrg1 hln hlg hd hgc h12 g12 hcl
  go_enter Try.func10, Try.ntmps10
  go_upto_region 1 with fail
  rw [← hw1]
  clear hw1
  go_wp2_with fail
  refine HCL.out.mono ?_
  rintro e w2 ⟨rfl, b1⟩
  have hL2 := (b1.block _ (lt_of_block HL1.out)).trans HL1.out
  have hT2 := (b1.block _ (lt_of_block HT1.out)).trans HT1.out
  have hr2 := HR1.out.later b1 (Nat.le_refl _)
  have hrg2 := HRG1.out.later b1 (Nat.le_refl _)
  have hb2 := HB1.out.trans (b1.mono HB1.out.size)
  clear b1 t0 t1 t2 t3 t4 t5 hTl HB1 HL1 HT1 HR1 HRG1 HCL HLARGE
  cases big with
  | true =>
    have HL2 := Lib.hid hL2; have HT2 := Lib.hid hT2; have HR2 := Lib.hid hr2; have HRG2 := Lib.hid hrg2; have HB2 := Lib.hid hb2; clear hL2 hT2 hr2 hrg2 hb2
    go_wp2_with fail
    refine (HAW.out _).mono ?_
    rintro e w3 ⟨rfl, b1⟩
    have hb3 := HB2.out.trans (b1.mono HB2.out.size)
    clear b1
    have HB3 := Lib.hid hb3; clear hb3
    go_wp2
    go_ret
    exact ⟨rfl, HB3.out⟩
  | false =>
  have HL2 := Lib.hid hL2; have HT2 := Lib.hid hT2; have HR2 := Lib.hid hr2; have HRG2 := Lib.hid hrg2; have HB2 := Lib.hid hb2; clear hL2 hT2 hr2 hrg2 hb2
  go_wp2
  go_loopw [6, 7, 8] (fun _ iv _ wr => ∃ i : Nat, iv = .int .i64 (i : Int) ∧ 1 ≤ i ∧ i ≤ ps.length + 1 ∧ Below w2.heap.size w2 wr) (fun _ iv _ _ => ps.length + 1 - (intOf iv).toNat)
  case atStart => exact ⟨1, rfl, Nat.le_refl _, by omega, Below.refl _ _⟩
  case round =>
    obtain ⟨i, rfl, h1, h2, hbw⟩ := hrel
    have hl12 := H12.out
    have u0 : IntKind.i64.wrap ((i : Int) + 1) = ((i + 1 : Nat) : Int) := by rw [IntWalk.i64_in _ (by omega)]; omega
    by_cases hlt : i + 1 < ps.length
    · have q1 : (0 : Int) ≤ (i : Int) := by omega
      have q2 : (i : Int) < (ps.length : Int) := by omega
      obtain ⟨j, hj⟩ : ∃ j, j = i + 1 := ⟨_, rfl⟩
      rw [← hj] at u0
      have q3 : (0 : Int) ≤ (j : Int) := by omega
      have q4 : (j : Int) ≤ (ps.length : Int) := by omega
      have q7 : (j : Int) < (ps.length : Int) := by omega
      have d3 : decide ((j : Int) < (ps.length : Int)) = true := decide_eq_true q7
      have hdd := HD.out
      have q5 : (ps.length : Int) ≤ (d : Int) := by omega
      have q6 : (i : Int) ≤ (d : Int) := by omega
      have hrw := HR2.out.later hbw (Nat.le_refl _)
      obtain ⟨bl, off, rfl, hbl, x1, x2⟩ := hrw.at_ (k := j) (by omega)
      clear x1 x2
      have hdr := hrw.cutR (m := j) (by omega)
      have htk := hrw.cutL i
      have hlt1 : (ps.take i).length = i := by simp; omega
      have hlt2 : (ps.drop j).length = ps.length - j := by simp
      have hsh := @tri_path a b c ps i h1 hlt (by omega)
      rw [← hj] at hsh
      have hL3 := (hbw.block _ (lt_of_block HL2.out)).trans HL2.out
      have hdj : ¬ d = j := by omega
      obtain ⟨Z, hZ⟩ : ∃ Z, Z = ps.take i ++ ps.drop j := ⟨_, rfl⟩
      rw [← hZ] at hsh
      have hZl : (ps.take i ++ ps.drop j).length = Z.length := by rw [hZ]
      have hZ2 : 0 < Z.length ∧ Z.length ≤ 22 ∧ 0 < ps.length ∧ ps.length ≤ 22 := by rw [hZ, List.length_append]; omega
      have HZ := Lib.hid hZ; have HZL := Lib.hid hZl; have HZ2 := Lib.hid hZ2; have HDJ := Lib.hid hdj; have HJ := Lib.hid hj; have HDD := Lib.hid hdd; have HRW := Lib.hid hrw; have HDR := Lib.hid hdr; have HTK := Lib.hid htk; have HLT1 := Lib.hid hlt1; have HLT2 := Lib.hid hlt2; have HSH := Lib.hid hsh; have HL3 := Lib.hid hL3; have HBW := Lib.hid hbw; have H1 := Lib.hid h1; have H2 := Lib.hid h2; have HLT := Lib.hid hlt; have HL12 := Lib.hid hl12; clear hZ hZl hZ2 hdj hj hdd hrw hdr htk hlt1 hlt2 hsh hL3 hbw h1 h2 hlt hl12
      go_upto_region 6 with fail
      go_region_held3 (fun wX => Below wr.heap.size wr wX ∧ (∀ b o, b < wr.heap.size → wX.cell? ⟨b, o, none⟩ = wr.cell? ⟨b, o, none⟩) ∧ wr.heap.size ≤ wX.heap.size)
        ((refine bcell2 ?_; first | exact (Below.refl _ _).drew | exact hB4 | exact hB3 | exact ‹Below wr.heap.size wr _ ∧ _›.1.alloc ‹Below wr.heap.size wr _ ∧ _›.1.size _ | exact ‹Below wr.heap.size wr _ ∧ _›.1))
        (first
          | (refine step_appNPo_Try (by rfl) _ _ (by rfl) wr.heap.size (.slice (some ⟨wr.heap.size, 0, none⟩) 0 0) i (by rfl) [] (own_emptyPo (heap_alloc_new _ _) (Nat.le_refl _)) _ _ _ (by rfl) (ps.take i) (by have := HLT1.out; simp; omega) (HTK.out.later ‹Below wr.heap.size wr _ ∧ _›.1 (Nat.le_refl _)) (by have := HLT1.out; simp; omega) (by have := HL12.out; have := HLT1.out; have := HLT.out; simp; omega) (by simp) ?_; intro sA sc w3 hown hgrow; have hB3 : Below wr.heap.size wr w3 := Below.grown (((Below.refl _ _).drew).alloc (Nat.le_refl _) _) hgrow (by simp) (fun k hk => by simp [Value.ownBlock] at hk; omega))
          | (refine step_appNPo_Try (by rfl) _ _ (by rfl) wr.heap.size (.slice sA i sc) Z.length (by rfl) (ps.take i) (by first | exact hown | exact hown.drew) _ _ _ (by rfl) (ps.drop j) (by have := HLT2.out; simp; done) (by first | exact HDR.out.later ‹Below wr.heap.size wr _ ∧ _›.1 (Nat.le_refl _) | (rw [if_neg HDJ.out]; exact HDR.out.later ‹Below wr.heap.size wr _ ∧ _›.1 (Nat.le_refl _))) HZL.out (by have := HL12.out; have := HLT1.out; have := HLT2.out; have := HLT.out; omega) ‹Below wr.heap.size wr _ ∧ _›.1.size ?_; intro sB sd w4 hown4 hgrow4; have hB4 : Below wr.heap.size wr w4 := Below.grown (by first | exact hB3 | exact hB3.drew) hgrow4 (by first | exact hB3.size | exact hB3.drew.size) (fun k hk => (hown.lt _ hk).1)))
      all_goals
        rw [← HZ.out] at hown4
        have hrz := RdR.of_own hown4 (by have := HZ2.out; omega)
        have hrp := HRW.out.later hB4 (Nat.le_refl _)
        have hL4 := (hB4.block _ (lt_of_block HL3.out)).trans HL3.out
        have hcall := lShorter19_ sB (some ⟨bl, off, none⟩) sd d a b c Z ps w4 hrz hrp HZ2.out.1 HZ2.out.2.2.1 HZ2.out.2.1 HZ2.out.2.2.2
        rw [HSH.out] at hcall
        have hbb := HBW.out.trans (hB4.mono HBW.out.size)
        have k0 := cell_of_row _ _ 0 _ _ _ hL4
        have k1 := cell_of_row _ _ 1 _ _ _ hL4
        have k2 := cell_of_row _ _ 2 _ _ _ hL4
        simp only [List.getElem?_toArray, List.getElem?_cons_zero, List.getElem?_cons_succ] at k0 k1 k2
        have hkl := lt_of_block hL4
        clear hown4 hgrow4 hown hgrow hB3
        clear hB4
        have HRZ := Lib.hid hrz; have HRP := Lib.hid hrp; have HL4 := Lib.hid hL4; have HCALL := Lib.hid hcall; have HBB := Lib.hid hbb; clear hrz hrp hL4 hcall hbb
        go_wp2_with fail
        refine HCALL.out.mono ?_
        rintro e w5 ⟨rfl, b1⟩
        have hb5 := HBB.out.trans (b1.mono HBB.out.size)
        clear b1 k0 k1 k2 hkl
        have HB5 := Lib.hid hb5; clear hb5
        go_wp2
        go_roundw
        case rel => exact ⟨j, by go_num, by have := HJ.out; omega, by have := HJ.out; have := HLT.out; omega, HB5.out⟩
        case measure => have := HJ.out; have := HLT.out; simp [intOf]; omega
    · obtain ⟨j, hj⟩ : ∃ j, j = i + 1 := ⟨_, rfl⟩
      rw [← hj] at u0
      have q7 : ¬ (j : Int) < (ps.length : Int) := by omega
      have d3 : decide ((j : Int) < (ps.length : Int)) = false := decide_eq_false q7
      obtain ⟨w4, rfl⟩ : ∃ w4, w4 = wr := ⟨_, rfl⟩
      have hL4 := (hbw.block _ (lt_of_block HL2.out)).trans HL2.out
      have hT4 := (hbw.block _ (lt_of_block HT2.out)).trans HT2.out
      have hrg4 := HRG2.out.later hbw (Nat.le_refl _)
      have hb4 := HB2.out.trans (hbw.mono HB2.out.size)
      have t0 := cell_of_row _ _ 0 _ _ _ hT4
      have t1 := cell_of_row _ _ 1 _ _ _ hT4
      have t2 := cell_of_row _ _ 2 _ _ _ hT4
      have t3 := cell_of_row _ _ 3 _ _ _ hT4
      have t4 := cell_of_row _ _ 4 _ _ _ hT4
      simp only [List.getElem?_toArray, List.getElem?_cons_zero, List.getElem?_cons_succ] at t0 t1 t2 t3 t4
      have hTl := lt_of_block hT4
      have hcall := tnTaut_ ga gc (ox, oy) (px, py) gs w4 hrg4
      have hTok := @taut_ok (ox, oy) (px, py) gs
      have hTer := @taut_err (ox, oy) (px, py) gs
      have hTri := fun i => @tri_gates a b c (ox, oy) (px, py) gs i
      generalize tautV (ox, oy) gs (px, py) = TV at *
      obtain ⟨W, E⟩ := TV
      simp only at hTok hTer hTri
      clear hbw h1 h2 hlt HB2 HL2 HT2 HRG2 HR2
      have HJ := Lib.hid hj; have HL4 := Lib.hid hL4; have HT4 := Lib.hid hT4; have HRG4 := Lib.hid hrg4; have HB4 := Lib.hid hb4; have HCALL := Lib.hid hcall; have HTOK := Lib.hid hTok; have HTER := Lib.hid hTer; have HTRI := Lib.hid hTri; have HL12 := Lib.hid hl12; clear hj hL4 hT4 hrg4 hb4 hcall hTok hTer hTri hl12
      go_wp2_with fail
      refine HCALL.out.mono ?_
      rintro e w5 ⟨WA, wc5, rfl, hrw5, hwc5, b1⟩
      have hL5 := (b1.block _ (lt_of_block HL4.out)).trans HL4.out
      have hT5 := (b1.block _ (lt_of_block HT4.out)).trans HT4.out
      have hrg5 := HRG4.out.later b1 (Nat.le_refl _)
      have hb5 := HB4.out.trans (b1.mono HB4.out.size)
      simp only at hrw5 hwc5
      clear b1 t0 t1 t2 t3 t4 hTl HL4 HT4 HRG4 HB4 HCALL
      have HL5 := Lib.hid hL5; have HT5 := Lib.hid hT5; have HRG5 := Lib.hid hrg5; have HB5 := Lib.hid hb5; have HRW5 := Lib.hid hrw5; have HWC5 := Lib.hid hwc5; clear hL5 hT5 hrg5 hb5 hrw5 hwc5
      go_wp2
      go_loopw [6, 11, 12, 13, 14] (fun _ iv _ _ _ wr => ∃ i : Nat, iv = .int .i64 (i : Int) ∧ i ≤ gs.length ∧ Below w5.heap.size w5 wr) (fun _ iv _ _ _ _ => gs.length - (intOf iv).toNat)
      case atStart => exact ⟨0, rfl, Nat.zero_le _, Below.refl _ _⟩
      case round =>
        obtain ⟨i, rfl, h1, hbw⟩ := hrel
        have hl12 := HL12.out
        have hg12 := G12.out
        have u0 : IntKind.i64.wrap ((i : Int) + 1) = ((i + 1 : Nat) : Int) := by rw [IntWalk.i64_in _ (by omega)]; omega
        have hT6 := (hbw.block _ (lt_of_block HT5.out)).trans HT5.out
        have hL6 := (hbw.block _ (lt_of_block HL5.out)).trans HL5.out
        have hrg6 := HRG5.out.later hbw (Nat.le_refl _)
        have t0 := cell_of_row _ _ 0 _ _ _ hT6
        have t1 := cell_of_row _ _ 1 _ _ _ hT6
        have t2 := cell_of_row _ _ 2 _ _ _ hT6
        have t3 := cell_of_row _ _ 3 _ _ _ hT6
        have t4 := cell_of_row _ _ 4 _ _ _ hT6
        simp only [List.getElem?_toArray, List.getElem?_cons_zero, List.getElem?_cons_succ] at t0 t1 t2 t3 t4
        have hTl := lt_of_block hT6
        by_cases hlt : i < gs.length
        · have q1 : (0 : Int) ≤ (i : Int) := by omega
          have q2 : (i : Int) < (gs.length : Int) := by omega
          have e2 : decide ((i : Int) < (gs.length : Int)) = true := decide_eq_true q2
          by_cases hE : E = 0
          rotate_left
          · have f1 : (E == 0) = false := by rw [beq_eq_false_iff_ne]; exact hE
            have hb6 := HB5.out.trans (hbw.mono HB5.out.size)
            clear hbw
            have HT6 := Lib.hid hT6; have HL6 := Lib.hid hL6; have HRG6 := Lib.hid hrg6; have HB6 := Lib.hid hb6; have HE := Lib.hid hE; have H1 := Lib.hid h1; clear hT6 hL6 hrg6 hb6 hE h1
            go_wp2_with fail
            refine (HAW.out _).mono ?_
            rintro e w7 ⟨rfl, b1⟩
            have hb7 := HB6.out.trans (b1.mono HB6.out.size)
            clear b1 t0 t1 t2 t3 t4 hTl
            have HB7 := Lib.hid hb7; clear hb7
            go_wp2
            go_ret
            exact ⟨rfl, HB7.out⟩
          subst hE
          have hg0 := HTER.out rfl
          have hW := HTOK.out hg0 (by omega)
          have hTr := HTRI.out i hg0 (by omega)
          have hgd := gErr_drop (i := i) hg0
          obtain ⟨j, hj⟩ : ∃ j, j = i + 1 := ⟨_, rfl⟩
          rw [← hj] at u0 hTr hgd
          have q3 : (0 : Int) ≤ (j : Int) := by omega
          have q4 : (j : Int) ≤ (gs.length : Int) := by omega
          have hdd := HGC.out
          have q5 : (gs.length : Int) ≤ (gc : Int) := by omega
          have q6 : (i : Int) ≤ (gc : Int) := by omega
          obtain ⟨bl, off, rfl, hbl, x1, x2, x3⟩ := hrg6.at_ (k := i) hlt
          clear x1 x2 x3
          have htk := hrg6.cutL i
          have hlt1 : (gs.take i).length = i := by simp; omega
          have hlt2 : (gs.drop j).length = gs.length - j := by simp
          have hdr : ∀ V, Below wr.heap.size wr V → RdG V (if gc = j then some ⟨bl, off, none⟩ else some ⟨bl, off + j * 3, none⟩) (gs.drop j) := fun V hV => by
            by_cases hje : j = gs.length
            · rw [hje, List.drop_length]
              exact ⟨by simp, fun h => by simp at h⟩
            · rw [if_neg (by omega)]
              exact (hrg6.cutR (m := j) (by omega)).later hV (Nat.le_refl _)
          obtain ⟨Z, hZ⟩ : ∃ Z, Z = gs.take i ++ gs.drop j := ⟨_, rfl⟩
          rw [← hZ] at hTr hgd
          have hZl : (gs.take i ++ gs.drop j).length = Z.length := by rw [hZ]
          have hZ2 : Z.length ≤ 20 := by rw [hZ, List.length_append]; omega
          have hZk := taut_ok hgd hZ2
          have hcl2 := fun B e V (h : RdG V B Z) => tnTaut_ B e (ox, oy) (px, py) Z V h
          generalize tautV (ox, oy) Z (px, py) = TV at *
          obtain ⟨W2, E2⟩ := TV
          simp only at hTr hZk
          obtain ⟨rfl, hZ3, hZ4⟩ := hZk
          have hb6 := HB5.out.size
          rcases (by omega : gc = j ∨ ¬ gc = j) with hgj | hgj
          · subst hgj
            have HZ := Lib.hid hZ; have HZL := Lib.hid hZl; have HZ2 := Lib.hid hZ2; have HZ3 := Lib.hid hZ3; have HZ4 := Lib.hid hZ4; have HCL2 := Lib.hid hcl2; have HJ := Lib.hid hj; have HDD := Lib.hid hdd; have HDR := Lib.hid hdr; have HTK := Lib.hid htk; have HLT1 := Lib.hid hlt1; have HLT2 := Lib.hid hlt2; have HTR := Lib.hid hTr; have HL6 := Lib.hid hL6; have HT6 := Lib.hid hT6; have HRG6 := Lib.hid hrg6; have HBW := Lib.hid hbw; have H1 := Lib.hid h1; have HLT := Lib.hid hlt; have HL12 := Lib.hid hl12; have HG12 := Lib.hid hg12; have HW := Lib.hid hW; have HGD := Lib.hid hgd; have HG0 := Lib.hid hg0; have HB6 := Lib.hid hb6; clear hZ hZl hZ2 hZ3 hZ4 hcl2 hj hdd hdr htk hlt1 hlt2 hTr hL6 hT6 hrg6 hbw h1 hlt hl12 hg12 hW hgd hg0 hb6
            go_upto_region 13 with fail
            go_region_held3 (fun wX => Below wr.heap.size wr wX ∧ (∀ b o, b < wr.heap.size → wX.cell? ⟨b, o, none⟩ = wr.cell? ⟨b, o, none⟩) ∧ wr.heap.size ≤ wX.heap.size)
              ((refine bcell2 ?_; first | exact (Below.refl _ _).drew | exact hB4 | exact hB3 | exact ‹Below wr.heap.size wr _ ∧ _›.1.alloc ‹Below wr.heap.size wr _ ∧ _›.1.size _ | exact ‹Below wr.heap.size wr _ ∧ _›.1))
              (first
                | (refine step_appNGa_Try (by rfl) _ _ (by rfl) wr.heap.size (.slice (some ⟨wr.heap.size, 0, none⟩) 0 0) i (by rfl) [] (own_emptyGa (heap_alloc_new _ _) (Nat.le_refl _)) _ _ _ (by rfl) (gs.take i) (by have := HLT1.out; simp; omega) (HTK.out.later ‹Below wr.heap.size wr _ ∧ _›.1 (Nat.le_refl _)) (by have := HLT1.out; simp; omega) (by have := HG12.out; have := HLT1.out; have := HLT.out; simp; omega) (by simp) ?_; intro sA sc w3 hown hgrow; have hB3 : Below wr.heap.size wr w3 := Below.grown (by first | exact ((Below.refl _ _).drew).alloc (Nat.le_refl _) _ | exact (Below.refl _ _).alloc (Nat.le_refl _) _ | exact ((Below.refl _ _).alloc (Nat.le_refl _) _).drew) hgrow (by simp) (fun k hk => by simp [Value.ownBlock] at hk; omega))
                | (refine step_appNGa_Try (by rfl) _ _ (by rfl) wr.heap.size (.slice sA i sc) Z.length (by rfl) (gs.take i) (by first | exact hown | exact hown.drew) _ _ _ (by rfl) (gs.drop gc) (by have := HLT2.out; simp; done) (by first | exact HDR.out _ ‹Below wr.heap.size wr _ ∧ _›.1 | (have h9 := HDR.out _ ‹Below wr.heap.size wr _ ∧ _›.1; simpa using h9) | (have h9 := HDR.out _ ‹Below wr.heap.size wr _ ∧ _›.1; rw [if_neg hgj] at h9; exact h9)) HZL.out (by have := HG12.out; have := HLT1.out; have := HLT2.out; have := HLT.out; omega) ‹Below wr.heap.size wr _ ∧ _›.1.size ?_; intro sB sd w4 hown4 hgrow4; have hB4 : Below wr.heap.size wr w4 := Below.grown (by first | exact hB3 | exact hB3.drew) hgrow4 (by first | exact hB3.size | exact hB3.drew.size) (fun k hk => (hown.lt _ hk).1)))
            all_goals
              rw [← HZ.out] at hown4
              have hrz := RdG.of_own hown4 (by have := HZ2.out; omega)
              have hL7 := (hB4.block _ (lt_of_block HL6.out)).trans HL6.out
              have hT7 := (hB4.block _ (lt_of_block HT6.out)).trans HT6.out
              have hcall := HCL2.out sB sd w4 hrz
              have hbb := HBW.out.trans (hB4.mono HBW.out.size)
              have t0 := cell_of_row _ _ 0 _ _ _ hT7
              have t1 := cell_of_row _ _ 1 _ _ _ hT7
              have t2 := cell_of_row _ _ 2 _ _ _ hT7
              have t3 := cell_of_row _ _ 3 _ _ _ hT7
              simp only [List.getElem?_toArray, List.getElem?_cons_zero, List.getElem?_cons_succ] at t0 t1 t2 t3
              have hTl := lt_of_block hT7
              clear hown4 hgrow4 hown hgrow hB3 hB4
              have HRZ := Lib.hid hrz; have HL7 := Lib.hid hL7; have HT7 := Lib.hid hT7; have HCALL := Lib.hid hcall; have HBB := Lib.hid hbb; clear hrz hL7 hT7 hcall hbb
              go_wp2_with fail
              all_goals
                refine HCALL.out.mono ?_
                rintro e w8 ⟨WB, wd, rfl, hrw8, hwd8, b1⟩
                simp only at hrw8 hwd8
                have hL8 := (b1.block _ (lt_of_block HL7.out)).trans HL7.out
                have hb8 := HBB.out.trans (b1.mono HBB.out.size)
                have hrW := HRW5.out.later hb8 (Nat.le_refl _)
                have hc2 := lShorter19_ WB WA wd wc5 a b c W2 W w8 hrw8 hrW HZ3.out HW.out.2.1 HZ4.out HW.out.2.2
                rw [HTR.out] at hc2
                clear b1 t0 t1 t2 t3 hTl
                have k0 := cell_of_row _ _ 0 _ _ _ hL8
                have k1 := cell_of_row _ _ 1 _ _ _ hL8
                have k2 := cell_of_row _ _ 2 _ _ _ hL8
                simp only [List.getElem?_toArray, List.getElem?_cons_zero, List.getElem?_cons_succ] at k0 k1 k2
                have hkl := lt_of_block hL8
                have HRW8 := Lib.hid hrw8; have HWD8 := Lib.hid hwd8; have HL8 := Lib.hid hL8; have HB8 := Lib.hid hb8; have HRW := Lib.hid hrW; have HC2 := Lib.hid hc2; clear hrw8 hwd8 hL8 hb8 hrW hc2
                go_wp2_with fail
                refine HC2.out.mono ?_
                rintro e w9 ⟨rfl, b1⟩
                have hb9 := HB8.out.trans (b1.mono HB8.out.size)
                clear b1 k0 k1 k2 hkl
                have HB9 := Lib.hid hb9; clear hb9
                go_wp2
                go_roundw
                case rel => exact ⟨gc, by go_num, by have := HJ.out; have := HLT.out; omega, HB9.out⟩
                case measure => have := HJ.out; have := HLT.out; simp [intOf]; omega
          · have HZ := Lib.hid hZ; have HZL := Lib.hid hZl; have HZ2 := Lib.hid hZ2; have HZ3 := Lib.hid hZ3; have HZ4 := Lib.hid hZ4; have HCL2 := Lib.hid hcl2; have HJ := Lib.hid hj; have HDD := Lib.hid hdd; have HDR := Lib.hid hdr; have HTK := Lib.hid htk; have HLT1 := Lib.hid hlt1; have HLT2 := Lib.hid hlt2; have HTR := Lib.hid hTr; have HL6 := Lib.hid hL6; have HT6 := Lib.hid hT6; have HRG6 := Lib.hid hrg6; have HBW := Lib.hid hbw; have H1 := Lib.hid h1; have HLT := Lib.hid hlt; have HL12 := Lib.hid hl12; have HG12 := Lib.hid hg12; have HW := Lib.hid hW; have HGD := Lib.hid hgd; have HG0 := Lib.hid hg0; have HB6 := Lib.hid hb6; clear hZ hZl hZ2 hZ3 hZ4 hcl2 hj hdd hdr htk hlt1 hlt2 hTr hL6 hT6 hrg6 hbw h1 hlt hl12 hg12 hW hgd hg0 hb6
            go_upto_region 13 with fail
            go_region_held3 (fun wX => Below wr.heap.size wr wX ∧ (∀ b o, b < wr.heap.size → wX.cell? ⟨b, o, none⟩ = wr.cell? ⟨b, o, none⟩) ∧ wr.heap.size ≤ wX.heap.size)
              ((refine bcell2 ?_; first | exact (Below.refl _ _).drew | exact hB4 | exact hB3 | exact ‹Below wr.heap.size wr _ ∧ _›.1.alloc ‹Below wr.heap.size wr _ ∧ _›.1.size _ | exact ‹Below wr.heap.size wr _ ∧ _›.1))
              (first
                | (refine step_appNGa_Try (by rfl) _ _ (by rfl) wr.heap.size (.slice (some ⟨wr.heap.size, 0, none⟩) 0 0) i (by rfl) [] (own_emptyGa (heap_alloc_new _ _) (Nat.le_refl _)) _ _ _ (by rfl) (gs.take i) (by have := HLT1.out; simp; omega) (HTK.out.later ‹Below wr.heap.size wr _ ∧ _›.1 (Nat.le_refl _)) (by have := HLT1.out; simp; omega) (by have := HG12.out; have := HLT1.out; have := HLT.out; simp; omega) (by simp) ?_; intro sA sc w3 hown hgrow; have hB3 : Below wr.heap.size wr w3 := Below.grown (by first | exact ((Below.refl _ _).drew).alloc (Nat.le_refl _) _ | exact (Below.refl _ _).alloc (Nat.le_refl _) _ | exact ((Below.refl _ _).alloc (Nat.le_refl _) _).drew) hgrow (by simp) (fun k hk => by simp [Value.ownBlock] at hk; omega))
                | (refine step_appNGa_Try (by rfl) _ _ (by rfl) wr.heap.size (.slice sA i sc) Z.length (by rfl) (gs.take i) (by first | exact hown | exact hown.drew) _ _ _ (by rfl) (gs.drop j) (by have := HLT2.out; simp; done) (by first | exact HDR.out _ ‹Below wr.heap.size wr _ ∧ _›.1 | (have h9 := HDR.out _ ‹Below wr.heap.size wr _ ∧ _›.1; simpa using h9) | (have h9 := HDR.out _ ‹Below wr.heap.size wr _ ∧ _›.1; rw [if_neg hgj] at h9; exact h9)) HZL.out (by have := HG12.out; have := HLT1.out; have := HLT2.out; have := HLT.out; omega) ‹Below wr.heap.size wr _ ∧ _›.1.size ?_; intro sB sd w4 hown4 hgrow4; have hB4 : Below wr.heap.size wr w4 := Below.grown (by first | exact hB3 | exact hB3.drew) hgrow4 (by first | exact hB3.size | exact hB3.drew.size) (fun k hk => (hown.lt _ hk).1)))
            all_goals
              rw [← HZ.out] at hown4
              have hrz := RdG.of_own hown4 (by have := HZ2.out; omega)
              have hL7 := (hB4.block _ (lt_of_block HL6.out)).trans HL6.out
              have hT7 := (hB4.block _ (lt_of_block HT6.out)).trans HT6.out
              have hcall := HCL2.out sB sd w4 hrz
              have hbb := HBW.out.trans (hB4.mono HBW.out.size)
              have t0 := cell_of_row _ _ 0 _ _ _ hT7
              have t1 := cell_of_row _ _ 1 _ _ _ hT7
              have t2 := cell_of_row _ _ 2 _ _ _ hT7
              have t3 := cell_of_row _ _ 3 _ _ _ hT7
              simp only [List.getElem?_toArray, List.getElem?_cons_zero, List.getElem?_cons_succ] at t0 t1 t2 t3
              have hTl := lt_of_block hT7
              clear hown4 hgrow4 hown hgrow hB3 hB4
              have HRZ := Lib.hid hrz; have HL7 := Lib.hid hL7; have HT7 := Lib.hid hT7; have HCALL := Lib.hid hcall; have HBB := Lib.hid hbb; clear hrz hL7 hT7 hcall hbb
              go_wp2_with fail
              all_goals
                refine HCALL.out.mono ?_
                rintro e w8 ⟨WB, wd, rfl, hrw8, hwd8, b1⟩
                simp only at hrw8 hwd8
                have hL8 := (b1.block _ (lt_of_block HL7.out)).trans HL7.out
                have hb8 := HBB.out.trans (b1.mono HBB.out.size)
                have hrW := HRW5.out.later hb8 (Nat.le_refl _)
                have hc2 := lShorter19_ WB WA wd wc5 a b c W2 W w8 hrw8 hrW HZ3.out HW.out.2.1 HZ4.out HW.out.2.2
                rw [HTR.out] at hc2
                clear b1 t0 t1 t2 t3 hTl
                have k0 := cell_of_row _ _ 0 _ _ _ hL8
                have k1 := cell_of_row _ _ 1 _ _ _ hL8
                have k2 := cell_of_row _ _ 2 _ _ _ hL8
                simp only [List.getElem?_toArray, List.getElem?_cons_zero, List.getElem?_cons_succ] at k0 k1 k2
                have hkl := lt_of_block hL8
                have HRW8 := Lib.hid hrw8; have HWD8 := Lib.hid hwd8; have HL8 := Lib.hid hL8; have HB8 := Lib.hid hb8; have HRW := Lib.hid hrW; have HC2 := Lib.hid hc2; clear hrw8 hwd8 hL8 hb8 hrW hc2
                go_wp2_with fail
                refine HC2.out.mono ?_
                rintro e w9 ⟨rfl, b1⟩
                have hb9 := HB8.out.trans (b1.mono HB8.out.size)
                clear b1 k0 k1 k2 hkl
                have HB9 := Lib.hid hb9; clear hb9
                go_wp2
                go_roundw
                case rel => exact ⟨j, by go_num, by have := HJ.out; have := HLT.out; omega, HB9.out⟩
                case measure => have := HJ.out; have := HLT.out; simp [intOf]; omega
        · obtain rfl : i = gs.length := by omega
          have e2 : decide ((gs.length : Int) < (gs.length : Int)) = false := decide_eq_false (by omega)
          have hb6 := HB5.out.trans (hbw.mono HB5.out.size)
          clear hbw
          have HT6 := Lib.hid hT6; have HL6 := Lib.hid hL6; have HRG6 := Lib.hid hrg6; have HB6 := Lib.hid hb6; have H1 := Lib.hid h1; clear hT6 hL6 hrg6 hb6 h1
          go_wp2_with fail
          refine (HAW.out _).mono ?_
          rintro e w7 ⟨rfl, b1⟩
          have hb7 := HB6.out.trans (b1.mono HB6.out.size)
          clear b1 t0 t1 t2 t3 t4 hTl
          have HB7 := Lib.hid hb7; clear hb7
          go_wp2
          go_ret
          exact ⟨rfl, HB7.out⟩
end Go.Proofs.Ytlmhgcllikcedaa
