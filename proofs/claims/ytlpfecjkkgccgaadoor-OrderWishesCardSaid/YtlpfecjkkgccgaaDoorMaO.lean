/- Texts of this claim, laid together: SReorder, ROrd, SClosed, SReady, SLine, SBefore, RCl, SBad. -/
import Derived.Test.YtlpfecjkkgccgaaDoorMaB
import Derived.Test.YtlpfecjkkgccgaaDoorMaM
/- The program's Reorder. -/
namespace Go.Proofs.YtlpfecjkkgccgaaDoor
open Go.RowKit

/-- One more work of an order, by sets. -/
def reStep (n : Nat) (E : Nat → Nat) (S : Nat) (x : Int) : Option Nat := if 0 ≤ x ∧ x < n ∧ S.testBit x.toNat = false ∧ winN (E x.toNat) S 7 = true then some (S ||| 2 ^ x.toNat) else none
def reRun (n : Nat) (E : Nat → Nat) : Nat → List Int → Option Nat
  | S, [] => some S
  | S, x :: l => match reStep n E S x with
    | some S' => reRun n E S' l
    | none => none
theorem reRun_snoc (n : Nat) (E : Nat → Nat) (x : Int) : ∀ (l : List Int) (S : Nat), reRun n E S (l ++ [x]) = (reRun n E S l).bind fun S' => reStep n E S' x
  | [], S => by
    show (match reStep n E S x with | some S' => reRun n E S' [] | none => none) = reStep n E S x
    cases reStep n E S x <;> rfl
  | y :: l, S => by
    show (match reStep n E S y with | some S' => reRun n E S' (l ++ [x]) | none => none) = Option.bind (match reStep n E S y with | some S' => reRun n E S' l | none => none) _
    cases reStep n E S y with
    | none => rfl
    | some S' => exact reRun_snoc n E x l S'
theorem reRun_stop (n : Nat) (E : Nat → Nat) (l : List Int) : ∀ (j : Nat), j ≤ l.length → reRun n E 0 (l.take j) = none → reRun n E 0 l = none := by
  have key : ∀ (a b : List Int) (S : Nat), reRun n E S a = none → reRun n E S (a ++ b) = none := by
    intro a
    induction a with
    | nil => intro b S h; cases h
    | cons y a ih =>
      intro b S h
      show (match reStep n E S y with | some S' => reRun n E S' (a ++ b) | none => none) = none
      have h' : (match reStep n E S y with | some S' => reRun n E S' a | none => none) = none := h
      cases hs : reStep n E S y with
      | none => rfl
      | some S' => rw [hs] at h'; exact ih b S' h'
  intro j hj h
  have := key (l.take j) (l.drop j) 0 h
  rwa [List.take_append_drop] at this
/-- How many bits are set below n. -/
def popB (S : Nat) : Nat → Nat
  | 0 => 0
  | n + 1 => popB S n + if S.testBit n = true then 1 else 0
theorem popB_le (S : Nat) : ∀ n, popB S n ≤ n
  | 0 => Nat.le_refl _
  | n + 1 => by
    have := popB_le S n
    rw [popB]
    split <;> omega
theorem popB_or {S i : Nat} (h : S.testBit i = false) : ∀ n, popB (S ||| 2 ^ i) n = popB S n + if i < n then 1 else 0
  | 0 => by simp [popB]
  | n + 1 => by
    rw [popB, popB, popB_or h n]
    by_cases c : n = i
    · subst c
      simp [h, Nat.testBit_or]
    · have : (S ||| 2 ^ i).testBit n = S.testBit n := by
        simp [Nat.testBit_or, Nat.testBit_two_pow]
        omega
      rw [this]
      by_cases d : i < n
      · rw [if_pos d, if_pos (show i < n + 1 by omega)]; omega
      · rw [if_neg d, if_neg (show ¬ i < n + 1 by omega)]; omega
theorem reRun_pop (n : Nat) (E : Nat → Nat) : ∀ (l : List Int) (S S' : Nat), reRun n E S l = some S' → popB S' n = popB S n + l.length
  | [], S, S', h => by cases h; rfl
  | x :: l, S, S', h => by
    have h' : (match reStep n E S x with | some S' => reRun n E S' l | none => none) = some S' := h
    cases hs : reStep n E S x with
    | none => rw [hs] at h'; cases h'
    | some T =>
      rw [hs] at h'
      have := reRun_pop n E l T S' h'
      unfold reStep at hs
      split at hs
      · rename_i c
        cases hs
        rw [this, popB_or c.2.2.1, if_pos (by omega)]
        simp
        omega
      · cases hs
theorem popB_zero : ∀ n, popB 0 n = 0
  | 0 => rfl
  | n + 1 => by rw [popB, popB_zero n]; simp
theorem reRun_len {n : Nat} {E : Nat → Nat} {l : List Int} {S : Nat} (h : reRun n E 0 l = some S) : l.length ≤ n := by
  have h1 := reRun_pop n E l 0 S h
  have h2 := popB_le S n
  rw [popB_zero] at h1
  omega
def reoG (ws : List GW) (l : List Int) : List GW := l.map fun x => ws.getD x.toNat gwE
/-- The program's sets of a sheet. -/
def setsOf (P : Nat) (ws : List GW) : Nat → Nat := eaF (eAll P (plsOf ws) ws.length)
def reOk (P : Nat) (ws : List GW) (l : List Int) : Prop := (reRun ws.length (setsOf P ws) 0 l).isSome = true ∧ l.length = ws.length
/-- A sheet and its error. -/
def ShPost (q : Int) (vs : List GW) (x : Int) (w : World) (e : Ending) (w' : World) : Prop :=
  ∃ B d, e = .returned (.tuple #[.agg #[.int .i64 q, .slice B vs.length d], .int .i64 x]) ∧ RdW w' B vs ∧ Below w.heap.size w w' ∧ vs.length ≤ d
theorem rdW_nil (w : World) : RdW w none [] := ⟨by simp, by simp, fun h => absurd h (by simp)⟩
theorem z7_one : (#[.int .u64 0, .int .u64 0, .int .u64 0, .int .u64 0, .int .u64 0, .int .u64 0, .int .u64 0] : Array Value) = wCells 1 (fun _ k => wd 0 k) := by
  unfold wCells
  simp [wd_zero, List.range_succ]
theorem own_below3 {w w' : World} {base e n size : Nat} {v : Value} {xs : List Value} (h : w.ownsRow base e size v n xs) (hb : Below w.heap.size w w') : w'.ownsRow base e size v n xs :=
  h.kept (show w.grownBy w' none from ⟨hb.os, hb.tape, hb.output, hb.size, fun i hi _ => hb.block i hi⟩) (by cases v.ownBlock <;> simp)
theorem reoG_snoc (ws : List GW) (l : List Int) (x : Int) : reoG ws (l ++ [x]) = reoG ws l ++ [ws.getD x.toNat gwE] := by unfold reoG; simp
set_option maxRecDepth 100000 in
set_option maxHeartbeats 4000000 in
theorem sReorder_ok (P : Nat) (A L : Option Addr) (c lc : Nat) (ws : List GW) (l : List Int) (w : World) (hok : errSheet P ws = 0) (ha : RdW w A ws) (hl : RdI w L l) :
    Calls Tryd.prog 50 #[.agg #[.int .i64 (P : Int), .slice A ws.length c], .slice L l.length lc] w fun e w' => (reOk P ws l → ShPost P (reoG ws l) 0 w e w') ∧ (¬ reOk P ws l → ShPost 0 [] 4 w e w') := by
  obtain ⟨hp2, hp24, hn, hall⟩ := okAll hok
  have hln := hl.1
  have hb2 : Below w.heap.size w ((w.alloc (.cells #[.int .i64 (P : Int), .slice A ws.length c] 24)).alloc (.cells #[.int .i64 0, .slice none 0 0] 24)) := ((Below.refl _ _).alloc (Nat.le_refl _) _).alloc (by simp) _
  have hok2 := hok
  have HA := Lib.hid ha; have HL := Lib.hid hl; have HB2 := Lib.hid hb2; have HALL := Lib.hid hall; have HOK := Lib.hid hok; clear ha hl hb2 hall hok
  go_enter Tryd.func50, Tryd.ntmps50
  go_wp2_with fail
  refine (sCheck_ _ _ _ _ _ (by omega) (by omega) (HA.out.later HB2.out (Nat.le_refl _))).mono ?_
  rw [hok2]
  clear hok2
  rintro e w1 ⟨rfl, hb1⟩
  have a0 : w1.cell? ⟨w.heap.size, 0, none⟩ = some (.int .i64 (P : Int)) := below_at hb1 (Nat.le_refl _) (by go_simp)
  have a1 : w1.cell? ⟨w.heap.size, 1, none⟩ = some (.slice A ws.length c) := below_at hb1 (Nat.le_refl _) (by go_simp)
  have c0' : w1.cell? ⟨w.heap.size + 1, 0, none⟩ = some (.int .i64 0) := below_at hb1 (Nat.le_refl _) (by go_simp)
  have c1' : w1.cell? ⟨w.heap.size + 1, 1, none⟩ = some (.slice none 0 0) := below_at hb1 (Nat.le_refl _) (by go_simp)
  have f0' : w1.frozen? ⟨w.heap.size + 1, 0, none⟩ = false := (hb1.frozen (p := ⟨w.heap.size + 1, 0, none⟩) (by simp)).trans (by go_simp)
  have f1' : w1.frozen? ⟨w.heap.size + 1, 1, none⟩ = false := (hb1.frozen (p := ⟨w.heap.size + 1, 1, none⟩) (by simp)).trans (by go_simp)
  have hs1 : w.heap.size + 1 < w1.heap.size := by have := hb1.size; simp at this; omega
  have hs0 : w.heap.size < w1.heap.size := by omega
  have Y1 := Lib.hid (HB2.out.trans (hb1.mono (by simp; omega))); clear hb1
  go_wp2_with fail
  refine (earlier_ P A c ws _ HOK.out (HA.out.later Y1.out (Nat.le_refl _))).mono ?_
  rintro e w2 ⟨R, rfl, hE, hR1, hb1⟩
  rw [show eaF (eAll P (plsOf ws) ws.length) = setsOf P ws from rfl] at hE
  have c0 := below_at hb1 (Nat.le_refl _) c0'
  have c1 := below_at hb1 (Nat.le_refl _) c1'
  have b0 := below_at hb1 (Nat.le_refl _) a0
  have b1 := below_at hb1 (Nat.le_refl _) a1
  have f0 : w2.frozen? ⟨w.heap.size + 1, 0, none⟩ = false := (hb1.frozen (p := ⟨w.heap.size + 1, 0, none⟩) hs1).trans f0'
  have f1 : w2.frozen? ⟨w.heap.size + 1, 1, none⟩ = false := (hb1.frozen (p := ⟨w.heap.size + 1, 1, none⟩) hs1).trans f1'
  have hs2 : w.heap.size + 1 < w2.heap.size := Nat.lt_of_lt_of_le hs1 hb1.size
  have hs3 : w.heap.size < w2.heap.size := by omega
  have Y2 := Lib.hid (Y1.out.trans (hb1.mono Y1.out.size)); clear hb1
  have HE := Lib.hid hE; clear hE
  have hR2 := HE.out.lt
  clear a0 a1 c0' c1' f0' f1'
  go_wp2
  have hm0 : ((w2.alloc (.cells #[.int .u64 0, .int .u64 0, .int .u64 0, .int .u64 0, .int .u64 0, .int .u64 0, .int .u64 0] 105)).alloc (.cells #[.int .i64 (P : Int), .slice none 0 0] 24)).heap[w2.heap.size]? = some (.cells (wCells 1 (fun _ k => wd 0 k)) 105 (0, 0)) := by
    rw [Below.heap_alloc _ _ _ (by simp), heap_alloc_new, z7_one]
  have hm1 : ((w2.alloc (.cells #[.int .u64 0, .int .u64 0, .int .u64 0, .int .u64 0, .int .u64 0, .int .u64 0, .int .u64 0] 105)).alloc (.cells #[.int .i64 (P : Int), .slice none 0 0] 24)).heap[w2.heap.size + 1]? = some (.cells #[.int .i64 (P : Int), .slice none 0 0] 24 (0, 0)) := heap_alloc2_new _ _ _
  have hm2 : Below w2.heap.size w2 ((w2.alloc (.cells #[.int .u64 0, .int .u64 0, .int .u64 0, .int .u64 0, .int .u64 0, .int .u64 0, .int .u64 0] 105)).alloc (.cells #[.int .i64 (P : Int), .slice none 0 0] 24)) := ((Below.refl _ _).alloc (Nat.le_refl _) _).alloc (by simp) _
  have HM0 := Lib.hid hm0; have HM1 := Lib.hid hm1; have HM2 := Lib.hid hm2; clear hm0 hm1 hm2
  go_loopw [25] (fun iv wr => ∃ (j S : Nat) (v : Value), iv = .int .i64 j ∧ j ≤ l.length ∧ reRun ws.length (setsOf P ws) 0 (l.take j) = some S ∧ (∀ x ∈ l.take j, 0 ≤ x ∧ x < ws.length) ∧ SB wr w2.heap.size 1 (fun _ => S) ∧ wr.heap[w2.heap.size + 1]? = some (.cells #[.int .i64 (P : Int), v] 24 (0, 0)) ∧
    wr.ownsRow (w2.heap.size + 1 + 1) 50 3 v (reoG ws (l.take j)).length (worksC (reoG ws (l.take j))) ∧ Below w2.heap.size w2 wr) (fun iv _ => l.length - (intOf iv).toNat)
  case atStart => exact ⟨0, 0, _, rfl, Nat.zero_le _, rfl, (fun x hx => by cases hx), HM0.out, HM1.out, World.ownsRow_nil _ _ _ _, HM2.out⟩
  case round =>
    obtain ⟨j, S, v, rfl, hj, hrun, hin, hS, hO, hown, hbw⟩ := hrel
    have o1 : wr.cell? ⟨w2.heap.size + 1, 1, none⟩ = some v := cell_of_row wr _ 1 _ _ _ hO
    have o0 : wr.cell? ⟨w2.heap.size + 1, 0, none⟩ = some (.int .i64 (P : Int)) := cell_of_row wr _ 0 _ _ _ hO
    have o2 : wr.frozen? ⟨w2.heap.size + 1, 1, none⟩ = false := frozen_of_row _ _ 1 _ _ hO
    have hOl := lt_of_block hO
    have e1 := below_at hbw (Nat.le_refl _) b1
    have hz3 : w.heap.size < wr.heap.size := by omega
    have hz2 : w.heap.size + 1 < wr.heap.size := by omega
    have hXW := Y2.out.trans (hbw.mono Y2.out.size)
    have k0 := below_at hbw (Nat.le_refl _) c0
    have k1 := below_at hbw (Nat.le_refl _) c1
    have k2 : wr.frozen? ⟨w.heap.size + 1, 0, none⟩ = false := (hbw.frozen (p := ⟨w.heap.size + 1, 0, none⟩) hs2).trans f0
    have k3 : wr.frozen? ⟨w.heap.size + 1, 1, none⟩ = false := (hbw.frozen (p := ⟨w.heap.size + 1, 1, none⟩) hs2).trans f1
    have hSE : SB wr R ws.length (setsOf P ws) := (hbw.block R hR2).trans HE.out
    by_cases hlt : j < l.length
    · obtain ⟨bl, ol, rfl, hbl, l1⟩ := (HL.out.later hXW (Nat.le_refl _)).at_ hlt
      have x1 : (0 : Int) ≤ (j : Int) := by omega
      have x2 : (j : Int) < (l.length : Int) := by omega
      have hsn : reRun ws.length (setsOf P ws) 0 (l.take (j + 1)) = reStep ws.length (setsOf P ws) S l[j] := by
        rw [List.take_succ_eq_append_getElem hlt, reRun_snoc, hrun]; rfl
      have hno : reStep ws.length (setsOf P ws) S l[j] = none → ¬ reOk P ws l := fun hst h => by
        rw [hst] at hsn
        have := reRun_stop ws.length (setsOf P ws) l (j + 1) (by omega) hsn
        have h1 := h.1
        rw [this] at h1; cases h1
      have hlx : l.take (j + 1) = l.take j ++ [l[j]] := List.take_succ_eq_append_getElem hlt
      have hvl := hown.lt
      have hjn : j ≤ ws.length := by
        have := reRun_len hrun
        simp at this
        omega
      have HNO := Lib.hid hno; have HO := Lib.hid hO; have HOWN := Lib.hid hown; have HSE := Lib.hid hSE; have HXW := Lib.hid hXW; have HRUN := Lib.hid hrun; have HIN := Lib.hid hin; have HSN := Lib.hid hsn; have HBW := Lib.hid hbw; have HLX := Lib.hid hlx; clear hno hO hown hSE hXW hrun hin hsn hbw hlx
      generalize l[j] = x at *
      by_cases r1 : x < 0
      · have hno := HNO.out (if_neg (by omega))
        have HS := Lib.hid hS; have HNO := Lib.hid hno; clear hS hno
        go_wp2
        refine bodyPost_ret (v := .tuple #[.agg #[.int .i64 0, .slice none 0 0], .int .i64 4]) (by simp [results, Tryd.results50, go_sem, k0, k1]) rfl ⟨fun h => absurd h HNO.out, fun _ => ⟨none, 0, rfl, rdW_nil _, ?_, Nat.le_refl _⟩⟩
        exact ((Y2.out.trans (HBW.out.mono Y2.out.size)).setCell (by show w.heap.size ≤ w.heap.size + 1; omega) _).setCell (by show w.heap.size ≤ w.heap.size + 1; omega) _
      · by_cases r2 : (ws.length : Int) ≤ x
        · have hno := HNO.out (if_neg (by omega))
          have HS := Lib.hid hS; have HNO := Lib.hid hno; clear hS hno
          go_wp2
          refine bodyPost_ret (v := .tuple #[.agg #[.int .i64 0, .slice none 0 0], .int .i64 4]) (by simp [results, Tryd.results50, go_sem, k0, k1]) rfl ⟨fun h => absurd h HNO.out, fun _ => ⟨none, 0, rfl, rdW_nil _, ?_, Nat.le_refl _⟩⟩
          exact ((Y2.out.trans (HBW.out.mono Y2.out.size)).setCell (by show w.heap.size ≤ w.heap.size + 1; omega) _).setCell (by show w.heap.size ≤ w.heap.size + 1; omega) _
        · obtain ⟨i, rfl⟩ := Int.eq_ofNat_of_zero_le (show 0 ≤ x by omega)
          have hil : i < ws.length := by omega
          have y1 : (0 : Int) ≤ (i : Int) := by omega
          have y2 : (i : Int) < (ws.length : Int) := by omega
          have hi4 : i < 448 := by omega
          have hA1 := SB.at_ hS (b := 0) (by omega)
          by_cases r3 : S.testBit i = true
          · have hno := HNO.out (if_neg (by simp [r3]))
            have HS := Lib.hid hS; have HA1 := Lib.hid hA1; have HNO := Lib.hid hno; clear hS hA1 hno
            go_wp2_with fail
            refine (setHas_ _ 0 S i _ hi4 HA1.out).mono ?_
            rintro e w4 ⟨rfl, rfl⟩
            rw [r3]
            go_wp2
            refine bodyPost_ret (v := .tuple #[.agg #[.int .i64 0, .slice none 0 0], .int .i64 4]) (by simp [results, Tryd.results50, go_sem, k0, k1]) rfl ⟨fun h => absurd h HNO.out, fun _ => ⟨none, 0, rfl, rdW_nil _, ?_, Nat.le_refl _⟩⟩
            exact ((Y2.out.trans (HBW.out.mono Y2.out.size)).setCell (by show w.heap.size ≤ w.heap.size + 1; omega) _).setCell (by show w.heap.size ≤ w.heap.size + 1; omega) _
          · have r3' : S.testBit i = false := by simpa using r3
            have HS := Lib.hid hS; have HA1 := Lib.hid hA1; clear hS hA1
            go_wp2_with fail
            refine (setHas_ _ 0 S i _ hi4 HA1.out).mono ?_
            rintro e w4 ⟨rfl, rfl⟩
            rw [r3']
            go_wp2_with fail
            refine (setWithin_ R (i * 7) w2.heap.size 0 (setsOf P ws i) S _ (SB.at_ HSE.out hil) HA1.out).mono ?_
            rintro e w5 ⟨rfl, hb5⟩
            have hO5 := (hb5.block _ hOl).trans HO.out
            have hown5 := own_below3 HOWN.out hb5
            have hS5 : SB w5 w2.heap.size 1 (fun _ => S) := (hb5.block _ (by omega)).trans HS.out
            have hbw5 := HBW.out.trans (hb5.mono HBW.out.size)
            have k0' := below_at hb5 (Nat.le_refl _) k0
            have k1' := below_at hb5 (Nat.le_refl _) k1
            have k2' : w5.frozen? ⟨w.heap.size + 1, 0, none⟩ = false := (hb5.frozen (p := ⟨w.heap.size + 1, 0, none⟩) hz2).trans k2
            have k3' : w5.frozen? ⟨w.heap.size + 1, 1, none⟩ = false := (hb5.frozen (p := ⟨w.heap.size + 1, 1, none⟩) hz2).trans k3
            have hz4 : w.heap.size < w5.heap.size := Nat.lt_of_lt_of_le hz3 hb5.size
            have hz5 : w.heap.size + 1 < w5.heap.size := Nat.lt_of_lt_of_le hz2 hb5.size
            have e1' := below_at hb5 (Nat.le_refl _) e1
            have hOl5 := lt_of_block hO5
            clear k0 k1 k2 k3 hz3 hz2 e1 o1 o0 o2 l1
            have H5 := Lib.hid hb5; clear hb5
            by_cases r4 : winN (setsOf P ws i) S 7 = true
            · have hsx : reRun ws.length (setsOf P ws) 0 (l.take (j + 1)) = some (S ||| 2 ^ i) := by
                rw [HSN.out]
                exact if_pos ⟨y1, y2, r3', r4⟩
              have HS5 := Lib.hid hS5; have HO5 := Lib.hid hO5; have HOWN5 := Lib.hid hown5; have HBW5 := Lib.hid hbw5; have HSX := Lib.hid hsx; clear hS5 hO5 hown5 hbw5 hsx
              rw [r4]
              go_wp2_with fail
              refine (setPut_ _ 0 S i _ hi4 (SB.at_ HS5.out (b := 0) (by omega))).mono ?_
              rintro e w6 ⟨⟨v6, rfl⟩, hw6⟩
              have far6 : ∀ k, k ≠ w2.heap.size → w6.heap[k]? = w5.heap[k]? := fun k hk => by rw [hw6]; exact heap_setCell_other w5 _ k _ hk
              have hsz6 : w6.heap.size = w5.heap.size := by rw [hw6]; simp
              have hS6 : SB w6 w2.heap.size 1 (fun _ => S ||| 2 ^ i) := by
                have h1 := SB.put (b := 0) HS5.out hi4
                rw [hw6]
                refine WB.congr h1 fun x y hx _ => ?_
                unfold updS
                rw [if_pos (by omega)]
              have hO6 := (far6 _ (by omega)).trans HO5.out
              have hown6 : w6.ownsRow (w2.heap.size + 1 + 1) 50 3 v (reoG ws (l.take j)).length (worksC (reoG ws (l.take j))) := by
                rw [hw6]
                exact (ownsRow_setCell_below HOWN5.out (by show w2.heap.size < w2.heap.size + 1 + 1; omega) _).drew
              have hbw6 : Below w2.heap.size w2 w6 := by
                rw [hw6]
                exact (HBW5.out.setCell (Nat.le_refl _) _).drew
              have e1'' := below_at hbw6 (Nat.le_refl _) b1
              have o1 : w6.cell? ⟨w2.heap.size + 1, 1, none⟩ = some v := cell_of_row w6 _ 1 _ _ _ hO6
              have o2 : w6.frozen? ⟨w2.heap.size + 1, 1, none⟩ = false := frozen_of_row _ _ 1 _ _ hO6
              have hz6 : w.heap.size < w6.heap.size := by omega
              have hOl6 := lt_of_block hO6
              have hs6 : w2.heap.size < w6.heap.size := by omega
              clear hw6 far6 k0' k1' k2' k3' e1' hsz6 hz4 hz5 hOl5
              obtain ⟨b, off, rfl, hbL, g1, g2, g3⟩ := (HA.out.later (Y2.out.trans (hbw6.mono Y2.out.size)) (Nat.le_refl _)).at_ hil
              have htk : reoG ws (l.take (j + 1)) = reoG ws (l.take j) ++ [ws[i]] := by
                rw [HLX.out, reoG_snoc]
                simp [List.getD_eq_getElem?_getD, hil]
              have hinx : ∀ x ∈ l.take (j + 1), 0 ≤ x ∧ x < (ws.length : Int) := fun x hx => by
                rw [HLX.out] at hx
                rcases List.mem_append.1 hx with h | h
                · exact HIN.out x h
                · rw [List.mem_singleton.1 h]; exact ⟨y1, y2⟩
              have hrl : (reoG ws (l.take j)).length = j := by unfold reoG; simp; omega
              have hvl6 := hown6.lt
              generalize reoG ws (l.take j) = acc at *
              generalize ws[i] = z at *
              have hN1 : Hid (some w6.heap.size ≠ v.ownBlock) := fun h => by have := (hvl6 _ h.symm).2; omega
              have hN2 : Hid (some (w2.heap.size + 1) ≠ v.ownBlock) := fun h => by have := (hvl6 _ h.symm).1; omega
              have HO6 := Lib.hid hO6; have HOWN6 := Lib.hid hown6; have HBW6 := Lib.hid hbw6; have HTK := Lib.hid htk; have HRL := Lib.hid hrl; have HVL6 := Lib.hid hvl6; have HS6 := Lib.hid hS6; have HINX := Lib.hid hinx; clear hO6 hown6 hbw6 htk hrl hvl6 hS6 hinx
              go_wp2
              go_region_law
                (first | (refine step_appW_Tryd (by rfl) _ _ (by rfl) (w2.heap.size + 1 + 1) v acc (by rfl) (by repeat (first | exact HOWN6.out | refine World.ownsRow.alloc ?_ _ | exact (World.ownsRow.alloc HOWN6.out _).drew)) w6.heap.size z (by rfl) (heap_alloc_new _ _) (by have := HRL.out; omega) (by simp; omega) ?_; intro g cap w3 hown3 hgrow hat3 hlt3; have q1 : w3.cell? ⟨w2.heap.size + 1, 1, none⟩ = some v := (hgrow.cell_far ⟨w2.heap.size + 1, 1, none⟩ (by simp; omega) hN2.out).trans (by go_simp); have q2 : w3.frozen? ⟨w2.heap.size + 1, 1, none⟩ = false := (hgrow.frozen_far ⟨w2.heap.size + 1, 1, none⟩ (by simp; omega) hN2.out).trans (by go_simp); have q3 : w2.heap.size + 1 < w3.heap.size := (by have := hgrow.size; simp at this; omega)))
              all_goals
                go_wp2
                go_roundw
                case rel =>
                  refine ⟨j + 1, S ||| 2 ^ i, _, by go_num, by omega, HSX.out, HINX.out, ?_, ?_, by rw [HTK.out]; exact ownsRow_setCell_below hown3 (by show w2.heap.size + 1 < w2.heap.size + 1 + 1; omega) _, ?_⟩
                  · exact (Below.heap_setCell _ _ _ _ (by simp)).trans ((hgrow.block _ (by simp; omega) (fun h => by have := (HVL6.out _ h.symm).1; omega)).trans ((Below.heap_alloc w6 _ _ hs6).trans HS6.out))
                  · exact heap_setCell_same _ _ 1 _ _ _ ((hgrow.block _ (by simp; omega) hN2.out).trans ((Below.heap_alloc w6 _ _ hOl6).trans HO6.out))
                  · exact ((HBW6.out.alloc HBW6.out.size _).drew.grown hgrow (by simp; omega) (fun k' hk' => by have := (HVL6.out k' hk').1; omega)).setCell (by show w2.heap.size ≤ w2.heap.size + 1; omega) _
                case measure => simp [intOf]; omega
            · have r4' : winN (setsOf P ws i) S 7 = false := by simpa using r4
              have hno := HNO.out (if_neg (by simp [r4']))
              have HS5 := Lib.hid hS5; have HO5 := Lib.hid hO5; have HOWN5 := Lib.hid hown5; have HBW5 := Lib.hid hbw5; have HNO := Lib.hid hno; clear hS5 hO5 hown5 hbw5 hno
              rw [r4']
              go_wp2
              refine bodyPost_ret (v := .tuple #[.agg #[.int .i64 0, .slice none 0 0], .int .i64 4]) (by simp [results, Tryd.results50, go_sem, k0', k1']) rfl ⟨fun h => absurd h HNO.out, fun _ => ⟨none, 0, rfl, rdW_nil _, ?_, Nat.le_refl _⟩⟩
              exact ((Y2.out.trans (HBW5.out.mono Y2.out.size)).setCell (by show w.heap.size ≤ w.heap.size + 1; omega) _).setCell (by show w.heap.size ≤ w.heap.size + 1; omega) _
    · have hj2 : j = l.length := by omega
      have htk2 : l.take j = l := List.take_of_length_le (by omega)
      rw [htk2] at hown hrun hin
      by_cases hq : l.length = ws.length
      · obtain ⟨B, d, rfl, hd⟩ := own_slice3 hown
        have hrl : (reoG ws l).length = l.length := by unfold reoG; simp
        have hyes : reOk P ws l := ⟨by rw [hrun]; rfl, hq⟩
        have hfits : ∀ x ∈ reoG ws l, x.fits := fun x hx => by
          unfold reoG at hx
          obtain ⟨y, hy, rfl⟩ := List.mem_map.1 hx
          obtain ⟨r1, r2⟩ := hin y hy
          have hy2 : y.toNat < ws.length := by omega
          rw [List.getD_eq_getElem?_getD, List.getElem?_eq_getElem hy2]
          exact HA.out.2.1 _ (List.getElem_mem hy2)
        have hrd : RdW wr B (reoG ws l) := ⟨by omega, hfits, own_rdW hown⟩
        have hneb : ∀ b off, B = some ⟨b, off, none⟩ → b ≠ w.heap.size + 1 := fun b off hB h => by
          subst hB; subst h
          have := (hown.lt (w.heap.size + 1) rfl).1
          omega
        have HO := Lib.hid hO; have HOWN := Lib.hid hown; have HBW := Lib.hid hbw; have HTK2 := Lib.hid htk2; have HRL := Lib.hid hrl; have HFITS := Lib.hid hfits; have HRD := Lib.hid hrd; have HNEB := Lib.hid hneb; have HS := Lib.hid hS; have HSE := Lib.hid hSE; have HXW := Lib.hid hXW; have HRUN := Lib.hid hrun; have HIN := Lib.hid hin; have HYES := Lib.hid hyes; clear hO hown hbw htk2 hrl hfits hrd hneb hS hSE hXW hrun hin hyes
        go_wp2
        refine bodyPost_ret (v := .tuple #[.agg #[.int .i64 P, .slice B (reoG ws l).length d], .int .i64 0]) (by simp [results, Tryd.results50, go_sem, k0, k1]) rfl ⟨fun _ => ⟨B, d, rfl, ⟨HRD.out.1, HRD.out.2.1, fun h0 => ?_⟩, ?_, hd⟩, fun h => absurd HYES.out h⟩
        · obtain ⟨b, off, hB, hb, hcl⟩ := HRD.out.2.2 h0
          refine ⟨b, off, hB, by simpa using hb, fun q hq => ?_⟩
          rw [World.cell?_setCell_other _ _ _ _ (by simp; intro h; exact absurd h.symm (HNEB.out b off hB)), World.cell?_setCell_other _ _ _ _ (by simp; intro h; exact absurd h.symm (HNEB.out b off hB))]
          exact hcl q hq
        · exact ((Y2.out.trans (HBW.out.mono Y2.out.size)).setCell (by show w.heap.size ≤ w.heap.size + 1; omega) _).setCell (by show w.heap.size ≤ w.heap.size + 1; omega) _
      · have hno : ¬ reOk P ws l := fun h => hq h.2
        have hq2 : ¬ ((l.length : Int) = (ws.length : Int)) := by omega
        have HO := Lib.hid hO; have HOWN := Lib.hid hown; have HBW := Lib.hid hbw; have HTK2 := Lib.hid htk2; have HS := Lib.hid hS; have HSE := Lib.hid hSE; have HXW := Lib.hid hXW; have HRUN := Lib.hid hrun; have HIN := Lib.hid hin; have HNO := Lib.hid hno; have HQ := Lib.hid hq; clear hO hown hbw htk2 hS hSE hXW hrun hin hno hq
        go_wp2
        refine bodyPost_ret (v := .tuple #[.agg #[.int .i64 0, .slice none 0 0], .int .i64 4]) (by simp [results, Tryd.results50, go_sem, k0, k1]) rfl ⟨fun h => absurd h HNO.out, fun _ => ⟨none, 0, rfl, rdW_nil _, ?_, Nat.le_refl _⟩⟩
        exact ((Y2.out.trans (HBW.out.mono Y2.out.size)).setCell (by show w.heap.size ≤ w.heap.size + 1; omega) _).setCell (by show w.heap.size ≤ w.heap.size + 1; omega) _
end Go.Proofs.YtlpfecjkkgccgaaDoor
/- The program's sets and the order that the reference takes: plain. -/
namespace Go.Proofs.YtlpfecjkkgccgaaDoor
open Go.RowKit

theorem setsOf_bef {P : Nat} {ws : List GW} {b : Nat} (hb : b < ws.length) (a : Nat) : (setsOf P ws b).testBit a = true ↔ Bef (plsOf ws) a b := eaF_bef (plsOf ws) hb a
theorem win_bef {P : Nat} {ws : List GW} {b : Nat} (hb : b < ws.length) (hn : ws.length ≤ 400) (S : Nat) : winN (setsOf P ws b) S 7 = true ↔ ∀ a, Bef (plsOf ws) a b → S.testBit a = true := by
  rw [winN_iff]
  constructor
  · intro h a ha
    exact h a (by have := ha.lt; omega) ((setsOf_bef hb a).2 ha)
  · intro h i _ hi
    exact h i ((setsOf_bef hb i).1 hi)
/-- A set that holds what is before each of its works. -/
def ClS (pls : Nat → Nat) (S : Nat) : Prop := ∀ b, S.testBit b = true → ∀ a, Bef pls a b → S.testBit a = true
theorem bef_touch {pls : Nat → Nat} {S b : Nat} (hc : ClS pls S) : (∀ a, Bef pls a b → S.testBit a = true) ↔ ∀ a, a < b → tP (pls a) (pls b) = true → S.testBit a = true := by
  constructor
  · intro h a ha t
    exact h a (.one ha t)
  · intro h a ha
    cases ha with
    | one h1 t => exact h a h1 t
    | step h1 hj t => exact hc _ (h _ hj t) a h1
theorem ClS.put {pls : Nat → Nat} {S b : Nat} (hc : ClS pls S) (hb : ∀ a, Bef pls a b → S.testBit a = true) : ClS pls (S ||| 2 ^ b) := fun x hx a ha => by
  rw [Nat.testBit_or] at hx ⊢
  rw [Bool.or_eq_true] at hx ⊢
  rcases hx with h | h
  · exact .inl (hc x h a ha)
  · rw [Nat.testBit_two_pow, decide_eq_true_eq] at h
    subst h
    exact .inl (hb a ha)
/-- One more work of an order, as the reference asks. -/
def oStep (n : Nat) (pls : Nat → Nat) (S : Nat) (x : Int) : Option Nat := if 0 ≤ x ∧ x < n ∧ S.testBit x.toNat = false ∧ (∀ a, a < x.toNat → tP (pls a) (pls x.toNat) = true → S.testBit a = true) then some (S ||| 2 ^ x.toNat) else none
def oRun (n : Nat) (pls : Nat → Nat) : Nat → List Int → Option Nat
  | S, [] => some S
  | S, x :: l => match oStep n pls S x with
    | some S' => oRun n pls S' l
    | none => none
theorem re_oStep {P : Nat} {ws : List GW} (hn : ws.length ≤ 400) {S : Nat} (hc : ClS (plsOf ws) S) (x : Int) :
    reStep ws.length (setsOf P ws) S x = oStep ws.length (plsOf ws) S x ∧ ∀ S', oStep ws.length (plsOf ws) S x = some S' → ClS (plsOf ws) S' := by
  have key : ∀ (h : 0 ≤ x ∧ x < ws.length), (winN (setsOf P ws x.toNat) S 7 = true ↔ ∀ a, a < x.toNat → tP (plsOf ws a) (plsOf ws x.toNat) = true → S.testBit a = true) := fun h => by
    rw [win_bef (by omega) hn, bef_touch hc]
  constructor
  · unfold reStep oStep
    by_cases h : 0 ≤ x ∧ x < (ws.length : Int)
    · have k := key h
      by_cases c : S.testBit x.toNat = false ∧ winN (setsOf P ws x.toNat) S 7 = true
      · rw [if_pos ⟨h.1, h.2, c⟩, if_pos ⟨h.1, h.2, c.1, k.1 c.2⟩]
      · rw [if_neg (fun g => c g.2.2), if_neg (fun g => c ⟨g.2.2.1, k.2 g.2.2.2⟩)]
    · rw [if_neg (fun g => h ⟨g.1, g.2.1⟩), if_neg (fun g => h ⟨g.1, g.2.1⟩)]
  · intro S' hs
    unfold oStep at hs
    split at hs
    · rename_i g
      cases hs
      exact hc.put ((bef_touch hc).2 g.2.2.2)
    · cases hs
theorem re_oRun {P : Nat} {ws : List GW} (hn : ws.length ≤ 400) : ∀ (l : List Int) (S : Nat), ClS (plsOf ws) S → reRun ws.length (setsOf P ws) S l = oRun ws.length (plsOf ws) S l
  | [], S, _ => rfl
  | x :: l, S, hc => by
    obtain ⟨h1, h2⟩ := re_oStep (P := P) hn hc x
    show (match reStep ws.length (setsOf P ws) S x with | some S' => reRun ws.length (setsOf P ws) S' l | none => none) = (match oStep ws.length (plsOf ws) S x with | some S' => oRun ws.length (plsOf ws) S' l | none => none)
    rw [h1]
    cases hs : oStep ws.length (plsOf ws) S x with
    | none => rfl
    | some S' => exact re_oRun hn l S' (h2 S' hs)
theorem reOk_iff {P : Nat} {ws : List GW} (hn : ws.length ≤ 400) (l : List Int) : reOk P ws l ↔ (oRun ws.length (plsOf ws) 0 l).isSome = true ∧ l.length = ws.length := by
  unfold reOk
  rw [re_oRun hn l 0 (fun b hb => by simp at hb)]
end Go.Proofs.YtlpfecjkkgccgaaDoor
/- The program's closed sets, and touch. -/
namespace Go.Proofs.YtlpfecjkkgccgaaDoor
open Go.RowKit

/-- The set of a list. -/
def bitsL (l : List Int) : Nat := l.foldl (fun S x => S ||| 2 ^ x.toNat) 0
theorem bitsL_snoc (l : List Int) (x : Int) : bitsL (l ++ [x]) = bitsL l ||| 2 ^ x.toNat := by unfold bitsL; simp
def AscAt (n : Nat) (l : List Int) (i : Nat) : Prop := 0 ≤ l.getD i 0 ∧ l.getD i 0 < n ∧ (i = 0 ∨ l.getD (i - 1) 0 < l.getD i 0)
instance (n : Nat) (l : List Int) (i : Nat) : Decidable (AscAt n l i) := by unfold AscAt; infer_instance
/-- A list of works, each once and in order. -/
def Asc (n : Nat) (l : List Int) : Prop := ∀ i, i < l.length → AscAt n l i
instance (n : Nat) (l : List Int) : Decidable (Asc n l) := by unfold Asc; infer_instance
def Clo (E : Nat → Nat) (l : List Int) : Prop := ∀ i, i < l.length → winN (E (l.getD i 0).toNat) (bitsL l) 7 = true
instance (E : Nat → Nat) (l : List Int) : Decidable (Clo E l) := by unfold Clo; infer_instance
/-- What a function is given: a sheet of any number of pairs. -/
structure ShIn (w : World) (p : Int) (A : Option Addr) (ws : List GW) : Prop where
  lo : -9223372036854775808 ≤ p
  hi : p ≤ 9223372036854775807
  rd : RdW w A ws
theorem ShIn.later {w w' : World} {B : Nat} {p : Int} {A : Option Addr} {ws : List GW} (h : ShIn w p A ws) (hb : Below B w w') (hB : w.heap.size ≤ B) : ShIn w' p A ws := ⟨h.lo, h.hi, h.rd.later hb hB⟩
/-- The error of a list as a closed set. -/
def clErr (P : Int) (ws : List GW) (l : List Int) : Int := if errSheet P ws = 0 then (if Asc ws.length l then (if Clo (setsOf P.toNat ws) l then 0 else 4) else 2) else errSheet P ws
def wordsV (S : Nat) : Value := .agg #[.int .u64 (wd S 0 : Nat), .int .u64 (wd S 1 : Nat), .int .u64 (wd S 2 : Nat), .int .u64 (wd S 3 : Nat), .int .u64 (wd S 4 : Nat), .int .u64 (wd S 5 : Nat), .int .u64 (wd S 6 : Nat)]
def ClPost (P : Int) (ws : List GW) (l : List Int) (w : World) (e : Ending) (w' : World) : Prop :=
  Below w.heap.size w w' ∧ (clErr P ws l ≠ 0 → e = .returned (.tuple #[wordsV 0, .slice none 0 0, .int .i64 (clErr P ws l)])) ∧
  (clErr P ws l = 0 → ∃ R, e = .returned (.tuple #[wordsV (bitsL l), .slice (some ⟨R, 0, none⟩) ws.length ws.length, .int .i64 0]) ∧ SB w' R ws.length (setsOf P.toNat ws))
theorem wordsV_zero : wordsV 0 = .agg #[.int .u64 0, .int .u64 0, .int .u64 0, .int .u64 0, .int .u64 0, .int .u64 0, .int .u64 0] := by
  unfold wordsV
  simp [wd_zero]

end Go.Proofs.YtlpfecjkkgccgaaDoor
/- The program's Ready. -/
namespace Go.Proofs.YtlpfecjkkgccgaaDoor
open Go.RowKit

theorem z7_of (S : Nat) : (#[.int .u64 (wd S 0 : Nat), .int .u64 (wd S 1 : Nat), .int .u64 (wd S 2 : Nat), .int .u64 (wd S 3 : Nat), .int .u64 (wd S 4 : Nat), .int .u64 (wd S 5 : Nat), .int .u64 (wd S 6 : Nat)] : Array Value) = wCells 1 (fun _ k => wd S k) := by
  unfold wCells
  simp [List.range_succ]
/-- Is a work ready after these? -/
def rdyB (P : Nat) (ws : List GW) (l : List Int) (i : Nat) : Bool := !(bitsL l).testBit i && winN (setsOf P ws i) (bitsL l) 7
def rdyTo (P : Nat) (ws : List GW) (l : List Int) (k : Nat) : List Int := ((List.range k).filter (rdyB P ws l)).map fun (i : Nat) => (i : Int)
theorem rdyTo_yes {P k : Nat} {ws : List GW} {l : List Int} (h : rdyB P ws l k = true) : rdyTo P ws l (k + 1) = rdyTo P ws l k ++ [(k : Int)] := by
  unfold rdyTo
  simp [List.range_succ, List.filter_append, h]
theorem rdyTo_no {P k : Nat} {ws : List GW} {l : List Int} (h : rdyB P ws l k = false) : rdyTo P ws l (k + 1) = rdyTo P ws l k := by
  unfold rdyTo
  simp [List.range_succ, List.filter_append, h]
theorem rdyTo_le (P : Nat) (ws : List GW) (l : List Int) (k : Nat) : (rdyTo P ws l k).length ≤ k := by
  unfold rdyTo
  have := List.length_filter_le (rdyB P ws l) (List.range k)
  simpa using this
def readyL (p : Int) (ws : List GW) (l : List Int) : List Int := if clErr p ws l = 0 then rdyTo p.toNat ws l ws.length else []

end Go.Proofs.YtlpfecjkkgccgaaDoor
/- The program's Line. -/
namespace Go.Proofs.YtlpfecjkkgccgaaDoor
open Go.RowKit

/-- The line with the places of a work so far set. -/
def lnTo (P : Nat) (ws : List GW) (g : Nat → Int) (k : Nat) : Nat → Nat → Int
  | 0 => g
  | sd + 1 => updF (lnTo P ws g k sd) (plsOf ws k + sd) ((P : Int) + 2 * (k : Int) + (sd : Int))
def lineG (P : Nat) (ws : List GW) (l : List Int) : Nat → Int := l.foldl (fun g x => lnTo P ws g x.toNat 2) fun p => (p : Int)
theorem lineG_snoc (P : Nat) (ws : List GW) (l : List Int) (x : Int) : lineG P ws (l ++ [x]) = lnTo P ws (lineG P ws l) x.toNat 2 := by unfold lineG; simp
def lineL (p : Int) (ws : List GW) (l : List Int) : List Int := if clErr p ws l = 0 then (List.range p.toNat).map (lineG p.toNat ws l) else []
theorem IdB.congr {w : World} {R m : Nat} {g g' : Nat → Int} (h : IdB w R m g) (he : ∀ p, p < m → g p = g' p) : IdB w R m g' := by
  unfold IdB at h ⊢
  rw [h]
  congr 3
  refine List.map_congr_left fun p hp => ?_
  rw [he p (List.mem_range.1 hp)]
theorem IdB.rdV {w : World} {R m : Nat} {g : Nat → Int} (h : IdB w R m g) (hm : m ≤ 1000) : RdV w (.slice (some ⟨R, 0, none⟩) m m) ((List.range m).map g) := by
  refine ⟨some ⟨R, 0, none⟩, m, by simp, by simp; omega, fun h0 => ⟨R, 0, rfl, lt_of_block h, fun j hj => ?_⟩⟩
  have hj' : j < m := by simpa using hj
  rw [Nat.zero_add, IdB.at_ h hj']
  simp [List.getD_eq_getElem?_getD, hj']
theorem clErr_zero {p : Int} {ws : List GW} {l : List Int} (h : clErr p ws l = 0) : errSheet p ws = 0 ∧ Asc ws.length l ∧ Clo (setsOf p.toNat ws) l := by
  unfold clErr at h
  split at h
  · rename_i h1
    split at h
    · rename_i h2
      split at h
      · rename_i h3; exact ⟨h1, h2, h3⟩
      · cases h
    · cases h
  · rename_i h1; exact absurd h h1

end Go.Proofs.YtlpfecjkkgccgaaDoor
/- The program's asked and Before. -/
namespace Go.Proofs.YtlpfecjkkgccgaaDoor
open Go.RowKit

def badI (n : Nat) (x : Int) : Bool := decide (x < 0 ∨ (n : Int) ≤ x)
def IdxPost (b : Bool) (w : World) (e : Ending) (w' : World) : Prop := ∃ r : Int, e = .returned (.int .i64 r) ∧ decide (0 ≤ r) = b ∧ w = w'
def askErr (p : Int) (ws : List GW) (l : List Int) : Int := if errSheet p ws = 0 then (if l.any (badI ws.length) = true then 2 else 0) else errSheet p ws
def befB (p : Int) (ws : List GW) (a b : Int) : Bool := decide (askErr p ws [a, b] = 0) && (setsOf p.toNat ws b.toNat).testBit a.toNat
end Go.Proofs.YtlpfecjkkgccgaaDoor
/- Closed sets, ready works and Before, by the relation itself: plain. -/
namespace Go.Proofs.YtlpfecjkkgccgaaDoor
open Go.RowKit

theorem bitsL_go (b : Nat) : ∀ (l : List Int) (S : Nat), (l.foldl (fun S x => S ||| 2 ^ x.toNat) S).testBit b = true ↔ S.testBit b = true ∨ ∃ x ∈ l, x.toNat = b
  | [], S => by simp
  | x :: l, S => by
    rw [List.foldl_cons, bitsL_go b l, Nat.testBit_or, Bool.or_eq_true, Nat.testBit_two_pow, decide_eq_true_eq]
    constructor
    · rintro ((h | h) | ⟨y, hy, h⟩)
      · exact .inl h
      · exact .inr ⟨x, by simp, h⟩
      · exact .inr ⟨y, by simp [hy], h⟩
    · rintro (h | ⟨y, hy, h⟩)
      · exact .inl (.inl h)
      · rcases List.mem_cons.1 hy with e | e
        · subst e; exact .inl (.inr h)
        · exact .inr ⟨y, e, h⟩
theorem bitsL_bit (l : List Int) (b : Nat) : (bitsL l).testBit b = true ↔ ∃ x ∈ l, x.toNat = b := by
  unfold bitsL
  rw [bitsL_go]
  simp
theorem clo_iff {P : Nat} {ws : List GW} (hn : ws.length ≤ 400) {l : List Int} (ha : Asc ws.length l) : Clo (setsOf P ws) l ↔ ClS (plsOf ws) (bitsL l) := by
  have hin : ∀ x ∈ l, 0 ≤ x ∧ x < ws.length := fun x hx => by
    obtain ⟨i, hi, rfl⟩ := List.mem_iff_getElem.1 hx
    have := ha i hi
    unfold AscAt at this
    rw [show l.getD i 0 = l[i] by simp [List.getD_eq_getElem?_getD, hi]] at this
    exact ⟨this.1, this.2.1⟩
  constructor
  · intro h b hb a hab
    obtain ⟨x, hx, hxb⟩ := (bitsL_bit l b).1 hb
    obtain ⟨r1, r2⟩ := hin x hx
    obtain ⟨i, hi, rfl⟩ := List.mem_iff_getElem.1 hx
    have h1 := h i hi
    rw [show l.getD i 0 = l[i] by simp [List.getD_eq_getElem?_getD, hi], win_bef (by omega) hn, hxb] at h1
    exact h1 a hab
  · intro h i hi
    have hx := List.getElem_mem hi
    obtain ⟨r1, r2⟩ := hin _ hx
    rw [show l.getD i 0 = l[i] by simp [List.getD_eq_getElem?_getD, hi], win_bef (by omega) hn]
    exact h _ ((bitsL_bit l _).2 ⟨_, hx, rfl⟩)
theorem rdyB_iff {P : Nat} {ws : List GW} (hn : ws.length ≤ 400) {l : List Int} {i : Nat} (hi : i < ws.length) : rdyB P ws l i = true ↔ (bitsL l).testBit i = false ∧ ∀ a, Bef (plsOf ws) a i → (bitsL l).testBit a = true := by
  unfold rdyB
  rw [Bool.and_eq_true, win_bef hi hn]
  simp
theorem befB_iff {p a b : Int} {ws : List GW} (h : askErr p ws [a, b] = 0) : befB p ws a b = true ↔ Bef (plsOf ws) a.toNat b.toNat := by
  have hb : b.toNat < ws.length := by
    unfold askErr at h
    split at h
    · split at h
      · cases h
      · rename_i g
        simp [badI] at g
        omega
    · rename_i g; exact absurd h g
  unfold befB
  rw [h, Bool.and_eq_true, setsOf_bef hb]
  simp
end Go.Proofs.YtlpfecjkkgccgaaDoor
/- The program's Reorder and Edges of a sheet that is not valid. -/
namespace Go.Proofs.YtlpfecjkkgccgaaDoor
open Go.RowKit

set_option maxRecDepth 100000 in
set_option maxHeartbeats 4000000 in
theorem sReorder_bad (p : Int) (A L : Option Addr) (c lc : Nat) (ws : List GW) (l : List Int) (w : World) (hsh : ShIn w p A ws) (he : errSheet p ws ≠ 0) :
    Calls Tryd.prog 50 #[.agg #[.int .i64 p, .slice A ws.length c], .slice L l.length lc] w (ShPost 0 [] (errSheet p ws) w) := by
  have hb2 : Below w.heap.size w ((w.alloc (.cells #[.int .i64 p, .slice A ws.length c] 24)).alloc (.cells #[.int .i64 0, .slice none 0 0] 24)) := ((Below.refl _ _).alloc (Nat.le_refl _) _).alloc (by simp) _
  obtain ⟨hp1, hp2, ha⟩ := hsh
  have HA := Lib.hid ha; have HB2 := Lib.hid hb2; clear ha hb2
  go_enter Tryd.func50, Tryd.ntmps50
  go_wp2_with fail
  refine (sCheck_ _ _ _ _ _ hp1 hp2 (HA.out.later HB2.out (Nat.le_refl _))).mono ?_
  rintro e w1 ⟨rfl, hb1⟩
  have c0 : w1.cell? ⟨w.heap.size + 1, 0, none⟩ = some (.int .i64 0) := below_at hb1 (Nat.le_refl _) (by go_simp)
  have c1 : w1.cell? ⟨w.heap.size + 1, 1, none⟩ = some (.slice none 0 0) := below_at hb1 (Nat.le_refl _) (by go_simp)
  have f0 : w1.frozen? ⟨w.heap.size + 1, 0, none⟩ = false := (hb1.frozen (p := ⟨w.heap.size + 1, 0, none⟩) (by simp)).trans (by go_simp)
  have f1 : w1.frozen? ⟨w.heap.size + 1, 1, none⟩ = false := (hb1.frozen (p := ⟨w.heap.size + 1, 1, none⟩) (by simp)).trans (by go_simp)
  have hs1 : w.heap.size + 1 < w1.heap.size := by have := hb1.size; simp at this; omega
  have Y1 := Lib.hid (HB2.out.trans (hb1.mono (by simp; omega))); clear hb1
  generalize hge : errSheet p ws = E at *
  have HGE := Lib.hid hge; clear hge
  go_wp2
  refine bodyPost_ret (v := .tuple #[.agg #[.int .i64 0, .slice none 0 0], .int .i64 E]) (by simp [results, Tryd.results50, go_sem, c0, c1]) rfl ⟨none, 0, ?_, rdW_nil _, (Y1.out.setCell (by show w.heap.size ≤ w.heap.size + 1; omega) _).setCell (by show w.heap.size ≤ w.heap.size + 1; omega) _, Nat.le_refl _⟩
  try rw [HGE.out]
  rfl

end Go.Proofs.YtlpfecjkkgccgaaDoor
