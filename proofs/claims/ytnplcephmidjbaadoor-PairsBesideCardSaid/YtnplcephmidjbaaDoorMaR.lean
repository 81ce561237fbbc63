/- Texts of this claim, laid together: PrLeast, PrShare, PrShareR. -/
import Derived.Test.YtnplcephmidjbaaDoorMaE
import Derived.Test.YtnplcephmidjbaaDoorMaQ
/- The reference of package pairs: least. -/
namespace Go.Proofs.YtnplcephmidjbaaDoor
open Go.RowKit

theorem lsR_succ (l : List Int) (i : Nat) : lsR l (i + 1) = if (lsR l i : Int) ∈ l then lsR l i + 1 else lsR l i := rfl
set_option maxRecDepth 100000 in
set_option maxHeartbeats 2000000 in
theorem rleast_ (L : Option Addr) (lc : Nat) (l : List Int) (w : World) (hl : RdI w L l) (hl4 : l.length ≤ 1000) :
    Calls Tryd.prog 30 #[.slice L l.length lc] w fun e w' => e = .returned (.int .i64 (leastL l : Int)) ∧ w = w' := by
  have hle := fun i => lsR_le l i
  have HL := Lib.hid hl; have HLE := Lib.hid hle; clear hl hle
  go_enter Tryd.func30, Tryd.ntmps30
  go_wp2
  go_loopw [3, 4] (fun nv iv wr => ∃ i : Nat, iv = .int .i64 i ∧ i ≤ l.length ∧ nv = .int .i64 (lsR l i : Int) ∧ w = wr) (fun _ iv _ => l.length - (intOf iv).toNat)
  case atStart => exact ⟨0, rfl, Nat.zero_le _, rfl, rfl⟩
  case round =>
    obtain ⟨i, rfl, hi, rfl, rfl⟩ := hrel
    have hle := HLE.out i
    have hst := lsR_succ l i
    by_cases hil : i < l.length
    · generalize lsR l i = n at *
      have HST := Lib.hid hst; clear hst
      go_wp2
      go_loopw [3, 5] (fun nv jv wr => ∃ j : Nat, jv = .int .i64 j ∧ nv = .int .i64 (n : Int) ∧ j ≤ l.length ∧ (∀ t, (h : t < l.length) → t < j → l[t] ≠ (n : Int)) ∧ w = wr) (fun _ jv _ => l.length - (intOf jv).toNat)
      case atStart => exact ⟨0, rfl, rfl, Nat.zero_le _, fun t h h2 => absurd h2 (by omega), rfl⟩
      case round =>
        obtain ⟨j, rfl, rfl, hj, hno, rfl⟩ := hrel
        by_cases hjl : j < l.length
        · obtain ⟨bl, ol, rfl, hbl, m1⟩ := HL.out.at_ hjl
          have z1 : (0 : Int) ≤ (j : Int) := by omega
          have z2 : (j : Int) < (l.length : Int) := by omega
          by_cases heq : l[j] = (n : Int)
          · have hm : (n : Int) ∈ l := heq ▸ List.getElem_mem hjl
            have hb : (l[j] == (n : Int)) = true := by simpa using heq
            generalize l[j] = x at *
            clear heq
            have HNO := Lib.hid hno; have HM := Lib.hid hm; clear hno hm
            go_wp2
            go_roundw
            case rel => exact ⟨i + 1, by go_num, by omega, by rw [HST.out, if_pos HM.out]; go_num, trivial⟩
            case measure => simp [intOf]; omega
          · have hb : (l[j] == (n : Int)) = false := by simpa using heq
            have hno2 : ∀ t, (h : t < l.length) → t < j + 1 → l[t] ≠ (n : Int) := fun t h h2 => by
              rcases Nat.lt_succ_iff_lt_or_eq.1 h2 with h2 | rfl
              · exact hno t h h2
              · exact heq
            generalize l[j] = x at *
            clear heq hno
            have HNO2 := Lib.hid hno2; clear hno2
            go_wp2
            go_roundw
            case rel => exact ⟨j + 1, by go_num, rfl, by omega, HNO2.out, trivial⟩
            case measure => simp [intOf]; omega
        · obtain rfl : j = l.length := by omega
          have hm : ¬ (n : Int) ∈ l := fun h => by
            obtain ⟨t, ht, he⟩ := List.mem_iff_getElem.1 h
            exact hno t ht ht he
          have HNO := Lib.hid hno; have HM := Lib.hid hm; clear hno hm
          go_wp2
          go_roundw
          case rel => exact ⟨i + 1, by go_num, by omega, by rw [HST.out, if_neg HM.out], trivial⟩
          case measure => simp [intOf]; omega
    · obtain rfl : i = l.length := by omega
      have hf : lsR l l.length = leastL l := rfl
      rw [hf]
      have HST := Lib.hid hst; have HF := Lib.hid hf; clear hst hf
      go_wp2
      go_ret
      exact ⟨rfl, rfl⟩
end Go.Proofs.YtnplcephmidjbaaDoor
/- Package pairs: Share. -/
namespace Go.Proofs.YtnplcephmidjbaaDoor
open Go.RowKit

/-- What Share returns: a place hangs while work k is made and later ones that take it are still to come. -/
def shU (q : Nat → Nat) (n : Nat) (k p : Nat) : Bool := decide ((k : Int) ≤ laI q n p)
def shareG (P : Nat) (q : Nat → Nat) (n : Nat) : Nat → Int := shR P q (shU q n) n
def shareL (p : Int) (ws : List GW) (l : List Int) : List Int := if reoX p ws l = 0 then (List.range p.toNat).map (shareG p.toNat (plsOf (reoG ws l)) l.length) else []
theorem hldB_succ (u : Nat → Bool) (out : Nat → Int) (m : Nat) : hldB u out (m + 1) = if 0 ≤ out m ∧ u m = true then hldB u out m ||| 2 ^ (out m).toNat else hldB u out m := rfl

theorem xor_max (hb : Nat) (h : hb < 2 ^ 64) : bits .xor .u64 IntKind.u64.max (hb : Int) = ((2 ^ 64 - (hb + 1) : Nat) : Int) := by
  have h2 : (BitVec.ofInt 64 (hb : Int)).toNat = hb := by
    rw [BitVec.ofInt_natCast, BitVec.toNat_ofNat]; exact Nat.mod_eq_of_lt h
  have h1 : BitVec.ofInt 64 IntKind.u64.max = BitVec.allOnes 64 := by decide
  show IntKind.u64.wrap ((BitVec.ofInt 64 IntKind.u64.max ^^^ BitVec.ofInt 64 (hb : Int)).toNat : Int) = _
  rw [h1, BitVec.allOnes_xor, BitVec.toNat_not, h2, wraps64 _ (Int.natCast_nonneg _) (by omega)]
  congr 1
  omega

set_option maxRecDepth 100000 in
set_option maxHeartbeats 4000000 in
theorem pShare_ (p : Int) (A L : Option Addr) (c lc : Nat) (ws : List GW) (l : List Int) (w : World) (hsh : ShIn w p A ws) (hl : RdI w L l) (hT : Tz w) :
    Calls Tryd.prog 13 #[.agg #[.int .i64 p, .slice A ws.length c], .slice L l.length lc] w (ListPost (shareL p ws l) (reoX p ws l) w) := by
  have hln := hl.1
  have hb2 : Below w.heap.size w (w.alloc (.cells #[.int .i64 p, .slice A ws.length c] 24)) := (Below.refl _ _).alloc (Nat.le_refl _) _
  have X0 := Lib.hid (Box1.made w p A c ws.length 24)
  have HSH := Lib.hid hsh; have HL := Lib.hid hl; have HB2 := Lib.hid hb2; have HT := Lib.hid hT; clear hsh hl hb2 hT
  go_enter Tryd.func13, Tryd.ntmps13
  go_wp2_with fail
  refine (stretches_ p A L c lc ws l _ (HSH.out.later HB2.out (Nat.le_refl _)) (HL.out.later HB2.out (Nat.le_refl _))).mono ?_
  rintro e w1 ⟨rfl, hb1⟩
  have hs1 := hb1.size
  simp only [World.size_alloc] at hs1
  have X1 := Lib.hid (X0.out.later hb1)
  have Y1 := Lib.hid (HB2.out.trans (hb1.mono HB2.out.size)); clear hb1
  by_cases hx : reoX p ws l = 0
  rotate_left
  · have hxb : (reoX p ws l != 0) = true := by simpa using hx
    have e1 : shareL p ws l = [] := by unfold shareL; rw [if_neg hx]
    have HX := Lib.hid hx; have E1 := Lib.hid e1; clear hx e1
    generalize hE : reoX p ws l = E at *
    generalize stF p ws l = F at *
    generalize stL p ws l = G at *
    have HE := Lib.hid hE; clear hE
    go_wp2_with (first | (refine wpList_store_row rfl 51 _ _ rfl w1.heap.size (stCells F G) rfl rfl 51 _ (heap_alloc_new _ _) (info_st _ _) (by simp only [stCells_size]; rfl) (stCells_one _ _) ?_))
    go_ret2
    rw [E1.out]
    exact ⟨.slice none 0 0, rfl, RdV.nil _, below_setRow (Y1.out.alloc Y1.out.size _) Y1.out.size _⟩
  · obtain ⟨hle, hn4⟩ := reo_len hx
    have hl4 : l.length ≤ 400 := by omega
    obtain ⟨hok, hord⟩ := reo_ok hx
    obtain ⟨hp2, hp24, _, hall⟩ := okAll hok
    obtain ⟨P, rfl⟩ := Int.eq_ofNat_of_zero_le (show 0 ≤ p by omega)
    have hin : ∀ x ∈ l, 0 ≤ x ∧ x < ws.length := by
      unfold ordQ at hord
      rw [Bool.and_eq_true] at hord
      exact oRun_range l 0 hord.2
    have e1 : shareL P ws l = (List.range P).map (shareG P (plsOf (reoG ws l)) l.length) := by unfold shareL; rw [if_pos hx]; rfl
    have e3 : stF P ws l = fsI (plsOf (reoG ws l)) l.length := by unfold stF; rw [if_pos hx]
    have e4 : stL P ws l = laI (plsOf (reoG ws l)) l.length := by unfold stL; rw [if_pos hx]
    have hq : ∀ i, (h : i < l.length) → plsOf (reoG ws l) i + 2 ≤ P := fun i hi => by
      have := reo_pl (p := P) (ws := ws) (l := l) hok (k := i) (by rw [reoG_length]; exact hi)
      omega
    have hpq : ∀ i, (h : i < l.length) → ∀ (h2 : (l[i]).toNat < ws.length), ws[(l[i]).toNat].pl = (plsOf (reoG ws l) i : Int) := fun i h h2 => by
      have e : plsOf (reoG ws l) i = ws[(l[i]).toNat].pl.toNat := by
        unfold plsOf reoG
        rw [List.getD_eq_getElem?_getD, List.getElem?_map, List.getElem?_eq_getElem h]
        simp [List.getD_eq_getElem?_getD, h2]
      have := (hall _ (List.getElem_mem h2)).2.1
      omega
    rw [hx, e3, e4]
    clear e3 e4 hle hn4 hord hall hok
    generalize plsOf (reoG ws l) = q at *
    obtain ⟨F, hF⟩ : ∃ F, F = fsI q l.length := ⟨_, rfl⟩
    obtain ⟨G, hG⟩ : ∃ G, G = laI q l.length := ⟨_, rfl⟩
    rw [← hF, ← hG]
    have hu : ∀ k m, shU q l.length k m = decide ((k : Int) ≤ G m) := fun k m => by rw [hG]; rfl
    have hrg := shR_range (P := P) (by omega) q (shU q l.length)
    have hfin : shR P q (shU q l.length) l.length = shareG P q l.length := rfl
    generalize shU q l.length = u at *
    have hmk := run_make_row' (P := Tryd.prog) 25 3 (.int .i64 0) 8 Tryd.underlying25 infoI_Tryd rfl .i64 .i64 P (by omega) (by omega)
    have HF := Lib.hid hF; have HG := Lib.hid hG; have HX := Lib.hid hx; have E1 := Lib.hid e1; have HQ := Lib.hid hq; have HPQ := Lib.hid hpq; have HIN := Lib.hid hin; have HU := Lib.hid hu; have HRG := Lib.hid hrg; have HFIN := Lib.hid hfin; clear hF hG hx e1 hq hpq hin hu hrg hfin
    obtain ⟨c1, c2, s1⟩ := X1.out
    go_upto_region 4 with (first | (refine wpList_store_row rfl 51 _ _ rfl w1.heap.size (stCells F G) rfl rfl 51 _ (heap_alloc_new _ _) (info_st _ _) (by simp only [stCells_size]; rfl) (stCells_one _ _) ?_))
    rw [zst]
    obtain ⟨W5, hW⟩ : ∃ W5, W5 = (w1.alloc (.cells (stCells (fun _ => 0) (fun _ => 0)) 51)).setRow w1.heap.size (stCells F G) := ⟨_, rfl⟩
    have hst5 : StB W5 w1.heap.size F G := by rw [hW]; exact setRow_heap _ _ _ _ _ _ (heap_alloc_new _ _)
    have hb5 : Below w1.heap.size w1 W5 := by rw [hW]; exact below_setRow ((Below.refl _ _).alloc (Nat.le_refl _) _) (Nat.le_refl _) _
    have hs5 : W5.heap.size = w1.heap.size + 1 := by rw [hW]; simp
    rw [← hW]
    clear hW c1 c2 s1
    have X5 := Lib.hid (X1.out.later hb5)
    obtain ⟨c1, c2, s1⟩ := X5.out
    have HST5 := Lib.hid hst5; have HB5 := Lib.hid hb5; have HS5 := Lib.hid hs5; clear hst5 hb5 hs5
    go_wp2
    clear hmk
    clear c1 c2 s1
    obtain ⟨W6, hW⟩ : ∃ W6, W6 = W5.alloc (.cells (madeCells #[.int .i64 0] P) 3) := ⟨_, rfl⟩
    have hm0 : IdB W6 W5.heap.size P (fun p => if p < 0 then -1 else 0) := by
      rw [hW]
      unfold IdB
      rw [heap_alloc_new, idCells_zero]
      simp
    have hb6 : Below W5.heap.size W5 W6 := by rw [hW]; exact (Below.refl _ _).alloc (Nat.le_refl _) _
    have hst6 : StB W6 w1.heap.size F G := HST5.out.later hb6
    have X6 := Lib.hid (X5.out.later hb6)
    rw [← hW]
    clear hW
    have hbz := Y1.out.trans ((HB5.out.trans (hb6.mono (by have := HS5.out; omega))).mono Y1.out.size)
    have hR5 : w.heap.size < W5.heap.size := by have := HS5.out; omega
    have hR6 : w1.heap.size < W5.heap.size := by have := HS5.out; omega
    have HM0 := Lib.hid hm0; have HB6 := Lib.hid hb6; have HST6 := Lib.hid hst6; have HBZ := Lib.hid hbz; clear hm0 hb6 hst6 hbz
    go_loopw [31] (fun iv wr => ∃ k : Nat, iv = .int .i64 k ∧ k ≤ P ∧ IdB wr W5.heap.size P (fun p => if p < k then -1 else 0) ∧ Below W5.heap.size W6 wr) (fun iv _ => P - (intOf iv).toNat)
    case atStart => exact ⟨0, rfl, Nat.zero_le _, HM0.out, Below.refl _ _⟩
    case round =>
      obtain ⟨k, rfl, hk, hid, hbr⟩ := hrel
      have hRl := lt_of_block hid
      by_cases hk2 : k < P
      · have k0 := hid.at_ hk2
        have f0 := hid.free k
        have z1 : (0 : Int) ≤ (k : Int) := by omega
        have z2 : (k : Int) < (P : Int) := by omega
        have nst : IdB (wr.setCell ⟨W5.heap.size, k, none⟩ (.int .i64 (-1))) W5.heap.size P (fun p => if p < k + 1 then -1 else 0) := (hid.put k (-1)).congr fun p _ => by
          unfold updF
          by_cases h1 : p = k
          · subst h1; rw [if_pos rfl, if_pos (by omega)]
          · rw [if_neg h1]
            show (if p < k then (-1 : Int) else 0) = _
            by_cases h2 : p < k
            · rw [if_pos h2, if_pos (by omega)]
            · rw [if_neg h2, if_neg (by omega)]
        have HID := Lib.hid hid; have HBR := Lib.hid hbr; have NST := Lib.hid nst; clear hid hbr nst
        go_wp2
        go_roundw
        case rel => exact ⟨k + 1, by go_num, by omega, NST.out, HBR.out.setCell (Nat.le_refl _) _⟩
        case measure => simp [intOf]; omega
      · obtain rfl : k = P := by omega
        have hid0 : IdB wr W5.heap.size k (shR k q u 0) := hid.congr fun p hp => by show (if p < k then (-1 : Int) else 0) = -1; rw [if_pos hp]
        obtain ⟨wz, rfl⟩ : ∃ wz : World, wz = wr := ⟨_, rfl⟩
        have HID := Lib.hid hid; have HID0 := Lib.hid hid0; have HBR := Lib.hid hbr; clear hid hid0 hbr
        go_wp2
        go_loopw [40] (fun iv wr => ∃ i : Nat, iv = .int .i64 i ∧ i ≤ l.length ∧ IdB wr W5.heap.size k (shR k q u i) ∧ Below W5.heap.size W6 wr) (fun iv _ => l.length - (intOf iv).toNat)
        case atStart => exact ⟨0, rfl, Nat.zero_le _, HID0.out, HBR.out⟩
        case round =>
          obtain ⟨i, rfl, hi, hid, hbr⟩ := hrel
          have hRl := lt_of_block hid
          have hbw := HBZ.out.trans (hbr.mono (by have := HBZ.out.size; have := HB6.out.size; omega))
          by_cases hil : i < l.length
          · obtain ⟨bl, ol, rfl, hbl, m1⟩ := (HL.out.later hbw (Nat.le_refl _)).at_ hil
            obtain ⟨g1, g2⟩ := HIN.out l[i] (List.getElem_mem hil)
            have hq2 := HQ.out i hil
            have hpq2 := HPQ.out i hil
            generalize l[i] = x at *
            obtain ⟨y, rfl⟩ := Int.eq_ofNat_of_zero_le g1
            have hy : y < ws.length := by omega
            obtain ⟨bw, off, rfl, hbL, t1, t2, t3⟩ := (HSH.out.rd.later hbw (Nat.le_refl _)).at_ hy
            rw [show ws[y].pl = (q i : Int) from hpq2 hy] at t2
            obtain ⟨d1, d2, s0⟩ := X6.out
            have c1 := (hbr.cell (p := ⟨w.heap.size, 0, none⟩) hR5).trans d1
            have c2 := (hbr.cell (p := ⟨w.heap.size, 1, none⟩) hR5).trans d2
            have s1 : w.heap.size < wr.heap.size := by omega
            clear d1 d2 s0
            have z1 : (0 : Int) ≤ (i : Int) := by omega
            have z2 : (i : Int) < (l.length : Int) := by omega
            have z3 : (0 : Int) ≤ (y : Int) := by omega
            have z4 : (y : Int) < (ws.length : Int) := by omega
            have hrg2 := HRG.out i
            obtain ⟨g, hg⟩ : ∃ g, g = shR k q u i := ⟨_, rfl⟩
            rw [← hg] at hid hrg2
            have hsu : shR k q u (i + 1) = shK k q u g i 2 := by rw [hg]; rfl
            obtain ⟨wy, rfl⟩ : ∃ wy : World, wy = wr := ⟨_, rfl⟩
            clear hpq2 g1 t1 t3
            have HID := Lib.hid hid; have HBR := Lib.hid hbr; have HBW := Lib.hid hbw; have HRG2 := Lib.hid hrg2; have HG := Lib.hid hg; have HSU := Lib.hid hsu; clear hid hbr hbw hrg2 hg hsu
            go_wp2
            clear t2 c1 c2 s1 m1
            go_loopw [13] (fun pv wr => ∃ j : Nat, pv = .int .i64 ((q i + j : Nat) : Int) ∧ j ≤ 2 ∧ IdB wr W5.heap.size k (shK k q u g i j) ∧ Below W5.heap.size W6 wr) (fun pv _ => q i + 2 - (intOf pv).toNat)
            case atStart => exact ⟨0, rfl, by omega, HID.out, HBR.out⟩
            case round =>
              obtain ⟨j, rfl, hj, hij, hbj⟩ := hrel
              have hRj := lt_of_block hij
              by_cases hj2 : j < 2
              · have b1 : decide (q i + j ≤ q i + 1) = true := by simp; omega
                have hpk : q i + j < k := by omega
                have a0 := hij.at_ hpk
                have f0 := hij.free (q i + j)
                have hrj := shK_range (P := k) (by omega) (q := q) (u := u) (k := i) HRG2.out j
                have hsv : shK k q u g i (j + 1) = shV k (u i) (shK k q u g i j) (q i + j) := rfl
                generalize shK k q u g i j = out at *
                have hvd : shV k (u i) out (q i + j) = if 0 ≤ out (q i + j) then out else updF out (q i + j) (leastL (hldL (u i) out k) : Int) := rfl
                by_cases hpos : 0 ≤ out (q i + j)
                · have b2 : decide (0 ≤ out (q i + j)) = true := by simpa using hpos
                  have nst : IdB wr W5.heap.size k (shK k q u g i (j + 1)) := by rw [hsv, hvd, if_pos hpos]; exact hij
                  generalize out (q i + j) = ov at *
                  clear hsv hvd
                  have HIJ := Lib.hid hij; have HBJ := Lib.hid hbj; have HRJ := Lib.hid hrj; have NST := Lib.hid nst; clear hij hbj hrj nst
                  go_wp2
                  go_roundw
                  case rel => exact ⟨j + 1, by go_num, by omega, NST.out, HBJ.out⟩
                  case measure => simp [intOf]; omega
                · have b2 : decide (0 ≤ out (q i + j)) = false := by simpa using hpos
                  rw [if_neg hpos] at hvd
                  have hstr : StB wr w1.heap.size F G := (hbj.block _ hR6).trans HST6.out
                  generalize hov : out (q i + j) = ov at *
                  have HIJ := Lib.hid hij; have HBJ := Lib.hid hbj; have HRJ := Lib.hid hrj; have HSV := Lib.hid hsv; have HVD := Lib.hid hvd; have HOV := Lib.hid hov; have HSTR := Lib.hid hstr; clear hij hbj hrj hsv hvd hov hstr
                  go_wp2
                  obtain ⟨wo, rfl⟩ : ∃ wo : World, wo = wr := ⟨_, rfl⟩
                  go_loopw [14, 65] (fun hv mv wr => ∃ m : Nat, mv = .int .i64 m ∧ m ≤ k ∧ hv = .int .u64 (hldB (u i) out m : Int) ∧ wo = wr) (fun _ mv _ => k - (intOf mv).toNat)
                  case atStart => exact ⟨0, rfl, Nat.zero_le _, rfl, rfl⟩
                  case round =>
                    obtain ⟨m, rfl, hm, rfl, rfl⟩ := hrel
                    have hbs := hldB_succ (u i) out m
                    have hblt := hldB_lt (u i) out (N := 60) (by have := HRJ.out; intro p; have := this p; omega) m
                    by_cases hmk : m < k
                    · have a1 := HIJ.out.at_ hmk
                      have a2 := (HSTR.out.at_ (show m < 24 by omega)).2
                      have hrm := HRJ.out m
                      have hum := HU.out i m
                      have z5 : (0 : Int) ≤ (m : Int) := by omega
                      have z6 : (m : Int) < (k : Int) := by omega
                      have z7 : (m : Int) < 24 := by omega
                      generalize out m = x at *
                      generalize G m = gm at *
                      rw [hum] at hbs
                      generalize hldB (u i) out m = hb at *
                      clear hum
                      by_cases t1 : 0 ≤ x
                      · have b3 : decide (0 ≤ x) = true := by simpa using t1
                        obtain ⟨t, rfl⟩ := Int.eq_ofNat_of_zero_le t1
                        by_cases t2 : (i : Int) ≤ gm
                        · have b4 : decide ((i : Int) ≤ gm) = true := by simpa using t2
                          rw [if_pos ⟨t1, b4⟩, Int.toNat_natCast] at hbs
                          have e1 := pow_wrap t (by omega)
                          have e2 := bit_set .u64 64 (by decide) wraps64 hb t (Nat.lt_of_lt_of_le hblt (Nat.pow_le_pow_right (by decide) (by decide))) (by omega)
                          have x4 : (t : Int) < 64 := by omega
                          have HBS := Lib.hid hbs; have HBLT := Lib.hid hblt; clear hbs hblt
                          clear hrm
                          go_wp2
                          go_roundw
                          case rel => exact ⟨m + 1, by go_num, by omega, by rw [HBS.out], trivial⟩
                          case measure => simp [intOf]; omega
                        · have b4 : decide ((i : Int) ≤ gm) = false := by simpa using t2
                          rw [if_neg (fun hc => by rw [b4] at hc; exact absurd hc.2 (by decide))] at hbs
                          have HBS := Lib.hid hbs; have HBLT := Lib.hid hblt; clear hbs hblt
                          clear hrm
                          go_wp2
                          go_roundw
                          case rel => exact ⟨m + 1, by go_num, by omega, by rw [HBS.out], trivial⟩
                          case measure => simp [intOf]; omega
                      · have b3 : decide (0 ≤ x) = false := by simpa using t1
                        rw [if_neg (fun hc => t1 hc.1)] at hbs
                        have HBS := Lib.hid hbs; have HBLT := Lib.hid hblt; clear hbs hblt
                        clear hrm
                        go_wp2
                        go_roundw
                        case rel => exact ⟨m + 1, by go_num, by omega, by rw [HBS.out], trivial⟩
                        case measure => simp [intOf]; omega
                    · obtain rfl : m = k := by omega
                      have hct := ctz_least (u := u i) (out := out) (m := m) (by omega) (fun p => (HRJ.out p).2)
                      have hpk : q i + j < m := by omega
                      have a0 := HIJ.out.at_ hpk
                      have f0 := HIJ.out.free (q i + j)
                      generalize hldB (u i) out m = hb at *
                      have hb64 : hb < 2 ^ 64 := Nat.lt_of_lt_of_le hblt (Nat.pow_le_pow_right (by decide) (by decide))
                      have e3 := xor_max hb hb64
                      have hnl : 2 ^ 64 - (hb + 1) < 18446744073709551616 := by omega
                      generalize 2 ^ 64 - (hb + 1) = nx at *
                      have htz := tz_ nx hnl wo (fun j hj => below_at (HBZ.out.trans (HBJ.out.mono (by have := HBZ.out.size; have := HB6.out.size; omega))) (Nat.le_refl _) (HT.out j hj))
                      rw [hct] at htz
                      have nst : IdB (wo.setCell ⟨W5.heap.size, q i + j, none⟩ (.int .i64 (leastL (hldL (u i) out m) : Int))) W5.heap.size m (shK m q u g i (j + 1)) := by
                        rw [HSV.out, HVD.out]; exact HIJ.out.put _ _
                      generalize leastL (hldL (u i) out m) = lv at *
                      have HCT := Lib.hid hct; have HBLT := Lib.hid hblt; have HBS := Lib.hid hbs; have HB64 := Lib.hid hb64; have HNL := Lib.hid hnl; have HTZ := Lib.hid htz; have NST := Lib.hid nst; clear hct hblt hbs hb64 hnl htz nst
                      go_wp2_with (go_at_call 28; refine HTZ.out.mono ?_; rintro e w9 ⟨rfl, rfl⟩)
                      go_roundw
                      case rel => exact ⟨j + 1, by go_num, by omega, NST.out, HBJ.out.setCell (Nat.le_refl _) _⟩
                      case measure => simp [intOf]; omega
              · obtain rfl : j = 2 := by omega
                have b1 : decide (q i + 2 ≤ q i + 1) = false := by simp
                have HIJ := Lib.hid hij; have HBJ := Lib.hid hbj; clear hij hbj
                go_wp2
                go_roundw
                case rel => exact ⟨i + 1, by go_num, by omega, by rw [HSU.out]; exact HIJ.out, HBJ.out⟩
                case measure => simp [intOf]; omega
          · obtain rfl : i = l.length := by omega
            have hrd : RdV wr (.slice (some ⟨W5.heap.size, 0, none⟩) k k) ((List.range k).map (shareG k q l.length)) := by
              rw [HFIN.out] at hid
              exact hid.rdV (by omega)
            have HID := Lib.hid hid; have HBR := Lib.hid hbr; have HBW := Lib.hid hbw; have HRD := Lib.hid hrd; clear hid hbr hbw hrd
            go_wp2
            go_ret2
            rw [E1.out, HX.out]
            exact ⟨_, rfl, HRD.out, HBW.out⟩
end Go.Proofs.YtnplcephmidjbaaDoor
/- The reference of package pairs: Share. -/
namespace Go.Proofs.YtnplcephmidjbaaDoor
open Go.RowKit

theorem tkDrop_U {ws : List GW} {l : List Int} (hpl : ∀ x ∈ ws, 0 ≤ x.pl ∧ x.pl ≤ 22) (k p : Nat) : tkAny ws (l.drop k) (p : Int) = shU (plsOf (reoG ws l)) l.length k p := by
  rw [Bool.eq_iff_iff]
  unfold shU tkAny
  rw [decide_eq_true_eq, laI_le, List.any_eq_true]
  constructor
  · rintro ⟨x, hx, ht⟩
    obtain ⟨i, hi, rfl⟩ := List.mem_iff_getElem.1 hx
    have hi2 : k + i < l.length := by simp at hi; omega
    rw [List.getElem_drop, tk_at hpl hi2] at ht
    exact ⟨k + i, hi2, by omega, ht⟩
  · rintro ⟨i, hi, hk, ht⟩
    rw [← tk_at hpl hi] at ht
    exact ⟨l[i], by rw [List.mem_drop_iff_getElem]; exact ⟨i - k, by omega, by simp [show k + (i - k) = i by omega]⟩, ht⟩
theorem hldL_succ (u : Nat → Bool) (out : Nat → Int) (m : Nat) : hldL u out (m + 1) = if 0 ≤ out m ∧ u m = true then hldL u out m ++ [out m] else hldL u out m := rfl
theorem idB_later {w w' : World} {R m : Nat} {g : Nat → Int} (h : IdB w R m g) (hb : Below w.heap.size w w') : IdB w' R m g := (hb.block R (lt_of_block h)).trans h

set_option maxRecDepth 100000 in
set_option maxHeartbeats 4000000 in
theorem rShare12_ (p : Int) (A L : Option Addr) (c lc : Nat) (ws : List GW) (l : List Int) (w : World) (hsh : ShIn w p A ws) (hl : RdI w L l) (hlc : l.length ≤ lc) :
    Calls Tryd.prog 14 #[.agg #[.int .i64 p, .slice A ws.length c], .slice L l.length lc] w (ListPost (shareL p ws l) (reoX p ws l) w) := by
  have hb2 : Below w.heap.size w (w.alloc (.cells #[.int .i64 p, .slice A ws.length c] 24)) := (Below.refl _ _).alloc (Nat.le_refl _) _
  have X0 := Lib.hid (Box1.made w p A c ws.length 24)
  have Y0 := Lib.hid hb2
  have hln := hl.1
  clear hb2
  have HSH := Lib.hid hsh; have HL := Lib.hid hl; clear hsh hl
  go_enter Tryd.func14, Tryd.ntmps14
  go_wp2_with fail
  refine (rasked_ p A L c lc ws l _ (HSH.out.later Y0.out (Nat.le_refl _)) (HL.out.later Y0.out (Nat.le_refl _))).mono ?_; rintro e w1 ⟨rfl, hb1⟩
  have X1 := Lib.hid (X0.out.later hb1); have Y1 := Lib.hid (Y0.out.trans (hb1.mono Y0.out.size)); clear hb1
  by_cases hx : reoX p ws l = 0
  rotate_left
  · have hxb : (reoX p ws l != 0) = true := by simpa using hx
    have e1 : shareL p ws l = [] := by unfold shareL; rw [if_neg hx]
    generalize hE : reoX p ws l = E at *
    have HX := Lib.hid hx; have E1 := Lib.hid e1; have HE := Lib.hid hE; clear hx e1 hE
    go_wp2
    go_ret2
    rw [E1.out]
    exact ⟨_, rfl, RdV.nil _, Y1.out⟩
  · obtain ⟨hle, hn4⟩ := reo_len hx
    have hl4 : l.length ≤ 400 := by omega
    obtain ⟨hok, hord⟩ := reo_ok hx
    obtain ⟨hp2, hp24, _, hall⟩ := okAll hok
    obtain ⟨P, rfl⟩ := Int.eq_ofNat_of_zero_le (show 0 ≤ p by omega)
    have hpl := pl22 hok
    have hin := ord_in hord
    have e1 : shareL P ws l = (List.range P).map (shareG P (plsOf (reoG ws l)) l.length) := by unfold shareL; rw [if_pos hx]; rfl
    have hq : ∀ i, (h : i < l.length) → plsOf (reoG ws l) i + 2 ≤ P := reo_q hok
    have hpq : ∀ i, (h : i < l.length) → ∀ (h2 : (l[i]).toNat < ws.length), ws[(l[i]).toNat].pl = (plsOf (reoG ws l) i : Int) := fun i h h2 => by
      have e := plsOf_reo ws l h
      rw [List.getD_eq_getElem?_getD, List.getElem?_eq_getElem h2, Option.getD_some] at e
      have := (hpl _ (List.getElem_mem h2)).1
      omega
    have hu : ∀ k m : Nat, tkAny ws (l.drop k) (m : Int) = shU (plsOf (reoG ws l)) l.length k m := tkDrop_U hpl
    rw [hx]
    clear hle hn4 hord hall hok
    generalize plsOf (reoG ws l) = q at *
    have hrg := shR_range (P := P) (by omega) q (shU q l.length)
    have hfin : shR P q (shU q l.length) l.length = shareG P q l.length := rfl
    generalize shU q l.length = u at *
    have hmk := run_make_row' (P := Tryd.prog) 25 3 (.int .i64 0) 8 Tryd.underlying25 infoI_Tryd rfl .i64 .i64 P (by omega) (by omega)
    have HX := Lib.hid hx; have E1 := Lib.hid e1; have HQ := Lib.hid hq; have HPQ := Lib.hid hpq; have HIN := Lib.hid hin; have HU := Lib.hid hu; have HRG := Lib.hid hrg; have HFIN := Lib.hid hfin; have HPL := Lib.hid hpl; clear hx e1 hq hpq hin hu hrg hfin hpl
    obtain ⟨c1, c2, s1⟩ := X1.out
    go_wp2
    clear hmk
    clear c1 c2 s1
    obtain ⟨W6, hW⟩ : ∃ W6, W6 = w1.alloc (.cells (madeCells #[.int .i64 0] P) 3) := ⟨_, rfl⟩
    have hm0 : IdB W6 w1.heap.size P (fun p => if p < 0 then -1 else 0) := by
      rw [hW]
      unfold IdB
      rw [heap_alloc_new, idCells_zero]
      simp
    have hb6 : Below w1.heap.size w1 W6 := by rw [hW]; exact (Below.refl _ _).alloc (Nat.le_refl _) _
    have X6 := Lib.hid (X1.out.later hb6)
    rw [← hW]
    clear hW
    have hbz := Y1.out.trans (hb6.mono Y1.out.size)
    have hR6 : w.heap.size < w1.heap.size := X1.out.2.2
    have HM0 := Lib.hid hm0; have HB6 := Lib.hid hb6; have HBZ := Lib.hid hbz; clear hm0 hb6 hbz
    go_loopw [8] (fun iv wr => ∃ k : Nat, iv = .int .i64 k ∧ k ≤ P ∧ IdB wr w1.heap.size P (fun p => if p < k then -1 else 0) ∧ Below w1.heap.size W6 wr) (fun iv _ => P - (intOf iv).toNat)
    case atStart => exact ⟨0, rfl, Nat.zero_le _, HM0.out, Below.refl _ _⟩
    case round =>
      obtain ⟨k, rfl, hk, hid, hbr⟩ := hrel
      have hRl := lt_of_block hid
      obtain ⟨d1, d2, s0⟩ := X6.out
      have c1 := (hbr.cell (p := ⟨w.heap.size, 0, none⟩) hR6).trans d1
      have c2 := (hbr.cell (p := ⟨w.heap.size, 1, none⟩) hR6).trans d2
      have s1 : w.heap.size < wr.heap.size := by omega
      clear d1 d2 s0
      by_cases hk2 : k < P
      · have k0 := hid.at_ hk2
        have f0 := hid.free k
        have z1 : (0 : Int) ≤ (k : Int) := by omega
        have z2 : (k : Int) < (P : Int) := by omega
        have nst : IdB (wr.setCell ⟨w1.heap.size, k, none⟩ (.int .i64 (-1))) w1.heap.size P (fun p => if p < k + 1 then -1 else 0) := (hid.put k (-1)).congr fun p _ => by
          unfold updF
          by_cases h1 : p = k
          · subst h1; rw [if_pos rfl, if_pos (by omega)]
          · rw [if_neg h1]
            show (if p < k then (-1 : Int) else 0) = _
            by_cases h2 : p < k
            · rw [if_pos h2, if_pos (by omega)]
            · rw [if_neg h2, if_neg (by omega)]
        have HID := Lib.hid hid; have HBR := Lib.hid hbr; have NST := Lib.hid nst; clear hid hbr nst
        go_wp2
        go_roundw
        case rel => exact ⟨k + 1, by go_num, by omega, NST.out, HBR.out.setCell (Nat.le_refl _) _⟩
        case measure => simp [intOf]; omega
      · obtain rfl : k = P := by omega
        have hid0 : IdB wr w1.heap.size k (shR k q u 0) := hid.congr fun p hp => by show (if p < k then (-1 : Int) else 0) = -1; rw [if_pos hp]
        obtain ⟨wz, rfl⟩ : ∃ wz : World, wz = wr := ⟨_, rfl⟩
        have HID := Lib.hid hid; have HID0 := Lib.hid hid0; have HBR := Lib.hid hbr; clear hid hid0 hbr
        go_wp2
        clear c1 c2 s1
        go_loopw [9] (fun iv wr => ∃ i : Nat, iv = .int .i64 i ∧ i ≤ l.length ∧ IdB wr w1.heap.size k (shR k q u i) ∧ Below w1.heap.size W6 wr) (fun iv _ => l.length - (intOf iv).toNat)
        case atStart => exact ⟨0, rfl, Nat.zero_le _, HID0.out, HBR.out⟩
        case round =>
          obtain ⟨i, rfl, hi, hid, hbr⟩ := hrel
          have hRl := lt_of_block hid
          have hbw := HBZ.out.trans (hbr.mono (by have := HBZ.out.size; have := HB6.out.size; omega))
          by_cases hil : i < l.length
          · have hq2 := HQ.out i hil
            have hrg2 := HRG.out i
            obtain ⟨g, hg⟩ : ∃ g, g = shR k q u i := ⟨_, rfl⟩
            rw [← hg] at hid hrg2
            have hsu : shR k q u (i + 1) = shK k q u g i 2 := by rw [hg]; rfl
            obtain ⟨wy, rfl⟩ : ∃ wy : World, wy = wr := ⟨_, rfl⟩
            have HID := Lib.hid hid; have HBR := Lib.hid hbr; have HBW := Lib.hid hbw; have HRG2 := Lib.hid hrg2; have HG := Lib.hid hg; have HSU := Lib.hid hsu; clear hid hbr hbw hrg2 hg hsu
            go_wp2
            go_loopw [10] (fun pv wr => ∃ j : Nat, pv = .int .i64 (j : Int) ∧ j ≤ 2 ∧ IdB wr w1.heap.size k (shK k q u g i j) ∧ Below w1.heap.size W6 wr) (fun pv _ => 2 - (intOf pv).toNat)
            case atStart => exact ⟨0, rfl, by omega, HID.out, HBR.out⟩
            case round =>
              obtain ⟨j, rfl, hj, hij, hbj⟩ := hrel
              have hRj := lt_of_block hij
              have hbw := HBZ.out.trans (hbj.mono (by have := HBZ.out.size; have := HB6.out.size; omega))
              by_cases hj2 : j < 2
              · obtain ⟨bl, ol, hLe, hbl, m1⟩ := (HL.out.later hbw (Nat.le_refl _)).at_ hil
                obtain ⟨g1, g2⟩ := HIN.out l[i] (List.getElem_mem hil)
                have hpq2 := HPQ.out i hil
                generalize l[i] = x at *
                obtain ⟨y, rfl⟩ := Int.eq_ofNat_of_zero_le g1
                have hy : y < ws.length := by omega
                obtain ⟨bw, off, hAe, hbL, t1, t2, t3⟩ := (HSH.out.rd.later hbw (Nat.le_refl _)).at_ hy
                rw [show ws[y].pl = (q i : Int) from hpq2 hy] at t2
                obtain ⟨d1, d2, s0⟩ := X6.out
                have c1 := (hbj.cell (p := ⟨w.heap.size, 0, none⟩) hR6).trans d1
                have c2 := (hbj.cell (p := ⟨w.heap.size, 1, none⟩) hR6).trans d2
                have s1 : w.heap.size < wr.heap.size := by omega
                clear d1 d2 s0 t1 t3 hpq2 g1
                subst hLe; subst hAe
                have z1 : (0 : Int) ≤ (i : Int) := by omega
                have z2 : (i : Int) < (l.length : Int) := by omega
                have z3 : (0 : Int) ≤ (y : Int) := by omega
                have z4 : (y : Int) < (ws.length : Int) := by omega
                have hpk : q i + j < k := by omega
                have a0 := hij.at_ hpk
                have f0 := hij.free (q i + j)
                have hrj := shK_range (P := k) (by omega) (q := q) (u := u) (k := i) HRG2.out j
                have hsv : shK k q u g i (j + 1) = shV k (u i) (shK k q u g i j) (q i + j) := rfl
                generalize shK k q u g i j = out at *
                have hvd : shV k (u i) out (q i + j) = if 0 ≤ out (q i + j) then out else updF out (q i + j) (leastL (hldL (u i) out k) : Int) := rfl
                have z5 : (0 : Int) ≤ (q i : Int) + (j : Int) := by omega
                have z6 : (q i : Int) + (j : Int) < (k : Int) := by omega
                have z7 : IntKind.i64.wrap ((q i : Int) + (j : Int)) = (q i : Int) + (j : Int) := IntWalk.i64_in _ (by omega)
                have z8 : ((q i : Int) + (j : Int)).toNat = q i + j := by omega
                by_cases hpos : 0 ≤ out (q i + j)
                · have b2 : decide (0 ≤ out (q i + j)) = true := by simpa using hpos
                  have nst : IdB wr w1.heap.size k (shK k q u g i (j + 1)) := by rw [hsv, hvd, if_pos hpos]; exact hij
                  generalize out (q i + j) = ov at *
                  clear hsv hvd
                  have HIJ := Lib.hid hij; have HBJ := Lib.hid hbj; have HRJ := Lib.hid hrj; have NST := Lib.hid nst; have HBW := Lib.hid hbw; clear hij hbj hrj nst hbw
                  go_wp2
                  go_quiet (fail)
                  go_wp2
                  go_roundw
                  case rel => exact ⟨j + 1, by go_num, by omega, NST.out, below_drewN HBJ.out _⟩
                  case measure => simp [intOf]; omega
                · have b2 : decide (0 ≤ out (q i + j)) = false := by simpa using hpos
                  rw [if_neg hpos] at hvd
                  generalize hov : out (q i + j) = ov at *
                  have HIJ := Lib.hid hij; have HBJ := Lib.hid hbj; have HRJ := Lib.hid hrj; have HSV := Lib.hid hsv; have HVD := Lib.hid hvd; have HOV := Lib.hid hov; have HBW := Lib.hid hbw; clear hij hbj hrj hsv hvd hov hbw
                  go_wp2
                  go_quiet (fail)
                  have hij2 : IdB (wr.drewN nq) w1.heap.size k out := HIJ.out
                  have hbj2 : Below w1.heap.size W6 (wr.drewN nq) := below_drewN HBJ.out _
                  have hbw2 : Below w.heap.size w (wr.drewN nq) := below_drewN HBW.out _
                  have c1' : (wr.drewN nq).cell? ⟨w.heap.size, 0, none⟩ = some (.int .i64 (k : Int)) := c1
                  have c2' : (wr.drewN nq).cell? ⟨w.heap.size, 1, none⟩ = some (.slice (some ⟨bw, off, none⟩) ws.length c) := c2
                  have f0' : (wr.drewN nq).frozen? ⟨w1.heap.size, q i + j, none⟩ = false := f0
                  have a0' : (wr.drewN nq).cell? ⟨w1.heap.size, q i + j, none⟩ = some (.int .i64 ov) := a0
                  have s1' : w.heap.size < (wr.drewN nq).heap.size := s1
                  have hRj' : w1.heap.size < (wr.drewN nq).heap.size := hRj
                  have hbl' : bl < (wr.drewN nq).heap.size := hbl
                  have hbL' : bw < (wr.drewN nq).heap.size := hbL
                  clear c1 c2 f0 a0 s1 hRj hbl hbL m1 t2 HIJ HBJ HBW
                  generalize wr.drewN nq = wo at *
                  have HIJ2 := Lib.hid hij2; have HBJ2 := Lib.hid hbj2; have HBW2 := Lib.hid hbw2; clear hij2 hbj2 hbw2
                  go_wp2
                  go_loopw [12, 13] (fun hv mv wr => ∃ m : Nat, mv = .int .i64 m ∧ m ≤ k ∧ wr.ownsRow wo.heap.size 3 1 hv (hldL (u i) out m).length (ints (hldL (u i) out m)) ∧ Below wo.heap.size wo wr) (fun _ mv _ => k - (intOf mv).toNat)
                  case atStart => exact ⟨0, rfl, Nat.zero_le _, World.ownsRow_nil _ _ _ _, Below.refl _ _⟩
                  case round =>
                    obtain ⟨m, rfl, hm, hown, hbx⟩ := hrel
                    obtain ⟨OA, oc, rfl⟩ := own_slice1 hown
                    have hst := hldL_succ (u i) out m
                    have hll := hldL_len (u i) out m
                    have d1 := below_at hbx (Nat.le_refl _) c1'
                    have d2 := below_at hbx (Nat.le_refl _) c2'
                    have hsx := hbx.size
                    have s2 : w.heap.size < wr.heap.size := by omega
                    have s3 : w1.heap.size < wr.heap.size := by omega
                    have hijx : IdB wr w1.heap.size k out := idB_later HIJ2.out hbx
                    have hbwx := HBW2.out.trans (hbx.mono HBW2.out.size)
                    have hlo := hown.lt
                    by_cases hmk : m < k
                    · have a1 := hijx.at_ hmk
                      have hum := HU.out i m
                      have z9 : (0 : Int) ≤ (m : Int) := by omega
                      have z10 : (m : Int) < (k : Int) := by omega
                      have z11 : (i : Int) ≤ (l.length : Int) := by omega
                      have hcall := fun (uu : Bel wr.heap.size wr) => rtaken_ k m (some ⟨bw, off, none⟩) ((some ⟨bl, ol, none⟩ : Option Addr).map (·.add i)) c (lc - i) ws (l.drop i) uu.wd ((HSH.out.rd.later hbwx (Nat.le_refl _)).later uu.h (Nat.le_refl _)) (rdI_drop ((HL.out.later hbwx (Nat.le_refl _)).later uu.h (Nat.le_refl _)) _) (fun x hx => HIN.out x (List.mem_of_mem_drop hx)) HPL.out
                      rw [hum, show (l.drop i).length = l.length - i by simp] at hcall
                      rw [show ((some ⟨bl, ol, none⟩ : Option Addr).map (·.add i)) = some ⟨bl, ol + i, none⟩ by simp only [Option.map_some, Addr.add]; split <;> simp_all] at hcall
                      have z12 : ¬ lc = i := by omega
                      have hrm := HRJ.out m
                      generalize hxm : out m = x at *
                      by_cases t1 : 0 ≤ x
                      · have b3 : decide (0 ≤ x) = true := by simpa using t1
                        cases hz : u i m with
                        | true =>
                          rw [if_pos ⟨t1, hz⟩] at hst
                          rw [hz] at hcall
                          generalize hldL (u i) out m = xs at *
                          have HST := Lib.hid hst; have HOWN := Lib.hid hown; have HBX := Lib.hid hbx; have HIJX := Lib.hid hijx; have HBWX := Lib.hid hbwx; have HLO := Lib.hid hlo; have HCALL := Lib.hid hcall; have HZ := Lib.hid hz; clear hst hown hbx hijx hbwx hlo hcall hz
                          go_wp2
                          have hbelc : ∀ (u : Bel wr.heap.size wr) b o, b < wr.heap.size → u.wd.cell? ⟨b, o, none⟩ = wr.cell? ⟨b, o, none⟩ := fun u b o h => u.h.cell (p := ⟨b, o, none⟩) h
                          have hbeln : Nonempty (Bel wr.heap.size wr) := ⟨⟨wr, Below.refl _ _⟩⟩
                          refine wp_region_bel wr.heap.size (by kernel_rfl) (by kernel_rfl) ?_
                          repeat (go_big_quiet_step ((go_at_call 29; exact quiet_bel (Nat.le_refl _) (HCALL.out _))))
                          refine wpQuiet_nil ?_
                          intro wB hB0; obtain ⟨uB, hu⟩ := hB0; have hbB0 := uB.h; rw [← hu] at hbB0; clear hu uB hbelc hbeln
                          obtain ⟨hbB, hcB, hsB⟩ := bcell2 hbB0; clear hbB0
                          have hownB := own_below3 HOWN.out hbB
                          have hloB := hownB.lt
                          have hbxB := HBX.out.trans (hbB.mono HBX.out.size)
                          have hsxB := hbxB.size
                          have a1B : wB.cell? ⟨w1.heap.size, m, none⟩ = some (.int .i64 x) := below_at hbB (Nat.le_refl _) a1
                          have s3B : w1.heap.size < wB.heap.size := by omega
                          clear hcB hsB a1 d1 d2 s2 s3
                          have HBB := Lib.hid hbB; have HOWNB := Lib.hid hownB; have HLOB := Lib.hid hloB; have HBXB := Lib.hid hbxB; clear hbB hownB hloB hbxB
                          go_wp2_with (at_builtin; go_must (refine wpList_app1_Tryd rfl _ _ rfl wo.heap.size (.slice OA xs.length oc) xs rfl (by repeat (first | exact HOWNB.out | refine World.ownsRow.alloc ?_ _)) _ x rfl (heap_alloc_new _ _) (by omega) (by simp; omega) ?_); intro gg cap w6 hown6 hgrow hat6 hlt6)
                          have r6 : Below wo.heap.size wo w6 := (HBXB.out.alloc HBXB.out.size _).grown hgrow (by simp; omega) (fun j hj => (HLOB.out j hj).1)
                          have R6 := Lib.hid r6; have HOWN6 := Lib.hid hown6; have HGROW := Lib.hid hgrow; clear r6 hown6 hgrow
                          go_wp2
                          go_roundw
                          case rel => exact ⟨m + 1, by go_num, by omega, by rw [HST.out]; exact HOWN6.out, R6.out⟩
                          case measure => simp [intOf]; omega
                        | false =>
                          rw [if_neg (fun hc => by rw [hz] at hc; exact absurd hc.2 (by decide))] at hst
                          rw [hz] at hcall
                          generalize hldL (u i) out m = xs at *
                          have HST := Lib.hid hst; have HOWN := Lib.hid hown; have HBX := Lib.hid hbx; have HIJX := Lib.hid hijx; have HBWX := Lib.hid hbwx; have HLO := Lib.hid hlo; have HCALL := Lib.hid hcall; have HZ := Lib.hid hz; clear hst hown hbx hijx hbwx hlo hcall hz
                          go_wp2
                          have hbelc : ∀ (u : Bel wr.heap.size wr) b o, b < wr.heap.size → u.wd.cell? ⟨b, o, none⟩ = wr.cell? ⟨b, o, none⟩ := fun u b o h => u.h.cell (p := ⟨b, o, none⟩) h
                          have hbeln : Nonempty (Bel wr.heap.size wr) := ⟨⟨wr, Below.refl _ _⟩⟩
                          refine wp_region_bel wr.heap.size (by kernel_rfl) (by kernel_rfl) ?_
                          repeat (go_big_quiet_step ((go_at_call 29; exact quiet_bel (Nat.le_refl _) (HCALL.out _))))
                          refine wpQuiet_nil ?_
                          intro wB hB0; obtain ⟨uB, hu⟩ := hB0; have hbB0 := uB.h; rw [← hu] at hbB0; clear hu uB hbelc hbeln
                          obtain ⟨hbB, hcB, hsB⟩ := bcell2 hbB0; clear hbB0
                          have hownB := own_below3 HOWN.out hbB
                          have hbxB := HBX.out.trans (hbB.mono HBX.out.size)
                          clear hcB hsB a1 d1 d2 s2 s3
                          have HBB := Lib.hid hbB; have HOWNB := Lib.hid hownB; have HBXB := Lib.hid hbxB; clear hbB hownB hbxB
                          go_wp2
                          go_roundw
                          case rel => exact ⟨m + 1, by go_num, by omega, by rw [HST.out]; exact HOWNB.out, HBXB.out⟩
                          case measure => simp [intOf]; omega
                      · have b3 : decide (0 ≤ x) = false := by simpa using t1
                        rw [if_neg (fun hc => t1 hc.1)] at hst
                        generalize hldL (u i) out m = xs at *
                        have HST := Lib.hid hst; have HOWN := Lib.hid hown; have HBX := Lib.hid hbx; have HIJX := Lib.hid hijx; have HBWX := Lib.hid hbwx; have HLO := Lib.hid hlo; have HCALL := Lib.hid hcall; clear hst hown hbx hijx hbwx hlo hcall
                        go_wp2
                        go_quiet (fail)
                        go_wp2
                        go_roundw
                        case rel => exact ⟨m + 1, by go_num, by omega, by rw [HST.out]; exact own_drewN HOWN.out _, below_drewN HBX.out _⟩
                        case measure => simp [intOf]; omega
                    · obtain rfl : m = k := by omega
                      obtain ⟨OA2, oc2, he2, hmI⟩ := RdV.of_own hown (by omega)
                      injection he2 with hA1 hA2 hA3
                      subst hA1; subst hA3
                      have hls := rleast_ OA oc (hldL (u i) out m) wr hmI (by omega)
                      have hpk : q i + j < m := by omega
                      have a0 := hijx.at_ hpk
                      have f0 := hijx.free (q i + j)
                      have nst : IdB (wr.setCell ⟨w1.heap.size, q i + j, none⟩ (.int .i64 (leastL (hldL (u i) out m) : Int))) w1.heap.size m (shK m q u g i (j + 1)) := by
                        rw [HSV.out, HVD.out]; exact hijx.put _ _
                      have hbf := HBJ2.out.trans (hbx.mono (by have := HBJ2.out.size; have := HB6.out.size; have := HBJ2.out; omega))
                      generalize leastL (hldL (u i) out m) = lv at *
                      generalize hldL (u i) out m = xs at *
                      have HST := Lib.hid hst; have HOWN := Lib.hid hown; have HBX := Lib.hid hbx; have HIJX := Lib.hid hijx; have HBWX := Lib.hid hbwx; have HLO := Lib.hid hlo; have HLS := Lib.hid hls; have NST := Lib.hid nst; have HBF := Lib.hid hbf; have HMI := Lib.hid hmI; clear hst hown hbx hijx hbwx hlo hls nst hbf hmI
                      go_wp2_with (go_at_call 30; refine HLS.out.mono ?_; rintro e w9 ⟨rfl, rfl⟩)
                      go_roundw
                      case rel => exact ⟨j + 1, by go_num, by omega, NST.out, HBF.out.setCell (Nat.le_refl _) _⟩
                      case measure => simp [intOf]; omega
              · obtain rfl : j = 2 := by omega
                have HIJ := Lib.hid hij; have HBJ := Lib.hid hbj; have HBW := Lib.hid hbw; clear hij hbj hbw
                go_wp2
                go_roundw
                case rel => exact ⟨i + 1, by go_num, by omega, by rw [HSU.out]; exact HIJ.out, HBJ.out⟩
                case measure => simp [intOf]; omega
          · obtain rfl : i = l.length := by omega
            have hrd : RdV wr (.slice (some ⟨w1.heap.size, 0, none⟩) k k) ((List.range k).map (shareG k q l.length)) := by
              rw [HFIN.out] at hid
              exact hid.rdV (by omega)
            have HID := Lib.hid hid; have HBR := Lib.hid hbr; have HBW := Lib.hid hbw; have HRD := Lib.hid hrd; clear hid hbr hbw hrd
            go_wp2
            go_ret2
            rw [E1.out, HX.out]
            exact ⟨_, rfl, HRD.out, HBW.out⟩
end Go.Proofs.YtnplcephmidjbaaDoor
