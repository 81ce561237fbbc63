/- Texts of this claim, laid together: OrNear, OrEx, OrShown, OrFar, OrLLeast. -/
import Derived.Test.YtlpfecjkkgccgaaDoorMaB
import Derived.Test.YtlpfecjkkgccgaaDoorMaQ
import Derived.Test.YtlpfecjkkgccgaaDoorMaU
import Derived.Test.YtlpfecjkkgccgaaDoorMaW
import Derived.Laws.EntriesVeiled
/- The program's Near. -/
namespace Go.Proofs.YtlpfecjkkgccgaaDoor
open Go Go.RowKit

/-- What Near returns. -/
def nrX (p : Int) (ws : List GW) (wl : List (Int × Int)) : Int := if errO p ws wl = 0 then (if 12 < ws.length then 3 else if (lstO ws wl).isSome = true then 0 else 130) else errO p ws wl
def nrN (p : Int) (ws : List GW) (wl : List (Int × Int)) : Nat := if nrX p ws wl = 0 then rsU ws.length (tcO ws) (LO ws wl) 0 (-1) else 0
def nrL (p : Int) (ws : List GW) (wl : List (Int × Int)) : List Int := if nrX p ws wl = 0 then pthR ws.length (tcO ws) (LO ws wl) ws.length 0 (-1) else []
def NearPost (l : List Int) (k : Nat) (x : Int) (w : World) (e : Ending) (w' : World) : Prop := ∃ v, e = .returned (.tuple #[v, .int .i64 (k : Int), .int .i64 x]) ∧ RdV w' v l ∧ capOk v ∧ Below w.heap.size w w'
set_option maxRecDepth 100000 in
set_option maxHeartbeats 8000000 in
theorem oNear_ (p : Int) (A Wa : Option Addr) (c wc : Nat) (ws : List GW) (wl : List (Int × Int)) (w : World) (ha : ShIn w p A ws) (hl : RdP w Wa wl) :
    Calls Tryd.prog 24 #[.agg #[.int .i64 p, .slice A ws.length c], .slice Wa wl.length wc] w (NearPost (nrL p ws wl) (nrN p ws wl) (nrX p ws wl) w) := by
  have hb2 : Below w.heap.size w (w.alloc (.cells #[.int .i64 p, .slice A ws.length c] 24)) := (Below.refl _ _).alloc (Nat.le_refl _) _
  have hbx := heap_alloc_new w (.cells #[.int .i64 p, .slice A ws.length c] 24)
  have X0 := Lib.hid (Box1.made w p A c ws.length 24)
  have HA := Lib.hid ha; have HL := Lib.hid hl; clear ha hl
  go_enter Tryd.func24, Tryd.ntmps24
  refine wp_seq_k fun K0 hK0 => ?_
  have HK0 := Lib.hid hK0; clear hK0
  go_wp2_with fail
  refine HK0.out _ _ (wp_seq_k fun K1 hK1 => ?_)
  generalize w.alloc (.cells #[.int .i64 p, .slice A ws.length c] 24) = w1 at *
  have hs1 := lt_of_block hbx
  obtain ⟨c1, c2, s1⟩ := X0.out
  have HK1 := Lib.hid hK1; have HBX := Lib.hid hbx; have HB2 := Lib.hid hb2; clear hK1 hbx hb2
  go_wp2_with fail
  refine (before_ p A Wa c wc ws wl _ (HA.out.later HB2.out (Nat.le_refl _)) (HL.out.later HB2.out (Nat.le_refl _))).mono ?_
  rintro e w2 ⟨hz, hn, hb12⟩
  have hbx2 := (hb12.block _ hs1).trans HBX.out
  have hb2 := HB2.out.trans (hb12.mono (by have := HB2.out.size; omega))
  have hs2 := hb12.size
  clear hb12 c1 c2 X0 HBX HB2 s1
  by_cases he : errO p ws wl = 0
  rotate_left
  · obtain rfl := hn he
    have hx : nrX p ws wl = errO p ws wl := by unfold nrX; rw [if_neg he]
    have hk : nrN p ws wl = 0 := by unfold nrN; rw [if_neg (by rw [hx]; exact he)]
    have hv : nrL p ws wl = [] := by unfold nrL; rw [if_neg (by rw [hx]; exact he)]
    have heb : (errO p ws wl != 0) = true := by simpa using he
    clear hz hn
    have hb3 := hb2.alloc hb2.size (.cells #[.slice none 0 0] 52)
    have HE := Lib.hid he; have HX := Lib.hid hx; have HK := Lib.hid hk; have HV := Lib.hid hv; have HB3 := Lib.hid hb3; have HB2 := Lib.hid hb2; have HBX2 := Lib.hid hbx2; clear he hx hk hv hb3 hb2 hbx2
    go_wp2
    refine HK1.out _ _ ?_
    clear HK0 HK1
    go_wp2
    go_ret3
    exact ⟨.slice none 0 0, by rw [HK.out, HX.out]; rfl, by rw [HV.out]; exact RdV.nil _, (Nat.le_refl 0 : capOk (.slice none 0 0)), HB3.out⟩
  obtain ⟨R, rfl, hR, hRl⟩ := hz he
  have hx : nrX p ws wl = if 12 < ws.length then 3 else if (lstO ws wl).isSome = true then 0 else 130 := by unfold nrX; rw [if_pos he]
  have hn4 : ws.length ≤ 400 := by have := (okAll (errO_zero he).1).2.2.1; omega
  have hpl : ∀ x ∈ ws, 0 ≤ x.pl ∧ x.pl ≤ 22 := fun x hx => by
    obtain ⟨_, hp, _, hall⟩ := okAll (errO_zero he).1
    have := hall x hx
    omega
  clear hz hn
  have hb3 := hb2.alloc hb2.size (.cells #[.slice (some ⟨R, 0, none⟩) ws.length ws.length] 52)
  have hl3 := heap_alloc_new w2 (.cells #[.slice (some ⟨R, 0, none⟩) ws.length ws.length] 52)
  have hR3 : SBo (w2.alloc (.cells #[.slice (some ⟨R, 0, none⟩) ws.length ws.length] 52)) R ws.length (LO ws wl) := (Below.heap_alloc _ _ _ hR.lt).trans hR
  have hx3 : (w2.alloc (.cells #[.slice (some ⟨R, 0, none⟩) ws.length ws.length] 52)).heap[w.heap.size]? = _ := (Below.heap_alloc _ _ _ (lt_of_block hbx2)).trans hbx2
  clear hR hbx2 hb2
  have HE := Lib.hid he; have HPL := Lib.hid hpl; have HX := Lib.hid hx; have HB3 := Lib.hid hb3; have HL3 := Lib.hid hl3; have HR3 := Lib.hid hR3; have HX3 := Lib.hid hx3; clear he hpl hx hb3 hl3 hR3 hx3
  go_wp2
  clear HK0
  refine HK1.out _ _ ?_
  clear HK1
  have s3 : (w2.alloc (.cells #[.slice (some ⟨R, 0, none⟩) ws.length ws.length] 52)).heap.size ≥ w2.heap.size + 1 := by simp
  obtain ⟨B7, hB7⟩ : ∃ B7, w2.heap.size = B7 := ⟨_, rfl⟩
  have hL3 := HL3.out
  rw [hB7] at hL3 s3 ⊢
  clear hRl
  generalize w2.alloc (.cells #[.slice (some ⟨R, 0, none⟩) ws.length ws.length] 52) = w3 at *
  have e7 := cell_of_row _ _ 0 _ _ _ hL3
  clear HL3 hB7
  have HL3 := Lib.hid hL3; clear hL3
  refine wp_seq_k fun K1 hK1 => ?_
  have HK1 := Lib.hid hK1; clear hK1
  go_wp2_with fail
  refine HK1.out _ _ ?_
  clear HK1
  by_cases hn12 : 12 < ws.length
  · have hx2 : nrX p ws wl = 3 := by rw [HX.out, if_pos hn12]
    have hk : nrN p ws wl = 0 := by unfold nrN; rw [if_neg (by rw [hx2]; decide)]
    have hv : nrL p ws wl = [] := by unfold nrL; rw [if_neg (by rw [hx2]; decide)]
    have HK := Lib.hid hk; have HV := Lib.hid hv; have HX2 := Lib.hid hx2; clear hk hv hx2
    have hn12b : (12 : Int) < (ws.length : Int) := by omega
    have hn12c : decide ((12 : Int) < (ws.length : Int)) = true := by simpa using hn12b
    go_wp2
    go_ret3
    exact ⟨.slice none 0 0, by rw [HK.out, HX2.out]; rfl, by rw [HV.out]; exact RdV.nil _, (Nat.le_refl 0 : capOk (.slice none 0 0)), HB3.out⟩
  have hn12b : ¬ (12 : Int) < (ws.length : Int) := by omega
  have hn12c : decide ((12 : Int) < (ws.length : Int)) = false := by simpa using hn12b
  refine wp_seq_k fun K1 hK1 => ?_
  have HK1 := Lib.hid hK1; clear hK1
  go_wp2_with fail
  refine HK1.out _ _ ?_
  clear HK1 hn12b hn12c
  refine wp_seq_k fun K1 hK1 => ?_
  refine wp_seq_k fun K2 hK2 => ?_
  have HK1 := Lib.hid hK1; have HK2 := Lib.hid hK2; clear hK1 hK2
  go_wp2_with fail
  refine (goOn_ R ws.length ws.length 0 (LO ws wl) none [] _ hn4 LO_all HR3.out (rdI_nil _) (Nat.zero_le _) (fun x hx => by cases hx)).mono ?_
  rw [opt_nil]
  show ∀ e w, GoPost (lstO ws wl) w3 e w → _
  rintro e w4 ⟨h1, h2, hb34⟩
  have hs4 := hb34.size
  have hb4 := HB3.out.trans (hb34.mono HB3.out.size)
  have hL4 := (hb34.block _ (lt_of_block HL3.out)).trans HL3.out
  have hR4 : SBo w4 R ws.length (LO ws wl) := (hb34.block _ HR3.out.lt).trans HR3.out
  have hx4 := (hb34.block _ (lt_of_block HX3.out)).trans HX3.out
  cases hr2 : lstO ws wl with
  | none =>
    obtain rfl := h2 hr2
    clear h1 h2
    have hx2 : nrX p ws wl = 130 := by rw [HX.out, if_neg hn12, hr2]; rfl
    have hk : nrN p ws wl = 0 := by unfold nrN; rw [if_neg (by rw [hx2]; decide)]
    have hv : nrL p ws wl = [] := by unfold nrL; rw [if_neg (by rw [hx2]; decide)]
    have HR2 := Lib.hid hr2; have HB34 := Lib.hid hb34; have HB4 := Lib.hid hb4; have HL4 := Lib.hid hL4; have HR4 := Lib.hid hR4; have HX4 := Lib.hid hx4; have HX2 := Lib.hid hx2; have HK := Lib.hid hk; have HV := Lib.hid hv; clear hr2 hb34 hb4 hL4 hR4 hx4 hx2 hk hv
    clear e7
    go_wp2
    refine HK2.out _ _ ?_
    clear HK1 HK2
    go_wp2
    go_ret3
    exact ⟨.slice none 0 0, by rw [HK.out, HX2.out]; rfl, by rw [HV.out]; exact RdV.nil _, (Nat.le_refl 0 : capOk (.slice none 0 0)), HB4.out⟩
  | some l0 =>
    obtain ⟨v, rfl, hw, hcap0⟩ := h1 l0 hr2
    clear h1 h2
    have hx2 : nrX p ws wl = 0 := by rw [HX.out, if_neg hn12, hr2]; rfl
    have hk : nrN p ws wl = rsU ws.length (tcO ws) (LO ws wl) 0 (-1) := by unfold nrN; rw [if_pos hx2]
    have hv : nrL p ws wl = pthR ws.length (tcO ws) (LO ws wl) ws.length 0 (-1) := by unfold nrL; rw [if_pos hx2]
    have HR2 := Lib.hid hr2; have HB34 := Lib.hid hb34; have HB4 := Lib.hid hb4; have HL4 := Lib.hid hL4; have HR4 := Lib.hid hR4; have HX4 := Lib.hid hx4; have HX2 := Lib.hid hx2; have HK := Lib.hid hk; have HV := Lib.hid hv; have HW := Lib.hid hw; have HCAP0 := Lib.hid hcap0; clear hr2 hb34 hb4 hL4 hR4 hx4 hx2 hk hv hw hcap0
    clear e7
    have hmm := @run_makeMap Tryd.prog
    go_wp2
    refine HK2.out _ _ ?_
    clear HK2
    go_wp2
    refine HK1.out _ _ ?_
    clear HK1
    refine wp_seq_k fun K1 hK1 => ?_
    have HK1 := Lib.hid hK1; clear hK1
    go_wp2
    refine HK1.out _ _ ?_
    clear HK1 hmm
    refine wp_seq_k fun K1 hK1 => ?_
    have HK1 := Lib.hid hK1; clear hK1
    go_wp2
    refine HK1.out _ _ ?_
    clear HK1
    obtain ⟨w7, hw7⟩ : ∃ w7, w7 = ((w4.alloc (.map #[] 0)).alloc (.cells #[.map (some w4.heap.size)] 88)).alloc (.cells #[.nilFunc] 89) := ⟨_, rfl⟩
    rw [← hw7]
    have hb47 : Below w4.heap.size w4 w7 := by rw [hw7]; exact (((Below.refl _ _).alloc (Nat.le_refl _) _).alloc (by simp) _).alloc (by first | (simp; done) | (simp; omega)) _
    have hm7 : MapSt w7 w4.heap.size (fun S z => rsU ws.length (tcO ws) (LO ws wl) S z) := by
      refine (MapSt.empty w4 _).at_ ?_
      rw [hw7, Below.heap_alloc _ _ _ (by first | (simp; done) | (simp; omega)), Below.heap_alloc _ _ _ (by simp)]
    have hM7 : w7.heap[w4.heap.size + 1]? = some (.cells #[.map (some w4.heap.size)] 88 (0, 0)) := by
      rw [hw7, Below.heap_alloc _ _ _ (by simp)]
      exact heap_alloc2_new _ _ _
    have hF7 : w7.heap[w4.heap.size + 1 + 1]? = some (.cells #[.nilFunc] 89 (0, 0)) := by
      rw [hw7]
      have := heap_alloc_new ((w4.alloc (.map #[] 0)).alloc (.cells #[.map (some w4.heap.size)] 88)) (.cells #[.nilFunc] 89)
      rwa [World.size_alloc, World.size_alloc] at this
    clear hw7
    have z1 := cell_of_row _ _ 0 _ _ _ hF7
    have z2 := frozen_of_row _ _ 0 _ _ hF7
    have s7 := lt_of_block hF7
    have s8 : B7 < w4.heap.size := lt_of_block HL4.out
    have s9 : w.heap.size < w4.heap.size := lt_of_block HX4.out
    have s10 : R < w4.heap.size := HR4.out.lt
    refine wp_seq_k fun K1 hK1 => ?_
    have HK1 := Lib.hid hK1; have HB47 := Lib.hid hb47; have HM7 := Lib.hid hM7; have HF7 := Lib.hid hF7; clear hK1 hb47 hM7 hF7
    have HMS7 := Lib.hid hm7; clear hm7
    go_wp2
    refine HK1.out _ _ ?_
    clear HK1 z1 z2
    obtain ⟨w8, hw8⟩ : ∃ w8, w8 = w7.setCell ⟨w4.heap.size + 1 + 1, 0, none⟩ (.func (.func 46) #[] #[.pointer (some ⟨B7, 0, none⟩), .pointer (some ⟨w4.heap.size + 1, 0, none⟩), .pointer (some ⟨w4.heap.size + 1 + 1, 0, none⟩), .pointer (some ⟨w.heap.size, 0, none⟩)]) := ⟨_, rfl⟩
    rw [← hw8]
    have hb48 : Below w4.heap.size w4 w8 := by rw [hw8]; exact HB47.out.setCell (p := ⟨w4.heap.size + 1 + 1, 0, none⟩) (by show w4.heap.size ≤ w4.heap.size + 1 + 1; omega) _
    have hF8 : w8.heap[w4.heap.size + 1 + 1]? = some (.cells #[.func (.func 46) #[] #[.pointer (some ⟨B7, 0, none⟩), .pointer (some ⟨w4.heap.size + 1, 0, none⟩), .pointer (some ⟨w4.heap.size + 1 + 1, 0, none⟩), .pointer (some ⟨w.heap.size, 0, none⟩)]] 89 (0, 0)) := by rw [hw8]; exact one_setCell HF7.out
    have hM8 : w8.heap[w4.heap.size + 1]? = some (.cells #[.map (some w4.heap.size)] 88 (0, 0)) := by rw [hw8]; exact (heap_setCell_other _ _ _ _ (by show w4.heap.size + 1 ≠ w4.heap.size + 1 + 1; omega)).trans HM7.out
    have hm8 : MapSt w8 w4.heap.size (fun S z => rsU ws.length (tcO ws) (LO ws wl) S z) := HMS7.out.at_ (by rw [hw8]; exact heap_setCell_other _ _ _ _ (by show w4.heap.size ≠ w4.heap.size + 1 + 1; omega))
    clear hw8
    have hC8 : NCx w p A c ws (LO ws wl) ws.length B7 (w4.heap.size + 1) (w4.heap.size + 1 + 1) w.heap.size w4.heap.size R w8 :=
      ⟨HB4.out.trans (hb48.mono HB4.out.size), HA.out, (hb48.block _ s8).trans HL4.out, hM8, hF8, (hb48.block _ s9).trans HX4.out, (hb48.block _ s10).trans HR4.out, hm8, HB4.out.size⟩
    have s11 := lt_of_block hF8
    clear hF8 hM8 hm8 hb48 HF7 HM7 HMS7 HB47 s7
    refine wp_seq_k fun K1 hK1 => ?_
    have HK1 := Lib.hid hK1; have HC8 := Lib.hid hC8; clear hK1 hC8
    go_wp2
    refine HK1.out _ _ ?_
    clear HK1
    have hb89 : Below w8.heap.size w8 (w8.alloc (.cells #[.int .u64 0, .int .i64 (-1)] 91)) := (Below.refl _ _).alloc (Nat.le_refl _) _
    have h139 := heap_alloc_new w8 (.cells #[.int .u64 0, .int .i64 (-1)] 91)
    have hs9 : w8.heap.size + 1 ≤ (w8.alloc (.cells #[.int .u64 0, .int .i64 (-1)] 91)).heap.size := by simp
    generalize w8.alloc (.cells #[.int .u64 0, .int .i64 (-1)] 91) = w9 at *
    have hC9 := HC8.out.later hb89
    have e1 := cell_of_row _ _ 0 _ _ _ h139
    have e2 := cell_of_row _ _ 1 _ _ _ h139
    have e3 := cell_of_row _ _ 0 _ _ _ hC9.fbox
    have hcall := oNear1_ w p A c ws (LO ws wl) ws.length B7 (w4.heap.size + 1) (w4.heap.size + 1 + 1) w.heap.size w4.heap.size R HPL.out (by omega) rfl LO_all _ 0 (-1) w9 rfl (Nat.two_pow_pos _) (by omega) hC9
    clear hb89
    refine wp_seq_k fun K1 hK1 => ?_
    have HK1 := Lib.hid hK1; have H139 := Lib.hid h139; have HC9 := Lib.hid hC9; have HCALL := Lib.hid hcall; clear hK1 h139 hC9 hcall
    go_wp2_with fail
    refine HCALL.out.mono ?_
    rintro e w10 ⟨rfl, hk10, hm10⟩
    have hC10 := HC9.out.kp hk10 hm10
    have h1310 := (hk10.same w8.heap.size (by omega) (by omega)).trans H139.out
    have hl10 := hk10.size
    clear e1 e2 e3 hk10 hm10 HC9 H139 HC8 HCALL
    have HC10 := Lib.hid hC10; have H1310 := Lib.hid h1310; clear hC10 h1310
    go_wp2
    refine HK1.out _ _ ?_
    clear HK1
    refine wp_seq_k fun K1 hK1 => ?_
    have HK1 := Lib.hid hK1; clear hK1
    go_wp2
    refine HK1.out _ _ ?_
    clear HK1
    refine wp_seq_k fun K1 hK1 => ?_
    have HK1 := Lib.hid hK1; clear hK1
    refine wp_block ?_
    have hmis : miss ws.length 0 = ws.length := miss_nil _
    refine wp_loop (fun a wr => ∃ (acc : List Int) (S : Nat) (z : Int) (ov : Value), FNL (w4.heap.size + 1 + 1) w8.heap.size (.int .i64 ((rsU ws.length (tcO ws) (LO ws wl) 0 (-1) : Nat) : Int)) (.int .i64 (nxU ws.length (tcO ws) (LO ws wl) S z)) ov a ∧
        NCx w p A c ws (LO ws wl) ws.length B7 (w4.heap.size + 1) (w4.heap.size + 1 + 1) w.heap.size w4.heap.size R wr ∧ wr.heap[w8.heap.size]? = some (.cells #[.int .u64 (S : Nat), .int .i64 z] 91 (0, 0)) ∧
        wr.ownsRow w10.heap.size 3 1 ov acc.length (ints acc) ∧ S < 2 ^ ws.length ∧ acc.length + miss ws.length S = ws.length ∧ pthR ws.length (tcO ws) (LO ws wl) ws.length 0 (-1) = acc ++ pthR ws.length (tcO ws) (LO ws wl) (miss ws.length S) S z ∧ w10.heap.size ≤ wr.heap.size)
      (fun a _ => ws.length - slLen (a.tmps.getD 16 undef)) ?nst ?nrd
    case nst =>
      exact ⟨[], 0, -1, .slice none 0 0, ⟨rfl, rfl, rfl, rfl, rfl, rfl, rfl⟩, HC10.out, H1310.out, World.ownsRow_nil _ _ _ _, Nat.two_pow_pos _, by rw [hmis]; simp, by rw [hmis]; rfl, Nat.le_refl _⟩
    case nrd =>
      rintro a wr ⟨acc, S, z, ov, hA, hC, h13, hown, hS, hms, hpth, hlr⟩
      have hov : slLen ov = acc.length := by
        obtain ⟨VA, VC, rfl⟩ := own_slice1 hown
        rfl
      have hov2 : slLen (a.tmps.getD 16 undef) = acc.length := by
        obtain ⟨_, _, _, _, _, _, h16⟩ := hA
        rw [h16, hov]
      refine nearL_ _ rfl w p z A c ws (LO ws wl) ws.length B7 (w4.heap.size + 1) (w4.heap.size + 1 + 1) w.heap.size w4.heap.size R w8.heap.size S w10.heap.size acc ov _ a wr _ HPL.out (by omega) rfl LO_all hA hC h13 (by omega) hown hS (by omega) (fun _ _ _ _ => ⟨fun h _ => h, fun h => h #[]⟩) ?nex ?ngo
      case nex =>
        intro hnx a' hA'
        have hend : pthR ws.length (tcO ws) (LO ws wl) ws.length 0 (-1) = acc := by
          rw [hpth]
          have : pthR ws.length (tcO ws) (LO ws wl) (miss ws.length S) S z = [] := by
            cases hm : miss ws.length S with
            | zero => rfl
            | succ m =>
              rw [pthR]
              unfold nxU nxI at hnx
              split at hnx
              · rename_i hb; rw [hb]
              · omega
          rw [this, List.append_nil]
        show K1 _ _
        refine HK1.out _ _ ?_
        obtain ⟨f, rfl⟩ := hA'.opn
        dsimp only
        have hbel := hC.bel
        have hown2 := hown
        obtain ⟨VA, VC, rfl⟩ := own_slice1 hown
        have HC := Lib.hid hC; have H13 := Lib.hid h13; have HOWN := Lib.hid hown; have HPTH := Lib.hid hpth; have HEND := Lib.hid hend; have HBEL := Lib.hid hbel; have HMS := Lib.hid hms; have HS := Lib.hid hS; have HOWN2 := Lib.hid hown2; clear hC h13 hown hpth hend hbel hms hS hown2
        clear HK1
        go_wp2
        go_ret3
        exact ⟨.slice VA acc.length VC, by rw [HK.out, HX2.out]; rfl, by rw [HV.out, HEND.out]; exact ⟨VA, VC, rfl, by have := HMS.out; omega, own_rd HOWN2.out⟩, capOk_own HOWN2.out, HBEL.out⟩
      case ngo =>
        intro b a' W' ov' hnx hbn hA' hC' h13' hl' hown'
        have hbf : freeB (LO ws wl) S b = true := by
          unfold nxU nxI at hnx
          split at hnx
          · omega
          · rename_i v b' hb
            obtain rfl : b' = b := by omega
            exact ((bstB_spec ws.length).2 _ _ hb).2.1
        have hst := miss_step' (freeB_bit hbf) ws.length hbn
        have hp2 : pthR ws.length (tcO ws) (LO ws wl) (miss ws.length S) S z = (b : Int) :: pthR ws.length (tcO ws) (LO ws wl) (miss ws.length (S ||| 2 ^ b)) (S ||| 2 ^ b) b := by
          rw [← hst, pthR]
          unfold nxU nxI at hnx
          split at hnx
          · omega
          · rename_i v b' hb
            obtain rfl : b' = b := by omega
            rw [hb]
        refine ⟨⟨acc ++ [(b : Int)], S ||| 2 ^ b, (b : Int), ov', hA', hC', h13', hown', Nat.or_lt_two_pow hS (Nat.pow_lt_pow_right (by decide) hbn), by simp; omega, by rw [hpth, hp2]; simp, by omega⟩, ?_⟩
        have hov' : slLen (a'.tmps.getD 16 undef) = acc.length + 1 := by
          obtain ⟨_, _, _, _, _, _, h16⟩ := hA'
          rw [h16]
          obtain ⟨VA, VC, rfl⟩ := own_slice1 hown'
          simp [slLen]
        show ws.length - slLen (a'.tmps.getD 16 undef) < ws.length - slLen (a.tmps.getD 16 undef)
        rw [hov', hov2]
        omega
end Go.Proofs.YtlpfecjkkgccgaaDoor
/- The example of chapter 13. -/
namespace Go.Proofs.YtlpfecjkkgccgaaDoor
open Go Go.RowKit
attribute [local go_sem] Oper.semAt_some

def exA (i : Nat) : Nat := if i = 1 then 2 else if i = 2 then 1 else 0
def exW (i : Nat) : GW := ⟨1, (exA i : Int), ⟨#[67, 84, 67]⟩⟩
def exTo (k : Nat) : List GW := (List.range k).map exW
theorem exTo_length (k : Nat) : (exTo k).length = k := by unfold exTo; simp
theorem exTo_succ (k : Nat) : exTo (k + 1) = exTo k ++ [exW k] := by unfold exTo; simp [List.range_succ]
def exWs : List GW := exTo 4
theorem ex_fits : ∀ x ∈ exWs, x.fits := by
  intro x hx
  have : x = exW 0 ∨ x = exW 1 ∨ x = exW 2 ∨ x = exW 3 := by
    simp [exWs, exTo, List.range_succ] at hx
    exact hx
  rcases this with rfl | rfl | rfl | rfl <;> (unfold GW.fits exW; decide)
theorem ex_lstL : lstL 4 exWs [(1, 0)] = [1, 0, 2, 3] := by kernel_rfl
theorem ex_lstX : lstX 4 exWs [(1, 0)] = 0 := by kernel_rfl
theorem ex_cycV : cycV 4 exWs [(3, 1)] = [1, 2, 3] := by kernel_rfl
theorem ex_cycX : cycX 4 exWs [(3, 1)] = 0 := by kernel_rfl
theorem ex_nrX : nrX 4 exWs [] = 0 := by kernel_rfl
theorem ex_nrN : nrN 4 exWs [] = 1 := by kernel_rfl
theorem ex_nrL : nrL 4 exWs [] = [0, 1, 2, 3] := by kernel_rfl
theorem ex_cntX : cntX 4 exWs [] = 0 := by kernel_rfl
theorem ex_cntV : cntV 4 exWs [] = 2 := by kernel_rfl
theorem ex_nxtX : nxtX 4 exWs [] [0, 1, 2, 3] = 0 := by kernel_rfl
theorem ex_nxtL : nxtL 4 exWs [] [0, 1, 2, 3] = [1, 0, 2, 3] := by kernel_rfl
theorem ex_nxtX2 : nxtX 4 exWs [] [1, 0, 2, 3] = 9 := by kernel_rfl
theorem ex_nxtL2 : nxtL 4 exWs [] [1, 0, 2, 3] = [] := by kernel_rfl

def ExIn (w : World) (e : Ending) (w' : World) : Prop := ∃ A c, e = .returned (.agg #[.int .i64 4, .slice A 4 c]) ∧ RdW w' A exWs ∧ Below w.heap.size w w'
set_option maxRecDepth 100000 in
set_option maxHeartbeats 4000000 in
theorem example_ (w : World) : Calls Tryd.prog 28 #[] w (ExIn w) := by
  go_enter Tryd.func28, Tryd.ntmps28
  go_wp2
  obtain ⟨W2, hW2⟩ : ∃ W2, W2 = ((w.alloc (.cells #[.int .i64 0, .slice none 0 0] 24)).alloc (.cells #[.int .i64 0, .int .i64 2, .int .i64 1, .int .i64 0] 100)).alloc (.cells #[.int .i64 4, .slice none 0 0] 24) := ⟨_, rfl⟩
  rw [← hW2]
  have hb2 : Below w.heap.size w W2 := by rw [hW2]; exact (((Below.refl _ _).alloc (Nat.le_refl _) _).alloc (by simp) _).alloc (by first | (simp; done) | (simp; omega)) _
  have hS : W2.heap[w.heap.size + 1 + 1]? = some (.cells #[.int .i64 4, .slice none 0 0] 24 (0, 0)) := by
    rw [hW2]
    have := heap_alloc_new ((w.alloc (.cells #[.int .i64 0, .slice none 0 0] 24)).alloc (.cells #[.int .i64 0, .int .i64 2, .int .i64 1, .int .i64 0] 100)) (.cells #[.int .i64 4, .slice none 0 0] 24)
    rwa [World.size_alloc, World.size_alloc] at this
  have hAr : W2.heap[w.heap.size + 1]? = some (.cells #[.int .i64 0, .int .i64 2, .int .i64 1, .int .i64 0] 100 (0, 0)) := by
    rw [hW2, Below.heap_alloc _ _ _ (by simp)]
    exact heap_alloc2_new _ _ _
  have hRe : W2.heap[w.heap.size]? = some (.cells #[.int .i64 0, .slice none 0 0] 24 (0, 0)) := by
    rw [hW2, Below.heap_alloc _ _ _ (by first | (simp; done) | (simp; omega)), Below.heap_alloc _ _ _ (by simp)]
    exact heap_alloc_new _ _
  have hs2 : W2.heap.size = w.heap.size + 1 + 1 + 1 := by rw [hW2]; simp
  have hs3 : w.heap.size + 1 + 1 + 1 ≤ W2.heap.size := by omega
  clear hW2
  have HB2 := Lib.hid hb2; have HS := Lib.hid hS; have HAR := Lib.hid hAr; have HRE := Lib.hid hRe; have HS2 := Lib.hid hs2; clear hb2 hS hAr hRe hs2
  go_loopw [3] (fun iv wr => ∃ (i : Nat) (v : Value), iv = .int .i64 i ∧ i ≤ 4 ∧ wr.heap[w.heap.size + 1 + 1]? = some (.cells #[.int .i64 4, v] 24 (0, 0)) ∧ wr.ownsRow (w.heap.size + 1 + 1 + 1) 50 3 v (exTo i).length (worksC (exTo i)) ∧ Below (w.heap.size + 1 + 1) W2 wr) (fun iv _ => 4 - (intOf iv).toNat)
  case atStart => exact ⟨0, _, rfl, by omega, HS.out, World.ownsRow_nil _ _ _ _, Below.refl _ _⟩
  case round =>
    obtain ⟨i, v, rfl, hi, hO, hown, hbr⟩ := hrel
    have hOl := lt_of_block hO
    have c1 := cell_of_row wr (w.heap.size + 1 + 1) 1 _ _ _ hO
    have g1 := frozen_of_row wr (w.heap.size + 1 + 1) 1 _ _ hO
    simp only [List.getElem?_toArray, List.getElem?_cons_zero, List.getElem?_cons_succ] at c1
    have hArr := (hbr.block _ (by omega)).trans HAR.out
    by_cases hi4 : i < 4
    · have ca : wr.cell? ⟨w.heap.size + 1, i, none⟩ = some (.int .i64 (exA i : Int)) := by
        rw [cell_of_row wr _ i _ _ _ hArr]
        obtain rfl | rfl | rfl | rfl : i = 0 ∨ i = 1 ∨ i = 2 ∨ i = 3 := by omega
        all_goals rfl
      have hlen := exTo_length i
      have hsu := exTo_succ i
      have hAl := lt_of_block hArr
      have x1 : (0 : Int) ≤ (i : Int) := by omega
      have x2 : (i : Int) < 4 := by omega
      have q1 : IntKind.i64.wrap ((i : Int) + 1) = (i : Int) + 1 := IntWalk.i64_in _ (by omega)
      have hxw : exW i = ⟨1, (exA i : Int), ⟨#[67, 84, 67]⟩⟩ := rfl
      generalize exA i = xa at *
      have hgw : ∀ W : World, (W.alloc (.cells #[.int .i64 1, .int .i64 (xa : Int), .string ⟨#[67, 84, 67]⟩] 50)).heap[W.heap.size]? = some (.cells #[.int .i64 (exW i).kind, .int .i64 (exW i).pl, .string (exW i).word] 50 (0, 0)) := fun W => by rw [hxw]; exact heap_alloc_new _ _
      generalize exW i = xw at *
      generalize exTo i = L at *
      have HO := Lib.hid hO; have HOWN := Lib.hid hown; have HBR := Lib.hid hbr; have HARR := Lib.hid hArr; have HLEN := Lib.hid hlen; have HSU := Lib.hid hsu; have HXW := Lib.hid hxw; clear hO hown hbr hArr hlen hsu hxw
      go_upto_region 6 with fail
      refine wp_region_held_drew (S := fun W' => W'.cell? ⟨w.heap.size + 1, i, none⟩ = some (.int .i64 (xa : Int))) (by kernel_rfl) ca (fun hHeld => ?_)
      refine takeH (i := 0) (v := ?ea1xv0) rfl rfl (by kernel_rfl) (by kernel_rfl) (by kernel_rfl) (fun _ _ _ _ => ⟨fun h _ => h, fun h => h #[]⟩) (by rfl) hHeld ?ea1xy0 ?ea1xr0
      case ea1xy0 =>
        intro W' s1
        go_simp
        try with_reducible rfl
      simp only [List.setIfInBounds_toArray, List.set_cons_zero, List.set_cons_succ]
      refine takeH (i := 2) (v := ?ea2xv2) rfl rfl (by kernel_rfl) (by kernel_rfl) (by kernel_rfl) (fun _ _ _ _ => ⟨fun h _ => h, fun h => h #[]⟩) (by rfl) hHeld ?ea2xy2 ?ea2xr2
      case ea2xy2 =>
        intro W' s1
        go_simp
        try with_reducible rfl
      simp only [List.setIfInBounds_toArray, List.set_cons_zero, List.set_cons_succ]
      refine takeH (i := 3) (v := ?ea3xv3) rfl rfl (by kernel_rfl) (by kernel_rfl) (by kernel_rfl) (fun _ _ _ _ => ⟨fun h _ => h, fun h => h #[]⟩) (by rfl) hHeld ?ea3xy3 ?ea3xr3
      case ea3xy3 =>
        intro W' s1
        go_simp
        try with_reducible rfl
      simp only [List.setIfInBounds_toArray, List.set_cons_zero, List.set_cons_succ]
      refine takeH (i := 4) (v := ?ea4xv4) rfl rfl (by kernel_rfl) (by kernel_rfl) (by kernel_rfl) (fun _ _ _ _ => ⟨fun h _ => h, fun h => h #[]⟩) (by rfl) hHeld ?ea4xy4 ?ea4xr4
      case ea4xy4 =>
        intro W' s1
        go_simp
        try with_reducible rfl
      simp only [List.setIfInBounds_toArray, List.set_cons_zero, List.set_cons_succ]
      refine wpAnyH_ready (rs := [1, 5]) (by kernel_rfl) (by simp) ?_
      refine AllReadyH.cons rfl (fun K hK => ?_) (AllReadyH.cons rfl (fun K hK => ?_) AllReadyH.nil)
      · skip
        go_simp
        refine hK.out _ _ (by first | exact ca | exact ca2) (fun hHeld => ?_)
        clear hK K
        refine takeH (i := 5) (v := ?eb5xv5) rfl rfl (by kernel_rfl) (by kernel_rfl) (by kernel_rfl) (fun _ _ _ _ => ⟨fun h _ => h, fun h => h #[]⟩) (by rfl) hHeld ?eb5xy5 ?eb5xr5
        case eb5xy5 =>
          intro W' s1
          go_simp
          try with_reducible rfl
        simp only [List.setIfInBounds_toArray, List.set_cons_zero, List.set_cons_succ]
        refine wpAnyH_ready (rs := [6]) (by kernel_rfl) (by simp) ?_
        refine AllReadyH.cons rfl (fun K hK => ?_) AllReadyH.nil
        go_simp
        have ca2 : (wr.alloc (.cells #[.int .i64 1, .int .i64 (xa : Int), .string ⟨#[67, 84, 67]⟩] 50)).drew.cell? ⟨w.heap.size + 1, i, none⟩ = some (.int .i64 (xa : Int)) := (World.cell?_alloc_lt _ _ _ hAl).trans ca
        have cb2 : (wr.alloc (.cells #[.int .i64 1, .int .i64 (xa : Int), .string ⟨#[67, 84, 67]⟩] 50)).drew.cell? ⟨w.heap.size + 1 + 1, 1, none⟩ = some v := (World.cell?_alloc_lt _ _ _ hOl).trans c1
        refine hK.out _ _ ca2 (fun hHeld => ?_)
        clear hK K
        refine wpAnyH_ready (rs := [7]) (by kernel_rfl) (by simp) ?_
        refine AllReadyH.cons rfl (fun K hK => ?_) AllReadyH.nil
        refine step_appW_Tryd rfl _ _ rfl (w.heap.size + 1 + 1 + 1) v L rfl (HOWN.out.alloc _) _ xw rfl (hgw wr) (by have := HLEN.out; omega) (by simp; omega) ?_
        intro g cap w6 hown6 hgrow hat6 hlt6
        have hO6 : w6.heap[w.heap.size + 1 + 1]? = some (.cells #[.int .i64 4, v] 24 (0, 0)) := (hgrow.block _ (by simp; omega) (fun h => by have := (HOWN.out.lt _ h.symm).1; omega)).trans ((Below.heap_alloc wr _ _ hOl).trans HO.out)
        have hb6 : Below (w.heap.size + 1 + 1) W2 w6 := ((HBR.out.alloc (by have := HBR.out.size; omega) _).drew.grown hgrow (by have := HBR.out.size; simp; omega) (fun k' hk' => by have := (HOWN.out.lt k' hk').1; omega))
        have hA6 : w6.cell? ⟨w.heap.size + 1, i, none⟩ = some (.int .i64 (xa : Int)) := by
          rw [World.cell?_of_block ((hb6.block (w.heap.size + 1) (by omega)).trans (HBR.out.block _ (by omega)).symm)]
          exact ca
        refine hK.out _ _ hA6 (fun hHeld => ?_)
        clear hK K
        have c6 := cell_of_row w6 (w.heap.size + 1 + 1) 1 _ _ _ hO6
        have g6 := frozen_of_row w6 (w.heap.size + 1 + 1) 1 _ _ hO6
        simp only [List.getElem?_toArray, List.getElem?_cons_zero, List.getElem?_cons_succ] at c6
        clear hgrow hat6
        have l6 := lt_of_block hO6
        have HO6 := Lib.hid hO6; have HB6 := Lib.hid hb6; have HOWN6 := Lib.hid hown6; clear hO6 hb6 hown6
        refine takeH (i := 8) (v := ?ec6xv8) rfl rfl (by kernel_rfl) (by kernel_rfl) (by kernel_rfl) (fun _ _ _ _ => ⟨fun h _ => h, fun h => h #[]⟩) (by rfl) hHeld ?ec6xy8 ?ec6xr8
        case ec6xy8 =>
          intro W' s1
          go_simp
          try with_reducible rfl
        simp only [List.setIfInBounds_toArray, List.set_cons_zero, List.set_cons_succ]
        refine wpAnyH_ready (rs := [9]) (by kernel_rfl) (by simp) ?_
        refine AllReadyH.cons rfl (fun K hK => ?_) AllReadyH.nil
        go_simp
        refine hK.out _ _ ((World.cell?_setCell_other _ _ _ _ (by simp)).trans hA6) (fun hHeld => ?_)
        clear hK K hHeld
        refine wpAnyH_done (by kernel_rfl) ?_ _
        clear c6 g6 c1 g1 ca hA6
        have hO7 := heap_setCell_same _ _ 1 _ _ (.slice (some ⟨g, 0, none⟩) (L.length + 1) cap) HO6.out
        have hb7 : Below (w.heap.size + 1 + 1) W2 (w6.setCell ⟨w.heap.size + 1 + 1, 1, none⟩ (.slice (some ⟨g, 0, none⟩) (L.length + 1) cap)) := HB6.out.setCell (Nat.le_refl _) _
        have hown7 := ownsRow_setCell_below (a := ⟨w.heap.size + 1 + 1, 1, none⟩) HOWN6.out (by show w.heap.size + 1 + 1 < w.heap.size + 1 + 1 + 1; omega) (.slice (some ⟨g, 0, none⟩) (L.length + 1) cap)
        have HO7 := Lib.hid hO7; have HB7 := Lib.hid hb7; have HOWN7 := Lib.hid hown7; clear hO7 hb7 hown7
        go_wp2
        go_roundw
        case rel => exact ⟨i + 1, _, by go_num, by omega, HO7.out, by rw [HSU.out]; exact HOWN7.out, HB7.out⟩
        case measure => simp [intOf]; omega
      · skip
        go_simp
        refine hK.out _ _ (by first | exact ca | exact ca2) (fun hHeld => ?_)
        clear hK K
        refine wpAnyH_ready (rs := [1, 6]) (by kernel_rfl) (by simp) ?_
        refine AllReadyH.cons rfl (fun K hK => ?_) (AllReadyH.cons rfl (fun K hK => ?_) AllReadyH.nil)
        · skip
          go_simp
          refine hK.out _ _ (by first | exact ca | exact ca2) (fun hHeld => ?_)
          clear hK K
          refine wpAnyH_ready (rs := [6]) (by kernel_rfl) (by simp) ?_
          refine AllReadyH.cons rfl (fun K hK => ?_) AllReadyH.nil
          go_simp
          have ca2 : (wr.alloc (.cells #[.int .i64 1, .int .i64 (xa : Int), .string ⟨#[67, 84, 67]⟩] 50)).drew.cell? ⟨w.heap.size + 1, i, none⟩ = some (.int .i64 (xa : Int)) := (World.cell?_alloc_lt _ _ _ hAl).trans ca
          have cb2 : (wr.alloc (.cells #[.int .i64 1, .int .i64 (xa : Int), .string ⟨#[67, 84, 67]⟩] 50)).drew.cell? ⟨w.heap.size + 1 + 1, 1, none⟩ = some v := (World.cell?_alloc_lt _ _ _ hOl).trans c1
          refine hK.out _ _ ca2 (fun hHeld => ?_)
          clear hK K
          refine wpAnyH_ready (rs := [7]) (by kernel_rfl) (by simp) ?_
          refine AllReadyH.cons rfl (fun K hK => ?_) AllReadyH.nil
          refine step_appW_Tryd rfl _ _ rfl (w.heap.size + 1 + 1 + 1) v L rfl (HOWN.out.alloc _) _ xw rfl (hgw wr) (by have := HLEN.out; omega) (by simp; omega) ?_
          intro g cap w6 hown6 hgrow hat6 hlt6
          have hO6 : w6.heap[w.heap.size + 1 + 1]? = some (.cells #[.int .i64 4, v] 24 (0, 0)) := (hgrow.block _ (by simp; omega) (fun h => by have := (HOWN.out.lt _ h.symm).1; omega)).trans ((Below.heap_alloc wr _ _ hOl).trans HO.out)
          have hb6 : Below (w.heap.size + 1 + 1) W2 w6 := ((HBR.out.alloc (by have := HBR.out.size; omega) _).drew.grown hgrow (by have := HBR.out.size; simp; omega) (fun k' hk' => by have := (HOWN.out.lt k' hk').1; omega))
          have hA6 : w6.cell? ⟨w.heap.size + 1, i, none⟩ = some (.int .i64 (xa : Int)) := by
            rw [World.cell?_of_block ((hb6.block (w.heap.size + 1) (by omega)).trans (HBR.out.block _ (by omega)).symm)]
            exact ca
          refine hK.out _ _ hA6 (fun hHeld => ?_)
          clear hK K
          have c6 := cell_of_row w6 (w.heap.size + 1 + 1) 1 _ _ _ hO6
          have g6 := frozen_of_row w6 (w.heap.size + 1 + 1) 1 _ _ hO6
          simp only [List.getElem?_toArray, List.getElem?_cons_zero, List.getElem?_cons_succ] at c6
          clear hgrow hat6
          have l6 := lt_of_block hO6
          have HO6 := Lib.hid hO6; have HB6 := Lib.hid hb6; have HOWN6 := Lib.hid hown6; clear hO6 hb6 hown6
          refine takeH (i := 8) (v := ?ec7xv8) rfl rfl (by kernel_rfl) (by kernel_rfl) (by kernel_rfl) (fun _ _ _ _ => ⟨fun h _ => h, fun h => h #[]⟩) (by rfl) hHeld ?ec7xy8 ?ec7xr8
          case ec7xy8 =>
            intro W' s1
            go_simp
            try with_reducible rfl
          simp only [List.setIfInBounds_toArray, List.set_cons_zero, List.set_cons_succ]
          refine wpAnyH_ready (rs := [9]) (by kernel_rfl) (by simp) ?_
          refine AllReadyH.cons rfl (fun K hK => ?_) AllReadyH.nil
          go_simp
          refine hK.out _ _ ((World.cell?_setCell_other _ _ _ _ (by simp)).trans hA6) (fun hHeld => ?_)
          clear hK K hHeld
          refine wpAnyH_done (by kernel_rfl) ?_ _
          clear c6 g6 c1 g1 ca hA6
          have hO7 := heap_setCell_same _ _ 1 _ _ (.slice (some ⟨g, 0, none⟩) (L.length + 1) cap) HO6.out
          have hb7 : Below (w.heap.size + 1 + 1) W2 (w6.setCell ⟨w.heap.size + 1 + 1, 1, none⟩ (.slice (some ⟨g, 0, none⟩) (L.length + 1) cap)) := HB6.out.setCell (Nat.le_refl _) _
          have hown7 := ownsRow_setCell_below (a := ⟨w.heap.size + 1 + 1, 1, none⟩) HOWN6.out (by show w.heap.size + 1 + 1 < w.heap.size + 1 + 1 + 1; omega) (.slice (some ⟨g, 0, none⟩) (L.length + 1) cap)
          have HO7 := Lib.hid hO7; have HB7 := Lib.hid hb7; have HOWN7 := Lib.hid hown7; clear hO7 hb7 hown7
          go_wp2
          go_roundw
          case rel => exact ⟨i + 1, _, by go_num, by omega, HO7.out, by rw [HSU.out]; exact HOWN7.out, HB7.out⟩
          case measure => simp [intOf]; omega
        · skip
          go_simp
          have ca2 : (wr.alloc (.cells #[.int .i64 1, .int .i64 (xa : Int), .string ⟨#[67, 84, 67]⟩] 50)).drew.cell? ⟨w.heap.size + 1, i, none⟩ = some (.int .i64 (xa : Int)) := (World.cell?_alloc_lt _ _ _ hAl).trans ca
          have cb2 : (wr.alloc (.cells #[.int .i64 1, .int .i64 (xa : Int), .string ⟨#[67, 84, 67]⟩] 50)).drew.cell? ⟨w.heap.size + 1 + 1, 1, none⟩ = some v := (World.cell?_alloc_lt _ _ _ hOl).trans c1
          refine hK.out _ _ ca2 (fun hHeld => ?_)
          clear hK K
          refine wpAnyH_ready (rs := [1]) (by kernel_rfl) (by simp) ?_
          refine AllReadyH.cons rfl (fun K hK => ?_) AllReadyH.nil
          go_simp
          refine hK.out _ _ (by first | exact ca | exact ca2) (fun hHeld => ?_)
          clear hK K
          refine wpAnyH_ready (rs := [7]) (by kernel_rfl) (by simp) ?_
          refine AllReadyH.cons rfl (fun K hK => ?_) AllReadyH.nil
          refine step_appW_Tryd rfl _ _ rfl (w.heap.size + 1 + 1 + 1) v L rfl (HOWN.out.alloc _) _ xw rfl (hgw wr) (by have := HLEN.out; omega) (by simp; omega) ?_
          intro g cap w6 hown6 hgrow hat6 hlt6
          have hO6 : w6.heap[w.heap.size + 1 + 1]? = some (.cells #[.int .i64 4, v] 24 (0, 0)) := (hgrow.block _ (by simp; omega) (fun h => by have := (HOWN.out.lt _ h.symm).1; omega)).trans ((Below.heap_alloc wr _ _ hOl).trans HO.out)
          have hb6 : Below (w.heap.size + 1 + 1) W2 w6 := ((HBR.out.alloc (by have := HBR.out.size; omega) _).drew.grown hgrow (by have := HBR.out.size; simp; omega) (fun k' hk' => by have := (HOWN.out.lt k' hk').1; omega))
          have hA6 : w6.cell? ⟨w.heap.size + 1, i, none⟩ = some (.int .i64 (xa : Int)) := by
            rw [World.cell?_of_block ((hb6.block (w.heap.size + 1) (by omega)).trans (HBR.out.block _ (by omega)).symm)]
            exact ca
          refine hK.out _ _ hA6 (fun hHeld => ?_)
          clear hK K
          have c6 := cell_of_row w6 (w.heap.size + 1 + 1) 1 _ _ _ hO6
          have g6 := frozen_of_row w6 (w.heap.size + 1 + 1) 1 _ _ hO6
          simp only [List.getElem?_toArray, List.getElem?_cons_zero, List.getElem?_cons_succ] at c6
          clear hgrow hat6
          have l6 := lt_of_block hO6
          have HO6 := Lib.hid hO6; have HB6 := Lib.hid hb6; have HOWN6 := Lib.hid hown6; clear hO6 hb6 hown6
          refine takeH (i := 8) (v := ?ec8xv8) rfl rfl (by kernel_rfl) (by kernel_rfl) (by kernel_rfl) (fun _ _ _ _ => ⟨fun h _ => h, fun h => h #[]⟩) (by rfl) hHeld ?ec8xy8 ?ec8xr8
          case ec8xy8 =>
            intro W' s1
            go_simp
            try with_reducible rfl
          simp only [List.setIfInBounds_toArray, List.set_cons_zero, List.set_cons_succ]
          refine wpAnyH_ready (rs := [9]) (by kernel_rfl) (by simp) ?_
          refine AllReadyH.cons rfl (fun K hK => ?_) AllReadyH.nil
          go_simp
          refine hK.out _ _ ((World.cell?_setCell_other _ _ _ _ (by simp)).trans hA6) (fun hHeld => ?_)
          clear hK K hHeld
          refine wpAnyH_done (by kernel_rfl) ?_ _
          clear c6 g6 c1 g1 ca hA6
          have hO7 := heap_setCell_same _ _ 1 _ _ (.slice (some ⟨g, 0, none⟩) (L.length + 1) cap) HO6.out
          have hb7 : Below (w.heap.size + 1 + 1) W2 (w6.setCell ⟨w.heap.size + 1 + 1, 1, none⟩ (.slice (some ⟨g, 0, none⟩) (L.length + 1) cap)) := HB6.out.setCell (Nat.le_refl _) _
          have hown7 := ownsRow_setCell_below (a := ⟨w.heap.size + 1 + 1, 1, none⟩) HOWN6.out (by show w.heap.size + 1 + 1 < w.heap.size + 1 + 1 + 1; omega) (.slice (some ⟨g, 0, none⟩) (L.length + 1) cap)
          have HO7 := Lib.hid hO7; have HB7 := Lib.hid hb7; have HOWN7 := Lib.hid hown7; clear hO7 hb7 hown7
          go_wp2
          go_roundw
          case rel => exact ⟨i + 1, _, by go_num, by omega, HO7.out, by rw [HSU.out]; exact HOWN7.out, HB7.out⟩
          case measure => simp [intOf]; omega
    · obtain rfl : i = 4 := by omega
      rw [exTo_length 4] at hown
      obtain ⟨B, dd, rfl, hd⟩ := own_slice3 hown
      have hRe2 := (hbr.block _ (by omega)).trans HRE.out
      have q0 := cell_of_row _ _ 0 _ _ _ hRe2
      have q1 := cell_of_row _ _ 1 _ _ _ hRe2
      have p0 := frozen_of_row _ _ 0 _ _ hRe2
      have p1 := frozen_of_row _ _ 1 _ _ hRe2
      simp only [List.getElem?_toArray, List.getElem?_cons_zero, List.getElem?_cons_succ] at q0 q1
      have hs4 := lt_of_block hRe2
      have c0 := cell_of_row wr (w.heap.size + 1 + 1) 0 _ _ _ hO
      simp only [List.getElem?_toArray, List.getElem?_cons_zero] at c0
      have hrd : RdW wr B exWs := ⟨by rw [show exWs.length = 4 from exTo_length 4]; omega, ex_fits, own_rdW hown⟩
      have hneb : ∀ b off, B = some ⟨b, off, none⟩ → b ≠ w.heap.size := fun b off hB h => by
        subst hB; subst h
        have := (hown.lt w.heap.size rfl).1
        omega
      have hbw := HB2.out.trans (hbr.mono (by omega))
      clear g1
      have HO := Lib.hid hO; have HOWN := Lib.hid hown; have HBR := Lib.hid hbr; have HRD := Lib.hid hrd; have HNEB := Lib.hid hneb; have HBW := Lib.hid hbw; have HARR := Lib.hid hArr; have HRE2 := Lib.hid hRe2; clear hO hown hbr hrd hneb hbw hArr hRe2
      go_wp2
      refine bodyPost_ret (v := .agg #[.int .i64 4, .slice B 4 dd]) (by simp [results, Tryd.results28, go_sem, q0, q1]) rfl ⟨B, dd, rfl, ⟨HRD.out.1, HRD.out.2.1, fun h0 => ?_⟩, ?_⟩
      · obtain ⟨b, off, hB, hb, hcl⟩ := HRD.out.2.2 h0
        refine ⟨b, off, hB, by simpa using hb, fun q hq => ?_⟩
        rw [World.cell?_setCell_other _ _ _ _ (by simp; intro h; exact absurd h.symm (HNEB.out b off hB)), World.cell?_setCell_other _ _ _ _ (by simp; intro h; exact absurd h.symm (HNEB.out b off hB))]
        exact hcl q hq
      · exact (HBW.out.setCell (by show w.heap.size ≤ w.heap.size; omega) _).setCell (by show w.heap.size ≤ w.heap.size; omega) _
end Go.Proofs.YtlpfecjkkgccgaaDoor
/- What the program returns at the example of chapter 13. -/
namespace Go.Proofs.YtlpfecjkkgccgaaDoor
open Go Go.RowKit

theorem rdI_block {w : World} {g t : Nat} {xs : List Int} {cs : Array Value} (hg : w.heap[g]? = some (.cells cs t (0, 0))) (hc : cs = (ints xs).toArray) (hn : xs.length ≤ 1000) : RdI w (some ⟨g, 0, none⟩) xs :=
  ⟨by omega, fun _ => ⟨g, 0, rfl, lt_of_block hg, fun j hj => by
    rw [cell_of_row w g (0 + j) cs t _ hg, Nat.zero_add, hc]
    have hj' : j < xs.length := by omega
    simp [ints, List.getD_eq_getElem?_getD, hj']⟩⟩
theorem rdP_block {w : World} {g t : Nat} {x y : Int} (hg : w.heap[g]? = some (.cells #[.int .i64 x, .int .i64 y] t (0, 0))) : RdP w (some ⟨g, 0, none⟩) [(x, y)] :=
  ⟨by simp, fun _ => ⟨g, 0, rfl, lt_of_block hg, fun j hj => by
    rw [cell_of_row w g (0 + j) _ t _ hg, Nat.zero_add]
    have hj' : j < 2 := by simpa using hj
    obtain rfl | rfl : j = 0 ∨ j = 1 := by omega
    all_goals rfl⟩⟩
theorem rdP_nil (w : World) : RdP w none [] := ⟨by simp, fun h => absurd h (by simp)⟩
set_option maxRecDepth 100000 in
set_option maxHeartbeats 8000000 in
theorem shown_ (w : World) (hT : Tz w) : Calls Tryd.prog 10 #[] w fun e w' => e = .returned (.bool true) ∧ Below w.heap.size w w' := by
  have B0 := Lib.hid (Below.refl w.heap.size w)
  have HT := Lib.hid hT; clear hT
  go_enter Tryd.func10, Tryd.ntmps10
  refine wp_seq_k fun K1 hK1 => ?_
  have HK1 := Lib.hid hK1; clear hK1
  go_wp2
  refine HK1.out _ _ (wp_seq_k fun K2 hK2 => ?_)
  clear HK1
  have HK2 := Lib.hid hK2; clear hK2
  go_wp2
  refine HK2.out _ _ ?_
  clear HK2
  have b1 := (Below.refl w.heap.size w).alloc (Nat.le_refl _) (.cells #[.int .i64 1, .int .i64 0] 43)
  have hp := rdP_block (heap_alloc_new w (.cells #[.int .i64 1, .int .i64 0] 43))
  have B1 := Lib.hid (B0.out.trans b1)
  clear B0 b1
  obtain ⟨pb, hpb⟩ : ∃ pb, w.heap.size = pb := ⟨_, rfl⟩
  obtain ⟨w1, hw1⟩ : ∃ w1, w1 = w.alloc (.cells #[.int .i64 1, .int .i64 0] 43) := ⟨_, rfl⟩
  rw [← hw1] at hp B1 ⊢
  rw [hpb] at hp ⊢
  clear hw1
  have HP1 := Lib.hid hp; clear hp
  have HPB := Lib.hid hpb; clear hpb
  go_wp2_with fail
  refine (example_ _).mono ?_; rintro e w2 ⟨A1, c1, rfl, r1, b1⟩
  have B2 := Lib.hid (B1.out.trans (b1.mono B1.out.size))
  have HP2 := Lib.hid (HP1.out.later b1 (Nat.le_refl _))
  clear B1 HP1
  clear b1
  have R1 := Lib.hid r1; clear r1
  go_wp2_with fail
  refine (oLeast_ 4 A1 (some ⟨pb, 0, none⟩) c1 1 exWs [(1, 0)] _ ⟨by omega, by omega, R1.out⟩ HP2.out).mono ?_
  rw [ex_lstL, ex_lstX]
  rintro e w3 ⟨v, rfl, hv, _, b1⟩
  have B3 := Lib.hid (B2.out.trans (b1.mono B2.out.size))
  have HP3 := Lib.hid (HP2.out.later b1 (Nat.le_refl _))
  clear B2 HP2
  clear b1 R1
  obtain ⟨LA, lac, rfl, hv⟩ := hv
  have HLA3 := Lib.hid hv; clear hv
  clear HP3
  go_wp2_with fail
  refine (example_ _).mono ?_; rintro e w4 ⟨A1, c1, rfl, r1, b1⟩
  have B4 := Lib.hid (B3.out.trans (b1.mono B3.out.size))
  have HLA4 := Lib.hid (HLA3.out.later b1 (Nat.le_refl _))
  clear B3 HLA3
  clear b1
  have R1 := Lib.hid r1; clear r1
  go_wp2_with fail
  have b0 := (Below.refl w4.heap.size w4).alloc (Nat.le_refl _) (.cells #[.int .i64 3, .int .i64 1] 43)
  refine (oCycle_ 4 A1 (some ⟨w4.heap.size, 0, none⟩) c1 1 exWs [(3, 1)] _ ⟨by omega, by omega, R1.out.later b0 (Nat.le_refl _)⟩ (rdP_block (heap_alloc_new _ _))).mono ?_
  rw [ex_cycV, ex_cycX]
  rintro e w5 ⟨v, rfl, hv, b1⟩
  have b2 := b0.trans (b1.mono (by simp))
  have B5 := Lib.hid (B4.out.trans (b2.mono B4.out.size))
  have HLA5 := Lib.hid (HLA4.out.later b2 (Nat.le_refl _))
  clear B4 HLA4
  clear b1 R1 b0 b2
  obtain ⟨LB, lbc, rfl, hv⟩ := hv
  have HLB5 := Lib.hid hv; clear hv
  go_wp2_with fail
  refine (example_ _).mono ?_; rintro e w6 ⟨A1, c1, rfl, r1, b1⟩
  have B6 := Lib.hid (B5.out.trans (b1.mono B5.out.size))
  have HLA6 := Lib.hid (HLA5.out.later b1 (Nat.le_refl _))
  have HLB6 := Lib.hid (HLB5.out.later b1 (Nat.le_refl _))
  clear B5 HLA5 HLB5
  clear b1
  have R1 := Lib.hid r1; clear r1
  go_wp2_with fail
  refine (oNear_ 4 A1 none c1 0 exWs [] _ ⟨by omega, by omega, R1.out⟩ (rdP_nil _)).mono ?_
  rw [ex_nrL, ex_nrN, ex_nrX]
  rintro e w7 ⟨v, rfl, hv, _, b1⟩
  have B7 := Lib.hid (B6.out.trans (b1.mono B6.out.size))
  have HLA7 := Lib.hid (HLA6.out.later b1 (Nat.le_refl _))
  have HLB7 := Lib.hid (HLB6.out.later b1 (Nat.le_refl _))
  clear B6 HLA6 HLB6
  clear b1 R1
  obtain ⟨LC, lcc, rfl, hv⟩ := hv
  have HLC7 := Lib.hid hv; clear hv
  go_wp2_with fail
  refine (example_ _).mono ?_; rintro e w8 ⟨A1, c1, rfl, r1, b1⟩
  have B8 := Lib.hid (B7.out.trans (b1.mono B7.out.size))
  have HLA8 := Lib.hid (HLA7.out.later b1 (Nat.le_refl _))
  have HLB8 := Lib.hid (HLB7.out.later b1 (Nat.le_refl _))
  have HLC8 := Lib.hid (HLC7.out.later b1 (Nat.le_refl _))
  clear B7 HLA7 HLB7 HLC7
  clear b1
  have R1 := Lib.hid r1; clear r1
  go_wp2_with fail
  refine (oCount_ 4 A1 none c1 0 exWs [] _ ⟨by omega, by omega, R1.out⟩ (rdP_nil _) (HT.out.later B8.out (Nat.le_refl _))).mono ?_
  rw [ex_cntV, ex_cntX]
  rintro e w9 ⟨rfl, b1⟩
  have B9 := Lib.hid (B8.out.trans (b1.mono B8.out.size))
  have HLA9 := Lib.hid (HLA8.out.later b1 (Nat.le_refl _))
  have HLB9 := Lib.hid (HLB8.out.later b1 (Nat.le_refl _))
  have HLC9 := Lib.hid (HLC8.out.later b1 (Nat.le_refl _))
  clear B8 HLA8 HLB8 HLC8
  clear b1 R1
  go_wp2_with fail
  refine (example_ _).mono ?_; rintro e w10 ⟨A1, c1, rfl, r1, b1⟩
  have B10 := Lib.hid (B9.out.trans (b1.mono B9.out.size))
  have HLA10 := Lib.hid (HLA9.out.later b1 (Nat.le_refl _))
  have HLB10 := Lib.hid (HLB9.out.later b1 (Nat.le_refl _))
  have HLC10 := Lib.hid (HLC9.out.later b1 (Nat.le_refl _))
  clear B9 HLA9 HLB9 HLC9
  clear b1
  have R1 := Lib.hid r1; clear r1
  go_wp2_with fail
  have b0 := (Below.refl w10.heap.size w10).alloc (Nat.le_refl _) (.cells #[.int .i64 0, .int .i64 1, .int .i64 2, .int .i64 3] 3)
  refine (oNext_ 4 A1 none (some ⟨w10.heap.size, 0, none⟩) c1 0 4 exWs [] [0, 1, 2, 3] _ ⟨by omega, by omega, R1.out.later b0 (Nat.le_refl _)⟩ (rdP_nil _) (rdI_block (heap_alloc_new _ _) rfl (by decide)) (by decide) (by decide)).mono ?_
  rw [ex_nxtL, ex_nxtX]
  rintro e w11 ⟨v, rfl, hv, _, b1⟩
  have b2 := b0.trans (b1.mono (by simp))
  have B11 := Lib.hid (B10.out.trans (b2.mono B10.out.size))
  have HLA11 := Lib.hid (HLA10.out.later b2 (Nat.le_refl _))
  have HLB11 := Lib.hid (HLB10.out.later b2 (Nat.le_refl _))
  have HLC11 := Lib.hid (HLC10.out.later b2 (Nat.le_refl _))
  clear B10 HLA10 HLB10 HLC10
  clear b1 R1 b0 b2
  obtain ⟨LD, ldc, rfl, hv⟩ := hv
  have HLD11 := Lib.hid hv; clear hv
  go_wp2_with fail
  refine (example_ _).mono ?_; rintro e w12 ⟨A1, c1, rfl, r1, b1⟩
  have B12 := Lib.hid (B11.out.trans (b1.mono B11.out.size))
  have HLA12 := Lib.hid (HLA11.out.later b1 (Nat.le_refl _))
  have HLB12 := Lib.hid (HLB11.out.later b1 (Nat.le_refl _))
  have HLC12 := Lib.hid (HLC11.out.later b1 (Nat.le_refl _))
  have HLD12 := Lib.hid (HLD11.out.later b1 (Nat.le_refl _))
  clear B11 HLA11 HLB11 HLC11 HLD11
  clear b1
  have R1 := Lib.hid r1; clear r1
  go_wp2_with fail
  have b0 := (Below.refl w12.heap.size w12).alloc (Nat.le_refl _) (.cells #[.int .i64 1, .int .i64 0, .int .i64 2, .int .i64 3] 3)
  refine (oNext_ 4 A1 none (some ⟨w12.heap.size, 0, none⟩) c1 0 4 exWs [] [1, 0, 2, 3] _ ⟨by omega, by omega, R1.out.later b0 (Nat.le_refl _)⟩ (rdP_nil _) (rdI_block (heap_alloc_new _ _) rfl (by decide)) (by decide) (by decide)).mono ?_
  rw [ex_nxtL2, ex_nxtX2]
  rintro e w13 ⟨v, rfl, hv, _, b1⟩
  have b2 := b0.trans (b1.mono (by simp))
  have B13 := Lib.hid (B12.out.trans (b2.mono B12.out.size))
  have HLA13 := Lib.hid (HLA12.out.later b2 (Nat.le_refl _))
  have HLB13 := Lib.hid (HLB12.out.later b2 (Nat.le_refl _))
  have HLC13 := Lib.hid (HLC12.out.later b2 (Nat.le_refl _))
  have HLD13 := Lib.hid (HLD12.out.later b2 (Nat.le_refl _))
  clear B12 HLA12 HLB12 HLC12 HLD12
  clear b1 R1 b0 b2
  obtain ⟨LE, lec, rfl, hv⟩ := hv
  have HLE13 := Lib.hid hv; clear hv
  go_wp2_with fail
  have b0 := (Below.refl w13.heap.size w13).alloc (Nat.le_refl _) (.cells #[.int .i64 1, .int .i64 0, .int .i64 2, .int .i64 3] 3)
  refine (sameInts_ LA (some ⟨w13.heap.size, 0, none⟩) lac 4 [1, 0, 2, 3] [1, 0, 2, 3] _ (HLA13.out.later b0 (Nat.le_refl _)) (rdI_block (heap_alloc_new _ _) rfl (by decide))).mono ?_
  rw [show (decide (([1, 0, 2, 3] : List Int) = [1, 0, 2, 3])) = true from rfl]
  rintro e w14 ⟨rfl, b1⟩
  have b2 := b0.trans (b1.mono (by simp))
  have B14 := Lib.hid (B13.out.trans (b2.mono B13.out.size))
  have HLA14 := Lib.hid (HLA13.out.later b2 (Nat.le_refl _))
  have HLB14 := Lib.hid (HLB13.out.later b2 (Nat.le_refl _))
  have HLC14 := Lib.hid (HLC13.out.later b2 (Nat.le_refl _))
  have HLD14 := Lib.hid (HLD13.out.later b2 (Nat.le_refl _))
  have HLE14 := Lib.hid (HLE13.out.later b2 (Nat.le_refl _))
  clear B13 HLA13 HLB13 HLC13 HLD13 HLE13
  clear b0 b1 b2
  go_wp2_with fail
  have b0 := (Below.refl w14.heap.size w14).alloc (Nat.le_refl _) (.cells #[.int .i64 1, .int .i64 2, .int .i64 3] 3)
  refine (sameInts_ LB (some ⟨w14.heap.size, 0, none⟩) lbc 3 [1, 2, 3] [1, 2, 3] _ (HLB14.out.later b0 (Nat.le_refl _)) (rdI_block (heap_alloc_new _ _) rfl (by decide))).mono ?_
  rw [show (decide (([1, 2, 3] : List Int) = [1, 2, 3])) = true from rfl]
  rintro e w15 ⟨rfl, b1⟩
  have b2 := b0.trans (b1.mono (by simp))
  have B15 := Lib.hid (B14.out.trans (b2.mono B14.out.size))
  have HLA15 := Lib.hid (HLA14.out.later b2 (Nat.le_refl _))
  have HLB15 := Lib.hid (HLB14.out.later b2 (Nat.le_refl _))
  have HLC15 := Lib.hid (HLC14.out.later b2 (Nat.le_refl _))
  have HLD15 := Lib.hid (HLD14.out.later b2 (Nat.le_refl _))
  have HLE15 := Lib.hid (HLE14.out.later b2 (Nat.le_refl _))
  clear B14 HLA14 HLB14 HLC14 HLD14 HLE14
  clear b0 b1 b2
  go_wp2_with fail
  have b0 := (Below.refl w15.heap.size w15).alloc (Nat.le_refl _) (.cells #[.int .i64 0, .int .i64 1, .int .i64 2, .int .i64 3] 3)
  refine (sameInts_ LC (some ⟨w15.heap.size, 0, none⟩) lcc 4 [0, 1, 2, 3] [0, 1, 2, 3] _ (HLC15.out.later b0 (Nat.le_refl _)) (rdI_block (heap_alloc_new _ _) rfl (by decide))).mono ?_
  rw [show (decide (([0, 1, 2, 3] : List Int) = [0, 1, 2, 3])) = true from rfl]
  rintro e w16 ⟨rfl, b1⟩
  have b2 := b0.trans (b1.mono (by simp))
  have B16 := Lib.hid (B15.out.trans (b2.mono B15.out.size))
  have HLA16 := Lib.hid (HLA15.out.later b2 (Nat.le_refl _))
  have HLB16 := Lib.hid (HLB15.out.later b2 (Nat.le_refl _))
  have HLC16 := Lib.hid (HLC15.out.later b2 (Nat.le_refl _))
  have HLD16 := Lib.hid (HLD15.out.later b2 (Nat.le_refl _))
  have HLE16 := Lib.hid (HLE15.out.later b2 (Nat.le_refl _))
  clear B15 HLA15 HLB15 HLC15 HLD15 HLE15
  clear b0 b1 b2
  go_wp2_with fail
  have b0 := (Below.refl w16.heap.size w16).alloc (Nat.le_refl _) (.cells #[.int .i64 1, .int .i64 0, .int .i64 2, .int .i64 3] 3)
  refine (sameInts_ LD (some ⟨w16.heap.size, 0, none⟩) ldc 4 [1, 0, 2, 3] [1, 0, 2, 3] _ (HLD16.out.later b0 (Nat.le_refl _)) (rdI_block (heap_alloc_new _ _) rfl (by decide))).mono ?_
  rw [show (decide (([1, 0, 2, 3] : List Int) = [1, 0, 2, 3])) = true from rfl]
  rintro e w17 ⟨rfl, b1⟩
  have b2 := b0.trans (b1.mono (by simp))
  have B17 := Lib.hid (B16.out.trans (b2.mono B16.out.size))
  have HLA17 := Lib.hid (HLA16.out.later b2 (Nat.le_refl _))
  have HLB17 := Lib.hid (HLB16.out.later b2 (Nat.le_refl _))
  have HLC17 := Lib.hid (HLC16.out.later b2 (Nat.le_refl _))
  have HLD17 := Lib.hid (HLD16.out.later b2 (Nat.le_refl _))
  have HLE17 := Lib.hid (HLE16.out.later b2 (Nat.le_refl _))
  clear B16 HLA16 HLB16 HLC16 HLD16 HLE16
  clear b0 b1 b2
  go_wp2
  go_ret
  exact ⟨rfl, by rw [← HPB.out]; exact B17.out⟩
end Go.Proofs.YtlpfecjkkgccgaaDoor
/- A case; is it more than is looked at? -/
namespace Go.Proofs.YtlpfecjkkgccgaaDoor
open Go Go.RowKit

/-- A case's cells. -/
def caseC (p : Int) (A Wa B : Option Addr) (n c m wc k lc : Nat) : Array Value := #[.int .i64 p, .slice A n c, .slice Wa m wc, .slice B k lc]
/-- The box of a case. -/
def CaseB (w : World) (Cb : Nat) (p : Int) (A Wa B : Option Addr) (n c m wc k lc : Nat) : Prop := w.heap[Cb]? = some (.cells #[.int .i64 p, .slice A n c, .slice Wa m wc, .slice B k lc] 28 (0, 0))
theorem CaseB.open_ {w : World} {Cb : Nat} {p : Int} {A Wa B : Option Addr} {n c m wc k lc : Nat} (h : CaseB w Cb p A Wa B n c m wc k lc) : w.cell? ⟨Cb, 0, none⟩ = some (.int .i64 p) ∧ w.cell? ⟨Cb, 1, none⟩ = some (.slice A n c) ∧ w.cell? ⟨Cb, 2, none⟩ = some (.slice Wa m wc) ∧ w.cell? ⟨Cb, 3, none⟩ = some (.slice B k lc) ∧ Cb < w.heap.size :=
  ⟨cell_of_row _ _ 0 _ _ _ h, cell_of_row _ _ 1 _ _ _ h, cell_of_row _ _ 2 _ _ _ h, cell_of_row _ _ 3 _ _ _ h, lt_of_block h⟩
theorem CaseB.later {w w' : World} {Cb : Nat} {p : Int} {A Wa B : Option Addr} {n c m wc k lc : Nat} (h : CaseB w Cb p A Wa B n c m wc k lc) (hb : Below w.heap.size w w') : CaseB w' Cb p A Wa B n c m wc k lc := (hb.block _ (lt_of_block h)).trans h
/-- What is not too far. -/
def NearC (n m k : Nat) : Prop := (n ≤ 30 ∨ (400 < n ∧ n ≤ 2000)) ∧ k ≤ 2000 ∧ (m ≤ 60 ∨ (200 < m ∧ m ≤ 1000))
def FarPost (n m k : Nat) (w : World) (e : Ending) (w' : World) : Prop := ∃ t : Bool, e = .returned (.bool t) ∧ (t = false → NearC n m k) ∧ Below w.heap.size w w'
def FRB (Cb : Nat) (a : Act) : Prop := a.tmps.size = 64 ∧ a.defers = [] ∧ a.tmps.getD 1 undef = .pointer (some ⟨Cb, 0, none⟩)
theorem FRB.opn {Cb : Nat} {a : Act} (h : FRB Cb a) : ∃ f : Nat → Value, a = { tmps := #[f 0, .pointer (some ⟨Cb, 0, none⟩), f 2, f 3, f 4, f 5, f 6, f 7, f 8, f 9, f 10, f 11, f 12, f 13, f 14, f 15, f 16, f 17, f 18, f 19, f 20, f 21, f 22, f 23, f 24, f 25, f 26, f 27, f 28, f 29, f 30, f 31, f 32, f 33, f 34, f 35, f 36, f 37, f 38, f 39, f 40, f 41, f 42, f 43, f 44, f 45, f 46, f 47, f 48, f 49, f 50, f 51, f 52, f 53, f 54, f 55, f 56, f 57, f 58, f 59, f 60, f 61, f 62, f 63], defers := [] } := by
  obtain ⟨hs, hd, g1⟩ := h
  obtain ⟨t, d⟩ := a
  dsimp only at *
  have e := arr_range t 64 hs
  generalize hf : (fun i => t.getD i undef) = f at e
  have k : ∀ i, t.getD i undef = f i := fun i => congrFun hf i
  rw [k] at g1
  refine ⟨f, ?_⟩
  rw [hd, e]
  congr 1
  show #[f 0, f 1, f 2, f 3, f 4, f 5, f 6, f 7, f 8, f 9, f 10, f 11, f 12, f 13, f 14, f 15, f 16, f 17, f 18, f 19, f 20, f 21, f 22, f 23, f 24, f 25, f 26, f 27, f 28, f 29, f 30, f 31, f 32, f 33, f 34, f 35, f 36, f 37, f 38, f 39, f 40, f 41, f 42, f 43, f 44, f 45, f 46, f 47, f 48, f 49, f 50, f 51, f 52, f 53, f 54, f 55, f 56, f 57, f 58, f 59, f 60, f 61, f 62, f 63] = _
  rw [g1]
set_option maxRecDepth 100000 in
set_option maxHeartbeats 4000000 in
theorem farL_ (cd : Code) (hcd : Tryd.f9.body.bind tl2 = some cd) (Cb : Nat) (p : Int) (A Wa B : Option Addr) (c wc lc m k : Nat) (ws : List GW) (a' : Act) (w0 w : World) (ha : FRB Cb a') (hC : CaseB w Cb p A Wa B ws.length c m wc k lc) (hrd : RdW w A ws) (hbw : Below w0.heap.size w0 w) (hN : NearC ws.length m k) :
    cd.wp Tryd.prog (bodyPost Tryd.prog Tryd.f9 (FarPost ws.length m k w0)) a' w := by
  obtain rfl := Option.some.inj (hcd.symm.trans (rfl : _ = some _))
  clear hcd
  obtain ⟨f, rfl⟩ := ha.opn
  clear ha
  dsimp only
  have hb0 := Below.refl w.heap.size w
  have hl := hrd.1
  have HC := Lib.hid hC; have HRD := Lib.hid hrd; have HBW := Lib.hid hbw; have HN := Lib.hid hN; have HB0 := Lib.hid hb0; clear hC hrd hbw hN hb0
  go_wp2
  go_loopw [3] (fun iv wr => ∃ j : Nat, iv = .int .i64 j ∧ j ≤ ws.length ∧ Below w.heap.size w wr) (fun iv _ => ws.length - (intOf iv).toNat)
  case atStart => exact ⟨0, rfl, Nat.zero_le _, HB0.out⟩
  case round =>
    obtain ⟨j, rfl, hj, hb⟩ := hrel
    obtain ⟨c0, c1, c2, c3, s1⟩ := (HC.out.later hb).open_
    have hb3 := HBW.out.trans (hb.mono HBW.out.size)
    by_cases hlt : j < ws.length
    · obtain ⟨b, off, rfl, hbL, g1, g2, g3⟩ := (HRD.out.later hb (Nat.le_refl _)).at_ hlt
      have x1 : (0 : Int) ≤ (j : Int) := by omega
      have x2 : (j : Int) < (ws.length : Int) := by omega
      generalize ws[j].word = zw at *
      by_cases hs : 1000 < (zw.size : Int)
      · have hsd : decide ((1000 : Int) < (zw.size : Int)) = true := by simpa using hs
        have HB := Lib.hid hb; have HB3 := Lib.hid hb3; clear hb hb3
        go_wp2
        go_ret
        exact ⟨true, rfl, (fun h => by cases h), HB3.out⟩
      · have hsd : decide ((1000 : Int) < (zw.size : Int)) = false := by simpa using hs
        have HB := Lib.hid hb; have HB3 := Lib.hid hb3; clear hb hb3
        go_wp2
        go_roundw
        case rel => exact ⟨j + 1, by go_num, by omega, HB.out⟩
        case measure => simp [intOf]; omega
    · have HB := Lib.hid hb; have HB3 := Lib.hid hb3; clear hb hb3
      go_wp2
      go_ret
      exact ⟨false, rfl, fun _ => HN.out, HB3.out⟩
set_option maxRecDepth 100000 in
set_option maxHeartbeats 4000000 in
theorem far_ (p : Int) (A Wa B : Option Addr) (c wc lc m k : Nat) (ws : List GW) (w : World) (ha : RdW w A ws) :
    Calls Tryd.prog 9 #[.agg #[.int .i64 p, .slice A ws.length c, .slice Wa m wc, .slice B k lc]] w (FarPost ws.length m k w) := by
  have hl := ha.1
  have hb2 : Below w.heap.size w (w.alloc (.cells #[.int .i64 p, .slice A ws.length c, .slice Wa m wc, .slice B k lc] 28)) := (Below.refl _ _).alloc (Nat.le_refl _) _
  have hC : CaseB (w.alloc (.cells #[.int .i64 p, .slice A ws.length c, .slice Wa m wc, .slice B k lc] 28)) w.heap.size p A Wa B ws.length c m wc k lc := heap_alloc_new _ _
  go_enter Tryd.func9, Tryd.ntmps9
  refine wp_seq_k fun K1 hK1 => ?_
  have HK1 := Lib.hid hK1; have HA := Lib.hid ha; have HB2 := Lib.hid hb2; have HC := Lib.hid hC; clear hK1 ha hb2 hC
  go_wp2
  refine HK1.out _ _ ?_
  clear HK1
  generalize w.alloc (.cells #[.int .i64 p, .slice A ws.length c, .slice Wa m wc, .slice B k lc] 28) = w1 at *
  obtain ⟨c0, c1, c2, c3, s1⟩ := HC.out.open_
  have yt : ∀ x y : Int, x < y → decide (x < y) = true := fun x y h => by simpa using h
  have yf : ∀ x y : Int, ¬ x < y → decide (x < y) = false := fun x y h => by simpa using h
  have lt' : ∀ x y : Int, x ≤ y → decide (x ≤ y) = true := fun x y h => by simpa using h
  have lf : ∀ x y : Int, ¬ x ≤ y → decide (x ≤ y) = false := fun x y h => by simpa using h
  refine wp_seq_k fun K1 hK1 => ?_
  refine wp_seq_k fun K2 hK2 => ?_
  have HK1 := Lib.hid hK1; have HK2 := Lib.hid hK2; clear hK1 hK2
  by_cases h1 : (30 : Int) < (ws.length : Int)
  · have f1 := yt _ _ h1
    by_cases h2 : (ws.length : Int) ≤ 400
    · have f2 := lt' _ _ h2
      clear yt yf lt' lf
      go_wp2
      refine HK2.out _ _ ?_
      clear HK1 HK2
      go_wp2
      go_ret
      exact ⟨true, rfl, (fun h => by cases h), HB2.out⟩
    have f2 := lf _ _ h2
    by_cases h3 : (2000 : Int) < (ws.length : Int)
    · have f3 := yt _ _ h3
      clear yt yf lt' lf
      go_wp2
      refine HK2.out _ _ ?_
      clear HK1 HK2
      go_wp2
      go_ret
      exact ⟨true, rfl, (fun h => by cases h), HB2.out⟩
    have f3 := yf _ _ h3
    by_cases h4 : (2000 : Int) < (k : Int)
    · have f4 := yt _ _ h4
      clear yt yf lt' lf
      go_wp2
      refine HK2.out _ _ ?_
      clear HK1 HK2
      go_wp2
      go_ret
      exact ⟨true, rfl, (fun h => by cases h), HB2.out⟩
    have f4 := yf _ _ h4
    by_cases h5 : (60 : Int) < (m : Int)
    · have f5 := yt _ _ h5
      by_cases h6 : (m : Int) ≤ 200
      · have f6 := lt' _ _ h6
        clear yt yf lt' lf
        go_wp2
        refine HK2.out _ _ ?_
        clear HK1 HK2
        go_wp2
        go_ret
        exact ⟨true, rfl, (fun h => by cases h), HB2.out⟩
      have f6 := lf _ _ h6
      by_cases h7 : (1000 : Int) < (m : Int)
      · have f7 := yt _ _ h7
        clear yt yf lt' lf
        go_wp2
        refine HK2.out _ _ ?_
        clear HK1 HK2
        go_wp2
        go_ret
        exact ⟨true, rfl, (fun h => by cases h), HB2.out⟩
      have f7 := yf _ _ h7
      clear yt yf lt' lf
      go_wp2
      refine HK2.out _ _ ?_
      go_wp2
      refine HK1.out _ _ (farL_ _ rfl w.heap.size p A Wa B c wc lc m k ws _ w w1 ⟨rfl, rfl, rfl⟩ HC.out (HA.out.later HB2.out (Nat.le_refl _)) HB2.out ⟨by omega, by omega, by omega⟩)
    have f5 := yf _ _ h5
    have f7 := yf 1000 (m : Int) (by omega)
    clear yt yf lt' lf
    go_wp2
    refine HK2.out _ _ ?_
    go_wp2
    refine HK1.out _ _ (farL_ _ rfl w.heap.size p A Wa B c wc lc m k ws _ w w1 ⟨rfl, rfl, rfl⟩ HC.out (HA.out.later HB2.out (Nat.le_refl _)) HB2.out ⟨by omega, by omega, by omega⟩)
  · have f1 := yf _ _ h1
    have f3 := yf 2000 (ws.length : Int) (by omega)
    by_cases h4 : (2000 : Int) < (k : Int)
    · have f4 := yt _ _ h4
      clear yt yf lt' lf
      go_wp2
      refine HK2.out _ _ ?_
      clear HK1 HK2
      go_wp2
      go_ret
      exact ⟨true, rfl, (fun h => by cases h), HB2.out⟩
    have f4 := yf _ _ h4
    by_cases h5 : (60 : Int) < (m : Int)
    · have f5 := yt _ _ h5
      by_cases h6 : (m : Int) ≤ 200
      · have f6 := lt' _ _ h6
        clear yt yf lt' lf
        go_wp2
        refine HK2.out _ _ ?_
        clear HK1 HK2
        go_wp2
        go_ret
        exact ⟨true, rfl, (fun h => by cases h), HB2.out⟩
      have f6 := lf _ _ h6
      by_cases h7 : (1000 : Int) < (m : Int)
      · have f7 := yt _ _ h7
        clear yt yf lt' lf
        go_wp2
        refine HK2.out _ _ ?_
        clear HK1 HK2
        go_wp2
        go_ret
        exact ⟨true, rfl, (fun h => by cases h), HB2.out⟩
      have f7 := yf _ _ h7
      clear yt yf lt' lf
      go_wp2
      refine HK2.out _ _ ?_
      go_wp2
      refine HK1.out _ _ (farL_ _ rfl w.heap.size p A Wa B c wc lc m k ws _ w w1 ⟨rfl, rfl, rfl⟩ HC.out (HA.out.later HB2.out (Nat.le_refl _)) HB2.out ⟨by omega, by omega, by omega⟩)
    have f5 := yf _ _ h5
    have f7 := yf 1000 (m : Int) (by omega)
    clear yt yf lt' lf
    go_wp2
    refine HK2.out _ _ ?_
    go_wp2
    refine HK1.out _ _ (farL_ _ rfl w.heap.size p A Wa B c wc lc m k ws _ w w1 ⟨rfl, rfl, rfl⟩ HC.out (HA.out.later HB2.out (Nat.le_refl _)) HB2.out ⟨by omega, by omega, by omega⟩)
end Go.Proofs.YtlpfecjkkgccgaaDoor
/- The law OrderLeast: Least and Cycle. -/
namespace Go.Proofs.YtlpfecjkkgccgaaDoor
open Go Go.RowKit

set_option maxRecDepth 100000 in
set_option maxHeartbeats 4000000 in
theorem lawLeast_ (p : Int) (A Wa B : Option Addr) (c wc lc : Nat) (ws : List GW) (wl : List (Int × Int)) (l : List Int) (w : World) (ha : ShIn w p A ws) (hl : RdP w Wa wl) (hT : Tz w) :
    Calls Tryd.prog 3 #[.agg #[.int .i64 p, .slice A ws.length c, .slice Wa wl.length wc, .slice B l.length lc]] w fun e w' => e = .returned (.bool true) ∧ Below w.heap.size w w' := by
  have hb2 : Below w.heap.size w (w.alloc (.cells #[.int .i64 p, .slice A ws.length c, .slice Wa wl.length wc, .slice B l.length lc] 28)) := (Below.refl _ _).alloc (Nat.le_refl _) _
  have hC : CaseB (w.alloc (.cells #[.int .i64 p, .slice A ws.length c, .slice Wa wl.length wc, .slice B l.length lc] 28)) w.heap.size p A Wa B ws.length c wl.length wc l.length lc := heap_alloc_new _ _
  go_enter Tryd.func3, Tryd.ntmps3
  refine wp_seq_k fun K1 hK1 => ?_
  have HK1 := Lib.hid hK1; have HA := Lib.hid ha; have HL := Lib.hid hl; have HT := Lib.hid hT; clear hK1 ha hl hT
  go_wp2
  refine HK1.out _ _ ?_
  clear HK1
  generalize w.alloc (.cells #[.int .i64 p, .slice A ws.length c, .slice Wa wl.length wc, .slice B l.length lc] 28) = w1 at *
  obtain ⟨c0, c1, c2, c3, s1⟩ := hC.open_
  have B1 := Lib.hid hb2
  clear hb2
  have HC := Lib.hid hC; clear hC
  go_wp2_with fail
  refine (far_ p A Wa B c wc lc wl.length l.length ws w1 (HA.out.rd.later B1.out (Nat.le_refl _))).mono ?_
  rintro e w2 ⟨t, rfl, _, b1⟩
  have hC2 := HC.out.later b1
  have B2 := Lib.hid (B1.out.trans (b1.mono B1.out.size))
  clear HC B1 b1 c0 c1 c2 c3 s1
  obtain ⟨c0, c1, c2, c3, s1⟩ := hC2.open_
  have HC2 := Lib.hid hC2; clear hC2
  cases t with
  | true =>
    go_wp2_with fail
    refine (shown_ _ (HT.out.later B2.out (Nat.le_refl _))).mono ?_
    rintro e w3 ⟨rfl, b1⟩
    have B3 := Lib.hid (B2.out.trans (b1.mono B2.out.size))
    clear b1
    go_wp2
    go_ret
    exact ⟨rfl, B3.out⟩
  | false =>
    go_wp2_with fail
    refine (oLeast_ p A Wa c wc ws wl _ (HA.out.later B2.out (Nat.le_refl _)) (HL.out.later B2.out (Nat.le_refl _))).mono ?_
    rintro e w3 ⟨v, rfl, ⟨PA, pa, rfl, h1⟩, _, b1⟩
    have hC3 := HC2.out.later b1
    have B3 := Lib.hid (B2.out.trans (b1.mono B2.out.size))
    clear HC2 B2 b1 c0 c1 c2 c3 s1
    obtain ⟨c0, c1, c2, c3, s1⟩ := hC3.open_
    have hP3 := h1
    clear h1
    have HC3 := Lib.hid hC3; have HP3 := Lib.hid hP3; clear hC3 hP3
    go_wp2_with fail
    refine (rLeast13_ p A Wa c wc ws wl _ (HA.out.later B3.out (Nat.le_refl _)) (HL.out.later B3.out (Nat.le_refl _))).mono ?_
    rintro e w4 ⟨v, rfl, ⟨QA, qa, rfl, h1⟩, _, b1⟩
    have hC4 := HC3.out.later b1
    have B4 := Lib.hid (B3.out.trans (b1.mono B3.out.size))
    have hP4 := HP3.out.later b1 (Nat.le_refl _)
    have hQ4 := h1
    clear HC3 B3 HP3 b1 h1 c0 c1 c2 c3 s1
    obtain ⟨c0, c1, c2, c3, s1⟩ := hC4.open_
    have HC4 := Lib.hid hC4; have HP4 := Lib.hid hP4; have HQ4 := Lib.hid hQ4; clear hC4 hP4 hQ4
    go_wp2_with fail
    refine (oCycle_ p A Wa c wc ws wl _ (HA.out.later B4.out (Nat.le_refl _)) (HL.out.later B4.out (Nat.le_refl _))).mono ?_
    rintro e w5 ⟨v, rfl, ⟨RA, ra, rfl, h1⟩, b1⟩
    have hC5 := HC4.out.later b1
    have B5 := Lib.hid (B4.out.trans (b1.mono B4.out.size))
    have hP5 := HP4.out.later b1 (Nat.le_refl _)
    have hQ5 := HQ4.out.later b1 (Nat.le_refl _)
    have hR5 := h1
    clear HC4 B4 HP4 HQ4 b1 h1 c0 c1 c2 c3 s1
    obtain ⟨c0, c1, c2, c3, s1⟩ := hC5.open_
    have HC5 := Lib.hid hC5; have HP5 := Lib.hid hP5; have HQ5 := Lib.hid hQ5; have HR5 := Lib.hid hR5; clear hC5 hP5 hQ5 hR5
    go_wp2_with fail
    refine (rCycle_ p A Wa c wc ws wl _ (HA.out.later B5.out (Nat.le_refl _)) (HL.out.later B5.out (Nat.le_refl _))).mono ?_
    rintro e w6 ⟨v, rfl, ⟨SA, sa, rfl, h1⟩, b1⟩
    have B6 := Lib.hid (B5.out.trans (b1.mono B5.out.size))
    have hP6 := HP5.out.later b1 (Nat.le_refl _)
    have hQ6 := HQ5.out.later b1 (Nat.le_refl _)
    have hR6 := HR5.out.later b1 (Nat.le_refl _)
    have hS6 := h1
    clear HC5 B5 HP5 HQ5 HR5 b1 h1 c0 c1 c2 c3 s1
    generalize lstX p ws wl = E1 at *
    generalize cycX p ws wl = E2 at *
    generalize lstL p ws wl = L1 at *
    generalize cycV p ws wl = L2 at *
    have HP6 := Lib.hid hP6; have HQ6 := Lib.hid hQ6; have HR6 := Lib.hid hR6; have HS6 := Lib.hid hS6; clear hP6 hQ6 hR6 hS6
    go_wp2_with fail
    refine (sameInts_ PA QA pa qa L1 L1 _ HP6.out HQ6.out).mono ?_
    rintro e w7 ⟨rfl, b1⟩
    rw [show decide (L1 = L1) = true from decide_eq_true rfl]
    have B7 := Lib.hid (B6.out.trans (b1.mono B6.out.size))
    have hR7 := HR6.out.later b1 (Nat.le_refl _)
    have hS7 := HS6.out.later b1 (Nat.le_refl _)
    clear B6 b1 HP6 HQ6 HR6 HS6
    have HR7 := Lib.hid hR7; have HS7 := Lib.hid hS7; clear hR7 hS7
    go_wp2_with fail
    refine (sameInts_ RA SA ra sa L2 L2 _ HR7.out HS7.out).mono ?_
    rintro e w8 ⟨rfl, b1⟩
    rw [show decide (L2 = L2) = true from decide_eq_true rfl]
    have B8 := Lib.hid (B7.out.trans (b1.mono B7.out.size))
    clear B7 b1 HR7 HS7
    go_wp2_with fail
    refine (shown_ _ (HT.out.later B8.out (Nat.le_refl _))).mono ?_
    rintro e w9 ⟨rfl, b1⟩
    have B9 := Lib.hid (B8.out.trans (b1.mono B8.out.size))
    clear b1 B8
    go_wp2
    go_ret
    exact ⟨rfl, B9.out⟩
end Go.Proofs.YtlpfecjkkgccgaaDoor
