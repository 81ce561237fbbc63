/- The program's Chain. -/
import Derived.Test.YtepdgffccfcfpaaChnX
import Derived.Deep.RegionHeld3
namespace Go.Proofs.Ytepdgffccfcfpaa
open Go.RowKit

set_option maxRecDepth 100000 in
set_option maxHeartbeats 8000000 in
theorem sChain_ (p a b : Int) (A : Option Addr) (c : Nat) (ws : List GW) (w : World) (hsh : ShIn w p A ws) :
    Calls Try.prog 24 #[.agg #[.int .i64 p, .slice A ws.length c], .int .i64 a, .int .i64 b] w (ChPost p ws a b w) := by
  have hb2 : Below w.heap.size w ((w.alloc (.cells #[.int .i64 p, .slice A ws.length c] 24)).alloc (.cells #[.int .i64 a, .int .i64 b] 3)) := ((Below.refl _ _).alloc (Nat.le_refl _) _).alloc (by simp) _
  have hl2 : RdI ((w.alloc (.cells #[.int .i64 p, .slice A ws.length c] 24)).alloc (.cells #[.int .i64 a, .int .i64 b] 3)) (some ⟨w.heap.size + 1, 0, none⟩) [a, b] := by
    refine ⟨by simp, fun _ => ⟨w.heap.size + 1, 0, rfl, by simp, fun j hj => ?_⟩⟩
    have hj2 : j < 2 := by simpa using hj
    match j, hj2 with
    | 0, _ => rw [cell_of_row _ _ _ _ _ _ (heap_alloc2_new _ _ _)]; rfl
    | 1, _ => rw [cell_of_row _ _ _ _ _ _ (heap_alloc2_new _ _ _)]; rfl
  have hmm := @run_makeMap Try.prog
  have HSH := Lib.hid hsh; have HB2 := Lib.hid hb2; have HL2 := Lib.hid hl2; have HMM := Lib.hid hmm; clear hsh hb2 hl2 hmm
  go_enter Try.func24, Try.ntmps24
  go_wp2_with fail
  go_step3
  go_wp2_with fail
  refine (sAsked_ p A (some ⟨w.heap.size + 1, 0, none⟩) c 2 ws [a, b] _ (HSH.out.later HB2.out (Nat.le_refl _)) HL2.out).mono ?_
  rintro e w1 ⟨rfl, hb1⟩
  have a0 : w1.cell? ⟨w.heap.size, 0, none⟩ = some (.int .i64 p) := below_at hb1 (Nat.le_refl _) (by go_simp)
  have a1 : w1.cell? ⟨w.heap.size, 1, none⟩ = some (.slice A ws.length c) := below_at hb1 (Nat.le_refl _) (by go_simp)
  have hs0 : w.heap.size < w1.heap.size := by have := hb1.size; simp at this; omega
  have Y1 := Lib.hid (HB2.out.trans (hb1.mono (by simp; omega))); clear hb1
  by_cases he : askErr p ws [a, b] = 0
  rotate_left
  · have hr : ChnIs p ws a b (askErr p ws [a, b]) [] := .inl ⟨he, rfl, rfl⟩
    generalize hge : askErr p ws [a, b] = E at *
    have HR := Lib.hid hr; have HGE := Lib.hid hge; clear hr hge
    go_wp2
    try rw [Exit.noGoto_ret]
    go_ret2
    try rw [HGE.out]
    exact ⟨_, _, _, rfl, RdV.nil _, Y1.out, HR.out⟩
  have hok : errSheet p ws = 0 := by
    unfold askErr at he
    split at he
    · assumption
    · exact he
  have hin : [a, b].any (badI ws.length) = false := by
    unfold askErr at he
    rw [if_pos hok] at he
    split at he
    · cases he
    · rename_i h; simpa using h
  obtain ⟨hp3, hp24, hn, hall⟩ := okAll hok
  have hin2 : (0 ≤ a ∧ a < ws.length) ∧ 0 ≤ b ∧ b < ws.length := by
    simp [badI] at hin
    omega
  obtain ⟨⟨z1, z2⟩, z3, z4⟩ := hin2
  obtain ⟨i, rfl⟩ := Int.eq_ofNat_of_zero_le z1
  obtain ⟨k, rfl⟩ := Int.eq_ofNat_of_zero_le z3
  have hil : i < ws.length := by omega
  have hkl : k < ws.length := by omega
  have hce := he
  rw [he]
  have hmp := (MapIs.empty w1)
  have hbW : Below w.heap.size w ((w1.alloc (.map #[] 0)).alloc (.cells #[.int .i64 (k : Int)] 3)) := (Y1.out.alloc Y1.out.size _).alloc (by have := Y1.out.size; simp; omega) _
  have hmp2 : MapIs ((w1.alloc (.map #[] 0)).alloc (.cells #[.int .i64 (k : Int)] 3)) w1.heap.size (fun _ => none) := hmp.at_ (Below.heap_alloc _ _ _ (by simp))
  have a2 : ((w1.alloc (.map #[] 0)).alloc (.cells #[.int .i64 (k : Int)] 3)).cell? ⟨w.heap.size, 1, none⟩ = some (.slice A ws.length c) := by go_simp
  have hlv : ((w1.alloc (.map #[] 0)).alloc (.cells #[.int .i64 (k : Int)] 3)).ownsRow (w1.heap.size + 1) 3 1 (.slice (some ⟨w1.heap.size + 1, 0, none⟩) 1 1) 1 (ints [(k : Int)]) := own_one (heap_alloc2_new _ _ _)
  have hmb : w.heap.size ≤ w1.heap.size := Y1.out.size
  have hWs : ((w1.alloc (.map #[] 0)).alloc (.cells #[.int .i64 (k : Int)] 3)).heap.size = w1.heap.size + 2 := by simp
  clear he hmp
  have HCE := Lib.hid hce; have HOK := Lib.hid hok; have HIN := Lib.hid hin; have HALL := Lib.hid hall; have HBW := Lib.hid hbW; have HMP2 := Lib.hid hmp2; have HLV := Lib.hid hlv; have A2 := Lib.hid a2; have HWS := Lib.hid hWs; clear hce hok hin hall hbW hmp2 hlv a2 hWs
  have hmm := HMM.out
  go_wp2_with (at_mapUpdate; refine wpList_upd_is _ rfl _ _ _ 80 rfl 3 3 Try.underlying80 Try.underlying3 w1.heap.size rfl HMP2.out k 0 rfl rfl rfl ?_; intro w2 hmp3 hg2 hsz2)
  have hbw2 := HBW.out.trans (grown_below hg2 hmb (by simp; omega))
  have a3 : w2.cell? ⟨w.heap.size, 1, none⟩ = some (.slice A ws.length c) := (hg2.cell_far _ (by simp; omega) (by simp; omega)).trans A2.out
  have hlv2 := HLV.out.kept hg2 (by simp [Value.ownBlock])
  have hsz3 : w2.heap.size = w1.heap.size + 2 := by rw [hsz2, HWS.out]
  have hlv3 : RdV w2 (.slice (some ⟨w1.heap.size + 1, 0, none⟩) 1 1) (castL [k]) := RdV.of_own hlv2 (by simp [castL])
  clear hmm hg2 hlv2 hsz2
  have HBW2 := Lib.hid hbw2; have HLV3 := Lib.hid hlv3; have HMP3 := Lib.hid hmp3; have A3 := Lib.hid a3; have HSZ3 := Lib.hid hsz3; clear hbw2 hlv3 hmp3 a3 hsz3
  go_wp2
  go_step3
  go_wp2
  go_loopw [10, 11] (fun lv nv wr => ∃ (n : Nat) (f : Nat → Option Nat) (ll : List Nat), nv = .int .i64 (n : Int) ∧ LvI (tch ws) i k n f ll ∧ ll.length ≤ 448 ∧ RdV wr lv (castL ll) ∧ MapIs wr w1.heap.size f ∧ wr.cell? ⟨w.heap.size, 1, none⟩ = some (.slice A ws.length c) ∧ Below w.heap.size w wr ∧ w1.heap.size + 2 ≤ wr.heap.size) (fun _ nv _ => k + 3 - (intOf nv).toNat)
  case atStart => exact ⟨1, _, [k], rfl, lv_first, by simp, HLV3.out, HMP3.out, A3.out, HBW2.out, by have := HSZ3.out; omega⟩
  case round =>
    obtain ⟨n, f, ll, rfl, hlv, hll, hrd, hmp, hcell, hbw, hsz⟩ := hrel
    by_cases hnil : ll = []
    · subst hnil
      obtain ⟨LA, lc, rfl, hri⟩ := hrd
      have hz : (zeroValue 3).run Try.prog wr = .ok (.int .i64 0) wr := by kernel_rfl
      by_cases hik : i = k
      · subst hik
        have hf : f i = some 0 := (hlv.kn i 0).2 ⟨.inl (Nat.le_refl _), hlv.pos, dst_zero.2 rfl⟩
        have hl := hmp.some_ Try.underlying80 Try.underlying3 hz hf
        have hr : ChnIs p ws i i 4 [] := .inr ⟨HCE.out, .inl ⟨rfl, rfl, .inl rfl⟩⟩
        have h0 : (castL []).length = 0 := rfl
        rw [h0]
        have HLV := Lib.hid hlv; have HRI := Lib.hid hri; have HMP := Lib.hid hmp; have HCELL := Lib.hid hcell; have HBW := Lib.hid hbw; have HR := Lib.hid hr; clear hlv hri hmp hcell hbw hr
        go_wp2
        try rw [Exit.noGoto_ret]
        go_ret2
        exact ⟨_, _, _, rfl, RdV.nil _, HBW.out, HR.out⟩
      · obtain ⟨hf, hno⟩ := lv_none hlv hik
        have hl := hmp.none_ Try.underlying80 Try.underlying3 hz hf
        have hr : ChnIs p ws i k 4 [] := .inr ⟨HCE.out, .inl ⟨rfl, rfl, .inr hno⟩⟩
        have h0 : (castL []).length = 0 := rfl
        rw [h0]
        have HLV := Lib.hid hlv; have HRI := Lib.hid hri; have HMP := Lib.hid hmp; have HCELL := Lib.hid hcell; have HBW := Lib.hid hbw; have HR := Lib.hid hr; clear hlv hri hmp hcell hbw hr
        go_wp2
        try rw [Exit.noGoto_ret]
        go_ret2
        exact ⟨_, _, _, rfl, RdV.nil _, HBW.out, HR.out⟩
    · obtain ⟨LA, lc, rfl, hri⟩ := hrd
      obtain ⟨wq, rfl⟩ : ∃ wq : World, wq = wr := ⟨_, rfl⟩
      have hlp : 0 < (castL ll).length := by rw [castL_len]; rcases ll with _ | ⟨_, _⟩ <;> simp at hnil ⊢
      have hll2 : (castL ll).length ≤ 448 := by rw [castL_len]; exact hll
      have hn1 := hlv.pos
      have hnk : n ≤ k + 1 := by
        rcases ll with _ | ⟨x, ll⟩
        · exact absurd rfl hnil
        · have := (lv_mem hlv (List.mem_cons_self ..)).2.2; omega
      have hms := md_start hlv
      have hns := nx_start hlv
      have hna : NoA i k f := hlv.no
      have HLV := Lib.hid hlv; have HRI := Lib.hid hri; have HMP := Lib.hid hmp; have HBW := Lib.hid hbw; have HMS := Lib.hid hms; have HNS := Lib.hid hns; have HNA := Lib.hid hna; have HCELL := Lib.hid hcell; clear hlv hri hmp hbw hms hns hna hcell
      go_wp2
      go_loopw [12, 45] (fun xv jv wr => ∃ (j : Nat) (f : Nat → Option Nat) (nx : List Nat), jv = .int .i64 (j : Int) ∧ j ≤ (castL ll).length ∧ MdI (tch ws) i k n f (ll.take j) (fun _ => False) ∧ NxL n f nx ∧ NoA i k f ∧ nx.length ≤ cntS f 448 ∧ MapIs wr w1.heap.size f ∧ wr.ownsRow wq.heap.size 3 1 xv (castL nx).length (ints (castL nx)) ∧ wq.grownBy wr (some w1.heap.size)) (fun _ jv _ => (castL ll).length - (intOf jv).toNat)
      case atStart => exact ⟨0, f, [], rfl, Nat.zero_le _, HMS.out, HNS.out, HNA.out, by simp, HMP.out, World.ownsRow_nil _ _ _ _, World.grownBy.refl _ _⟩
      case round =>
        clear HMS HNS HNA
        obtain ⟨j, f, nx, rfl, hj, hmd, hnx, hna, hcnt, hmp, hown, hgr⟩ := hrel
        obtain ⟨OA, oc, rfl⟩ := own_slice1 hown
        have hc448 := cntS_le f 448
        have hmbq : w1.heap.size < wq.heap.size := by omega
        by_cases hjl : j < (castL ll).length
        · have hjl2 : j < ll.length := by rw [castL_len] at hjl; exact hjl
          obtain ⟨bl, ol, rfl, hbl, l1⟩ := HRI.out.at_ hjl
          rw [castL_get] at l1
          obtain ⟨hkd, hkk, _⟩ := lv_mem HLV.out (List.getElem_mem hjl2)
          have htk : ll.take (j + 1) = ll.take j ++ [ll[j]] := by rw [List.take_add_one]; simp [List.getElem?_eq_getElem hjl2]
          generalize ll[j] = kk at *
          have hne : bl ≠ w1.heap.size := by
            rintro rfl
            obtain ⟨es, clock, h1, _⟩ := HMP.out
            simp [World.cell?, h1] at l1
          have l2 : wr.cell? ⟨bl, ol + j, none⟩ = some (.int .i64 (kk : Int)) := (hgr.cell_far _ hbl (by simp; omega)).trans l1
          have hmd2 := md_in hmd hkk
          have y1 : (0 : Int) ≤ (j : Int) := by omega
          have y2 : (j : Int) < ((castL ll).length : Int) := by omega
          have hbl2 : bl < wr.heap.size := Nat.lt_of_lt_of_le hbl hgr.size
          have hrs := hgr.size
          clear l1
          have HMD := Lib.hid hmd; have HMD2 := Lib.hid hmd2; have HNX := Lib.hid hnx; have HNA := Lib.hid hna; have HCNT := Lib.hid hcnt; have HMP := Lib.hid hmp; have HOWN := Lib.hid hown; have HGR := Lib.hid hgr; have HTK := Lib.hid htk; have HKD := Lib.hid hkd; clear hmd hmd2 hnx hna hcnt hmp hown hgr htk hkd
          go_wp2
          go_loopw [12, 15] (fun xv iv wr => ∃ (i0 : Nat) (f : Nat → Option Nat) (nx : List Nat), iv = .int .i64 (i0 : Int) ∧ i ≤ i0 ∧ i0 ≤ 448 ∧ MdI (tch ws) i k n f (ll.take j) (XI (tch ws) kk i0) ∧ NxL n f nx ∧ NoA i k f ∧ nx.length ≤ cntS f 448 ∧ MapIs wr w1.heap.size f ∧ wr.ownsRow wq.heap.size 3 1 xv (castL nx).length (ints (castL nx)) ∧ wq.grownBy wr (some w1.heap.size)) (fun _ iv _ => kk - (intOf iv).toNat)
          case atStart => exact ⟨i, f, nx, rfl, Nat.le_refl _, by omega, HMD2.out, HNX.out, HNA.out, HCNT.out, HMP.out, HOWN.out, HGR.out⟩
          case round =>
            clear HMD HMD2 HNX HNA HCNT HMP HOWN HGR hrs hbl2 l2 hc448
            obtain ⟨i0, f, nx, rfl, hi0, hi4, hmd, hnx, hna, hcnt, hmp, hown, hgr⟩ := hrel
            obtain ⟨OA, oc, rfl⟩ := own_slice1 hown
            have hc448 := cntS_le f 448
            have hnl : (castL nx).length ≤ 448 := by rw [castL_len]; omega
            have hsz3 := hgr.size
            have hmw := hmp.lt
            have hbw3 := HBW.out.trans (grown_below hgr (show w.heap.size ≤ w1.heap.size from hmb) (HBW.out.size))
            have hz : (zeroValue 3).run Try.prog wr = .ok (.int .i64 0) wr := by kernel_rfl
            have hmbs := HBW.out.size
            have hz1 : w.heap.size < wr.heap.size := by omega
            have a3 : wr.cell? ⟨w.heap.size, 1, none⟩ = some (.slice A ws.length c) := (hgr.cell_far _ (by simp; omega) (by simp; omega)).trans HCELL.out
            by_cases hik : i0 < kk
            · rcases hf : f i0 with _ | m0
              · have hl := hmp.none_ Try.underlying80 Try.underlying3 hz hf
                have hi0l : i0 < ws.length := by omega
                have hkkl : kk < ws.length := by omega
                obtain ⟨b, off, rfl, hbL, t1, t2, t3⟩ := (HSH.out.rd.later hbw3 (Nat.le_refl _)).at_ hi0l
                obtain ⟨b', off', hA', _, u1, u2, u3⟩ := (HSH.out.rd.later hbw3 (Nat.le_refl _)).at_ hkkl
                injection hA' with hA'; injection hA' with hA1 hA2; subst hA1; subst hA2
                obtain ⟨_, p1, p2, _⟩ := HALL.out ws[i0] (List.getElem_mem hi0l)
                obtain ⟨_, p3, p4, _⟩ := HALL.out ws[kk] (List.getElem_mem hkkl)
                have htc : tch ws i0 kk = touchB ws[i0].pl ws[kk].pl := by unfold tch; simp [List.getD_eq_getElem?_getD, hi0l, hkkl]
                have x1 : (0 : Int) ≤ (i0 : Int) := by omega
                have x2 : (i0 : Int) < (ws.length : Int) := by omega
                have x3 : (0 : Int) ≤ (kk : Int) := by omega
                have x4 : (kk : Int) < (ws.length : Int) := by omega
                by_cases ht : touchB ws[i0].pl ws[kk].pl = true
                rotate_left
                · have ht' : touchB ws[i0].pl ws[kk].pl = false := by simpa using ht
                  clear ht
                  have hmd4 := md_skip hmd (.inr (by rw [htc]; exact ht'))
                  generalize ws[i0].pl = pa at *
                  generalize ws[kk].pl = pb at *
                  have HMD := Lib.hid hmd; have HNX := Lib.hid hnx; have HNA := Lib.hid hna; have HCNT := Lib.hid hcnt; have HMP := Lib.hid hmp; have HOWN := Lib.hid hown; have HGR := Lib.hid hgr; have HMD4 := Lib.hid hmd4; have HF := Lib.hid hf; have HBW3 := Lib.hid hbw3; have HTC := Lib.hid htc; clear hmd hnx hna hcnt hmp hown hgr hmd4 hf hbw3 htc
                  go_wp2
                  go_region_held3 (fun wX => Below wr.heap.size wr wX ∧ (∀ b o, b < wr.heap.size → wX.cell? ⟨b, o, none⟩ = wr.cell? ⟨b, o, none⟩) ∧ wr.heap.size ≤ wX.heap.size) ((refine bcell2 ?_; first | exact (Below.refl _ _).drew | exact ‹Below wr.heap.size wr _ ∧ _›.1.trans (hbH.mono ‹Below wr.heap.size wr _ ∧ _›.1.size) | exact ‹Below wr.heap.size wr _ ∧ _›.1.alloc ‹Below wr.heap.size wr _ ∧ _›.1.size _ | exact ‹Below wr.heap.size wr _ ∧ _›.1)) ((first | (go_at_call 47; refine (sTouch_ _ _ _ _ _ _ _ (by omega) (by omega) (by omega) (by omega)).mono ?_; rintro e w2 ⟨rfl, hbH⟩)))
                  go_wp2
                  have hbX := ‹Below wr.heap.size wr _ ∧ _›.1
                  go_roundw
                  case rel => exact ⟨i0 + 1, f, nx, by go_num, by omega, by omega, HMD4.out, HNX.out, HNA.out, HCNT.out, HMP.out.later hbX, own_below3 HOWN.out hbX, grown_trans HGR.out (grown_of_below hbX)⟩
                  case measure => simp [intOf]; omega
                have hmd4 := md_put hmd hn1 hf hi0 hik (by rw [htc]; exact ht) HKD.out
                have hd4 := md_dst hmd hn1 hf hi0 hik (by rw [htc]; exact ht) HKD.out
                have hnx4 := nx_put (i0 := i0) hnx
                have hcn4 : (nx ++ [i0]).length ≤ cntS (upF f i0 n) 448 := by rw [cntS_put hf 448 (by omega)]; simp; omega
                generalize ws[i0].pl = pa at *
                generalize ws[kk].pl = pb at *
                by_cases hia : i0 = i
                · subst hia
                  obtain ⟨n, rfl⟩ : ∃ n', n = n' + 1 := ⟨n - 1, by omega⟩
                  obtain ⟨fl, hfl⟩ := chn_exists hd4
                  have hkn : ∀ x m, i0 ≤ x → m < n + 1 → (upF f i0 (n + 1) x = some m ↔ Dst (tch ws) k m x) := fun x m hx hm => md_known hmd4 hx hm
                  have hr : ChnIs p ws i0 k 0 ((i0 : Int) :: fl) := .inr ⟨HCE.out, .inr ⟨rfl, by omega, n, fl, by simpa using hd4, by simpa using hfl, rfl⟩⟩
                  have hfll := chn_len hfl
                  have hfa : upF f i0 (n + 1) i0 = some (n + 1) := upF_eq _ _ _
                  have hne2 : ((i0 : Int) == (k : Int)) = false := by simp; omega
                  have hnkk : n + 1 ≤ 448 := by omega
                  generalize hfg : upF f i0 (n + 1) = fg at *
                  have HMD := Lib.hid hmd; have HNX := Lib.hid hnx; have HNA := Lib.hid hna; have HCNT := Lib.hid hcnt; have HMP := Lib.hid hmp; have HOWN := Lib.hid hown; have HGR := Lib.hid hgr; have HMD4 := Lib.hid hmd4; have HF := Lib.hid hf; have HBW3 := Lib.hid hbw3; have HTC := Lib.hid htc; have HD4 := Lib.hid hd4; have HNX4 := Lib.hid hnx4; have HCN4 := Lib.hid hcn4; have HFL := Lib.hid hfl; have HKN := Lib.hid hkn; have HR := Lib.hid hr; have HFG := Lib.hid hfg; clear hmd hnx hna hcnt hmp hown hgr hmd4 hf hbw3 htc hd4 hnx4 hcn4 hfl hkn hr hfg
                  go_wp2
                  go_region_held3 (fun wX => Below wr.heap.size wr wX ∧ (∀ b o, b < wr.heap.size → wX.cell? ⟨b, o, none⟩ = wr.cell? ⟨b, o, none⟩) ∧ wr.heap.size ≤ wX.heap.size) ((refine bcell2 ?_; first | exact (Below.refl _ _).drew | exact ‹Below wr.heap.size wr _ ∧ _›.1.trans (hbH.mono ‹Below wr.heap.size wr _ ∧ _›.1.size) | exact ‹Below wr.heap.size wr _ ∧ _›.1.alloc ‹Below wr.heap.size wr _ ∧ _›.1.size _ | exact ‹Below wr.heap.size wr _ ∧ _›.1)) ((first | (go_at_call 47; refine (sTouch_ _ _ _ _ _ _ _ (by omega) (by omega) (by omega) (by omega)).mono ?_; rintro e w2 ⟨rfl, hbH⟩)))
                  obtain ⟨hbX, hcX, hsX⟩ := ‹Below wr.heap.size wr _ ∧ _›
                  have hmpX := HMP.out.later hbX
                  have hbwX := HBW3.out.trans (hbX.mono HBW3.out.size)
                  have a4 := below_at hbX (Nat.le_refl _) a3
                  have hmbw2 : w1.heap.size < w2.heap.size := Nat.lt_of_lt_of_le hmw hsX
                  clear hl
                  have HMPX := Lib.hid hmpX; have HBX := Lib.hid hbX; have HCX := Lib.hid hcX; have HBWX := Lib.hid hbwX; have A4 := Lib.hid a4; clear hmpX hbX hcX hbwX a4
                  go_wp2_with (at_mapUpdate; go_loud (refine wpList_upd_is _ rfl _ _ _ 80 rfl 3 3 Try.underlying80 Try.underlying3 w1.heap.size rfl HMPX.out i0 (n + 1) HF.out rfl (by first | rfl | (show Value.int IntKind.i64 _ = _; push_cast; rfl)) ?_; intro w3 hmp3 hg3 hsz5; have hmp3' : MapIs w3 w1.heap.size fg := (by rw [← HFG.out]; exact hmp3); have hz5 : (zeroValue 3).run Try.prog w3 = .ok (.int .i64 0) w3 := (by kernel_rfl); have hl := hmp3'.some_ Try.underlying80 Try.underlying3 hz5 hfa; have HMP3 := Lib.hid hmp3'; have HG3 := Lib.hid hg3; have HSZ9 := Lib.hid hsz5; clear hmp3 hg3 hmp3' hsz5))
                  have hb9 : Below w.heap.size w w3 := HBWX.out.trans (grown_below HG3.out hmb (HBWX.out.size))
                  have a9 : w3.cell? ⟨w.heap.size, 1, none⟩ = some (.slice (some ⟨b, off, none⟩) ws.length c) := (HG3.out.cell_far _ (by have := HBWX.out.size; have := HSZ9.out; simp; omega) (by simp; omega)).trans A4.out
                  have hmb9 := HMP3.out.lt
                  have q1 : MapIs (w3.alloc (.cells #[.int .i64 (i0 : Int)] 3)) w1.heap.size fg := HMP3.out.later ((Below.refl _ _).alloc (Nat.le_refl _) _)
                  have q2 : Below w.heap.size w (w3.alloc (.cells #[.int .i64 (i0 : Int)] 3)) := hb9.alloc hb9.size _
                  have q3 : (w3.alloc (.cells #[.int .i64 (i0 : Int)] 3)).ownsRow w3.heap.size 3 1 (.slice (some ⟨w3.heap.size, 0, none⟩) 1 1) 1 (ints [(i0 : Int)]) := own_one (heap_alloc_new _ _)
                  have q4 : (w3.alloc (.cells #[.int .i64 (i0 : Int)] 3)).cell? ⟨w.heap.size, 1, none⟩ = some (.slice (some ⟨b, off, none⟩) ws.length c) := below_at ((Below.refl _ _).alloc (Nat.le_refl _) _) (Nat.le_refl _) a9
                  have q5 : w3.heap.size + 1 ≤ (w3.alloc (.cells #[.int .i64 (i0 : Int)] 3)).heap.size := by simp
                  have hw9 := hb9.size
                  clear hl hz
                  have Q1 := Lib.hid q1; have Q2 := Lib.hid q2; have Q3 := Lib.hid q3; have Q4 := Lib.hid q4; have Q5 := Lib.hid q5; have HB9 := Lib.hid hb9; have A9 := Lib.hid a9; clear q1 q2 q3 q4 q5 hb9 a9
                  go_loopw [18, 20, 21] (fun nv ov tv wr => ∃ (m t : Nat) (pre rest : List Int), (∃ z : Int, nv = .int .i64 z ∧ z = (m : Int)) ∧ tv = .int .i64 (t : Int) ∧ pre ++ rest = (i0 : Int) :: fl ∧ Chn (tch ws) k m t rest ∧ Dst (tch ws) k m t ∧ i0 ≤ t ∧ m ≤ n + 1 ∧ MapIs wr w1.heap.size fg ∧ wr.cell? ⟨w.heap.size, 1, none⟩ = some (.slice (some ⟨b, off, none⟩) ws.length c) ∧ wr.ownsRow w3.heap.size 3 1 ov pre.length (ints pre) ∧ Below w.heap.size w wr ∧ w3.heap.size + 1 ≤ wr.heap.size) (fun nv _ _ _ => (intOf nv).toNat)
                  case atStart => exact ⟨n + 1, i0, [(i0 : Int)], fl, ⟨_, rfl, by omega⟩, rfl, rfl, HFL.out, HD4.out, Nat.le_refl _, Nat.le_refl _, Q1.out, Q4.out, Q3.out, Q2.out, Q5.out⟩
                  case round =>
                    clear Q1 Q2 Q3 Q4 Q5
                    obtain ⟨m, t, pre, rest, ⟨zm, rfl, hzm0⟩, rfl, hpr, hch, hds, hit, hmn, hmp, hcell, hown, hbw, hsz⟩ := hrel
                    obtain ⟨OA, oc, rfl⟩ := own_slice1 hown
                    have hpl : pre.length ≤ 449 := by have := congrArg List.length hpr; simp at this; omega
                    have htk := dst_le hds
                    by_cases hte : t = k
                    · subst hte
                      have hm0 : m = 0 := dst_uniq hds (dst_zero.2 rfl)
                      subst hm0
                      have hrest : rest = [] := hch
                      subst hrest
                      rw [List.append_nil] at hpr
                      have hrv : RdV wr (.slice OA pre.length oc) pre := RdV.of_own hown (by omega)
                      rw [hpr] at hrv
                      have HPR := Lib.hid hpr; have HCH := Lib.hid hch; have HDS := Lib.hid hds; have HMP := Lib.hid hmp; have HCELL := Lib.hid hcell; have HOWN := Lib.hid hown; have HBW := Lib.hid hbw; have HRV := Lib.hid hrv; clear hpr hch hds hmp hcell hown hbw hrv
                      go_wp2
                      try rw [Exit.noGoto_ret]
                      go_ret2
                      exact ⟨_, _, _, rfl, by rw [HPR.out] at *; exact HRV.out, HBW.out, HR.out⟩
                    · obtain ⟨m, rfl⟩ : ∃ m', m = m' + 1 := by
                        rcases m with _ | m
                        · exact absurd (dst_zero.1 hds) hte
                        · exact ⟨m, rfl⟩
                      obtain ⟨k2, rest, ⟨hn1', hn2, hn3, hn4, hn5⟩, rfl, hch2⟩ := hch
                      have htl : t < ws.length := by omega
                      have hk2l : k2 < ws.length := by omega
                      have hte' : ((t : Int) != (k : Int)) = true := by simp; omega
                      have htT : ∀ q, (hq : q < ws.length) → tch ws t q = touchB ws[t].pl ws[q].pl := fun q hq => by unfold tch; simp [List.getD_eq_getElem?_getD, htl, hq]
                      have hmp8 := hmp.lt
                      obtain ⟨wp, rfl⟩ : ∃ wp : World, wp = wr := ⟨_, rfl⟩
                      have hv1 : IntKind.i64.wrap (zm - 1) = (m : Int) := by rw [IntWalk.i64_in _ (by omega)]; omega
                      have HPR := Lib.hid hpr; have HDS := Lib.hid hds; have HMP := Lib.hid hmp; have HCELL := Lib.hid hcell; have HOWN := Lib.hid hown; have HBW := Lib.hid hbw; have HN3 := Lib.hid hn3; have HN4 := Lib.hid hn4; have HN5 := Lib.hid hn5; have HCH2 := Lib.hid hch2; have HTT := Lib.hid htT; have HZM0 := Lib.hid hzm0; clear hpr hds hmp hcell hown hbw hn3 hn4 hn5 hch2 htT hzm0
                      go_wp2
                      go_loopw [21, 22] (fun tv qv wr => ∃ q : Nat, tv = .int .i64 (t : Int) ∧ qv = .int .i64 (q : Int) ∧ t < q ∧ q ≤ k2 ∧ Below wp.heap.size wp wr) (fun _ qv _ => k2 + 1 - (intOf qv).toNat)
                      case atStart => exact ⟨t + 1, rfl, by go_num, by omega, by omega, Below.refl _ _⟩
                      case round =>
                        obtain ⟨q, rfl, rfl, htq, hqk, hbr⟩ := hrel
                        have hbq := HBW.out.trans (hbr.mono HBW.out.size)
                        have hmpq := HMP.out.later hbr
                        have hz : (zeroValue 3).run Try.prog wr = .ok (.int .i64 0) wr := by kernel_rfl
                        have hl := hmpq.run_ Try.underlying80 Try.underlying3 hz q
                        have hc9 := below_at hbr (Nat.le_refl _) HCELL.out
                        have hz1 : w.heap.size < wr.heap.size := by have := hbr.size; omega
                        have hql : q < ws.length := by omega
                        obtain ⟨b', off', hA', hbL, t1, t2, t3⟩ := (HSH.out.rd.later hbq (Nat.le_refl _)).at_ htl
                        injection hA' with hA'; injection hA' with hA1 hA2; subst hA1; subst hA2
                        obtain ⟨b', off', hA', _, u1, u2, u3⟩ := (HSH.out.rd.later hbq (Nat.le_refl _)).at_ hql
                        injection hA' with hA'; injection hA' with hA1 hA2; subst hA1; subst hA2
                        obtain ⟨_, p1, p2, _⟩ := HALL.out ws[t] (List.getElem_mem htl)
                        obtain ⟨_, p3, p4, _⟩ := HALL.out ws[q] (List.getElem_mem hql)
                        have htq2 := HTT.out q hql
                        have x1 : (0 : Int) ≤ (t : Int) := by omega
                        have x2 : (t : Int) < (ws.length : Int) := by omega
                        have x3 : (0 : Int) ≤ (q : Int) := by omega
                        have x4 : (q : Int) < (ws.length : Int) := by omega
                        have x5 : (q : Int) ≤ (k : Int) := by omega
                        have hkq := HKN.out q m (by omega) (by omega)
                        have hlst := HN5.out q htq
                        have hn3' := HN3.out
                        have hn4' := HN4.out
                        by_cases hqm : fg q = some m
                        · by_cases ht : touchB ws[t].pl ws[q].pl = true
                          · have hqe : q = k2 := by
                              by_cases hlt : q < k2
                              · exact absurd (hkq.1 hqm) (hlst hlt (by rw [htq2]; exact ht))
                              · omega
                            subst hqe
                            rw [hqm] at hl
                            clear hlst hkq
                            have hownq := own_below3 HOWN.out hbr
                            have hlo := hownq.lt
                            have hN1 : Hid (some w1.heap.size ≠ (Value.slice OA pre.length oc).ownBlock) := fun h => by have := (hlo _ h.symm).1; omega
                            generalize ws[t].pl = pa at *
                            generalize ws[q].pl = pb at *
                            have HBR := Lib.hid hbr; have HBQ := Lib.hid hbq; have HMPQ := Lib.hid hmpq; have HTQ2 := Lib.hid htq2; have HQM := Lib.hid hqm; have HN3p := Lib.hid hn3'; have HN4p := Lib.hid hn4'; have HLO := Lib.hid hlo; have HOWNQ := Lib.hid hownq; clear hbr hbq hmpq htq2 hqm hn3' hn4' hlo hownq
                            go_wp2
                            go_region_held3 (fun wX => Below wr.heap.size wr wX ∧ (∀ b o, b < wr.heap.size → wX.cell? ⟨b, o, none⟩ = wr.cell? ⟨b, o, none⟩) ∧ wr.heap.size ≤ wX.heap.size) ((refine bcell2 ?_; first | exact (Below.refl _ _).drew | exact ‹Below wr.heap.size wr _ ∧ _›.1.trans (hbH.mono ‹Below wr.heap.size wr _ ∧ _›.1.size) | exact ‹Below wr.heap.size wr _ ∧ _›.1.alloc ‹Below wr.heap.size wr _ ∧ _›.1.size _ | exact ‹Below wr.heap.size wr _ ∧ _›.1)) ((first | (go_at_call 47; refine (sTouch_ _ _ _ _ _ _ _ (by omega) (by omega) (by omega) (by omega)).mono ?_; rintro e w2 ⟨rfl, hbH⟩)))
                            obtain ⟨hbX, hcX, hsX⟩ := ‹Below wr.heap.size wr _ ∧ _›
                            have hownX := own_below3 HOWNQ.out hbX
                            clear hl
                            have HOWNX := Lib.hid hownX; have HBX := Lib.hid hbX; have HCX := Lib.hid hcX; clear hownX hbX hcX
                            go_wp2_with (first | (at_builtin; go_must (refine wpList_app1_Try rfl _ _ rfl w3.heap.size (.slice OA pre.length oc) pre rfl (by repeat (first | exact HOWNX.out | refine World.ownsRow.alloc ?_ _ | refine own_drewN ?_ _)) _ q rfl (heap_alloc_new _ _) (by omega) (by have := HBR.out.size; simp; omega) ?_); intro g cap w6 hown6 hgrow hat6 hlt6))
                            have hs9 := HBR.out.size
                            have r1 : MapIs w6 w1.heap.size fg := ((HMPQ.out.later HBX.out).later ((Below.refl _ _).alloc (Nat.le_refl _) _)).kept hgrow hN1.out
                            have r2 : Below w.heap.size w w6 := ((HBQ.out.trans (HBX.out.mono HBQ.out.size)).alloc (by omega) _).grown hgrow (by simp; omega) (fun j hj => by have := (HLO.out j hj).1; omega)
                            have r3 : w6.cell? ⟨w.heap.size, 1, none⟩ = some (.slice (some ⟨b, off, none⟩) ws.length c) := (hgrow.cell_far ⟨w.heap.size, 1, none⟩ (by simp; omega) (fun h => by have := (HLO.out _ h.symm).1; simp at this; omega)).trans (below_at ((Below.refl _ _).alloc (Nat.le_refl _) _) (Nat.le_refl _) (below_at HBX.out (Nat.le_refl _) hc9))
                            have r4 : w3.heap.size + 1 ≤ w6.heap.size := by have := hgrow.size; simp at this; omega
                            have R1 := Lib.hid r1; have R2 := Lib.hid r2; have R3 := Lib.hid r3; have R4 := Lib.hid r4; have HOWN6 := Lib.hid hown6; have HGROW := Lib.hid hgrow; clear r1 r2 r3 r4 hown6 hgrow
                            go_roundw
                            case rel => exact ⟨m, q, pre ++ [(q : Int)], rest, ⟨_, rfl, by first | rfl | exact hv1⟩, rfl, by rw [← HPR.out]; simp, HCH2.out, HN4p.out, by omega, by omega, R1.out, R3.out, by simpa using HOWN6.out, R2.out, R4.out⟩
                            case measure => have := HZM0.out; simp [intOf]; omega
                          · have ht' : touchB ws[t].pl ws[q].pl = false := by simpa using ht
                            have hqe : q < k2 := by
                              by_cases hlt : q < k2
                              · exact hlt
                              · obtain rfl : q = k2 := by omega
                                rw [htq2, ht'] at hn3'; cases hn3'
                            clear ht
                            rw [hqm] at hl
                            clear hlst hkq
                            generalize ws[t].pl = pa at *
                            generalize ws[q].pl = pb at *
                            have HBR := Lib.hid hbr; have HBQ := Lib.hid hbq; have HMPQ := Lib.hid hmpq; have HTQ2 := Lib.hid htq2; have HQM := Lib.hid hqm; have HN3p := Lib.hid hn3'; have HN4p := Lib.hid hn4'; clear hbr hbq hmpq htq2 hqm hn3' hn4'
                            go_wp2
                            go_region_held3 (fun wX => Below wr.heap.size wr wX ∧ (∀ b o, b < wr.heap.size → wX.cell? ⟨b, o, none⟩ = wr.cell? ⟨b, o, none⟩) ∧ wr.heap.size ≤ wX.heap.size) ((refine bcell2 ?_; first | exact (Below.refl _ _).drew | exact ‹Below wr.heap.size wr _ ∧ _›.1.trans (hbH.mono ‹Below wr.heap.size wr _ ∧ _›.1.size) | exact ‹Below wr.heap.size wr _ ∧ _›.1.alloc ‹Below wr.heap.size wr _ ∧ _›.1.size _ | exact ‹Below wr.heap.size wr _ ∧ _›.1)) ((first | (go_at_call 47; refine (sTouch_ _ _ _ _ _ _ _ (by omega) (by omega) (by omega) (by omega)).mono ?_; rintro e w2 ⟨rfl, hbH⟩)))
                            obtain ⟨hbX, hcX, hsX⟩ := ‹Below wr.heap.size wr _ ∧ _›
                            clear hl
                            have HBX := Lib.hid hbX; have HCX := Lib.hid hcX; clear hbX hcX
                            go_wp2
                            go_roundw
                            case rel => exact ⟨q + 1, rfl, by go_num, by omega, by omega, HBR.out.trans (HBX.out.mono HBR.out.size)⟩
                            case measure => simp [intOf]; omega
                        · have hqe : q < k2 := by
                            by_cases hlt : q < k2
                            · exact hlt
                            · obtain rfl : q = k2 := by omega
                              exact absurd (hkq.2 hn4') hqm
                          clear hlst hkq hn3' hn4'
                          rcases hfq : fg q with _ | z
                          · rw [hfq] at hl
                            replace hl : (Instr.lookup 80 (.map (some w1.heap.size)) (.int .i64 (q : Int)) true).run Try.prog wr = .ok (.tuple #[.int .i64 0, .bool false]) wr := hl
                            have HBR := Lib.hid hbr; have HBQ := Lib.hid hbq; have HMPQ := Lib.hid hmpq; have HTQ2 := Lib.hid htq2; have HQM := Lib.hid hqm; have HFQ := Lib.hid hfq; clear hbr hbq hmpq htq2 hqm hfq
                            go_wp2
                            go_quiet (fail)
                            go_wp2
                            go_roundw
                            case rel => exact ⟨q + 1, rfl, by go_num, by omega, by omega, below_drewN HBR.out _⟩
                            case measure => simp [intOf]; omega
                          · have hzm : ¬ (z : Int) = (m : Int) := fun h => hqm (by rw [hfq]; congr 1; omega)
                            rw [hfq] at hl
                            replace hl : (Instr.lookup 80 (.map (some w1.heap.size)) (.int .i64 (q : Int)) true).run Try.prog wr = .ok (.tuple #[.int .i64 (z : Int), .bool true]) wr := hl
                            have HBR := Lib.hid hbr; have HBQ := Lib.hid hbq; have HMPQ := Lib.hid hmpq; have HTQ2 := Lib.hid htq2; have HQM := Lib.hid hqm; have HFQ := Lib.hid hfq; clear hbr hbq hmpq htq2 hqm hfq
                            go_wp2
                            go_quiet (fail)
                            go_wp2
                            go_roundw
                            case rel => exact ⟨q + 1, rfl, by go_num, by omega, by omega, below_drewN HBR.out _⟩
                            case measure => simp [intOf]; omega
                · have hna4 := no_put (n := n) hna hia
                  have hia' : ¬ (i0 : Int) = (i : Int) := by omega
                  have hlo := hown.lt
                  have hN1 : Hid (some w1.heap.size ≠ (Value.slice OA (castL nx).length oc).ownBlock) := fun h => by have := (hlo _ h.symm).1; omega
                  have HMD := Lib.hid hmd; have HNX := Lib.hid hnx; have HNA := Lib.hid hna; have HCNT := Lib.hid hcnt; have HMP := Lib.hid hmp; have HOWN := Lib.hid hown; have HGR := Lib.hid hgr; have HMD4 := Lib.hid hmd4; have HF := Lib.hid hf; have HBW3 := Lib.hid hbw3; have HTC := Lib.hid htc; have HD4 := Lib.hid hd4; have HNX4 := Lib.hid hnx4; have HCN4 := Lib.hid hcn4; have HNA4 := Lib.hid hna4; have HLO := Lib.hid hlo; clear hmd hnx hna hcnt hmp hown hgr hmd4 hf hbw3 htc hd4 hnx4 hcn4 hna4 hlo
                  go_wp2
                  go_region_held3 (fun wX => Below wr.heap.size wr wX ∧ (∀ b o, b < wr.heap.size → wX.cell? ⟨b, o, none⟩ = wr.cell? ⟨b, o, none⟩) ∧ wr.heap.size ≤ wX.heap.size) ((refine bcell2 ?_; first | exact (Below.refl _ _).drew | exact ‹Below wr.heap.size wr _ ∧ _›.1.trans (hbH.mono ‹Below wr.heap.size wr _ ∧ _›.1.size) | exact ‹Below wr.heap.size wr _ ∧ _›.1.alloc ‹Below wr.heap.size wr _ ∧ _›.1.size _ | exact ‹Below wr.heap.size wr _ ∧ _›.1)) ((first | (go_at_call 47; refine (sTouch_ _ _ _ _ _ _ _ (by omega) (by omega) (by omega) (by omega)).mono ?_; rintro e w2 ⟨rfl, hbH⟩)))
                  obtain ⟨hbX, hcX, hsX⟩ := ‹Below wr.heap.size wr _ ∧ _›
                  have hmpX := HMP.out.later hbX
                  have hownX := own_below3 HOWN.out hbX
                  have HMPX := Lib.hid hmpX; have HOWNX := Lib.hid hownX; have HBX := Lib.hid hbX; have HCX := Lib.hid hcX; clear hmpX hownX hbX hcX
                  go_wp2_with (first | (at_mapUpdate; go_loud (refine wpList_upd_is _ rfl _ _ _ 80 rfl 3 3 Try.underlying80 Try.underlying3 w1.heap.size rfl HMPX.out i0 n HF.out rfl rfl ?_; intro w3 hmp3 hg3 hsz3; have HOWN3 := Lib.hid (HOWNX.out.kept hg3 (.inr (Ne.symm hN1.out))); have HMP3 := Lib.hid hmp3; have HG3 := Lib.hid hg3; have HSZ9 := Lib.hid hsz3; clear hmp3 hg3 hsz3)) | (at_builtin; go_must (refine wpList_app1_Try rfl _ _ rfl wq.heap.size (.slice OA (castL nx).length oc) (castL nx) rfl (by repeat (first | exact HOWN3.out | refine World.ownsRow.alloc ?_ _ | refine own_drewN ?_ _)) w3.heap.size i0 rfl (heap_alloc_new _ _) (by omega) (by have := HSZ9.out; simp; omega) ?_); intro g cap w6 hown6 hgrow hat6 hlt6))
                  have q1 : MapIs w6 w1.heap.size (upF f i0 n) := (HMP3.out.later ((Below.refl _ _).alloc (Nat.le_refl _) _)).kept hgrow hN1.out
                  have q2 : wq.grownBy w6 (some w1.heap.size) := GB.grown (GB.alloc (grown_trans (grown_trans HGR.out (grown_of_below HBX.out)) HG3.out) _) hgrow (fun k hk => (HLO.out k hk).1)
                  have Q1 := Lib.hid q1; have Q2 := Lib.hid q2; have HOWN6 := Lib.hid hown6; have HGROW := Lib.hid hgrow; clear q1 q2 hown6 hgrow
                  go_roundw
                  case rel => exact ⟨i0 + 1, upF f i0 n, nx ++ [i0], by go_num, by omega, by omega, HMD4.out, HNX4.out, HNA4.out, HCN4.out, Q1.out, by rw [castL_snoc]; simpa using HOWN6.out, Q2.out⟩
                  case measure => simp [intOf]; omega
              · have hl := hmp.some_ Try.underlying80 Try.underlying3 hz hf
                have hmd4 := md_skip hmd (.inl (by rw [hf]; simp))
                have HMD := Lib.hid hmd; have HNX := Lib.hid hnx; have HNA := Lib.hid hna; have HCNT := Lib.hid hcnt; have HMP := Lib.hid hmp; have HOWN := Lib.hid hown; have HGR := Lib.hid hgr; have HMD4 := Lib.hid hmd4; have HF := Lib.hid hf; have HBW3 := Lib.hid hbw3; clear hmd hnx hna hcnt hmp hown hgr hmd4 hf hbw3
                go_wp2
                go_quiet (fail)
                go_wp2
                go_roundw
                case rel => exact ⟨i0 + 1, f, nx, by go_num, by omega, by omega, HMD4.out, HNX.out, HNA.out, HCNT.out, HMP.out, own_drewN HOWN.out _, GB.drewN HGR.out _⟩
                case measure => simp [intOf]; omega
            · have hmd4 := md_out hmd (show kk ≤ i0 by omega)
              rw [← HTK.out] at hmd4
              have HMD := Lib.hid hmd; have HNX := Lib.hid hnx; have HNA := Lib.hid hna; have HCNT := Lib.hid hcnt; have HMP := Lib.hid hmp; have HOWN := Lib.hid hown; have HGR := Lib.hid hgr; have HMD4 := Lib.hid hmd4; have HBW3 := Lib.hid hbw3; clear hmd hnx hna hcnt hmp hown hgr hmd4 hbw3
              go_wp2
              go_roundw
              case rel => exact ⟨j + 1, f, nx, by go_num, by omega, HMD4.out, HNX.out, HNA.out, HCNT.out, HMP.out, HOWN.out, HGR.out⟩
              case measure => simp [intOf]; omega
        · obtain rfl : j = (castL ll).length := by omega
          rw [castL_len, List.take_length] at hmd
          have hlv4 := lv_next hn1 HLV.out.lev hmd hnx hna
          have hbw3 := HBW.out.trans (grown_below hgr (show w.heap.size ≤ w1.heap.size from hmb) (HBW.out.size))
          have hmbs := HBW.out.size
          have a3 : wr.cell? ⟨w.heap.size, 1, none⟩ = some (.slice A ws.length c) := (hgr.cell_far _ (by simp; omega) (by simp; omega)).trans HCELL.out
          have hrv : RdV wr (.slice OA (castL nx).length oc) (castL nx) := RdV.of_own hown (by rw [castL_len]; omega)
          have hsz4 : w1.heap.size + 2 ≤ wr.heap.size := Nat.le_trans hsz hgr.size
          have hnl : nx.length ≤ 448 := by omega
          have HMD := Lib.hid hmd; have HNX := Lib.hid hnx; have HNA := Lib.hid hna; have HCNT := Lib.hid hcnt; have HMP := Lib.hid hmp; have HOWN := Lib.hid hown; have HGR := Lib.hid hgr; have HLV4 := Lib.hid hlv4; have HBW3 := Lib.hid hbw3; have A3 := Lib.hid a3; have HRV := Lib.hid hrv; have HSZ4 := Lib.hid hsz4; clear hmd hnx hna hcnt hmp hown hgr hlv4 hbw3 a3 hrv hsz4
          go_wp2
          go_roundw
          case rel => exact ⟨n + 1, f, nx, by go_num, HLV4.out, hnl, HRV.out, HMP.out, A3.out, HBW3.out, HSZ4.out⟩
          case measure => simp [intOf]; omega
end Go.Proofs.Ytepdgffccfcfpaa
