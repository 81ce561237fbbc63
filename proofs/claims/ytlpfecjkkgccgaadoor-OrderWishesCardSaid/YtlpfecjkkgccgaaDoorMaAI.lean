/- Texts of this claim, laid together: OrLWish. -/
import Derived.Test.YtlpfecjkkgccgaaDoorMaX
import Derived.Test.YtlpfecjkkgccgaaDoorMaAF
import Derived.Test.YtlpfecjkkgccgaaDoorMaAG
import Derived.Test.YtlpfecjkkgccgaaDoorMaAH
/- The law OrderWishes: one wish more. -/
namespace Go.Proofs.YtlpfecjkkgccgaaDoor
open Go Go.RowKit

/-- The two works of the wish. -/
def wA (n xa : Nat) : Nat := xa % n
def wB (n xa xb : Nat) : Nat := (xa % n + 1 + xb % (n - 1)) % n
theorem wAB {n : Nat} (xa xb : Nat) (h : 2 ≤ n) : wA n xa < n ∧ wB n xa xb < n ∧ wA n xa ≠ wB n xa xb := by
  have h1 := Nat.mod_lt xa (show 0 < n by omega)
  have h2 := Nat.mod_lt xb (show 0 < n - 1 by omega)
  have h3 := Nat.mod_lt (xa % n + 1 + xb % (n - 1)) (show 0 < n by omega)
  refine ⟨h1, h3, ?_⟩
  unfold wA wB
  generalize xa % n = a at *
  generalize xb % (n - 1) = d at *
  rcases Nat.lt_or_ge (a + 1 + d) n with h4 | h4
  · rw [Nat.mod_eq_of_lt h4]; omega
  · rw [Nat.mod_eq_sub_mod h4, Nat.mod_eq_of_lt (by omega)]; omega
def MoreB (w : World) (b : Nat) (xa xb : Nat) : Prop := w.heap[b]? = some (.cells #[.int .u8 (xa : Int), .int .u8 (xb : Int)] 42 (0, 0))
theorem MoreB.later {w w' : World} {b xa xb B : Nat} (h : MoreB w b xa xb) (hb : Below B w w') (hB : w.heap.size ≤ B) : MoreB w' b xa xb := (hb.block _ (Nat.lt_of_lt_of_le (lt_of_block h) hB)).trans h
set_option maxRecDepth 100000 in
set_option maxHeartbeats 8000000 in
theorem lawWishes_ (p : Int) (A Wa B : Option Addr) (c wcp lc : Nat) (ws : List GW) (wl : List (Int × Int)) (l : List Int) (xa xb : Nat) (hxa : xa ≤ 255) (hxb : xb ≤ 255) (w : World) (ha : ShIn w p A ws) (hl : RdP w Wa wl) (ho : RdI w B l) (hlc : l.length ≤ lc) (hT : Tz w) :
    Calls Tryd.prog 6 #[.agg #[.int .i64 p, .slice A ws.length c, .slice Wa wl.length wcp, .slice B l.length lc], .agg #[.int .u8 (xa : Int), .int .u8 (xb : Int)]] w fun e w' => e = .returned (.bool true) ∧ Below w.heap.size w w' := by
  have hb2 : Below w.heap.size w ((w.alloc (.cells #[.int .i64 p, .slice A ws.length c, .slice Wa wl.length wcp, .slice B l.length lc] 28)).alloc (.cells #[.int .u8 (xa : Int), .int .u8 (xb : Int)] 42)) := ((Below.refl _ _).alloc (Nat.le_refl _) _).alloc (by simp) _
  have hC : CaseB ((w.alloc (.cells #[.int .i64 p, .slice A ws.length c, .slice Wa wl.length wcp, .slice B l.length lc] 28)).alloc (.cells #[.int .u8 (xa : Int), .int .u8 (xb : Int)] 42)) w.heap.size p A Wa B ws.length c wl.length wcp l.length lc := heap_alloc2_old _ _ _
  go_enter Tryd.func6, Tryd.ntmps6
  refine wp_seq_k fun K1 hK1 => ?_
  have HK1 := Lib.hid hK1; have HA := Lib.hid ha; have HL := Lib.hid hl; have HO := Lib.hid ho; have HLC := Lib.hid hlc; have HT := Lib.hid hT; have HXA := Lib.hid hxa; have HXB := Lib.hid hxb; clear hK1 ha hl ho hlc hT hxa hxb
  have hmo : MoreB ((w.alloc (.cells #[.int .i64 p, .slice A ws.length c, .slice Wa wl.length wcp, .slice B l.length lc] 28)).alloc (.cells #[.int .u8 (xa : Int), .int .u8 (xb : Int)] 42)) (w.heap.size + 1) xa xb := heap_alloc2_new _ _ _
  have HMO := Lib.hid hmo; clear hmo
  go_wp2
  refine HK1.out _ _ ?_
  clear HK1
  have HMO' := HMO.out
  generalize (w.alloc (.cells #[.int .i64 p, .slice A ws.length c, .slice Wa wl.length wcp, .slice B l.length lc] 28)).alloc (.cells #[.int .u8 (xa : Int), .int .u8 (xb : Int)] 42) = w1 at *
  clear HMO
  have HMO := Lib.hid HMO'; clear HMO'
  obtain ⟨c0, c1, c2, c3, s1⟩ := hC.open_
  have B1 := Lib.hid hb2
  clear hb2
  have HC := Lib.hid hC; clear hC
  go_wp2_with fail
  refine (far_ p A Wa B c wcp lc wl.length l.length ws w1 (HA.out.rd.later B1.out (Nat.le_refl _))).mono ?_
  rintro e w2 ⟨t, rfl, hNear, b1⟩
  have qHMO := HMO.out.later b1 (Nat.le_refl _); clear HMO; have HMO := Lib.hid qHMO; clear qHMO
  have hC2 := HC.out.later b1
  have B2 := Lib.hid (B1.out.trans (b1.mono B1.out.size))
  clear HC B1 b1 c0 c1 c2 c3 s1
  obtain ⟨c0, c1, c2, c3, s1⟩ := hC2.open_
  have HC2 := Lib.hid hC2; have HNEAR := Lib.hid hNear; clear hC2 hNear
  cases t with
  | true =>
    go_wp2_with fail
    refine (shown_ _ (HT.out.later B2.out (Nat.le_refl _))).mono ?_
    rintro e w3 ⟨rfl, b1⟩
    have B3 := Lib.hid (B2.out.trans (b1.mono B2.out.size))
    clear b1
    go_wp2
    go_ret
    exact ⟨rfl, B3.out⟩
  | false =>
    by_cases hmid : 9 < ws.length
    · have f1 : decide ((9 : Int) < (ws.length : Int)) = true := by simp; omega
      have f3 : (9 : Int) < (ws.length : Int) := by omega
      have HMID := Lib.hid hmid; clear hmid
      go_wp2_with fail
      refine (shown_ _ (HT.out.later B2.out (Nat.le_refl _))).mono ?_
      rintro e w3 ⟨rfl, b1⟩
      have B3 := Lib.hid (B2.out.trans (b1.mono B2.out.size))
      clear b1
      go_wp2
      go_ret
      exact ⟨rfl, B3.out⟩
    have f1 : decide ((9 : Int) < (ws.length : Int)) = false := by simp; omega
    have f3 : ¬ (9 : Int) < (ws.length : Int) := by omega
    by_cases hlow : ws.length < 2
    · have f4 : decide ((ws.length : Int) < 2) = true := by simp; omega
      have f5 : (ws.length : Int) < 2 := by omega
      have HMID := Lib.hid hmid; have HLOW := Lib.hid hlow; clear hmid hlow
      go_wp2_with fail
      refine (shown_ _ (HT.out.later B2.out (Nat.le_refl _))).mono ?_
      rintro e w3 ⟨rfl, b1⟩
      have B3 := Lib.hid (B2.out.trans (b1.mono B2.out.size))
      clear b1
      go_wp2
      go_ret
      exact ⟨rfl, B3.out⟩
    have f4 : decide ((ws.length : Int) < 2) = false := by simp; omega
    have f5 : ¬ (ws.length : Int) < 2 := by omega
    by_cases hwl : 60 ≤ wl.length
    · have f6 : decide ((60 : Int) ≤ (wl.length : Int)) = true := by simp; omega
      have f7 : (60 : Int) ≤ (wl.length : Int) := by omega
      have HMID := Lib.hid hmid; have HLOW := Lib.hid hlow; have HWL := Lib.hid hwl; clear hmid hlow hwl
      go_wp2_with fail
      refine (shown_ _ (HT.out.later B2.out (Nat.le_refl _))).mono ?_
      rintro e w3 ⟨rfl, b1⟩
      have B3 := Lib.hid (B2.out.trans (b1.mono B2.out.size))
      clear b1
      go_wp2
      go_ret
      exact ⟨rfl, B3.out⟩
    have f6 : decide ((60 : Int) ≤ (wl.length : Int)) = false := by simp; omega
    have f7 : ¬ (60 : Int) ≤ (wl.length : Int) := by omega
    go_wp2_with fail
    refine (rWishes_ p A Wa c wcp ws wl _ (HA.out.later B2.out (Nat.le_refl _)) (HL.out.later B2.out (Nat.le_refl _))).mono ?_
    rintro e w3 ⟨rfl, b1⟩
    have hC3 := HC2.out.later b1
    have B3 := Lib.hid (B2.out.trans (b1.mono B2.out.size))
    have qHMO := HMO.out.later b1 (Nat.le_refl _)
    clear HC2 B2 b1 c0 c1 c2 c3 s1 HMO
    have HMO := Lib.hid qHMO; clear qHMO
    obtain ⟨c0, c1, c2, c3, s1⟩ := hC3.open_
    have HC3 := Lib.hid hC3; clear hC3
    by_cases he : errO p ws wl = 0
    rotate_left
    · have heb : (errO p ws wl != 0) = true := by simpa using he
      generalize errO p ws wl = E at *
      have HE := Lib.hid he; clear he
      go_wp2_with fail
      refine (shown_ _ (HT.out.later B3.out (Nat.le_refl _))).mono ?_
      rintro e w4 ⟨rfl, b1⟩
      have B4 := Lib.hid (B3.out.trans (b1.mono B3.out.size))
      clear b1
      go_wp2
      go_ret
      exact ⟨rfl, B4.out⟩
    have hn4 : ws.length ≤ 400 := by have := (okAll (errO_zero he).1).2.2.1; omega
    have hpl : ∀ x ∈ ws, 0 ≤ x.pl ∧ x.pl ≤ 22 := fun x hx => by
      obtain ⟨_, hp, _, hall⟩ := okAll (errO_zero he).1
      have := hall x hx
      omega
    rw [he]
    have hn9 : ws.length ≤ 9 := by omega
    have hn2 : 2 ≤ ws.length := by omega
    obtain ⟨hab1, hab2, hab3⟩ := wAB xa xb hn2
    have he2 : errO p ws (wl ++ [((wA ws.length xa : Int), (wB ws.length xa xb : Int))]) = 0 := err_more he (by omega) (by omega) (by omega) (by omega) (by omega) (by omega)
    clear f1 f3 f4 f5 f6 f7
    have HE := Lib.hid he; have HPL := Lib.hid hpl; have HN4 := Lib.hid hn4; have HE2 := Lib.hid he2; clear he hpl hn4 he2
    have m0 := cell_of_row _ _ 0 _ _ _ HMO.out
    have m1 := cell_of_row _ _ 1 _ _ _ HMO.out
    have ml := lt_of_block HMO.out
    simp only [List.getElem?_toArray, List.getElem?_cons_zero, List.getElem?_cons_succ] at m0 m1
    have r1 : IntKind.i64.wrap (xa : Int) = (xa : Int) := IntWalk.i64_in _ (by have := HXA.out; omega)
    have r2 : IntKind.i64.wrap (xb : Int) = (xb : Int) := IntWalk.i64_in _ (by have := HXB.out; omega)
    have r3 : Int.tmod (xa : Int) (ws.length : Int) = ((wA ws.length xa : Nat) : Int) := (Int.ofNat_tmod _ _).symm
    have r4 : IntKind.i64.wrap ((ws.length : Int) - 1) = ((ws.length - 1 : Nat) : Int) := by rw [IntWalk.i64_in _ (by omega)]; omega
    have r5 : Int.tmod (xb : Int) ((ws.length - 1 : Nat) : Int) = ((xb % (ws.length - 1) : Nat) : Int) := (Int.ofNat_tmod _ _).symm
    have r6 : IntKind.i64.wrap ((wA ws.length xa : Nat) : Int) = ((wA ws.length xa : Nat) : Int) := IntWalk.i64_in _ (by omega)
    have hd := Nat.mod_lt xb (show 0 < ws.length - 1 by omega)
    have r7 : IntKind.i64.wrap (((wA ws.length xa : Nat) : Int) + 1) = ((wA ws.length xa + 1 : Nat) : Int) := by rw [IntWalk.i64_in _ (by omega)]; push_cast; rfl
    have r8 : IntKind.i64.wrap ((xb % (ws.length - 1) : Nat) : Int) = ((xb % (ws.length - 1) : Nat) : Int) := IntWalk.i64_in _ (by omega)
    have r9 : IntKind.i64.wrap (((wA ws.length xa + 1 : Nat) : Int) + ((xb % (ws.length - 1) : Nat) : Int)) = ((wA ws.length xa + 1 + xb % (ws.length - 1) : Nat) : Int) := by rw [IntWalk.i64_in _ (by omega)]; push_cast; rfl
    have r10 : Int.tmod ((wA ws.length xa + 1 + xb % (ws.length - 1) : Nat) : Int) (ws.length : Int) = ((wB ws.length xa xb : Nat) : Int) := (Int.ofNat_tmod _ _).symm
    have r12 : wrap64 (((wA ws.length xa : Nat) : Int) + 1 + ((xb % (ws.length - 1) : Nat) : Int)) = ((wA ws.length xa : Nat) : Int) + 1 + ((xb % (ws.length - 1) : Nat) : Int) := IntWalk.wrap64_in _ (by omega)
    have r13 : Int.tmod (((wA ws.length xa : Nat) : Int) + 1 + ((xb % (ws.length - 1) : Nat) : Int)) (ws.length : Int) = ((wB ws.length xa xb : Nat) : Int) := by
      rw [← r10]; push_cast; rfl
    have r11 : IntKind.i64.wrap ((wB ws.length xa xb : Nat) : Int) = ((wB ws.length xa xb : Nat) : Int) := IntWalk.i64_in _ (by omega)
    have u1 : ¬ (ws.length : Int) = 0 := by omega
    have u2 : ((ws.length : Int) == 0) = false := by rw [beq_eq_false_iff_ne]; omega
    have u3 : ¬ ((ws.length - 1 : Nat) : Int) = 0 := by omega
    have u4 : (((ws.length - 1 : Nat) : Int) == 0) = false := by rw [beq_eq_false_iff_ne]; omega
    have hwl60 : wl.length < 60 := by omega
    have HAB1 := Lib.hid hab1; have HAB2 := Lib.hid hab2; have HAB3 := Lib.hid hab3; have HN9 := Lib.hid hn9; have HN2 := Lib.hid hn2; have HMID := Lib.hid hmid; have HLOW := Lib.hid hlow; have HWL := Lib.hid hwl; have HD := Lib.hid hd; have HWL60 := Lib.hid hwl60; clear hab1 hab2 hab3 hn9 hn2 hmid hlow hwl hd hwl60
    generalize wA ws.length xa = na at *
    generalize wB ws.length xa xb = nb at *
    generalize xb % (ws.length - 1) = nd at *
    generalize ws.length - 1 = n1 at *
    go_upto_region 4 with fail
    go_quiet (fail)
    obtain ⟨w4, hw4⟩ : ∃ w4 : World, w4 = w3.drewN nq := ⟨_, rfl⟩
    rw [← hw4]
    have b1 : Below w3.heap.size w3 w4 := by rw [hw4]; exact below_drewN (Below.refl _ _) _
    clear hw4 m0 m1 ml r1 r2 r3 r4 r5 r6 r7 r8 r9 r10 r11 r12 r13 u1 u2 u3 u4 HMO
    have hC4 := HC3.out.later b1
    have B4 := Lib.hid (B3.out.trans (b1.mono B3.out.size))
    clear HC3 B3 b1 c0 c1 c2 c3 s1 
    obtain ⟨c0, c1, c2, c3, s1⟩ := hC4.open_
    have HC4 := Lib.hid hC4; clear hC4
    have hlt4 := HL.out.later B4.out (Nat.le_refl _)
    have HLT4 := Lib.hid hlt4; clear hlt4
    go_upto_region 6 with (first
      | (at_builtin; refine wpList_copyP_Tryd rfl _ _ rfl w4.heap.size (.slice (some ⟨w4.heap.size, 0, none⟩) 0 0) rfl (own_emptyP (heap_alloc_new _ _) (Nat.le_refl _)) Wa wcp wl rfl (HLT4.out.later ((Below.refl _ _).alloc (Nat.le_refl _) _) (Nat.le_refl _)) (by have := HWL60.out; omega) (by simp) ?_; intro A5 k5 wt hown5 hgrow5; have hb5 : Below w4.heap.size w4 wt := ((Below.refl _ _).alloc (Nat.le_refl _) _).grown hgrow5 (by simp) (fun k hk => by simp [Value.ownBlock] at hk; omega))
      | (at_builtin; refine wpList_appP_Tryd rfl _ _ rfl w4.heap.size (.slice A5 wl.length k5) wl rfl (hown5.alloc _) wt.heap.size ((na : Int), (nb : Int)) rfl (heap_alloc_new _ _) (by have := HWL60.out; omega) (by have := hb5.size; simp; omega) ?_; intro g6 k6 w5 hown6 hgrow6 hat6 hlt6))
    have b1 : Below w4.heap.size w4 w5 := (hb5.alloc hb5.size _).grown hgrow6 (by have := hb5.size; simp; omega) (fun k hk => (hown5.lt k hk).1)
    obtain ⟨wl2, hwl2⟩ : ∃ wl2, wl2 = wl ++ [((na : Int), (nb : Int))] := ⟨_, rfl⟩
    have hl2 : wl2.length = wl.length + 1 := by rw [hwl2]; simp
    have h1 : RdP w5 (some ⟨g6, 0, none⟩) wl2 := by
      rw [← hwl2, hl2] at hown6
      exact RdP.of_own hown6 (by have := HWL60.out; omega)
    have he2 : errO p ws wl2 = 0 := by rw [hwl2]; exact HE2.out
    have p1 : (lstO ws wl2).isSome = true → (lstO ws wl).isSome = true := fun h => by
      rw [hwl2] at h
      exact lst_some (ord_more _ (lst_ord HE2.out h))
    have p2 : (lstO ws wl2).isSome = true → lessL (lstL p ws wl2) (lstL p ws wl) = false := fun h => by
      rw [hwl2] at h ⊢
      exact lst_more _ HE.out HE2.out h
    have p3 : (lstO ws wl2).isSome = true → nrN p ws wl ≤ nrN p ws wl2 := fun h => by
      rw [hwl2] at h ⊢
      exact near_more _ HE.out HE2.out h (by have := HN9.out; omega)
    have p4 : cU ws.length (LO ws wl2) 0 ≤ cU ws.length (LO ws wl) 0 := by rw [hwl2]; exact cU_less _
    clear HE2 hwl2 hown5 hown6 hgrow5 hgrow6 hat6 hlt6 hb5
    have HL2 := Lib.hid hl2; have HE2 := Lib.hid he2; have P1 := Lib.hid p1; have P2 := Lib.hid p2; have P3 := Lib.hid p3; have P4 := Lib.hid p4; clear hl2 he2 p1 p2 p3 p4
    have hC5 := HC4.out.later b1
    have B5 := Lib.hid (B4.out.trans (b1.mono B4.out.size))
    clear HC4 B4 b1 c0 c1 c2 c3 s1 
    obtain ⟨c0, c1, c2, c3, s1⟩ := hC5.open_
    have HW := Lib.hid h1; clear h1
    have HC5 := Lib.hid hC5; clear hC5
    go_wp2_with fail
    refine (oLeast_ p A Wa c wcp ws wl _ (HA.out.later B5.out (Nat.le_refl _)) (HL.out.later B5.out (Nat.le_refl _))).mono ?_
    rintro e w6 ⟨v, rfl, ⟨PA, pa, rfl, h1⟩, _, b1⟩
    have hC6 := HC5.out.later b1
    have B6 := Lib.hid (B5.out.trans (b1.mono B5.out.size))
    have qHW := HW.out.later b1 (Nat.le_refl _)
    clear HC5 B5 b1 c0 c1 c2 c3 s1 HW
    have HW := Lib.hid qHW; clear qHW
    obtain ⟨c0, c1, c2, c3, s1⟩ := hC6.open_
    have HP := Lib.hid h1; clear h1
    have HC6 := Lib.hid hC6; clear hC6
    have hcall := oLeast_ p A (some ⟨g6, 0, none⟩) c k6 ws wl2 w6 (HA.out.later B6.out (Nat.le_refl _)) HW.out
    rw [HL2.out] at hcall
    have HCALL := Lib.hid hcall; clear hcall
    go_wp2_with fail
    refine (HCALL.out).mono ?_
    rintro e w7 ⟨v, rfl, ⟨QA, qa, rfl, h1⟩, _, b1⟩
    clear HCALL
    have hC7 := HC6.out.later b1
    have B7 := Lib.hid (B6.out.trans (b1.mono B6.out.size))
    have qHW := HW.out.later b1 (Nat.le_refl _)
    have qHP := HP.out.later b1 (Nat.le_refl _)
    clear HC6 B6 b1 c0 c1 c2 c3 s1 HW HP
    have HW := Lib.hid qHW; clear qHW
    have HP := Lib.hid qHP; clear qHP
    obtain ⟨c0, c1, c2, c3, s1⟩ := hC7.open_
    have HQ := Lib.hid h1; clear h1
    have HC7 := Lib.hid hC7; clear hC7
    cases hs2 : (lstO ws wl2).isSome with
    | false =>
      have e2 := lstX_none (p := p) HE2.out hs2
      cases hs1 : (lstO ws wl).isSome with
      | false =>
        have e1 := lstX_none (p := p) HE.out hs1
        rw [e1, e2]
        have E1 := Lib.hid e1; have E2 := Lib.hid e2; have HS1 := Lib.hid hs1; have HS2 := Lib.hid hs2; clear e1 e2 hs1 hs2
        go_wp2_with fail
        refine (shown_ _ (HT.out.later B7.out (Nat.le_refl _))).mono ?_
        rintro e w8 ⟨rfl, b1⟩
        have B8 := Lib.hid (B7.out.trans (b1.mono B7.out.size))
        clear b1
        go_wp2
        go_ret
        exact ⟨rfl, B8.out⟩
      | true =>
        have e1 := lstX_zero (p := p) HE.out hs1
        rw [e1, e2]
        have E1 := Lib.hid e1; have E2 := Lib.hid e2; have HS1 := Lib.hid hs1; have HS2 := Lib.hid hs2; clear e1 e2 hs1 hs2
        go_wp2_with fail
        refine (shown_ _ (HT.out.later B7.out (Nat.le_refl _))).mono ?_
        rintro e w8 ⟨rfl, b1⟩
        have B8 := Lib.hid (B7.out.trans (b1.mono B7.out.size))
        clear b1
        go_wp2
        go_ret
        exact ⟨rfl, B8.out⟩
    | true =>
      have hs1 := P1.out hs2
      have e1 := lstX_zero (p := p) HE.out hs1
      have e2 := lstX_zero (p := p) HE2.out hs2
      have o1 := lst_ord (p := p) HE.out hs1
      have o2 := lst_ord (p := p) HE2.out hs2
      have q2 := P2.out hs2
      have q3 := P3.out hs2
      have q4 := P4.out
      have q5 := rk_lt o2
      obtain ⟨v1, x1⟩ := cnt_small (p := p) (ws := ws) (wl := wl) HE.out (by have := HN9.out; omega)
      obtain ⟨v2, x2⟩ := cnt_small (p := p) (ws := ws) (wl := wl2) HE2.out (by have := HN9.out; omega)
      have x3 := (near_ok HE.out o1 (by have := HN9.out; omega)).1
      have x4 := (near_ok HE2.out o2 (by have := HN9.out; omega)).1
      have hll : (lstL p ws wl2).length = (lstL p ws wl).length := by rw [(ordB_iff.1 o1).1, (ordB_iff.1 o2).1]
      have f5 : (((lstL p ws wl).length : Int) != ((lstL p ws wl2).length : Int)) = false := by rw [hll]; simp
      rw [e1, e2]
      clear o1 o2
      have E1 := Lib.hid e1; have E2 := Lib.hid e2; have HS1 := Lib.hid hs1; have HS2 := Lib.hid hs2; have Q2 := Lib.hid q2; have Q3 := Lib.hid q3; have Q4 := Lib.hid q4; have Q5 := Lib.hid q5; have V1 := Lib.hid v1; have X1 := Lib.hid x1; have V2 := Lib.hid v2; have X2 := Lib.hid x2; have X3 := Lib.hid x3; have X4 := Lib.hid x4; have HLL := Lib.hid hll; clear e1 e2 hs1 hs2 q2 q3 q4 q5 v1 x1 v2 x2 x3 x4 hll
      go_wp2_with fail
      refine (less13_ QA PA qa pa (lstL p ws wl2) (lstL p ws wl) _ HQ.out HP.out HLL.out).mono ?_
      rintro e w8 ⟨rfl, b1⟩
      rw [Q2.out]
      have hC8 := HC7.out.later b1
      have B8 := Lib.hid (B7.out.trans (b1.mono B7.out.size))
      have qHW := HW.out.later b1 (Nat.le_refl _)
      have qHP := HP.out.later b1 (Nat.le_refl _)
      have qHQ := HQ.out.later b1 (Nat.le_refl _)
      clear HC7 B7 b1 c0 c1 c2 c3 s1 HW HP HQ
      have HW := Lib.hid qHW; clear qHW
      have HP := Lib.hid qHP; clear qHP
      have HQ := Lib.hid qHQ; clear qHQ
      obtain ⟨c0, c1, c2, c3, s1⟩ := hC8.open_
      have HC8 := Lib.hid hC8; clear hC8
      go_wp2_with fail
      refine (oCount_ p A Wa c wcp ws wl _ (HA.out.later B8.out (Nat.le_refl _)) (HL.out.later B8.out (Nat.le_refl _)) (HT.out.later B8.out (Nat.le_refl _))).mono ?_
      rintro e w9 ⟨rfl, b1⟩
      rw [V1.out, X1.out]
      have hC9 := HC8.out.later b1
      have B9 := Lib.hid (B8.out.trans (b1.mono B8.out.size))
      have qHW := HW.out.later b1 (Nat.le_refl _)
      have qHP := HP.out.later b1 (Nat.le_refl _)
      have qHQ := HQ.out.later b1 (Nat.le_refl _)
      clear HC8 B8 b1 c0 c1 c2 c3 s1 HW HP HQ
      have HW := Lib.hid qHW; clear qHW
      have HP := Lib.hid qHP; clear qHP
      have HQ := Lib.hid qHQ; clear qHQ
      obtain ⟨c0, c1, c2, c3, s1⟩ := hC9.open_
      have HC9 := Lib.hid hC9; clear hC9
      have hcall := oCount_ p A (some ⟨g6, 0, none⟩) c k6 ws wl2 w9 (HA.out.later B9.out (Nat.le_refl _)) HW.out (HT.out.later B9.out (Nat.le_refl _))
      rw [HL2.out] at hcall
      have HCALL := Lib.hid hcall; clear hcall
      go_wp2_with fail
      refine (HCALL.out).mono ?_
      rintro e w10 ⟨rfl, b1⟩
      clear HCALL
      rw [V2.out, X2.out]
      have hC10 := HC9.out.later b1
      have B10 := Lib.hid (B9.out.trans (b1.mono B9.out.size))
      have qHW := HW.out.later b1 (Nat.le_refl _)
      have qHP := HP.out.later b1 (Nat.le_refl _)
      have qHQ := HQ.out.later b1 (Nat.le_refl _)
      clear HC9 B9 b1 c0 c1 c2 c3 s1 HW HP HQ
      have HW := Lib.hid qHW; clear qHW
      have HP := Lib.hid qHP; clear qHP
      have HQ := Lib.hid qHQ; clear qHQ
      obtain ⟨c0, c1, c2, c3, s1⟩ := hC10.open_
      have HC10 := Lib.hid hC10; clear hC10
      go_wp2_with fail
      refine (oNear_ p A Wa c wcp ws wl _ (HA.out.later B10.out (Nat.le_refl _)) (HL.out.later B10.out (Nat.le_refl _))).mono ?_
      rintro e w11 ⟨v, rfl, ⟨RA, ra, rfl, _⟩, _, b1⟩
      rw [X3.out]
      have hC11 := HC10.out.later b1
      have B11 := Lib.hid (B10.out.trans (b1.mono B10.out.size))
      have qHW := HW.out.later b1 (Nat.le_refl _)
      have qHP := HP.out.later b1 (Nat.le_refl _)
      have qHQ := HQ.out.later b1 (Nat.le_refl _)
      clear HC10 B10 b1 c0 c1 c2 c3 s1 HW HP HQ
      have HW := Lib.hid qHW; clear qHW
      have HP := Lib.hid qHP; clear qHP
      have HQ := Lib.hid qHQ; clear qHQ
      obtain ⟨c0, c1, c2, c3, s1⟩ := hC11.open_
      have HC11 := Lib.hid hC11; clear hC11
      have hcall := oNear_ p A (some ⟨g6, 0, none⟩) c k6 ws wl2 w11 (HA.out.later B11.out (Nat.le_refl _)) HW.out
      rw [HL2.out] at hcall
      have HCALL := Lib.hid hcall; clear hcall
      go_wp2_with fail
      refine (HCALL.out).mono ?_
      rintro e w12 ⟨v, rfl, ⟨SA, sa, rfl, _⟩, _, b1⟩
      clear HCALL
      rw [X4.out]
      have hC12 := HC11.out.later b1
      have B12 := Lib.hid (B11.out.trans (b1.mono B11.out.size))
      have qHW := HW.out.later b1 (Nat.le_refl _)
      have qHP := HP.out.later b1 (Nat.le_refl _)
      have qHQ := HQ.out.later b1 (Nat.le_refl _)
      clear HC11 B11 b1 c0 c1 c2 c3 s1 HW HP HQ
      have HW := Lib.hid qHW; clear qHW
      have HP := Lib.hid qHP; clear qHP
      have HQ := Lib.hid qHQ; clear qHQ
      obtain ⟨c0, c1, c2, c3, s1⟩ := hC12.open_
      have HC12 := Lib.hid hC12; clear hC12
      have y1 := Q3.out
      have y2 := Q4.out
      have y3 : 0 < cU ws.length (LO ws wl2) 0 := by have := Q5.out; omega
      clear f5
      generalize nrN p ws wl = T1 at *
      generalize nrN p ws wl2 = T2 at *
      generalize cU ws.length (LO ws wl) 0 = U1 at *
      generalize cU ws.length (LO ws wl2) 0 = U2 at *
      have z1 : (U2 : Int) ≤ (U1 : Int) := by omega
      have z2 : (0 : Int) < (U2 : Int) := by omega
      have z3 : (T1 : Int) ≤ (T2 : Int) := by omega
      have z4 : decide ((U2 : Int) ≤ (U1 : Int)) = true := decide_eq_true z1
      have z5 : decide ((0 : Int) < (U2 : Int)) = true := decide_eq_true z2
      have z6 : decide ((T1 : Int) ≤ (T2 : Int)) = true := decide_eq_true z3
      have Y1 := Lib.hid y1; have Y2 := Lib.hid y2; have Y3 := Lib.hid y3; clear y1 y2 y3
      go_wp2_with fail
      refine (shown_ _ (HT.out.later B12.out (Nat.le_refl _))).mono ?_
      rintro e w13 ⟨rfl, b1⟩
      have B13 := Lib.hid (B12.out.trans (b1.mono B12.out.size))
      clear b1
      go_wp2
      go_ret
      exact ⟨rfl, B13.out⟩
theorem lawWishesI_ (p : Int) (A Wa B : Option Addr) (c wcp lc : Nat) (ws : List GW) (wl : List (Int × Int)) (l : List Int) (xa xb : Int) (ka : 0 ≤ xa ∧ xa ≤ 255) (kb : 0 ≤ xb ∧ xb ≤ 255) (w : World) (ha : ShIn w p A ws) (hl : RdP w Wa wl) (ho : RdI w B l) (hlc : l.length ≤ lc) (hT : Tz w) :
    Calls Tryd.prog 6 #[.agg #[.int .i64 p, .slice A ws.length c, .slice Wa wl.length wcp, .slice B l.length lc], .agg #[.int .u8 xa, .int .u8 xb]] w fun e w' => e = .returned (.bool true) ∧ Below w.heap.size w w' := by
  obtain ⟨a, rfl⟩ := Int.eq_ofNat_of_zero_le ka.1
  obtain ⟨b, rfl⟩ := Int.eq_ofNat_of_zero_le kb.1
  exact lawWishes_ p A Wa B c wcp lc ws wl l a b (by omega) (by omega) w ha hl ho hlc hT
end Go.Proofs.YtlpfecjkkgccgaaDoor
