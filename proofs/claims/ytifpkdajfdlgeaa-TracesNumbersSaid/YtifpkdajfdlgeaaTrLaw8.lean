/- The law TracesNumbers: its walk. -/
import Derived.Test.YtifpkdajfdlgeaaTrLad
import Derived.Test.YtifpkdajfdlgeaaTrLaw6
namespace Go.Proofs.Ytifpkdajfdlgeaa
open Go.RowKit

theorem nums {p : Int} {ws : List GW} (he : errSheet p ws = 0) (h12 : ws.length ≤ 12) : cntdErr p ws = 0 ∧ cntdNum p ws = cntN ws.length (befW ws) 0 ∧ 1 ≤ cntN ws.length (befW ws) 0 ∧ cntN ws.length (befW ws) 0 ≤ 479001600 := by
  have h1 := cntN_ge_one ws ws.length 0 (miss_zero _) (Nat.two_pow_pos _)
  have h2 := cntN_le_fac ws.length (befW ws) ws.length 0 (miss_zero _) (Nat.two_pow_pos _)
  have h3 := fac_le h12
  rw [fac_12] at h3
  have hc : cntdErr p ws = 0 := by unfold cntdErr; rw [if_neg (by rw [he]; simp), if_neg (by omega), if_neg (by omega)]
  exact ⟨hc, (cntd_ok hc).2.2.2, h1, by omega⟩
theorem nth_facts {p : Int} {ws : List GW} {i : Int} (hc : cntdErr p ws = 0) (h0 : 0 ≤ i) (h1 : i < cntN ws.length (befW ws) 0) :
    nthX p ws i = 0 ∧ (nthL p ws i).length = ws.length ∧ ordB ws (nthL p ws i) = true ∧ rankX p ws (nthL p ws i) = 0 ∧ rankN p ws (nthL p ws i) = i := by
  obtain ⟨_, _, hle, hnum⟩ := cntd_ok hc
  have hx : nthX p ws i = 0 := by unfold nthX; rw [if_neg (by rw [hc]; simp), if_neg (by omega), if_neg (by rw [hnum]; omega)]
  have hl : nthL p ws i = nthRun ws.length (befW ws) ws.length 0 i := by unfold nthL; rw [if_pos hx]
  obtain ⟨g1, g2, g3⟩ := nth_rank (n := ws.length) (bef := befW ws) ws.length 0 i (miss_zero _) (Nat.two_pow_pos _) h0 h1 hle
  have ho : ordB ws (nthL p ws i) = true := by rw [hl, rank_ord g1 g2]; unfold rankO; rw [g3]; rfl
  have hrx : rankX p ws (nthL p ws i) = 0 := by unfold rankX; rw [if_neg (by rw [hc]; simp), if_pos ho]
  exact ⟨hx, by rw [hl]; exact g1, ho, hrx, by unfold rankN; rw [if_pos hrx, hl]; unfold rankO; rw [g3]; rfl⟩
theorem nth_over {p : Int} {ws : List GW} (hc : cntdErr p ws = 0) (h1 : 1 ≤ cntN ws.length (befW ws) 0) : nthX p ws (cntN ws.length (befW ws) 0) = 4 := by
  obtain ⟨_, _, hle, hnum⟩ := cntd_ok hc
  unfold nthX; rw [if_neg (by rw [hc]; simp), if_neg (by omega), if_pos (by rw [hnum]; omega)]
theorem nth_cmp {p : Int} {ws : List GW} {i j : Int} (hc : cntdErr p ws = 0) (h0 : 0 ≤ i) (hij : i ≤ j) (h1 : j < cntN ws.length (befW ws) 0) : (nthL p ws i = nthL p ws j ∧ i = j) ∨ (lexLt (nthL p ws i) (nthL p ws j) ∧ i < j) := by
  obtain ⟨_, _, hle, hnum⟩ := cntd_ok hc
  have hl : ∀ i : Int, 0 ≤ i → i < cntN ws.length (befW ws) 0 → nthL p ws i = nthRun ws.length (befW ws) ws.length 0 i := fun i h0 h1 => by
    unfold nthL; rw [if_pos (nth_facts hc h0 h1).1]
  rw [hl i h0 (by omega), hl j (by omega) h1]
  exact nth_lex ws.length 0 i j (miss_zero _) (Nat.two_pow_pos _) h0 hij h1 hle
theorem lexLt_ne : ∀ {a b : List Int}, lexLt a b → ¬ ∀ z, z < a.length → a.getD z 0 = b.getD z 0
  | [], _, h, _ => h
  | _ :: _, [], h, _ => h
  | x :: l, y :: m, h, hz => by
    have h0 := hz 0 (by simp)
    simp at h0
    rcases h with h | ⟨_, h⟩
    · omega
    · exact lexLt_ne h fun z hz' => by have := hz (z + 1) (by simpa using hz'); simpa using this

set_option maxRecDepth 100000 in
set_option maxHeartbeats 4000000 in
theorem lawNumbers_ (p : Int) (A : Option Addr) (c : Nat) (ws : List GW) (k m : Int) (w : World) (ha : ShIn w p A ws) (hcap : ws.length ≤ c) (hk1 : 0 ≤ k) (hk2 : k < 4294967296) (hm1 : 0 ≤ m) (hm2 : m < 4294967296) :
    Calls Try.prog 11 #[.agg #[.int .i64 p, .slice A ws.length c], .int .u32 k, .int .u32 m] w fun e w' => e = .returned (.bool true) ∧ Below w.heap.size w w' := by
  have hla := ha.rd.1
  have hb2 : Below w.heap.size w (w.alloc (.cells #[.int .i64 p, .slice A ws.length c] 24)) := (Below.refl _ _).alloc (Nat.le_refl _) _
  have Y0 := Lib.hid hb2; clear hb2
  have X0 := Lib.hid (Box1.made w p A c ws.length)
  by_cases he : errSheet p ws = 0
  rotate_left
  · have heb : (errSheet p ws != 0) = true := by simpa using he
    have HA := Lib.hid ha; have HE := Lib.hid he; clear ha he
    go_enter Try.func11, Try.ntmps11
    go_wp2_with fail
    refine (rCheck_ _ _ _ _ _ HA.out.lo HA.out.hi (HA.out.rd.later Y0.out (Nat.le_refl _))).mono ?_; rintro e w1 ⟨rfl, hb1⟩
    have X1 := Lib.hid (X0.out.later hb1); have Y1 := Lib.hid (Y0.out.trans (hb1.mono Y0.out.size)); clear hb1; obtain ⟨c1, c2, s1⟩ := X1.out
    go_wp2_with fail
    clear c1 c2 s1
    refine (awake_ _).mono ?_; rintro e w8 ⟨rfl, hb1⟩
    go_wp2
    go_ret
    exact ⟨rfl, Y1.out.trans (hb1.mono Y1.out.size)⟩
  by_cases h12 : 12 < ws.length
  · have hec := he
    have t1 : (12 : Int) < (ws.length : Int) := by omega
    have HA := Lib.hid ha; have HE := Lib.hid he; clear ha he
    go_enter Try.func11, Try.ntmps11
    go_wp2_with fail
    refine (rCheck_ _ _ _ _ _ HA.out.lo HA.out.hi (HA.out.rd.later Y0.out (Nat.le_refl _))).mono ?_
    rw [hec]
    clear hec
    rintro e w1 ⟨rfl, hb1⟩
    have X1 := Lib.hid (X0.out.later hb1); have Y1 := Lib.hid (Y0.out.trans (hb1.mono Y0.out.size)); clear hb1; obtain ⟨c1, c2, s1⟩ := X1.out
    go_wp2_with fail
    clear c1 c2 s1
    refine (awake_ _).mono ?_; rintro e w8 ⟨rfl, hb1⟩
    go_wp2
    go_ret
    exact ⟨rfl, Y1.out.trans (hb1.mono Y1.out.size)⟩
  · have t1 : ¬ (12 : Int) < (ws.length : Int) := by omega
    obtain ⟨hcd, hnum, hN1, hN2⟩ := nums he (show ws.length ≤ 12 by omega)
    have hok : OkS p ws := he
    obtain ⟨_, hp24, hlen, hall⟩ := hok.all
    have hwsd : ∀ x ∈ ws, 0 ≤ x.pl ∧ x.pl ≤ 22 := fun x hx => by
      obtain ⟨_, h1, h2, _⟩ := hall x hx
      exact ⟨h1, by omega⟩
    have hover := nth_over hcd hN1
    obtain ⟨i, hi⟩ : ∃ i, i = k % cntN ws.length (befW ws) 0 := ⟨_, rfl⟩
    have hi0 : 0 ≤ i := by rw [hi]; exact Int.emod_nonneg _ (by omega)
    have hi1 : i < cntN ws.length (befW ws) 0 := by rw [hi]; exact Int.emod_lt_of_pos _ (by omega)
    have hmod2 : k.tmod (cntN ws.length (befW ws) 0) = i := by rw [hi]; exact Int.tmod_eq_emod_of_nonneg hk1
    have hmod : k % cntN ws.length (befW ws) 0 = i := hi.symm
    obtain ⟨fx1, fl1, fo1, frx, frn⟩ := nth_facts hcd hi0 hi1
    have hlv : levsL p ws = levL ws ws.length := by unfold levsL; rw [if_pos he]
    clear hi
    have key : ∀ j : Int, i ≤ j → j < cntN ws.length (befW ws) 0 → nthX p ws j = 0 ∧ (nthL p ws j).length = ws.length ∧ ordB ws (nthL p ws j) = true ∧ ((nthL p ws i = nthL p ws j ∧ i = j) ∨ (lexLt (nthL p ws i) (nthL p ws j) ∧ i < j)) := fun j hj1 hj2 => by
      obtain ⟨g1, g2, g3, _, _⟩ := nth_facts hcd (show 0 ≤ j by omega) hj2
      exact ⟨g1, g2, g3, nth_cmp hcd hi0 hj1 hj2⟩
    have hec := he
    generalize hNN : cntN ws.length (befW ws) 0 = N at *
    generalize hL1 : nthL p ws i = a at *
    have KEY := Lib.hid key; have HA := Lib.hid ha; have HE := Lib.hid he; have HCD := Lib.hid hcd; have HOK := Lib.hid hok; have HALL := Lib.hid hall; have HWSD := Lib.hid hwsd; have HOVER := Lib.hid hover; have HNN := Lib.hid hNN; have HL1 := Lib.hid hL1; have FX1 := Lib.hid fx1; have FO1 := Lib.hid fo1; have FRX := Lib.hid frx; have FRN := Lib.hid frn; have HLV := Lib.hid hlv; have HNUM := Lib.hid hnum; have FL1 := Lib.hid fl1; clear key ha he hcd hok hall hwsd hover hNN hL1 fx1 fo1 frx frn hlv hnum fl1
    by_cases hmin : N - 1 < i + m
    all_goals
      obtain ⟨j, hj, hj1, hj2⟩ : ∃ j : Int, (if N - 1 < i + m then N - 1 else i + m) = j ∧ i ≤ j ∧ j < N := ⟨_, rfl, by split <;> omega, by split <;> omega⟩
      obtain ⟨ky1, ky2, ky3, ky4⟩ := KEY.out j hj1 hj2
      first | rw [if_pos hmin] at hj | rw [if_neg hmin] at hj
      generalize hL2 : nthL p ws j = b at *
      have KY1 := Lib.hid ky1; have KY2 := Lib.hid ky2; have KY3 := Lib.hid ky3; have KY4 := Lib.hid ky4; have HL2 := Lib.hid hL2; clear ky1 ky2 ky3 ky4 hL2
      have hec2 := hec
      go_enter Try.func11, Try.ntmps11
      go_wp2_with fail
      refine (rCheck_ _ _ _ _ _ HA.out.lo HA.out.hi (HA.out.rd.later Y0.out (Nat.le_refl _))).mono ?_
      rw [hec2]
      clear hec2 hec
      rintro e w1 ⟨rfl, hb1⟩
      have X1 := Lib.hid (X0.out.later hb1); have Y1 := Lib.hid (Y0.out.trans (hb1.mono Y0.out.size)); clear hb1; obtain ⟨c1, c2, s1⟩ := X1.out
      go_wp2_with fail
      clear c1 c2 s1
      refine (tOrders_ p A c ws _ (HA.out.later Y1.out (Nat.le_refl _)) hcap).mono ?_
      rw [HCD.out, HNUM.out]
      rintro e w2 ⟨rfl, hb1⟩
      have X2 := Lib.hid (X1.out.later hb1); have Y2 := Lib.hid (Y1.out.trans (hb1.mono Y1.out.size)); clear hb1; obtain ⟨c1, c2, s1⟩ := X2.out
      go_wp2_with fail
      clear c1 c2 s1
      refine (tLevels_ p A c ws _ (HA.out.later Y2.out (Nat.le_refl _))).mono ?_
      rw [HLV.out, HE.out]
      rintro e w3 ⟨_, rfl, ⟨LL, lk, rfl, hLL⟩, hb1⟩
      have HLL := Lib.hid hLL; clear hLL
      rw [levL_length]
      have X3 := Lib.hid (X2.out.later hb1); have Y3 := Lib.hid (Y2.out.trans (hb1.mono Y2.out.size)); clear hb1; obtain ⟨c1, c2, s1⟩ := X3.out
      go_wp2_with fail
      clear c1 c2 s1
      refine (ladder_ p A LL c lk ws _ (HA.out.rd.later Y3.out (Nat.le_refl _)) HLL.out (by omega) HWSD.out).mono ?_; rintro e w4 ⟨rfl, hb1⟩
      have X4 := Lib.hid (X3.out.later hb1); have Y4 := Lib.hid (Y3.out.trans (hb1.mono Y3.out.size)); clear hb1; obtain ⟨c1, c2, s1⟩ := X4.out
      go_wp2_with fail
      clear c1 c2 s1
      refine (tNth_ p A c ws i _ (HA.out.later Y4.out (Nat.le_refl _)) hcap (by omega) (by omega)).mono ?_
      rw [HL1.out, FX1.out]
      rintro e w5 ⟨_, rfl, ⟨A1, k1, rfl, h1⟩, hb1⟩
      have H1 := Lib.hid h1; clear h1
      have X5 := Lib.hid (X4.out.later hb1); have Y5 := Lib.hid (Y4.out.trans (hb1.mono Y4.out.size)); clear hb1; obtain ⟨c1, c2, s1⟩ := X5.out
      go_wp2_with fail
      clear c1 c2 s1
      clear hj
      refine (tNth_ p A c ws j _ (HA.out.later Y5.out (Nat.le_refl _)) hcap (by omega) (by omega)).mono ?_
      rw [HL2.out, KY1.out]
      rintro e w6 ⟨_, rfl, ⟨A2, k2, rfl, h2⟩, hb1⟩
      have H2 := Lib.hid h2; have I1 := Lib.hid (H1.out.later hb1 (Nat.le_refl _)); clear h2 H1
      have X6 := Lib.hid (X5.out.later hb1); have Y6 := Lib.hid (Y5.out.trans (hb1.mono Y5.out.size)); clear hb1; obtain ⟨c1, c2, s1⟩ := X6.out
      go_wp2_with fail
      clear c1 c2 s1
      refine (tRank_ p A A1 c k1 ws a _ (HA.out.later Y6.out (Nat.le_refl _)) hcap I1.out).mono ?_
      rw [FRN.out, FRX.out]
      rintro e w7 ⟨rfl, hb1⟩
      have J1 := Lib.hid (I1.out.later hb1 (Nat.le_refl _)); have J2 := Lib.hid (H2.out.later hb1 (Nat.le_refl _)); clear I1 H2
      have X7 := Lib.hid (X6.out.later hb1); have Y7 := Lib.hid (Y6.out.trans (hb1.mono Y6.out.size)); clear hb1; obtain ⟨c1, c2, s1⟩ := X7.out
      go_wp2_with fail
      clear c1 c2 s1
      refine (tNth_ p A c ws N _ (HA.out.later Y7.out (Nat.le_refl _)) hcap (by omega) (by omega)).mono ?_
      rw [HOVER.out]
      rintro e w8 ⟨_, rfl, ⟨A3, k3, rfl, h3⟩, hb1⟩
      have K1 := Lib.hid (J1.out.later hb1 (Nat.le_refl _)); have K2 := Lib.hid (J2.out.later hb1 (Nat.le_refl _)); clear J1 J2 h3
      generalize (nthL p ws N).length = n3 at *
      have ni : (i != i) = false := by simp
      have X8 := Lib.hid (X7.out.later hb1); have Y8 := Lib.hid (Y7.out.trans (hb1.mono Y7.out.size)); clear hb1; obtain ⟨c1, c2, s1⟩ := X8.out
      go_wp2_with fail
      clear c1 c2 s1
      refine (rOrder_ p A A1 c k1 ws a _ (HA.out.rd.later Y8.out (Nat.le_refl _)) K1.out (by omega) HWSD.out).mono ?_
      rw [FO1.out]
      rintro e w9 ⟨rfl, hb1⟩
      have M1 := Lib.hid (K1.out.later hb1 (Nat.le_refl _)); have M2 := Lib.hid (K2.out.later hb1 (Nat.le_refl _)); clear K1 K2
      have X9 := Lib.hid (X8.out.later hb1); have Y9 := Lib.hid (Y8.out.trans (hb1.mono Y8.out.size)); clear hb1; obtain ⟨c1, c2, s1⟩ := X9.out
      go_wp2_with fail
      clear c1 c2 s1
      refine (rOrder_ p A A2 c k2 ws b _ (HA.out.rd.later Y9.out (Nat.le_refl _)) M2.out (by omega) HWSD.out).mono ?_
      rw [KY3.out]
      rintro e w10 ⟨rfl, hb1⟩
      have N1 := Lib.hid (M1.out.later hb1 (Nat.le_refl _)); have N2 := Lib.hid (M2.out.later hb1 (Nat.le_refl _)); clear M1 M2
      have Y10 := Lib.hid (Y9.out.trans (hb1.mono Y9.out.size)); clear hb1
      have hal : a.length ≤ 12 := by rw [FL1.out]; omega
      go_wp2
      go_loopw [19] (fun yv wr => ∃ y : Nat, yv = .int .i64 y ∧ y ≤ a.length ∧ (∀ z, z < y → a.getD z 0 = b.getD z 0) ∧ Below w10.heap.size w10 wr) (fun yv _ => a.length - (intOf yv).toNat)
      case atStart => exact ⟨0, rfl, Nat.zero_le _, fun z hz => absurd hz (by omega), Below.refl _ _⟩
      case round =>
        obtain ⟨y, rfl, hy, heq, hbw⟩ := hrel
        have hbW : Below w.heap.size w wr := Y10.out.trans (hbw.mono Y10.out.size)
        by_cases hlt : y < a.length
        · have hlb : y < b.length := by rw [KY2.out, ← FL1.out]; exact hlt
          obtain ⟨ba, oa, hA1, hba, p1⟩ := (N1.out.later hbw (Nat.le_refl _)).at_ hlt
          obtain ⟨bb, ob, hA2, hbb, p2⟩ := (N2.out.later hbw (Nat.le_refl _)).at_ hlb
          subst hA1; subst hA2
          have g1 : a.getD y 0 = a[y] := by simp [List.getD_eq_getElem?_getD, hlt]
          have g2 : b.getD y 0 = b[y] := by simp [List.getD_eq_getElem?_getD, hlb]
          have x1 : (0 : Int) ≤ (y : Int) := by omega
          have x2 : (y : Int) < (a.length : Int) := by omega
          have x3 : (y : Int) < (b.length : Int) := by omega
          by_cases hxy : a[y] = b[y]
          · have hbne : (a[y] != b[y]) = false := by simp [hxy]
            have heq2 : ∀ z, z < y + 1 → a.getD z 0 = b.getD z 0 := fun z hz => by
              rcases Nat.lt_or_ge z y with h | h
              · exact heq z h
              · obtain rfl : z = y := by omega
                rw [g1, g2, hxy]
            clear g1 g2
            generalize a[y] = u at *
            generalize b[y] = v at *
            clear hbW
            have HEQ := Lib.hid heq; have HEQ2 := Lib.hid heq2; have HBW := Lib.hid hbw; have HXY := Lib.hid hxy; clear heq heq2 hbw hxy
            go_wp2
            go_quiet (fail)
            go_wp2
            go_roundw
            case rel => exact ⟨y + 1, by go_num, by omega, HEQ2.out, below_drewN HBW.out _⟩
            case measure => simp [intOf]; omega
          · have hbne : (a[y] != b[y]) = true := by simpa using hxy
            have hlex : a[y] < b[y] ∧ i < j := by
              rcases KY4.out with ⟨h, _⟩ | ⟨h, h'⟩
              · exfalso; apply hxy; subst h; rfl
              · have := lexLt_at h y heq hlt hlb (by rw [g1, g2]; exact hxy)
                rw [g1, g2] at this
                exact ⟨this, h'⟩
            obtain ⟨hl1, hl2⟩ := hlex
            clear g1 g2
            generalize a[y] = u at *
            generalize b[y] = v at *
            have HBWp := Lib.hid hbW; clear hbW
            have HEQ := Lib.hid heq; have HBW := Lib.hid hbw; have HXY := Lib.hid hxy; clear heq hbw hxy
            go_wp2
            go_quiet (fail)
            go_wp2
            obtain ⟨wz, hwz⟩ : ∃ wz, wz = wr.drewN nq := ⟨_, rfl⟩
            rw [← hwz]
            have pz1 : wz.cell? ⟨ba, oa + y, none⟩ = some (.int .i64 u) := by rw [hwz]; exact p1
            have pz2 : wz.cell? ⟨bb, ob + y, none⟩ = some (.int .i64 v) := by rw [hwz]; exact p2
            have bz1 : ba < wz.heap.size := by rw [hwz]; exact hba
            have bz2 : bb < wz.heap.size := by rw [hwz]; exact hbb
            have hbz : Below wr.heap.size wr wz := by rw [hwz]; exact below_drewN (Below.refl _ _) _
            clear hwz p1 p2 hba hbb
            have HBZ := Lib.hid hbz; clear hbz
            have hbelc : ∀ (u : Bel wz.heap.size wz) b o, b < wz.heap.size → u.wd.cell? ⟨b, o, none⟩ = wz.cell? ⟨b, o, none⟩ := fun u b o h => u.h.cell (p := ⟨b, o, none⟩) h
            have hbeln : Nonempty (Bel wz.heap.size wz) := ⟨⟨wz, Below.refl _ _⟩⟩
            refine wp_region_bel wz.heap.size (by kernel_rfl) (by kernel_rfl) ?_
            repeat (go_big_quiet_step ((go_at_call 14; exact quiet_bel (Nat.le_refl _) (awake_ _))))
            refine wpQuiet_nil ?_
            intro wB hB0; obtain ⟨uB, hu⟩ := hB0; have hbB0 := uB.h; rw [← hu] at hbB0; clear hu uB hbelc hbeln
            obtain ⟨hbB, hcB, hsB⟩ := bcell2 hbB0; clear hbB0
            go_wp2
            go_ret
            exact ⟨rfl, HBWp.out.trans ((HBZ.out.trans (hbB.mono HBZ.out.size)).mono HBWp.out.size)⟩
        · obtain rfl : y = a.length := by omega
          have hij : i = j := by
            rcases KY4.out with ⟨_, h⟩ | ⟨h, _⟩
            · exact h
            · exact absurd heq (lexLt_ne h)
          have hijb : (i == j) = true := by simp [hij]
          have HEQ := Lib.hid heq; have HBW := Lib.hid hbw; have HIJ := Lib.hid hij; clear heq hbw hij
          go_wp2_with fail
          refine (awake_ _).mono ?_; rintro e w12 ⟨rfl, hb1⟩
          go_wp2
          go_ret
          exact ⟨rfl, hbW.trans (hb1.mono hbW.size)⟩
end Go.Proofs.Ytifpkdajfdlgeaa
