/- The reference's Chain. -/
import Derived.Test.YtepdgffccfcfpaaChnX
import Derived.Test.YtepdgffccfcfpaaChnR
import Derived.Test.YtepdgffccfcfpaaRBefore
namespace Go.Proofs.Ytepdgffccfcfpaa
open Go.RowKit

theorem IdB.later {w w' : World} {R m : Nat} {g : Nat → Int} (h : IdB w R m g) (hb : Below w.heap.size w w') : IdB w' R m g := (hb.block R (lt_of_block h)).trans h
theorem IdB.kept {w w' : World} {R m : Nat} {g : Nat → Int} (h : IdB w R m g) {row : Option Nat} (hg : w.grownBy w' row) (hne : some R ≠ row) : IdB w' R m g := (hg.block R (lt_of_block h) hne).trans h
theorem box1_put {w w1 : World} {p : Int} {A : Option Addr} {c n : Nat} (h : Box1 w w1 p A c n) {q : Addr} (hq : q.block ≠ w.heap.size) (u : Value) : Box1 w (w1.setCell q u) p A c n :=
  ⟨(World.cell?_setCell_other _ _ _ _ (fun e => hq (by rw [e]))).trans h.1, (World.cell?_setCell_other _ _ _ _ (fun e => hq (by rw [e]))).trans h.2.1, by simpa using h.2.2⟩
/-- What the list of the reference holds when the works from m on are looked at. -/
structure FarS (T : Nat → Nat → Bool) (b m : Nat) (F : Nat → Int) : Prop where
  ok : ∀ j, m ≤ j → j < b → FarOk T b (F j) j
  no : ∀ j, j < m → F j = 0
  at_b : F b = 0
theorem FarS.val {T : Nat → Nat → Bool} {b m t n : Nat} {F : Nat → Int} (h : FarS T b m F) (hm : m ≤ t) (ht : t ≤ b) (hd : Dst T b n t) : F t = n := by
  by_cases e : t = b
  · subst e
    have := dst_uniq hd (dst_zero.2 rfl)
    subst this
    exact h.at_b
  · rcases h.ok t hm (by omega) with ⟨_, h2⟩ | ⟨n', h1, h2⟩
    · rcases n with _ | n
      · exact absurd (dst_zero.1 hd) e
      · exact absurd hd.1 (h2 n)
    · have := dst_uniq hd h2
      omega
theorem farOk_bd {T : Nat → Nat → Bool} {b j : Nat} {v : Int} (h : FarOk T b v j) : 0 ≤ v ∧ v ≤ b := by
  rcases h with ⟨h1, _⟩ | ⟨n, h1, h2⟩
  · omega
  · have := dst_le h2; omega
theorem partI_bd {T : Nat → Nat → Bool} {b i k : Nat} {v : Int} (h : PartI T b i k v) : 0 ≤ v ∧ v ≤ b + 1 := by
  rcases h with ⟨h1, _⟩ | ⟨n, h1, ⟨x, _, _, _, _, h2⟩, _⟩
  · omega
  · have := dst_le h2; omega
theorem tch_is {ws : List GW} {a b : Nat} (ha : a < ws.length) (hb : b < ws.length) : tch ws a b = touchB ws[a].pl ws[b].pl := by unfold tch; simp [List.getD_eq_getElem?_getD, ha, hb]

theorem touch_isR {b : Bool} (k1 a1 k2 a2 : Int) (s1 s2 : ByteArray) (w : World) (h1 : -1000 ≤ a1) (h1' : a1 ≤ 1000) (h2 : -1000 ≤ a2) (h2' : a2 ≤ 1000) (hb : touchB a1 a2 = b) :
    Calls Try.prog 30 #[.agg #[.int .i64 k1, .int .i64 a1, .string s1], .agg #[.int .i64 k2, .int .i64 a2, .string s2]] w fun e w' => e = .returned (.bool b) ∧ Below w.heap.size w w' := by
  subst hb; exact touch_ k1 a1 k2 a2 s1 s2 w h1 h1' h2 h2'

set_option maxRecDepth 100000 in
set_option maxHeartbeats 8000000 in
theorem rChain_ (p a b : Int) (A : Option Addr) (c : Nat) (ws : List GW) (w : World) (hsh : ShIn w p A ws) :
    Calls Try.prog 25 #[.agg #[.int .i64 p, .slice A ws.length c], .int .i64 a, .int .i64 b] w (ChPost p ws a b w) := by
  have hb2 : Below w.heap.size w (w.alloc (.cells #[.int .i64 p, .slice A ws.length c] 24)) := (Below.refl _ _).alloc (Nat.le_refl _) _
  have hbx := Box1.made w p A c ws.length 24
  have HSH := Lib.hid hsh; have HB2 := Lib.hid hb2; have HBX := Lib.hid hbx; clear hsh hb2 hbx
  go_enter Try.func25, Try.ntmps25
  go_wp2_with fail
  refine (rTwo_ p a b A c ws _ (HSH.out.later HB2.out (Nat.le_refl _))).mono ?_
  rintro e w1 ⟨rfl, hb1⟩
  have hx1 := HBX.out.later hb1
  have Y1 := Lib.hid (HB2.out.trans (hb1.mono (by simp))); clear hb1 HBX
  obtain ⟨c0, c1, hs0⟩ := hx1
  by_cases he : askErr p ws [a, b] = 0
  rotate_left
  · have hr : ChnIs p ws a b (askErr p ws [a, b]) [] := .inl ⟨he, rfl, rfl⟩
    generalize hge : askErr p ws [a, b] = E at *
    have HR := Lib.hid hr; have HGE := Lib.hid hge; clear hr hge
    go_wp2
    go_ret2
    try rw [HGE.out]
    exact ⟨_, _, _, rfl, RdV.nil _, Y1.out, HR.out⟩
  obtain ⟨hok, ⟨z1, z2⟩, z3, z4⟩ := ask_zero he
  obtain ⟨hp3, hp24, hn, hall⟩ := okAll hok
  obtain ⟨i, rfl⟩ := Int.eq_ofNat_of_zero_le z1
  obtain ⟨k, rfl⟩ := Int.eq_ofNat_of_zero_le z3
  have hil : i < ws.length := by omega
  have hkl : k < ws.length := by omega
  have hce := he
  rw [he]
  have hmk := run_make_row' (P := Try.prog) 33 3 (.int .i64 0) 8 Try.underlying33 infoI_Try rfl .i64 .i64 ws.length (by omega) (by omega)
  have hm0 : IdB (w1.alloc (.cells (madeCells #[.int .i64 0] ws.length) 3)) w1.heap.size ws.length (fun _ => 0) := by
    unfold IdB
    rw [heap_alloc_new, idCells_zero]
  have hx2 : Box1 w (w1.alloc (.cells (madeCells #[.int .i64 0] ws.length) 3)) p A c ws.length := (show Box1 w w1 p A c ws.length from ⟨c0, c1, hs0⟩).later ((Below.refl _ _).alloc (Nat.le_refl _) _)
  have hy2 : Below w.heap.size w (w1.alloc (.cells (madeCells #[.int .i64 0] ws.length) 3)) := Y1.out.alloc Y1.out.size _
  have hf0 : FarS (tch ws) k k (fun _ => 0) := ⟨fun j h1 h2 => by omega, fun _ _ => rfl, rfl⟩
  have hkw : IntKind.i64.wrap ((k : Int) - 1) = (k : Int) - 1 := IntWalk.i64_in _ (by omega)
  clear he
  have HCE := Lib.hid hce; have HOK := Lib.hid hok; have HALL := Lib.hid hall; have HM0 := Lib.hid hm0; have HX2 := Lib.hid hx2; have HY2 := Lib.hid hy2; have HF0 := Lib.hid hf0; clear hce hok hall hm0 hx2 hy2 hf0
  go_wp2
  clear hmk
  go_loopw [10] (fun iv wr => ∃ (m : Nat) (F : Nat → Int) (z : Int), iv = .int .i64 z ∧ z = (m : Int) - 1 ∧ m ≤ k ∧ FarS (tch ws) k m F ∧ IdB wr w1.heap.size ws.length F ∧ Box1 w wr p A c ws.length ∧ Below w.heap.size w wr) (fun iv _ => (intOf iv + 1).toNat)
  case atStart => exact ⟨k, _, _, rfl, by first | rfl | exact hkw, Nat.le_refl _, HF0.out, HM0.out, HX2.out, HY2.out⟩
  case round =>
    clear HM0 HX2 HY2 HF0 c0 c1
    obtain ⟨m, F, z, rfl, hz, hmk, hfs, hI, hx, hbw⟩ := hrel
    have hIl := lt_of_block hI
    by_cases hge : (i : Int) ≤ z
    · obtain ⟨x, rfl⟩ : ∃ x, m = x + 1 := ⟨m - 1, by omega⟩
      obtain rfl : z = (x : Int) := by omega
      clear hz
      have hix : i ≤ x := by omega
      have hxk : x < k := by omega
      have hxl : x < ws.length := by omega
      have hpi : PartI (tch ws) k x (x + 1) (F x) := by rw [hfs.no x (by omega)]; exact partI_start x
      have hlow : ∀ j, j < x → F j = 0 := fun j hj => hfs.no j (by omega)
      have hhi := hfs.ok
      have hat := hfs.at_b
      have HFS := Lib.hid hfs; have HI := Lib.hid hI; have HX := Lib.hid hx; have HBW := Lib.hid hbw; have HPI := Lib.hid hpi; have HLOW := Lib.hid hlow; have HHI := Lib.hid hhi; have HAT := Lib.hid hat; clear hfs hI hx hbw hpi hlow hhi hat
      go_wp2
      go_loopw [11] (fun jv wr => ∃ (y : Nat) (F : Nat → Int), jv = .int .i64 (y : Int) ∧ x < y ∧ y ≤ k + 1 ∧ PartI (tch ws) k x y (F x) ∧ (∀ j, j < x → F j = 0) ∧ (∀ j, x + 1 ≤ j → j < k → FarOk (tch ws) k (F j) j) ∧ F k = 0 ∧ IdB wr w1.heap.size ws.length F ∧ Box1 w wr p A c ws.length ∧ Below w.heap.size w wr) (fun jv _ => k + 1 - (intOf jv).toNat)
      case atStart => exact ⟨x + 1, F, by go_num, by omega, by omega, HPI.out, HLOW.out, HHI.out, HAT.out, HI.out, HX.out, HBW.out⟩
      case round =>
        clear HFS HI HX HBW HPI HLOW HHI HAT hIl
        obtain ⟨y, F, rfl, hxy, hyk, hpi, hlow, hhi, hat, hI, hx, hbw⟩ := hrel
        have hIl := lt_of_block hI
        obtain ⟨c0, c1, hs1⟩ := hx
        have hx0 : Hid (Box1 w wr p A c ws.length) := ⟨c0, c1, hs1⟩
        by_cases hyl : y ≤ k
        · have hyw : y < ws.length := by omega
          obtain ⟨b, off, rfl, hbL, t1, t2, t3⟩ := (HSH.out.rd.later hbw (Nat.le_refl _)).at_ hxl
          obtain ⟨b', off', hA', _, u1, u2, u3⟩ := (HSH.out.rd.later hbw (Nat.le_refl _)).at_ hyw
          injection hA' with hA'; injection hA' with hA1 hA2; subst hA1; subst hA2
          obtain ⟨_, p1, p2, _⟩ := HALL.out ws[x] (List.getElem_mem hxl)
          obtain ⟨_, p3, p4, _⟩ := HALL.out ws[y] (List.getElem_mem hyw)
          have htc := tch_is hxl hyw
          have x1 : (0 : Int) ≤ (x : Int) := by omega
          have x2 : (x : Int) < (ws.length : Int) := by omega
          have x3 : (0 : Int) ≤ (y : Int) := by omega
          have x4 : (y : Int) < (ws.length : Int) := by omega
          have x5 : (y : Int) ≤ (k : Int) := by omega
          have e1 := hI.at_ hyw
          have e2 := hI.at_ hxl
          have e3 := hI.free x
          have hnr := near_dst (T := tch ws) (b := k) (v := F y) hyl (fun h => by rw [h]; exact hat) (fun h => hhi y (by omega) h)
          have hput : ∀ v : Int, PartI (tch ws) k x (y + 1) v → PartI (tch ws) k x (y + 1) (updF F x v x) ∧ (∀ j, j < x → updF F x v j = 0) ∧ (∀ j, x + 1 ≤ j → j < k → FarOk (tch ws) k (updF F x v j) j) ∧ updF F x v k = 0 := fun v h =>
            ⟨by rw [updF_same]; exact h, fun j hj => by rw [updF_other _ _ (by omega)]; exact hlow j hj, fun j h1 h2 => by rw [updF_other _ _ (by omega)]; exact hhi j h1 h2, by rw [updF_other _ _ (by omega)]; exact hat⟩
          have hfb : 0 ≤ F y ∧ F y ≤ 500 := by
            by_cases h : y = k
            · rw [h, hat]; omega
            · have := farOk_bd (hhi y (by omega) (by omega)); omega
          have hib := partI_bd hpi
          obtain ⟨hf1, hf2⟩ := hfb
          obtain ⟨hi1, hi2⟩ := hib
          have hIput := fun v => hI.put x v
          generalize hFy : F y = fv at *
          generalize hFx : F x = fi at *
          have xw : IntKind.i64.wrap (fv + 1) = fv + 1 := IntWalk.i64_in _ (by omega)
          by_cases ht : touchB ws[x].pl ws[y].pl = true
          rotate_left
          · have ht' : touchB ws[x].pl ws[y].pl = false := by simpa using ht
            have hpi2 : PartI (tch ws) k x (y + 1) fi := partI_skip hpi (fun h => by rw [htc, ht'] at h; cases h)
            clear ht
            generalize ws[x].pl = pa at *
            generalize ws[y].pl = pb at *
            clear hIput hput hnr
            have HI := Lib.hid hI; have HBW := Lib.hid hbw; have HPI := Lib.hid hpi; have HPI2 := Lib.hid hpi2; have HLOW := Lib.hid hlow; have HHI := Lib.hid hhi; have HAT := Lib.hid hat; have HTC := Lib.hid htc; have HFY := Lib.hid hFy; have HFX := Lib.hid hFx; clear hI hbw hpi hpi2 hlow hhi hat htc hFy hFx
            go_wp2
            have hbelc : ∀ (u : Bel wr.heap.size wr) b o, b < wr.heap.size → u.wd.cell? ⟨b, o, none⟩ = wr.cell? ⟨b, o, none⟩ := fun u b o h => u.h.cell (p := ⟨b, o, none⟩) h
            have hbeln : Nonempty (Bel wr.heap.size wr) := ⟨⟨wr, Below.refl _ _⟩⟩
            refine wp_region_bel wr.heap.size (by kernel_rfl) (by kernel_rfl) ?_
            repeat (go_big_quiet_step ((go_at_call 30; exact quiet_bel (Nat.le_refl _) (touch_isR _ _ _ _ _ _ _ (by omega) (by omega) (by omega) (by omega) (by first | exact ht | exact ht')))))
            refine wpQuiet_nil ?_
            intro wB hB0; obtain ⟨uB, hu⟩ := hB0; have hbB0 := uB.h; rw [← hu] at hbB0; clear hu uB hbelc hbeln
            obtain ⟨hbB, hcB, hsB⟩ := bcell2 hbB0; clear hbB0
            have q1 := HI.out.later hbB
            have q2 := HBW.out.trans (hbB.mono HBW.out.size)
            have q3 := hx0.out.later hbB
            clear hcB hbB
            have Q1 := Lib.hid q1; have Q2 := Lib.hid q2; have Q3 := Lib.hid q3; clear q1 q2 q3
            go_wp2
            go_roundw
            case rel => exact ⟨y + 1, F, by go_num, by omega, by omega, by rw [HFX.out]; exact HPI2.out, HLOW.out, HHI.out, HAT.out, Q1.out, Q3.out, Q2.out⟩
            case measure => simp [intOf]; omega
          · have htq : tch ws x y = true := by rw [htc]; exact ht
            by_cases hyk2 : y = k
            · have bk : ((y : Int) == (k : Int)) = true := by simp; omega
              have hdy : Dst (tch ws) k 0 y := dst_zero.2 hyk2
              have hfv0 : fv = 0 := by rw [← hFy, hyk2]; exact hat
              by_cases h0 : fi = 0
              · have b0 : (fi == 0) = true := by simp; omega
                have hpi2 : PartI (tch ws) k x (y + 1) (fv + 1) := by rw [hfv0]; exact partI_put hpi hxy hyl htq hdy (.inl h0)
                clear h0 hyk2 hfv0
                have hpp := hput (fv + 1) hpi2
                generalize ws[x].pl = pa at *
                generalize ws[y].pl = pb at *
                clear hIput hput hnr
                have HI := Lib.hid hI; have HBW := Lib.hid hbw; have HPI := Lib.hid hpi; have HPI2 := Lib.hid hpi2; have HPP := Lib.hid hpp; have HLOW := Lib.hid hlow; have HHI := Lib.hid hhi; have HAT := Lib.hid hat; have HTC := Lib.hid htc; have HFY := Lib.hid hFy; have HFX := Lib.hid hFx; clear hI hbw hpi hpi2 hpp hlow hhi hat htc hFy hFx
                go_wp2
                have hbelc : ∀ (u : Bel wr.heap.size wr) b o, b < wr.heap.size → u.wd.cell? ⟨b, o, none⟩ = wr.cell? ⟨b, o, none⟩ := fun u b o h => u.h.cell (p := ⟨b, o, none⟩) h
                have hbeln : Nonempty (Bel wr.heap.size wr) := ⟨⟨wr, Below.refl _ _⟩⟩
                refine wp_region_bel wr.heap.size (by kernel_rfl) (by kernel_rfl) ?_
                repeat (go_big_quiet_step ((go_at_call 30; exact quiet_bel (Nat.le_refl _) (touch_isR _ _ _ _ _ _ _ (by omega) (by omega) (by omega) (by omega) (by first | exact ht | exact ht')))))
                refine wpQuiet_nil ?_
                intro wB hB0; obtain ⟨uB, hu⟩ := hB0; have hbB0 := uB.h; rw [← hu] at hbB0; clear hu uB hbelc hbeln
                obtain ⟨hbB, hcB, hsB⟩ := bcell2 hbB0; clear hbB0
                have q0 := HI.out.later hbB
                have q1 := q0.put x (fv + 1)
                have q2 : Below w.heap.size w (wB.setCell ⟨w1.heap.size, x, none⟩ (.int .i64 (fv + 1))) := (HBW.out.trans (hbB.mono HBW.out.size)).setCell (p := ⟨w1.heap.size, x, none⟩) (by show w.heap.size ≤ w1.heap.size; omega) _
                have q3 := box1_put (hx0.out.later hbB) (q := ⟨w1.heap.size, x, none⟩) (by show w1.heap.size ≠ w.heap.size; omega) (.int .i64 (fv + 1))
                have q4 := q0.free x
                have q5 : w1.heap.size < wB.heap.size := Nat.lt_of_lt_of_le hIl hsB
                have e1' := q0.at_ hyw
                have e2' := q0.at_ hxl
                rw [HFY.out] at e1'
                rw [HFX.out] at e2'
                clear hcB hbB
                have Q0 := Lib.hid q0; have Q1 := Lib.hid q1; have Q2 := Lib.hid q2; have Q3 := Lib.hid q3; clear q0 q1 q2 q3
                go_wp2
                go_roundw
                case rel => exact ⟨y + 1, updF F x (fv + 1), by go_num, by omega, by omega, HPP.out.1, HPP.out.2.1, HPP.out.2.2.1, HPP.out.2.2.2, Q1.out, Q3.out, Q2.out⟩
                case measure => simp [intOf]; omega
              · have b0 : (fi == 0) = false := by simp; omega
                by_cases hl : fv + 1 < fi
                · have bl : decide (fv + 1 < fi) = true := by simp; omega
                  have hpi2 : PartI (tch ws) k x (y + 1) (fv + 1) := by rw [hfv0]; exact partI_put hpi hxy hyl htq hdy (.inr (by have h9 := hl; rw [hfv0] at h9; exact h9))
                  clear h0 hyk2 hfv0 hl
                  have hpp := hput (fv + 1) hpi2
                  generalize ws[x].pl = pa at *
                  generalize ws[y].pl = pb at *
                  clear hIput hput hnr
                  have HI := Lib.hid hI; have HBW := Lib.hid hbw; have HPI := Lib.hid hpi; have HPI2 := Lib.hid hpi2; have HPP := Lib.hid hpp; have HLOW := Lib.hid hlow; have HHI := Lib.hid hhi; have HAT := Lib.hid hat; have HTC := Lib.hid htc; have HFY := Lib.hid hFy; have HFX := Lib.hid hFx; clear hI hbw hpi hpi2 hpp hlow hhi hat htc hFy hFx
                  go_wp2
                  have hbelc : ∀ (u : Bel wr.heap.size wr) b o, b < wr.heap.size → u.wd.cell? ⟨b, o, none⟩ = wr.cell? ⟨b, o, none⟩ := fun u b o h => u.h.cell (p := ⟨b, o, none⟩) h
                  have hbeln : Nonempty (Bel wr.heap.size wr) := ⟨⟨wr, Below.refl _ _⟩⟩
                  refine wp_region_bel wr.heap.size (by kernel_rfl) (by kernel_rfl) ?_
                  repeat (go_big_quiet_step ((go_at_call 30; exact quiet_bel (Nat.le_refl _) (touch_isR _ _ _ _ _ _ _ (by omega) (by omega) (by omega) (by omega) (by first | exact ht | exact ht')))))
                  refine wpQuiet_nil ?_
                  intro wB hB0; obtain ⟨uB, hu⟩ := hB0; have hbB0 := uB.h; rw [← hu] at hbB0; clear hu uB hbelc hbeln
                  obtain ⟨hbB, hcB, hsB⟩ := bcell2 hbB0; clear hbB0
                  have q0 := HI.out.later hbB
                  have q1 := q0.put x (fv + 1)
                  have q2 : Below w.heap.size w (wB.setCell ⟨w1.heap.size, x, none⟩ (.int .i64 (fv + 1))) := (HBW.out.trans (hbB.mono HBW.out.size)).setCell (p := ⟨w1.heap.size, x, none⟩) (by show w.heap.size ≤ w1.heap.size; omega) _
                  have q3 := box1_put (hx0.out.later hbB) (q := ⟨w1.heap.size, x, none⟩) (by show w1.heap.size ≠ w.heap.size; omega) (.int .i64 (fv + 1))
                  have q4 := q0.free x
                  have q5 : w1.heap.size < wB.heap.size := Nat.lt_of_lt_of_le hIl hsB
                  have e1' := q0.at_ hyw
                  have e2' := q0.at_ hxl
                  rw [HFY.out] at e1'
                  rw [HFX.out] at e2'
                  clear hcB hbB
                  have Q0 := Lib.hid q0; have Q1 := Lib.hid q1; have Q2 := Lib.hid q2; have Q3 := Lib.hid q3; clear q0 q1 q2 q3
                  go_wp2
                  go_roundw
                  case rel => exact ⟨y + 1, updF F x (fv + 1), by go_num, by omega, by omega, HPP.out.1, HPP.out.2.1, HPP.out.2.2.1, HPP.out.2.2.2, Q1.out, Q3.out, Q2.out⟩
                  case measure => simp [intOf]; omega
                · have bl : decide (fv + 1 < fi) = false := by simp; omega
                  have hpi2 : PartI (tch ws) k x (y + 1) fi := partI_more hpi hdy h0 (by omega)
                  clear h0 hyk2 hfv0 hl
                  generalize ws[x].pl = pa at *
                  generalize ws[y].pl = pb at *
                  clear hIput hput hnr
                  have HI := Lib.hid hI; have HBW := Lib.hid hbw; have HPI := Lib.hid hpi; have HPI2 := Lib.hid hpi2; have HLOW := Lib.hid hlow; have HHI := Lib.hid hhi; have HAT := Lib.hid hat; have HTC := Lib.hid htc; have HFY := Lib.hid hFy; have HFX := Lib.hid hFx; clear hI hbw hpi hpi2 hlow hhi hat htc hFy hFx
                  go_wp2
                  have hbelc : ∀ (u : Bel wr.heap.size wr) b o, b < wr.heap.size → u.wd.cell? ⟨b, o, none⟩ = wr.cell? ⟨b, o, none⟩ := fun u b o h => u.h.cell (p := ⟨b, o, none⟩) h
                  have hbeln : Nonempty (Bel wr.heap.size wr) := ⟨⟨wr, Below.refl _ _⟩⟩
                  refine wp_region_bel wr.heap.size (by kernel_rfl) (by kernel_rfl) ?_
                  repeat (go_big_quiet_step ((go_at_call 30; exact quiet_bel (Nat.le_refl _) (touch_isR _ _ _ _ _ _ _ (by omega) (by omega) (by omega) (by omega) (by first | exact ht | exact ht')))))
                  refine wpQuiet_nil ?_
                  intro wB hB0; obtain ⟨uB, hu⟩ := hB0; have hbB0 := uB.h; rw [← hu] at hbB0; clear hu uB hbelc hbeln
                  obtain ⟨hbB, hcB, hsB⟩ := bcell2 hbB0; clear hbB0
                  have q1 := HI.out.later hbB
                  have q2 := HBW.out.trans (hbB.mono HBW.out.size)
                  have q3 := hx0.out.later hbB
                  clear hcB hbB
                  have Q1 := Lib.hid q1; have Q2 := Lib.hid q2; have Q3 := Lib.hid q3; clear q1 q2 q3
                  go_wp2
                  go_roundw
                  case rel => exact ⟨y + 1, F, by go_num, by omega, by omega, by rw [HFX.out]; exact HPI2.out, HLOW.out, HHI.out, HAT.out, Q1.out, Q3.out, Q2.out⟩
                  case measure => simp [intOf]; omega
            · have bk : ((y : Int) == (k : Int)) = false := by simp; omega
              by_cases hp : 0 < fv
              · have bv : decide (fv > 0) = true := by simp; omega
                obtain ⟨n, hfn, hdy⟩ : ∃ n : Nat, fv = n ∧ Dst (tch ws) k n y := by
                  rcases hnr with ⟨_, h⟩ | ⟨h, _⟩
                  · exact h
                  · exact absurd (.inr hp) h
                by_cases h0 : fi = 0
                · have b0 : (fi == 0) = true := by simp; omega
                  have hpi2 : PartI (tch ws) k x (y + 1) (fv + 1) := by rw [hfn]; exact partI_put hpi hxy hyl htq hdy (.inl h0)
                  clear h0 hyk2 hp hfn
                  have hpp := hput (fv + 1) hpi2
                  generalize ws[x].pl = pa at *
                  generalize ws[y].pl = pb at *
                  clear hIput hput hnr
                  have HI := Lib.hid hI; have HBW := Lib.hid hbw; have HPI := Lib.hid hpi; have HPI2 := Lib.hid hpi2; have HPP := Lib.hid hpp; have HLOW := Lib.hid hlow; have HHI := Lib.hid hhi; have HAT := Lib.hid hat; have HTC := Lib.hid htc; have HFY := Lib.hid hFy; have HFX := Lib.hid hFx; clear hI hbw hpi hpi2 hpp hlow hhi hat htc hFy hFx
                  go_wp2
                  have hbelc : ∀ (u : Bel wr.heap.size wr) b o, b < wr.heap.size → u.wd.cell? ⟨b, o, none⟩ = wr.cell? ⟨b, o, none⟩ := fun u b o h => u.h.cell (p := ⟨b, o, none⟩) h
                  have hbeln : Nonempty (Bel wr.heap.size wr) := ⟨⟨wr, Below.refl _ _⟩⟩
                  refine wp_region_bel wr.heap.size (by kernel_rfl) (by kernel_rfl) ?_
                  repeat (go_big_quiet_step ((go_at_call 30; exact quiet_bel (Nat.le_refl _) (touch_isR _ _ _ _ _ _ _ (by omega) (by omega) (by omega) (by omega) (by first | exact ht | exact ht')))))
                  refine wpQuiet_nil ?_
                  intro wB hB0; obtain ⟨uB, hu⟩ := hB0; have hbB0 := uB.h; rw [← hu] at hbB0; clear hu uB hbelc hbeln
                  obtain ⟨hbB, hcB, hsB⟩ := bcell2 hbB0; clear hbB0
                  have q0 := HI.out.later hbB
                  have q1 := q0.put x (fv + 1)
                  have q2 : Below w.heap.size w (wB.setCell ⟨w1.heap.size, x, none⟩ (.int .i64 (fv + 1))) := (HBW.out.trans (hbB.mono HBW.out.size)).setCell (p := ⟨w1.heap.size, x, none⟩) (by show w.heap.size ≤ w1.heap.size; omega) _
                  have q3 := box1_put (hx0.out.later hbB) (q := ⟨w1.heap.size, x, none⟩) (by show w1.heap.size ≠ w.heap.size; omega) (.int .i64 (fv + 1))
                  have q4 := q0.free x
                  have q5 : w1.heap.size < wB.heap.size := Nat.lt_of_lt_of_le hIl hsB
                  have e1' := q0.at_ hyw
                  have e2' := q0.at_ hxl
                  rw [HFY.out] at e1'
                  rw [HFX.out] at e2'
                  clear hcB hbB
                  have Q0 := Lib.hid q0; have Q1 := Lib.hid q1; have Q2 := Lib.hid q2; have Q3 := Lib.hid q3; clear q0 q1 q2 q3
                  go_wp2
                  go_roundw
                  case rel => exact ⟨y + 1, updF F x (fv + 1), by go_num, by omega, by omega, HPP.out.1, HPP.out.2.1, HPP.out.2.2.1, HPP.out.2.2.2, Q1.out, Q3.out, Q2.out⟩
                  case measure => simp [intOf]; omega
                · have b0 : (fi == 0) = false := by simp; omega
                  by_cases hl : fv + 1 < fi
                  · have bl : decide (fv + 1 < fi) = true := by simp; omega
                    have hpi2 : PartI (tch ws) k x (y + 1) (fv + 1) := by rw [hfn]; exact partI_put hpi hxy hyl htq hdy (.inr (by omega))
                    clear h0 hyk2 hp hl hfn
                    have hpp := hput (fv + 1) hpi2
                    generalize ws[x].pl = pa at *
                    generalize ws[y].pl = pb at *
                    clear hIput hput hnr
                    have HI := Lib.hid hI; have HBW := Lib.hid hbw; have HPI := Lib.hid hpi; have HPI2 := Lib.hid hpi2; have HPP := Lib.hid hpp; have HLOW := Lib.hid hlow; have HHI := Lib.hid hhi; have HAT := Lib.hid hat; have HTC := Lib.hid htc; have HFY := Lib.hid hFy; have HFX := Lib.hid hFx; clear hI hbw hpi hpi2 hpp hlow hhi hat htc hFy hFx
                    go_wp2
                    have hbelc : ∀ (u : Bel wr.heap.size wr) b o, b < wr.heap.size → u.wd.cell? ⟨b, o, none⟩ = wr.cell? ⟨b, o, none⟩ := fun u b o h => u.h.cell (p := ⟨b, o, none⟩) h
                    have hbeln : Nonempty (Bel wr.heap.size wr) := ⟨⟨wr, Below.refl _ _⟩⟩
                    refine wp_region_bel wr.heap.size (by kernel_rfl) (by kernel_rfl) ?_
                    repeat (go_big_quiet_step ((go_at_call 30; exact quiet_bel (Nat.le_refl _) (touch_isR _ _ _ _ _ _ _ (by omega) (by omega) (by omega) (by omega) (by first | exact ht | exact ht')))))
                    refine wpQuiet_nil ?_
                    intro wB hB0; obtain ⟨uB, hu⟩ := hB0; have hbB0 := uB.h; rw [← hu] at hbB0; clear hu uB hbelc hbeln
                    obtain ⟨hbB, hcB, hsB⟩ := bcell2 hbB0; clear hbB0
                    have q0 := HI.out.later hbB
                    have q1 := q0.put x (fv + 1)
                    have q2 : Below w.heap.size w (wB.setCell ⟨w1.heap.size, x, none⟩ (.int .i64 (fv + 1))) := (HBW.out.trans (hbB.mono HBW.out.size)).setCell (p := ⟨w1.heap.size, x, none⟩) (by show w.heap.size ≤ w1.heap.size; omega) _
                    have q3 := box1_put (hx0.out.later hbB) (q := ⟨w1.heap.size, x, none⟩) (by show w1.heap.size ≠ w.heap.size; omega) (.int .i64 (fv + 1))
                    have q4 := q0.free x
                    have q5 : w1.heap.size < wB.heap.size := Nat.lt_of_lt_of_le hIl hsB
                    have e1' := q0.at_ hyw
                    have e2' := q0.at_ hxl
                    rw [HFY.out] at e1'
                    rw [HFX.out] at e2'
                    clear hcB hbB
                    have Q0 := Lib.hid q0; have Q1 := Lib.hid q1; have Q2 := Lib.hid q2; have Q3 := Lib.hid q3; clear q0 q1 q2 q3
                    go_wp2
                    go_roundw
                    case rel => exact ⟨y + 1, updF F x (fv + 1), by go_num, by omega, by omega, HPP.out.1, HPP.out.2.1, HPP.out.2.2.1, HPP.out.2.2.2, Q1.out, Q3.out, Q2.out⟩
                    case measure => simp [intOf]; omega
                  · have bl : decide (fv + 1 < fi) = false := by simp; omega
                    have hpi2 : PartI (tch ws) k x (y + 1) fi := partI_more hpi hdy h0 (by omega)
                    clear h0 hyk2 hp hl hfn
                    generalize ws[x].pl = pa at *
                    generalize ws[y].pl = pb at *
                    clear hIput hput hnr
                    have HI := Lib.hid hI; have HBW := Lib.hid hbw; have HPI := Lib.hid hpi; have HPI2 := Lib.hid hpi2; have HLOW := Lib.hid hlow; have HHI := Lib.hid hhi; have HAT := Lib.hid hat; have HTC := Lib.hid htc; have HFY := Lib.hid hFy; have HFX := Lib.hid hFx; clear hI hbw hpi hpi2 hlow hhi hat htc hFy hFx
                    go_wp2
                    have hbelc : ∀ (u : Bel wr.heap.size wr) b o, b < wr.heap.size → u.wd.cell? ⟨b, o, none⟩ = wr.cell? ⟨b, o, none⟩ := fun u b o h => u.h.cell (p := ⟨b, o, none⟩) h
                    have hbeln : Nonempty (Bel wr.heap.size wr) := ⟨⟨wr, Below.refl _ _⟩⟩
                    refine wp_region_bel wr.heap.size (by kernel_rfl) (by kernel_rfl) ?_
                    repeat (go_big_quiet_step ((go_at_call 30; exact quiet_bel (Nat.le_refl _) (touch_isR _ _ _ _ _ _ _ (by omega) (by omega) (by omega) (by omega) (by first | exact ht | exact ht')))))
                    refine wpQuiet_nil ?_
                    intro wB hB0; obtain ⟨uB, hu⟩ := hB0; have hbB0 := uB.h; rw [← hu] at hbB0; clear hu uB hbelc hbeln
                    obtain ⟨hbB, hcB, hsB⟩ := bcell2 hbB0; clear hbB0
                    have q1 := HI.out.later hbB
                    have q2 := HBW.out.trans (hbB.mono HBW.out.size)
                    have q3 := hx0.out.later hbB
                    clear hcB hbB
                    have Q1 := Lib.hid q1; have Q2 := Lib.hid q2; have Q3 := Lib.hid q3; clear q1 q2 q3
                    go_wp2
                    go_roundw
                    case rel => exact ⟨y + 1, F, by go_num, by omega, by omega, by rw [HFX.out]; exact HPI2.out, HLOW.out, HHI.out, HAT.out, Q1.out, Q3.out, Q2.out⟩
                    case measure => simp [intOf]; omega
              · have bv : decide (fv > 0) = false := by simp; omega
                have hpi2 : PartI (tch ws) k x (y + 1) fi := partI_skip hpi (fun _ n hd => by
                  rcases hnr with ⟨h, _⟩ | ⟨_, _, h⟩
                  · rcases h with h | h
                    · exact hyk2 h
                    · exact hp h
                  · exact h n hd)
                clear hyk2 hp
                generalize ws[x].pl = pa at *
                generalize ws[y].pl = pb at *
                clear hIput hput hnr
                have HI := Lib.hid hI; have HBW := Lib.hid hbw; have HPI := Lib.hid hpi; have HPI2 := Lib.hid hpi2; have HLOW := Lib.hid hlow; have HHI := Lib.hid hhi; have HAT := Lib.hid hat; have HTC := Lib.hid htc; have HFY := Lib.hid hFy; have HFX := Lib.hid hFx; clear hI hbw hpi hpi2 hlow hhi hat htc hFy hFx
                go_wp2
                have hbelc : ∀ (u : Bel wr.heap.size wr) b o, b < wr.heap.size → u.wd.cell? ⟨b, o, none⟩ = wr.cell? ⟨b, o, none⟩ := fun u b o h => u.h.cell (p := ⟨b, o, none⟩) h
                have hbeln : Nonempty (Bel wr.heap.size wr) := ⟨⟨wr, Below.refl _ _⟩⟩
                refine wp_region_bel wr.heap.size (by kernel_rfl) (by kernel_rfl) ?_
                repeat (go_big_quiet_step ((go_at_call 30; exact quiet_bel (Nat.le_refl _) (touch_isR _ _ _ _ _ _ _ (by omega) (by omega) (by omega) (by omega) (by first | exact ht | exact ht')))))
                refine wpQuiet_nil ?_
                intro wB hB0; obtain ⟨uB, hu⟩ := hB0; have hbB0 := uB.h; rw [← hu] at hbB0; clear hu uB hbelc hbeln
                obtain ⟨hbB, hcB, hsB⟩ := bcell2 hbB0; clear hbB0
                have q1 := HI.out.later hbB
                have q2 := HBW.out.trans (hbB.mono HBW.out.size)
                have q3 := hx0.out.later hbB
                clear hcB hbB
                have Q1 := Lib.hid q1; have Q2 := Lib.hid q2; have Q3 := Lib.hid q3; clear q1 q2 q3
                go_wp2
                go_roundw
                case rel => exact ⟨y + 1, F, by go_num, by omega, by omega, by rw [HFX.out]; exact HPI2.out, HLOW.out, HHI.out, HAT.out, Q1.out, Q3.out, Q2.out⟩
                case measure => simp [intOf]; omega
        · obtain rfl : y = k + 1 := by omega
          have hok3 := partI_end hxk hpi
          have hfs2 : FarS (tch ws) k x F := ⟨fun j h1 h2 => by
            by_cases e : j = x
            · rw [e]; exact hok3
            · exact hhi j (by omega) h2, hlow, hat⟩
          have hxw : IntKind.i64.wrap ((x : Int) - 1) = (x : Int) - 1 := IntWalk.i64_in _ (by omega)
          have HI := Lib.hid hI; have HBW := Lib.hid hbw; have HFS2 := Lib.hid hfs2; have HLOW := Lib.hid hlow; have HHI := Lib.hid hhi; have HAT := Lib.hid hat; have HPI := Lib.hid hpi; clear hI hbw hfs2 hlow hhi hat hpi
          go_wp2
          go_roundw
          case rel => exact ⟨x, F, _, rfl, by first | rfl | exact hxw, by omega, HFS2.out, HI.out, hx0.out, HBW.out⟩
          case measure => simp [intOf]; try omega
    · have hmi : m ≤ i := by omega
      clear hz
      by_cases hik : i < k
      rotate_left
      · have hr : ChnIs p ws i k 4 [] := .inr ⟨HCE.out, .inl ⟨rfl, rfl, by
          by_cases e : i = k
          · exact .inl (by rw [e])
          · exact .inr fun n hn => by have := rch_le hn; simp at this; omega⟩⟩
        have bge : decide ((i : Int) ≥ (k : Int)) = true := by simp; omega
        have bgn : decide (k ≤ i) = true := by simp; omega
        have HR := Lib.hid hr; have HFS := Lib.hid hfs; have HI := Lib.hid hI; have HX := Lib.hid hx; have HBW := Lib.hid hbw; clear hr hfs hI hx hbw
        go_wp2
        go_ret2
        exact ⟨_, _, _, rfl, RdV.nil _, HBW.out, HR.out⟩
      have e1 := hI.at_ hil
      have bgn : decide (k ≤ i) = false := by simp; omega
      rcases hfs.ok i hmi hik with ⟨hF0, hnone⟩ | ⟨n, hFn, hd4⟩
      · have hr : ChnIs p ws i k 4 [] := .inr ⟨HCE.out, .inl ⟨rfl, rfl, .inr fun q hq => by
          rcases q with _ | q
          · have : i = k := by simpa using (show ((i : Int).toNat) = ((k : Int).toNat) from hq)
            omega
          · exact hnone q (by simpa using hq)⟩⟩
        rw [hF0] at e1
        have HR := Lib.hid hr; have HFS := Lib.hid hfs; have HI := Lib.hid hI; have HX := Lib.hid hx; have HBW := Lib.hid hbw; have HNONE := Lib.hid hnone; have HF0 := Lib.hid hF0; clear hr hfs hI hx hbw hnone hF0
        go_wp2
        go_ret2
        exact ⟨_, _, _, rfl, RdV.nil _, HBW.out, HR.out⟩
      obtain ⟨fl, hfl⟩ := chn_exists hd4
      have hr : ChnIs p ws i k 0 ((i : Int) :: fl) := .inr ⟨HCE.out, .inr ⟨rfl, by omega, n, fl, by simpa using hd4, by simpa using hfl, rfl⟩⟩
      have hfll := chn_len hfl
      have hnk := dst_le hd4
      have b0 : ((n : Int) + 1 == 0) = false := by simp; omega
      rw [hFn] at e1
      obtain ⟨c0, c1, hs1⟩ := hx
      have hx0 : Hid (Box1 w wr p A c ws.length) := ⟨c0, c1, hs1⟩
      obtain ⟨w3, hw3⟩ : ∃ w3 : World, w3 = wr := ⟨_, rfl⟩
      have q1 : IdB (wr.alloc (.cells #[.int .i64 (i : Int)] 3)) w1.heap.size ws.length F := hI.later ((Below.refl _ _).alloc (Nat.le_refl _) _)
      have q2 : Below w.heap.size w (wr.alloc (.cells #[.int .i64 (i : Int)] 3)) := hbw.alloc hbw.size _
      have q3 : (wr.alloc (.cells #[.int .i64 (i : Int)] 3)).ownsRow wr.heap.size 3 1 (.slice (some ⟨wr.heap.size, 0, none⟩) 1 1) 1 (ints [(i : Int)]) := own_one (heap_alloc_new _ _)
      have q4 : Box1 w (wr.alloc (.cells #[.int .i64 (i : Int)] 3)) p A c ws.length := hx0.out.later ((Below.refl _ _).alloc (Nat.le_refl _) _)
      have q5 : wr.heap.size + 1 ≤ (wr.alloc (.cells #[.int .i64 (i : Int)] 3)).heap.size := by simp
      have hw9 := hbw.size
      clear hw3 w3
      obtain ⟨w3, rfl⟩ : ∃ w3 : World, w3 = wr := ⟨_, rfl⟩
      have HR := Lib.hid hr; have HFS := Lib.hid hfs; have HI := Lib.hid hI; have HBW := Lib.hid hbw; have HFL := Lib.hid hfl; have HD4 := Lib.hid hd4; have HFN := Lib.hid hFn; have Q1 := Lib.hid q1; have Q2 := Lib.hid q2; have Q3 := Lib.hid q3; have Q4 := Lib.hid q4; have Q5 := Lib.hid q5; clear hr hfs hI hbw hfl hd4 hFn q1 q2 q3 q4 q5
      go_wp2
      go_loopw [12, 13] (fun ov tv wr => ∃ (m t : Nat) (pre rest : List Int), tv = .int .i64 (t : Int) ∧ pre ++ rest = (i : Int) :: fl ∧ Chn (tch ws) k m t rest ∧ Dst (tch ws) k m t ∧ i ≤ t ∧ m ≤ n + 1 ∧ IdB wr w1.heap.size ws.length F ∧ Box1 w wr p A c ws.length ∧ wr.ownsRow w3.heap.size 3 1 ov pre.length (ints pre) ∧ Below w.heap.size w wr ∧ w3.heap.size + 1 ≤ wr.heap.size) (fun _ tv _ => k - (intOf tv).toNat)
      case atStart => exact ⟨n + 1, i, [(i : Int)], fl, rfl, rfl, HFL.out, HD4.out, Nat.le_refl _, Nat.le_refl _, Q1.out, Q4.out, Q3.out, Q2.out, Q5.out⟩
      case round =>
        clear Q1 Q2 Q3 Q4 Q5 c0 c1
        obtain ⟨m, t, pre, rest, rfl, hpr, hch, hds, hit, hmn, hI, hx, hown, hbw, hsz⟩ := hrel
        obtain ⟨OA, oc, rfl⟩ := own_slice1 hown
        have hpl : pre.length ≤ 449 := by have := congrArg List.length hpr; simp at this; omega
        have htk := dst_le hds
        by_cases hte : t = k
        · subst hte
          have hm0 : m = 0 := dst_uniq hds (dst_zero.2 rfl)
          subst hm0
          have hrest : rest = [] := hch
          subst hrest
          rw [List.append_nil] at hpr
          have hrv : RdV wr (.slice OA pre.length oc) pre := RdV.of_own hown (by omega)
          rw [hpr] at hrv
          have HPR := Lib.hid hpr; have HCH := Lib.hid hch; have HDS := Lib.hid hds; have HI := Lib.hid hI; have HX := Lib.hid hx; have HOWN := Lib.hid hown; have HBW := Lib.hid hbw; have HRV := Lib.hid hrv; clear hpr hch hds hI hx hown hbw hrv
          go_wp2
          go_ret2
          exact ⟨_, _, _, rfl, by rw [HPR.out] at *; exact HRV.out, HBW.out, HR.out⟩
        · obtain ⟨m, rfl⟩ : ∃ m', m = m' + 1 := by
            rcases m with _ | m
            · exact absurd (dst_zero.1 hds) hte
            · exact ⟨m, rfl⟩
          obtain ⟨k2, rest, ⟨hn1', hn2, hn3, hn4, hn5⟩, rfl, hch2⟩ := hch
          have htl : t < ws.length := by omega
          have hk2l : k2 < ws.length := by omega
          have hte' : ((t : Int) != (k : Int)) = true := by simp; omega
          have hIl := lt_of_block hI
          obtain ⟨wp, rfl⟩ : ∃ wp : World, wp = wr := ⟨_, rfl⟩
          have hFt := HFS.out.val (by omega) (by omega) hds
          have hzm : ∃ zm : Int, F t = zm ∧ zm = (m : Int) + 1 := ⟨_, rfl, by rw [hFt]; simp⟩
          obtain ⟨zm, hFz, hzm⟩ := hzm
          have hv1 : IntKind.i64.wrap (zm - 1) = (m : Int) := by rw [IntWalk.i64_in _ (by omega)]; omega
          clear hFt
          have HPR := Lib.hid hpr; have HDS := Lib.hid hds; have HI := Lib.hid hI; have HX := Lib.hid hx; have HOWN := Lib.hid hown; have HBW := Lib.hid hbw; have HN3 := Lib.hid hn3; have HN4 := Lib.hid hn4; have HN5 := Lib.hid hn5; have HCH2 := Lib.hid hch2; have HZM := Lib.hid hzm; have HFZ := Lib.hid hFz; clear hpr hds hI hx hown hbw hn3 hn4 hn5 hch2 hzm hFz
          go_wp2
          go_loopw [13, 14] (fun tv qv wr => ∃ q : Nat, tv = .int .i64 (t : Int) ∧ qv = .int .i64 (q : Int) ∧ t < q ∧ q ≤ k2 ∧ Below wp.heap.size wp wr) (fun _ qv _ => k2 + 1 - (intOf qv).toNat)
          case atStart => exact ⟨t + 1, rfl, by go_num, by omega, by omega, Below.refl _ _⟩
          case round =>
            obtain ⟨q, rfl, rfl, htq, hqk, hbr⟩ := hrel
            have hbq := HBW.out.trans (hbr.mono HBW.out.size)
            have hIq := HI.out.later hbr
            obtain ⟨c0, c1, hs2⟩ := HX.out.later hbr
            have hIl2 := lt_of_block hIq
            have hql : q < ws.length := by omega
            obtain ⟨b, off, rfl, hbL, t1, t2, t3⟩ := (HSH.out.rd.later hbq (Nat.le_refl _)).at_ htl
            obtain ⟨b', off', hA', hbL2, u1, u2, u3⟩ := (HSH.out.rd.later hbq (Nat.le_refl _)).at_ hql
            injection hA' with hA'; injection hA' with hA1 hA2; subst hA1; subst hA2
            obtain ⟨_, p1, p2, _⟩ := HALL.out ws[t] (List.getElem_mem htl)
            obtain ⟨_, p3, p4, _⟩ := HALL.out ws[q] (List.getElem_mem hql)
            have htq2 := tch_is htl hql
            have x1 : (0 : Int) ≤ (t : Int) := by omega
            have x2 : (t : Int) < (ws.length : Int) := by omega
            have x3 : (0 : Int) ≤ (q : Int) := by omega
            have x4 : (q : Int) < (ws.length : Int) := by omega
            have x5 : (q : Int) ≤ (k : Int) := by omega
            have e4 := hIq.at_ htl
            rw [HFZ.out] at e4
            have e5 := hIq.at_ hql
            have hnr := near_dst (T := tch ws) (b := k) (v := F q) (by omega) (fun h => by rw [h]; exact HFS.out.at_b) (fun h => HFS.out.ok q (by omega) h)
            have hlst : tch ws t q = true → Dst (tch ws) k m q → q = k2 := fun h1 h2 => by
              by_cases hlt : q < k2
              · exact absurd h2 (HN5.out q htq hlt h1)
              · omega
            have hmis : (tch ws t q = false ∨ F q ≠ (m : Int) ∨ (q ≠ k ∧ ¬ 0 < F q)) → q < k2 := fun h => by
              by_cases hlt : q < k2
              · exact hlt
              · obtain rfl : q = k2 := by omega
                have hv := HFS.out.val (show _ ≤ q by omega) (by omega) HN4.out
                rcases h with h | h | ⟨h, h'⟩
                · rw [HN3.out] at h; cases h
                · exact absurd hv h
                · rcases m with _ | m
                  · exact absurd (dst_zero.1 HN4.out) h
                  · rw [hv] at h'; exact absurd (by omega) h'
            have hhit : F q = (m : Int) → (q = k ∨ 0 < F q) → Dst (tch ws) k m q := fun h1 h2 => by
              rcases hnr with ⟨_, n', h3, h4⟩ | ⟨h3, _⟩
              · have : n' = m := by omega
                rw [← this]; exact h4
              · exact absurd h2 h3
            clear hnr
            generalize hFq : F q = fq at *
            by_cases ht : touchB ws[t].pl ws[q].pl = true
            rotate_left
            · have ht' : touchB ws[t].pl ws[q].pl = false := by simpa using ht
              have hqe := hmis (.inl (by rw [htq2]; exact ht'))
              clear ht
              generalize ws[t].pl = pa at *
              generalize ws[q].pl = pb at *
              clear hmis hhit hlst
              have HBR := Lib.hid hbr; have HBQ := Lib.hid hbq; have HIQ := Lib.hid hIq; have HTQ2 := Lib.hid htq2; have HFQ := Lib.hid hFq; clear hbr hbq hIq htq2 hFq
              go_wp2
              have hbelc : ∀ (u : Bel wr.heap.size wr) b o, b < wr.heap.size → u.wd.cell? ⟨b, o, none⟩ = wr.cell? ⟨b, o, none⟩ := fun u b o h => u.h.cell (p := ⟨b, o, none⟩) h
              have hbeln : Nonempty (Bel wr.heap.size wr) := ⟨⟨wr, Below.refl _ _⟩⟩
              refine wp_region_bel wr.heap.size (by kernel_rfl) (by kernel_rfl) ?_
              repeat (go_big_quiet_step ((go_at_call 30; exact quiet_bel (Nat.le_refl _) (touch_isR _ _ _ _ _ _ _ (by omega) (by omega) (by omega) (by omega) (by first | exact ht | exact ht')))))
              refine wpQuiet_nil ?_
              intro wB hB0; obtain ⟨uB, hu⟩ := hB0; have hbB0 := uB.h; rw [← hu] at hbB0; clear hu uB hbelc hbeln
              obtain ⟨hbB, hcB, hsB⟩ := bcell2 hbB0; clear hbB0
              clear hcB
              have HBB := Lib.hid hbB; clear hbB
              go_wp2
              go_roundw
              case rel => exact ⟨q + 1, rfl, by go_num, by omega, by omega, HBR.out.trans (HBB.out.mono HBR.out.size)⟩
              case measure => simp [intOf]; omega
            · have htt : tch ws t q = true := by rw [htq2]; exact ht
              by_cases hqm : fq = (m : Int)
              rotate_left
              · have bq : (fq == (m : Int)) = false := by simp; omega
                have hqe := hmis (.inr (.inl hqm))
                clear hqm
                generalize ws[t].pl = pa at *
                generalize ws[q].pl = pb at *
                clear hmis hhit hlst
                have HBR := Lib.hid hbr; have HBQ := Lib.hid hbq; have HIQ := Lib.hid hIq; have HTQ2 := Lib.hid htq2; have HFQ := Lib.hid hFq; clear hbr hbq hIq htq2 hFq
                go_wp2
                have hbelc : ∀ (u : Bel wr.heap.size wr) b o, b < wr.heap.size → u.wd.cell? ⟨b, o, none⟩ = wr.cell? ⟨b, o, none⟩ := fun u b o h => u.h.cell (p := ⟨b, o, none⟩) h
                have hbeln : Nonempty (Bel wr.heap.size wr) := ⟨⟨wr, Below.refl _ _⟩⟩
                refine wp_region_bel wr.heap.size (by kernel_rfl) (by kernel_rfl) ?_
                repeat (go_big_quiet_step ((go_at_call 30; exact quiet_bel (Nat.le_refl _) (touch_isR _ _ _ _ _ _ _ (by omega) (by omega) (by omega) (by omega) (by first | exact ht | exact ht')))))
                refine wpQuiet_nil ?_
                intro wB hB0; obtain ⟨uB, hu⟩ := hB0; have hbB0 := uB.h; rw [← hu] at hbB0; clear hu uB hbelc hbeln
                obtain ⟨hbB, hcB, hsB⟩ := bcell2 hbB0; clear hbB0
                clear hcB
                have HBB := Lib.hid hbB; clear hbB
                go_wp2
                go_roundw
                case rel => exact ⟨q + 1, rfl, by go_num, by omega, by omega, HBR.out.trans (HBB.out.mono HBR.out.size)⟩
                case measure => simp [intOf]; omega
              · have bq : (fq == (m : Int)) = true := by simp; omega
                by_cases hqk3 : q = k
                · have bk : ((q : Int) == (k : Int)) = true := by simp; omega
                  have hdq := hhit hqm (.inl hqk3)
                  obtain rfl := hlst htt hdq
                  clear hqm hqk3
                  have hownq := own_below3 HOWN.out hbr
                  have hlo := hownq.lt
                  have hN1 : Hid (some w1.heap.size ≠ (Value.slice OA pre.length oc).ownBlock) := fun h => by have := (hlo _ h.symm).1; omega
                  generalize ws[t].pl = pa at *
                  generalize ws[q].pl = pb at *
                  clear hmis hhit hlst
                  have HBR := Lib.hid hbr; have HBQ := Lib.hid hbq; have HIQ := Lib.hid hIq; have HTQ2 := Lib.hid htq2; have HFQ := Lib.hid hFq; have HDQ := Lib.hid hdq; have HOWNQ := Lib.hid hownq; have HLO := Lib.hid hlo; clear hbr hbq hIq htq2 hFq hdq hownq hlo
                  go_wp2
                  have hbelc : ∀ (u : Bel wr.heap.size wr) b o, b < wr.heap.size → u.wd.cell? ⟨b, o, none⟩ = wr.cell? ⟨b, o, none⟩ := fun u b o h => u.h.cell (p := ⟨b, o, none⟩) h
                  have hbeln : Nonempty (Bel wr.heap.size wr) := ⟨⟨wr, Below.refl _ _⟩⟩
                  refine wp_region_bel wr.heap.size (by kernel_rfl) (by kernel_rfl) ?_
                  repeat (go_big_quiet_step ((go_at_call 30; exact quiet_bel (Nat.le_refl _) (touch_isR _ _ _ _ _ _ _ (by omega) (by omega) (by omega) (by omega) (by first | exact ht | exact ht')))))
                  refine wpQuiet_nil ?_
                  intro wB hB0; obtain ⟨uB, hu⟩ := hB0; have hbB0 := uB.h; rw [← hu] at hbB0; clear hu uB hbelc hbeln
                  obtain ⟨hbB, hcB, hsB⟩ := bcell2 hbB0; clear hbB0
                  clear hcB
                  have hownX := own_below3 HOWNQ.out hbB
                  have HBB := Lib.hid hbB; have HOWNX := Lib.hid hownX; clear hbB hownX
                  go_wp2_with (first | (at_builtin; go_must (refine wpList_app1_Try rfl _ _ rfl w3.heap.size (.slice OA pre.length oc) pre rfl (by repeat (first | exact HOWNX.out | refine World.ownsRow.alloc ?_ _ | refine own_drewN ?_ _)) _ q rfl (heap_alloc_new _ _) (by omega) (by have := HBR.out.size; simp; omega) ?_); intro g cap w6 hown6 hgrow hat6 hlt6))
                  have hs9 := HBR.out.size
                  have r1 : IdB w6 w1.heap.size ws.length F := ((HIQ.out.later HBB.out).later ((Below.refl _ _).alloc (Nat.le_refl _) _)).kept hgrow hN1.out
                  have r2 : Below w.heap.size w w6 := ((HBQ.out.trans (HBB.out.mono HBQ.out.size)).alloc (by omega) _).grown hgrow (by simp; omega) (fun j hj => by have := (HLO.out j hj).1; omega)
                  have r3 : Box1 w w6 p (some ⟨b, off, none⟩) c ws.length := box1_grown (((HX.out.later HBR.out).later HBB.out).later ((Below.refl _ _).alloc (Nat.le_refl _) _)) hgrow (fun j hj => by have := (HLO.out j hj).1; omega)
                  have r4 : w3.heap.size + 1 ≤ w6.heap.size := by have := hgrow.size; simp at this; omega
                  have R1 := Lib.hid r1; have R2 := Lib.hid r2; have R3 := Lib.hid r3; have R4 := Lib.hid r4; have HOWN6 := Lib.hid hown6; have HGROW := Lib.hid hgrow; clear r1 r2 r3 r4 hown6 hgrow
                  go_roundw
                  case rel => exact ⟨m, q, pre ++ [(q : Int)], rest, rfl, by rw [← HPR.out]; simp, HCH2.out, HDQ.out, by omega, by omega, R1.out, R3.out, by simpa using HOWN6.out, R2.out, R4.out⟩
                  case measure => simp [intOf]; omega
                · have bk : ((q : Int) == (k : Int)) = false := by simp; omega
                  by_cases hp : 0 < fq
                  · have bv : decide (fq > 0) = true := by simp; omega
                    have hdq := hhit hqm (.inr hp)
                    obtain rfl := hlst htt hdq
                    clear hqm hqk3 hp
                    have hownq := own_below3 HOWN.out hbr
                    have hlo := hownq.lt
                    have hN1 : Hid (some w1.heap.size ≠ (Value.slice OA pre.length oc).ownBlock) := fun h => by have := (hlo _ h.symm).1; omega
                    generalize ws[t].pl = pa at *
                    generalize ws[q].pl = pb at *
                    clear hmis hhit hlst
                    have HBR := Lib.hid hbr; have HBQ := Lib.hid hbq; have HIQ := Lib.hid hIq; have HTQ2 := Lib.hid htq2; have HFQ := Lib.hid hFq; have HDQ := Lib.hid hdq; have HOWNQ := Lib.hid hownq; have HLO := Lib.hid hlo; clear hbr hbq hIq htq2 hFq hdq hownq hlo
                    go_wp2
                    have hbelc : ∀ (u : Bel wr.heap.size wr) b o, b < wr.heap.size → u.wd.cell? ⟨b, o, none⟩ = wr.cell? ⟨b, o, none⟩ := fun u b o h => u.h.cell (p := ⟨b, o, none⟩) h
                    have hbeln : Nonempty (Bel wr.heap.size wr) := ⟨⟨wr, Below.refl _ _⟩⟩
                    refine wp_region_bel wr.heap.size (by kernel_rfl) (by kernel_rfl) ?_
                    repeat (go_big_quiet_step ((go_at_call 30; exact quiet_bel (Nat.le_refl _) (touch_isR _ _ _ _ _ _ _ (by omega) (by omega) (by omega) (by omega) (by first | exact ht | exact ht')))))
                    refine wpQuiet_nil ?_
                    intro wB hB0; obtain ⟨uB, hu⟩ := hB0; have hbB0 := uB.h; rw [← hu] at hbB0; clear hu uB hbelc hbeln
                    obtain ⟨hbB, hcB, hsB⟩ := bcell2 hbB0; clear hbB0
                    clear hcB
                    have hownX := own_below3 HOWNQ.out hbB
                    have HBB := Lib.hid hbB; have HOWNX := Lib.hid hownX; clear hbB hownX
                    go_wp2_with (first | (at_builtin; go_must (refine wpList_app1_Try rfl _ _ rfl w3.heap.size (.slice OA pre.length oc) pre rfl (by repeat (first | exact HOWNX.out | refine World.ownsRow.alloc ?_ _ | refine own_drewN ?_ _)) _ q rfl (heap_alloc_new _ _) (by omega) (by have := HBR.out.size; simp; omega) ?_); intro g cap w6 hown6 hgrow hat6 hlt6))
                    have hs9 := HBR.out.size
                    have r1 : IdB w6 w1.heap.size ws.length F := ((HIQ.out.later HBB.out).later ((Below.refl _ _).alloc (Nat.le_refl _) _)).kept hgrow hN1.out
                    have r2 : Below w.heap.size w w6 := ((HBQ.out.trans (HBB.out.mono HBQ.out.size)).alloc (by omega) _).grown hgrow (by simp; omega) (fun j hj => by have := (HLO.out j hj).1; omega)
                    have r3 : Box1 w w6 p (some ⟨b, off, none⟩) c ws.length := box1_grown (((HX.out.later HBR.out).later HBB.out).later ((Below.refl _ _).alloc (Nat.le_refl _) _)) hgrow (fun j hj => by have := (HLO.out j hj).1; omega)
                    have r4 : w3.heap.size + 1 ≤ w6.heap.size := by have := hgrow.size; simp at this; omega
                    have R1 := Lib.hid r1; have R2 := Lib.hid r2; have R3 := Lib.hid r3; have R4 := Lib.hid r4; have HOWN6 := Lib.hid hown6; have HGROW := Lib.hid hgrow; clear r1 r2 r3 r4 hown6 hgrow
                    go_roundw
                    case rel => exact ⟨m, q, pre ++ [(q : Int)], rest, rfl, by rw [← HPR.out]; simp, HCH2.out, HDQ.out, by omega, by omega, R1.out, R3.out, by simpa using HOWN6.out, R2.out, R4.out⟩
                    case measure => simp [intOf]; omega
                  · have bv : decide (fq > 0) = false := by simp; omega
                    have hqe := hmis (.inr (.inr ⟨hqk3, hp⟩))
                    clear hqm hqk3 hp
                    generalize ws[t].pl = pa at *
                    generalize ws[q].pl = pb at *
                    clear hmis hhit hlst
                    have HBR := Lib.hid hbr; have HBQ := Lib.hid hbq; have HIQ := Lib.hid hIq; have HTQ2 := Lib.hid htq2; have HFQ := Lib.hid hFq; clear hbr hbq hIq htq2 hFq
                    go_wp2
                    have hbelc : ∀ (u : Bel wr.heap.size wr) b o, b < wr.heap.size → u.wd.cell? ⟨b, o, none⟩ = wr.cell? ⟨b, o, none⟩ := fun u b o h => u.h.cell (p := ⟨b, o, none⟩) h
                    have hbeln : Nonempty (Bel wr.heap.size wr) := ⟨⟨wr, Below.refl _ _⟩⟩
                    refine wp_region_bel wr.heap.size (by kernel_rfl) (by kernel_rfl) ?_
                    repeat (go_big_quiet_step ((go_at_call 30; exact quiet_bel (Nat.le_refl _) (touch_isR _ _ _ _ _ _ _ (by omega) (by omega) (by omega) (by omega) (by first | exact ht | exact ht')))))
                    refine wpQuiet_nil ?_
                    intro wB hB0; obtain ⟨uB, hu⟩ := hB0; have hbB0 := uB.h; rw [← hu] at hbB0; clear hu uB hbelc hbeln
                    obtain ⟨hbB, hcB, hsB⟩ := bcell2 hbB0; clear hbB0
                    clear hcB
                    have HBB := Lib.hid hbB; clear hbB
                    go_wp2
                    go_roundw
                    case rel => exact ⟨q + 1, rfl, by go_num, by omega, by omega, HBR.out.trans (HBB.out.mono HBR.out.size)⟩
                    case measure => simp [intOf]; omega
end Go.Proofs.Ytepdgffccfcfpaa
