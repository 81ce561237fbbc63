/- The laws' exchanged: a copy of a sheet with exchanges. -/
import Derived.Test.YtifpkdajfdlgeaaTrExc
import Derived.Test.YtifpkdajfdlgeaaTrAid
import Derived.Test.YtifpkdajfdlgeaaTrLaw1
import Derived.BigRegion
namespace Go.Proofs.Ytifpkdajfdlgeaa
open Go.RowKit

/-- The slice at L holds these numbers of 16 bits. -/
def RdU (w : World) (L : Option Addr) (xs : List Int) : Prop := xs.length ≤ 281474976710656 ∧ (∀ x ∈ xs, 0 ≤ x ∧ x ≤ 65535) ∧ Rd w L 1 xs.length fun j => .int .u16 (xs.getD j 0)
theorem RdU.at_ {w : World} {A : Option Addr} {xs : List Int} (h : RdU w A xs) {k : Nat} (hk : k < xs.length) :
    ∃ b off, A = some ⟨b, off, none⟩ ∧ b < w.heap.size ∧ w.cell? ⟨b, off + k, none⟩ = some (.int .u16 xs[k]) := by
  obtain ⟨b, off, e, hlt, hc⟩ := h.2.2 (by omega)
  exact ⟨b, off, e, hlt, by rw [hc k (by omega)]; simp [List.getD_eq_getElem?_getD, hk]⟩
theorem RdU.later {w w' : World} {B : Nat} {A : Option Addr} {xs : List Int} (h : RdU w A xs) (hb : Below B w w') (hB : w.heap.size ≤ B) : RdU w' A xs := ⟨h.1, h.2.1, h.2.2.later hb hB⟩
def Box2 (w w1 : World) (p : Int) (A : Option Addr) (c n : Nat) : Prop :=
  w1.cell? ⟨w.heap.size, 0, none⟩ = some (.int .i64 p) ∧ w1.cell? ⟨w.heap.size, 1, none⟩ = some (.slice A n c) ∧ w.heap.size < w1.heap.size
theorem Box2.later {w w1 w2 : World} {p : Int} {A : Option Addr} {c n : Nat} (h : Box2 w w1 p A c n) (hb : Below w1.heap.size w1 w2) : Box2 w w2 p A c n :=
  ⟨below_at hb (Nat.le_refl _) h.1, below_at hb (Nat.le_refl _) h.2.1, Nat.lt_of_lt_of_le h.2.2 hb.size⟩
def ExcPost (p : Int) (vs : List GW) (w : World) (e : Ending) (w' : World) : Prop :=
  ∃ B d, e = .returned (.agg #[.int .i64 p, .slice B vs.length d]) ∧ w'.ownsRow w.heap.size 40 3 (.slice B vs.length d) vs.length (worksC vs) ∧ Below w.heap.size w w' ∧ vs.length ≤ d

theorem own_below3 {w w' : World} {base e n : Nat} {v : Value} {xs : List Value} (h : w.ownsRow base e 3 v n xs) (hb : Below w.heap.size w w') : w'.ownsRow base e 3 v n xs := h.kept (gb_none hb none) (by cases v.ownBlock <;> simp)
theorem own_base {w : World} {base base' e n : Nat} {v : Value} {xs : List Value} (h : w.ownsRow base e 3 v n xs) (hb : base' ≤ base) : w.ownsRow base' e 3 v n xs := by
  refine ⟨h.1, ?_⟩
  rcases h.2 with h2 | ⟨g, cap, cur, h3, h4, h5⟩
  · exact .inl h2
  · exact .inr ⟨g, cap, cur, h3, Nat.le_trans hb h4, h5⟩
set_option maxRecDepth 100000 in
set_option maxHeartbeats 4000000 in
theorem exchanged_ (p : Int) (A L : Option Addr) (c lc : Nat) (ws : List GW) (at' : List Int) (w : World) (hl4 : ws.length ≤ 400) (hpl : ∀ x ∈ ws, 0 ≤ x.pl ∧ x.pl ≤ 22) (ha : RdW w A ws) (hl : RdU w L at') :
    Calls Try.prog 26 #[.agg #[.int .i64 p, .slice A ws.length c], .slice L at'.length lc] w (ExcPost p (exW ws at') w) := by
  have hln := hl.1
  have hb0 : Below w.heap.size w ((w.alloc (.cells #[.int .i64 p, .slice A ws.length c] 24)).alloc (.cells #[.int .i64 0, .slice none 0 0] 24)) := ((Below.refl _ _).alloc (Nat.le_refl _) _).alloc (by simp) _
  have X0 : Hid (Box2 w ((w.alloc (.cells #[.int .i64 p, .slice A ws.length c] 24)).alloc (.cells #[.int .i64 0, .slice none 0 0] 24)) p A c ws.length) := Lib.hid ⟨by go_simp, by go_simp, by simp; omega⟩
  have R0 : Hid (((w.alloc (.cells #[.int .i64 p, .slice A ws.length c] 24)).alloc (.cells #[.int .i64 0, .slice none 0 0] 24)).heap[w.heap.size + 1]? = some (.cells #[.int .i64 0, .slice none 0 0] 24 (0, 0))) := Lib.hid (heap_alloc2_new _ _ _)
  have S0 : Hid (((w.alloc (.cells #[.int .i64 p, .slice A ws.length c] 24)).alloc (.cells #[.int .i64 0, .slice none 0 0] 24)).heap.size = w.heap.size + 2) := Lib.hid (by simp)
  have hrd0 := ha.later hb0 (Nat.le_refl _)
  have HA := Lib.hid ha; have HL := Lib.hid hl; have HB0 := Lib.hid hb0; have HRD0 := Lib.hid hrd0; have HPL := Lib.hid hpl; clear ha hl hb0 hrd0 hpl
  go_enter Try.func26, Try.ntmps26
  go_wp2_with fail
  obtain ⟨w0, hw0⟩ : ∃ w0, w0 = (w.alloc (.cells #[.int .i64 p, .slice A ws.length c] 24)).alloc (.cells #[.int .i64 0, .slice none 0 0] 24) := ⟨_, rfl⟩
  rw [← hw0] at X0 R0 S0 HB0 HRD0 ⊢
  clear hw0
  obtain ⟨c1, c2, s1⟩ := X0.out
  go_upto_region 2 with fail
  go_cut [5] (fun sv wx => ∃ (S : Nat) (sA : Option Addr) (sc : Nat), sv = .pointer (some ⟨S, 0, none⟩) ∧ wx.heap[S]? = some (.cells #[.int .i64 p, .slice sA ws.length sc] 24 (0, 0)) ∧
    wx.ownsRow w0.heap.size 40 3 (.slice sA ws.length sc) ws.length (worksC ws) ∧ some S ≠ (Value.slice sA ws.length sc).ownBlock ∧ w0.heap.size ≤ S ∧ Below w0.heap.size w0 wx ∧ ws.length ≤ sc)
  case first =>
    go_region_held3 (fun wX => Below w0.heap.size w0 wX ∧ (∀ b o, b < w0.heap.size → wX.cell? ⟨b, o, none⟩ = w0.cell? ⟨b, o, none⟩) ∧ w0.heap.size ≤ wX.heap.size)
      ((refine bcell2 ?_; first | exact (Below.refl _ _).drew | exact hB3 | exact hB3.alloc hB3.size _ | exact ‹Below w0.heap.size w0 _ ∧ _›.1.alloc ‹Below w0.heap.size w0 _ ∧ _›.1.size _ | exact (hB3.setCell (by simp) _).setCell (by simp) _ | exact (hB3.setCell (by simp; omega) _).setCell (by simp; omega) _ | exact ((hB3.alloc hB3.size _).setCell (by simp; omega) _).setCell (by simp; omega) _ | exact ‹Below w0.heap.size w0 _ ∧ _›.1))
      (first
        | (refine step_copyW_Try (by rfl) _ _ (by rfl) w0.heap.size (.slice (some ⟨w0.heap.size, 0, none⟩) 0 0) (by rfl) (own_emptyW (heap_alloc_new _ _) (Nat.le_refl _)) A c ws (by rfl) (HRD0.out.later (B := w0.heap.size) (by repeat (first | exact Below.refl _ _ | refine Below.drew ?_ | refine Below.alloc ?_ (by first | exact Nat.le_refl _ | (simp; done) | (simp; omega)) _)) (Nat.le_refl _)) (by omega) (by first | exact Nat.le_refl _ | (simp; done) | (simp; omega)) ?_; intro sA sc w3 hown hgrow hat hsc; have hB3 : Below w0.heap.size w0 w3 := Below.grown (by repeat (first | exact Below.refl _ _ | refine Below.drew ?_ | refine Below.alloc ?_ (by first | exact Nat.le_refl _ | (simp; done) | (simp; omega)) _)) hgrow (by first | exact Nat.le_refl _ | (simp; done) | (simp; omega)) (fun k hk => by simp [Value.ownBlock] at hk; omega); obtain ⟨k1, k2, k3⟩ := X0.out.later hB3)
        | (refine step_copyW_Try (by rfl) _ _ (by rfl) w0.heap.size (.slice (some ⟨w0.heap.size, 0, none⟩) 0 0) (by rfl) (own_emptyW (heap_alloc2_old _ _ _) (Nat.le_refl _)) A c ws (by rfl) (HRD0.out.later (B := w0.heap.size) (by repeat (first | exact Below.refl _ _ | refine Below.drew ?_ | refine Below.alloc ?_ (by first | exact Nat.le_refl _ | (simp; done) | (simp; omega)) _)) (Nat.le_refl _)) (by omega) (by first | exact Nat.le_refl _ | (simp; done) | (simp; omega)) ?_; intro sA sc w3 hown hgrow hat hsc; have hB3 : Below w0.heap.size w0 w3 := Below.grown (by repeat (first | exact Below.refl _ _ | refine Below.drew ?_ | refine Below.alloc ?_ (by first | exact Nat.le_refl _ | (simp; done) | (simp; omega)) _)) hgrow (by first | exact Nat.le_refl _ | (simp; done) | (simp; omega)) (fun k hk => by simp [Value.ownBlock] at hk; omega); obtain ⟨k1, k2, k3⟩ := X0.out.later hB3; have hS : w3.heap[w0.heap.size + 1]? = some (.cells #[.int .i64 0, .slice none 0 0] 24 (0, 0)) := (hgrow.block _ (by first | (simp; done) | (simp; omega)) (by simp [Value.ownBlock])).trans (heap_alloc2_new _ _ _); have q1 := cell_of_row w3 _ 0 _ _ _ hS; have q2 := cell_of_row w3 _ 1 _ _ _ hS; have q3 := frozen_of_row w3 _ 0 _ _ hS; have q4 := frozen_of_row w3 _ 1 _ _ hS; have q5 := lt_of_block hS; simp at q1 q2)
        | (refine step_copyW_Try (by rfl) _ _ (by rfl) w0.heap.size (.slice (some ⟨w0.heap.size + 1, 0, none⟩) 0 0) (by rfl) (own_emptyW (heap_alloc2_new _ _ _) (by omega)) A c ws (by rfl) (HRD0.out.later (B := w0.heap.size) (by repeat (first | exact Below.refl _ _ | refine Below.drew ?_ | refine Below.alloc ?_ (by first | exact Nat.le_refl _ | (simp; done) | (simp; omega)) _)) (Nat.le_refl _)) (by omega) (by first | exact Nat.le_refl _ | (simp; done) | (simp; omega)) ?_; intro sA sc w3 hown hgrow hat hsc; have hB3 : Below w0.heap.size w0 w3 := Below.grown (by repeat (first | exact Below.refl _ _ | refine Below.drew ?_ | refine Below.alloc ?_ (by first | exact Nat.le_refl _ | (simp; done) | (simp; omega)) _)) hgrow (by first | exact Nat.le_refl _ | (simp; done) | (simp; omega)) (fun k hk => by simp [Value.ownBlock] at hk; omega); obtain ⟨k1, k2, k3⟩ := X0.out.later hB3; have hS : w3.heap[w0.heap.size]? = some (.cells #[.int .i64 0, .slice none 0 0] 24 (0, 0)) := (hgrow.block _ (by first | (simp; done) | (simp; omega)) (by simp [Value.ownBlock])).trans (heap_alloc2_old _ _ _); have q1 := cell_of_row w3 _ 0 _ _ _ hS; have q2 := cell_of_row w3 _ 1 _ _ _ hS; have q3 := frozen_of_row w3 _ 0 _ _ hS; have q4 := frozen_of_row w3 _ 1 _ _ hS; have q5 := lt_of_block hS; simp at q1 q2))
    all_goals
      go_wp2_with fail
      go_meet
      first
        | exact ⟨_, sA, sc, rfl, heap_alloc_new _ _, hown.alloc _, (fun h => by have := (hown.lt _ h.symm).2; omega), hB3.size, hB3.alloc hB3.size _, hsc⟩
        | (have hne : some (w0.heap.size + 1) ≠ (Value.slice sA ws.length sc).ownBlock := by
             rcases hat with h | h <;> (rw [h]; simp [Value.ownBlock]) <;> omega
           exact ⟨w0.heap.size + 1, sA, sc, rfl, two_set hS, own_set_ne (own_set_ne hown hne _) hne _, hne, by omega, (hB3.setCell (by show w0.heap.size ≤ w0.heap.size + 1; omega) _).setCell (by show w0.heap.size ≤ w0.heap.size + 1; omega) _, hsc⟩)
        | (have hne : some w0.heap.size ≠ (Value.slice sA ws.length sc).ownBlock := by
             rcases hat with h | h <;> (rw [h]; simp [Value.ownBlock]) <;> omega
           exact ⟨w0.heap.size, sA, sc, rfl, two_set hS, own_set_ne (own_set_ne hown hne _) hne _, hne, by omega, (hB3.setCell (Nat.le_refl _) _).setCell (Nat.le_refl _) _, hsc⟩)
  case rest =>
    obtain ⟨S, sA, sc, rfl, hO, hown, hneS, hS2, hbw, hsc⟩ := hcut
    clear c1 c2 s1
    have HO := Lib.hid hO; have HOWN := Lib.hid hown; have HNES := Lib.hid hneS; have HBW := Lib.hid hbw; have HSC := Lib.hid hsc; clear hO hown hneS hbw hsc
    go_wp2
    go_loopw [6] (fun iv wr => ∃ j : Nat, iv = .int .i64 j ∧ j ≤ at'.length ∧ wr.heap[S]? = some (.cells #[.int .i64 p, .slice sA ws.length sc] 24 (0, 0)) ∧
      wr.ownsRow w0.heap.size 40 3 (.slice sA ws.length sc) ws.length (worksC (exW ws (at'.take j))) ∧ Below w0.heap.size w0 wr) (fun iv _ => at'.length - (intOf iv).toNat)
    case atStart => exact ⟨0, rfl, Nat.zero_le _, HO.out, by simpa [exW] using HOWN.out, HBW.out⟩
    case round =>
      obtain ⟨j, rfl, hj, hO2, hown2, hbw2⟩ := hrel
      obtain ⟨c1, c2, s1⟩ := X0.out.later hbw2
      have o0 : wr.cell? ⟨S, 0, none⟩ = some (.int .i64 p) := cell_of_row wr _ 0 _ _ _ hO2
      have o1 : wr.cell? ⟨S, 1, none⟩ = some (.slice sA ws.length sc) := cell_of_row wr _ 1 _ _ _ hO2
      have hSl := lt_of_block hO2
      by_cases hlt : j < at'.length
      · by_cases h1 : 1 < ws.length
        · have x1 : (0 : Int) ≤ (j : Int) := by omega
          have x2 : (j : Int) < (at'.length : Int) := by omega
          have x3 : (1 : Int) < (ws.length : Int) := by omega
          obtain ⟨bL, oL, rfl, hbL, hcL⟩ := (HL.out.later (HB0.out.trans (hbw2.mono HB0.out.size)) (Nat.le_refl _)).at_ hlt
          obtain ⟨hx0, hx1⟩ := HL.out.2.1 at'[j] (List.getElem_mem hlt)
          have hZs := exW_succ ws at' hlt
          have hZl : (exW ws (at'.take j)).length = ws.length := exW_length _ _
          have hZp : ∀ i, i < ws.length → 0 ≤ ((exW ws (at'.take j)).getD i nw).pl ∧ ((exW ws (at'.take j)).getD i nw).pl ≤ 22 := fun i hi => by
            have e : (exW ws (at'.take j)).getD i nw = (exW ws (at'.take j))[i]'(by omega) := by simp [List.getD_eq_getElem?_getD, show i < (exW ws (at'.take j)).length by omega]
            rw [e]
            exact HPL.out _ (mem_exW _ (List.getElem_mem _))
          generalize exW ws (at'.take j) = Z at *
          have hPl := exP_lt (ws := Z) (by omega) at'[j]
          have hst : exStep Z at'[j] = if touchB (Z.getD (exP Z at'[j]) nw).pl (Z.getD (exP Z at'[j] + 1) nw).pl = true then Z else swW Z (exP Z at'[j]) := by unfold exStep; rw [if_pos (by omega)]
          rw [hst] at hZs
          have hmod : at'[j].tmod ((ws.length : Int) - 1) = (exP Z at'[j] : Int) := by
            rw [Int.tmod_eq_emod_of_nonneg hx0]
            unfold exP
            rw [hZl]
            have := Int.emod_nonneg at'[j] (show (ws.length : Int) - 1 ≠ 0 by omega)
            omega
          clear hst
          generalize exP Z at'[j] = P at *
          generalize at'[j] = xx at *
          have x4 : IntKind.i64.wrap xx = xx := IntWalk.i64_in _ (by omega)
          have x5 : IntKind.i64.wrap ((ws.length : Int) - 1) = (ws.length : Int) - 1 := IntWalk.i64_in _ (by omega)
          have x6 : ¬ (ws.length : Int) - 1 = 0 := by omega
          have x7 : IntKind.i64.wrap (P : Int) = (P : Int) := IntWalk.i64_in _ (by omega)
          have hO2' := hO2
          have HO2p := Lib.hid hO2'; have HOWN2 := Lib.hid hown2; have HBW2 := Lib.hid hbw2; have HZS := Lib.hid hZs; have HZP := Lib.hid hZp; clear hO2' hown2 hbw2 hZs hZp
          clear hO2
          go_wp2
          go_quiet (fail)
          go_wp2
          obtain ⟨wz, hwz⟩ : ∃ wz, wz = wr.drewN nq := ⟨_, rfl⟩
          rw [← hwz]
          have hOz : wz.heap[S]? = some (.cells #[.int .i64 p, .slice sA ws.length sc] 24 (0, 0)) := by rw [hwz]; exact HO2p.out
          have hownz : wz.ownsRow w0.heap.size 40 3 (.slice sA ws.length sc) ws.length (worksC Z) := by rw [hwz]; exact own_drewN HOWN2.out _
          have hbz : Below w0.heap.size w0 wz := by rw [hwz]; exact below_drewN HBW2.out _
          clear hwz o0 o1 hSl hcL hbL c1 c2 s1 HO2p HOWN2 HBW2
          obtain ⟨g, rfl, hg1, hg2⟩ := own_someW hownz (by omega)
          have o1 : wz.cell? ⟨S, 1, none⟩ = some (.slice (some ⟨g, 0, none⟩) ws.length sc) := cell_of_row wz _ 1 _ _ _ hOz
          have hSl := lt_of_block hOz
          obtain ⟨q1, q2, q3, _, _, _⟩ := own_workW hownz (i := P) (by omega)
          obtain ⟨q4, q5, q6, _, _, _⟩ := own_workW hownz (i := P + 1) (by omega)
          obtain ⟨e1, e2⟩ := HZP.out P (by omega)
          obtain ⟨e3, e4⟩ := HZP.out (P + 1) (by omega)
          have y1 : (0 : Int) ≤ (P : Int) := by omega
          have y2 : (P : Int) < (ws.length : Int) := by omega
          have y3 : (P : Int) + 1 < (ws.length : Int) := by omega
          have y4 : IntKind.i64.wrap ((P : Int) + 1) = (P : Int) + 1 := IntWalk.i64_in _ (by omega)
          have y5 : ((P : Int) + 1).toNat = P + 1 := by omega
          have y6 : (0 : Int) ≤ (P : Int) + 1 := by omega
          obtain ⟨z1, hz1⟩ : ∃ z, Z.getD P nw = z := ⟨_, rfl⟩
          obtain ⟨z2, hz2⟩ : ∃ z, Z.getD (P + 1) nw = z := ⟨_, rfl⟩
          rw [hz1] at q1 q2 q3 e1 e2
          rw [hz2] at q4 q5 q6 e3 e4
          have hZs' := HZS.out
          rw [hz1, hz2] at hZs'
          have hsw : swW Z P = (Z.set P z2).set (P + 1) z1 := by unfold swW; rw [hz1, hz2]
          rw [hsw] at hZs'
          clear hsw HZS HZP
          have HZ1 := Lib.hid hz1; have HZ2 := Lib.hid hz2; clear hz1 hz2
          by_cases ht : touchB z1.pl z2.pl = true
          · rw [if_pos ht] at hZs'
            have HOZ := Lib.hid hOz; have HOWNZ := Lib.hid hownz; have HBZ := Lib.hid hbz; have HZSp := Lib.hid hZs'; clear hOz hownz hbz hZs'
            have hbelc : ∀ (u : Bel wz.heap.size wz) b o, b < wz.heap.size → u.wd.cell? ⟨b, o, none⟩ = wz.cell? ⟨b, o, none⟩ := fun u b o h => u.h.cell (p := ⟨b, o, none⟩) h
            have hbeln : Nonempty (Bel wz.heap.size wz) := ⟨⟨wz, Below.refl _ _⟩⟩
            refine wp_region_bel wz.heap.size (by kernel_rfl) (by kernel_rfl) ?_
            repeat (go_big_quiet_step ((go_at_call 27; exact quiet_bel (Nat.le_refl _) (touch_is _ _ _ _ _ _ _ (by omega) (by omega) (by omega) (by omega) ht))))
            refine wpQuiet_nil ?_
            intro wB hB0; obtain ⟨uB, hu⟩ := hB0; have hbB0 := uB.h; rw [← hu] at hbB0; clear hu uB hbelc hbeln
            obtain ⟨hbB, hcB, hsB⟩ := bcell2 hbB0; clear hbB0
            go_wp2
            go_roundw
            case rel =>
              refine ⟨j + 1, by go_num, by omega, (hbB.block S hSl).trans HOZ.out, by rw [HZSp.out]; exact own_below3 HOWNZ.out hbB, HBZ.out.trans (hbB.mono HBZ.out.size)⟩
            case measure => simp [intOf]; omega
          · have ht' : touchB z1.pl z2.pl = false := by simpa using ht
            rw [if_neg ht] at hZs'
            clear ht
            have HOZ := Lib.hid hOz; have HOWNZ := Lib.hid hownz; have HBZ := Lib.hid hbz; have HZSp := Lib.hid hZs'; clear hOz hownz hbz hZs'
            have hbelc : ∀ (u : Bel wz.heap.size wz) b o, b < wz.heap.size → u.wd.cell? ⟨b, o, none⟩ = wz.cell? ⟨b, o, none⟩ := fun u b o h => u.h.cell (p := ⟨b, o, none⟩) h
            have hbeln : Nonempty (Bel wz.heap.size wz) := ⟨⟨wz, Below.refl _ _⟩⟩
            refine wp_region_bel wz.heap.size (by kernel_rfl) (by kernel_rfl) ?_
            repeat (go_big_quiet_step ((go_at_call 27; exact quiet_bel (Nat.le_refl _) (touch_is _ _ _ _ _ _ _ (by omega) (by omega) (by omega) (by omega) ht'))))
            refine wpQuiet_nil ?_
            intro wB hB0; obtain ⟨uB, hu⟩ := hB0; have hbB0 := uB.h; rw [← hu] at hbB0; clear hu uB hbelc hbeln
            obtain ⟨hbB, hcB, hsB⟩ := bcell2 hbB0; clear hbB0
            clear o1 q1 q2 q3 q4 q5 q6 hcB hsB
            have hOB := (hbB.block S hSl).trans HOZ.out
            have hownB := own_below3 HOWNZ.out hbB
            have o1 : wB.cell? ⟨S, 1, none⟩ = some (.slice (some ⟨g, 0, none⟩) ws.length sc) := cell_of_row wB _ 1 _ _ _ hOB
            have hgl : g < wB.heap.size := (hownB.lt g rfl).2
            obtain ⟨q1, q2, q3, f1, f2, f3⟩ := own_workW hownB (i := P) (by omega)
            obtain ⟨q4, q5, q6, f4, f5, f6⟩ := own_workW hownB (i := P + 1) (by omega)
            rw [HZ1.out] at q1 q2 q3
            rw [HZ2.out] at q4 q5 q6
            have n1 : ¬ S = g := fun e => HNES.out (by rw [e]; rfl)
            have n2 : ¬ g = S := fun e => n1 e.symm
            have HOB := Lib.hid hOB; have HOWNB := Lib.hid hownB; clear hOB hownB
            go_wp2
            go_region
            go_wp2
            go_roundw
            case rel =>
              obtain ⟨r1, r2, r3⟩ := swap_facts (P := P) HOWNB.out n1 (HBZ.out.trans (hbB.mono HBZ.out.size)) hg1 z1 z2
              exact ⟨j + 1, by go_num, by omega, r2.trans HOB.out, by rw [HZSp.out]; exact r1, r3⟩
            case measure => simp [intOf]; omega
        · have x3 : decide ((1 : Int) < (ws.length : Int)) = false := by simp; omega
          have x2 : (j : Int) < (at'.length : Int) := by omega
          have hEx : exW ws (at'.take j) = exW ws at' := by rw [exW_short h1, exW_short h1]
          rw [hEx] at hown2
          have hRw : wr.heap[w.heap.size + 1]? = some (.cells #[.int .i64 0, .slice none 0 0] 24 (0, 0)) := (hbw2.block _ (by rw [S0.out]; omega)).trans R0.out
          have k0 := cell_of_row wr _ 0 _ _ _ hRw
          have k1 := cell_of_row wr _ 1 _ _ _ hRw
          have k2 := frozen_of_row wr _ 0 _ _ hRw
          have k3 := frozen_of_row wr _ 1 _ _ hRw
          have k4 := lt_of_block hRw
          have hs0 := S0.out
          simp at k0 k1
          clear hO2 hRw
          have HBW2 := Lib.hid hbw2; have HOWN2 := Lib.hid hown2; clear hbw2 hown2
          go_wp2
          refine bodyPost_ret (v := .agg #[.int .i64 p, .slice sA (exW ws at').length sc]) (by simp [results, Try.results26, go_sem, k0, k1, exW_length]) rfl ⟨sA, sc, rfl, ?_, ?_, by rw [exW_length]; exact HSC.out⟩
          · rw [exW_length]
            exact own_base (ownsRow_setCell_below (ownsRow_setCell_below HOWN2.out (by show w.heap.size + 1 < w0.heap.size; omega) _) (by show w.heap.size + 1 < w0.heap.size; omega) _) (by omega)
          · exact ((HB0.out.trans (HBW2.out.mono HB0.out.size)).setCell (by show w.heap.size ≤ w.heap.size + 1; omega) _).setCell (by show w.heap.size ≤ w.heap.size + 1; omega) _
      · have x2 : decide ((j : Int) < (at'.length : Int)) = false := by simp; omega
        have hEx : exW ws (at'.take j) = exW ws at' := by rw [List.take_of_length_le (by omega)]
        rw [hEx] at hown2
        have hRw : wr.heap[w.heap.size + 1]? = some (.cells #[.int .i64 0, .slice none 0 0] 24 (0, 0)) := (hbw2.block _ (by rw [S0.out]; omega)).trans R0.out
        have k0 := cell_of_row wr _ 0 _ _ _ hRw
        have k1 := cell_of_row wr _ 1 _ _ _ hRw
        have k2 := frozen_of_row wr _ 0 _ _ hRw
        have k3 := frozen_of_row wr _ 1 _ _ hRw
        have k4 := lt_of_block hRw
        have hs0 := S0.out
        simp at k0 k1
        clear hO2 hRw
        have HBW2 := Lib.hid hbw2; have HOWN2 := Lib.hid hown2; clear hbw2 hown2
        go_wp2
        refine bodyPost_ret (v := .agg #[.int .i64 p, .slice sA (exW ws at').length sc]) (by simp [results, Try.results26, go_sem, k0, k1, exW_length]) rfl ⟨sA, sc, rfl, ?_, ?_, by rw [exW_length]; exact HSC.out⟩
        · rw [exW_length]
          exact own_base (ownsRow_setCell_below (ownsRow_setCell_below HOWN2.out (by show w.heap.size + 1 < w0.heap.size; omega) _) (by show w.heap.size + 1 < w0.heap.size; omega) _) (by omega)
        · exact ((HB0.out.trans (HBW2.out.mono HB0.out.size)).setCell (by show w.heap.size ≤ w.heap.size + 1; omega) _).setCell (by show w.heap.size ≤ w.heap.size + 1; omega) _
end Go.Proofs.Ytifpkdajfdlgeaa
