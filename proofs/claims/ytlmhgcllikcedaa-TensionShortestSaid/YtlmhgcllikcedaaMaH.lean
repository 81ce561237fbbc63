/- Texts of this claim, laid together: TnTaut, TnTight, TnAwP, TnVl. -/
import Derived.Test.YtlmhgcllikcedaaMaA
import Derived.Test.YtlmhgcllikcedaaMaF
import Derived.Test.YtlmhgcllikcedaaMaG
import Derived.Deep.DeepCutAuto
import Derived.Deep.RegionLaw
/- Taut, walked (printed by mkTnTaut.py). -/
namespace Go.Proofs.Ytlmhgcllikcedaa
open Go.RowKit

/-- The second point, as a gate. -/
def gTo (p : Int × Int) : Gt := (p.2, p.1, p.1)
theorem preG_getD : ∀ {l : List Gt} {y : Int}, preG y l = true → (0 < l.length → y < (l.getD 0 (0, 0, 0)).1) ∧ ∀ k, k + 1 < l.length → (l.getD k (0, 0, 0)).1 < (l.getD (k + 1) (0, 0, 0)).1
  | [], y, _ => ⟨fun h => by simp at h, fun k h => by simp at h⟩
  | g :: l, y, h => by
    rw [preG, Bool.and_eq_true, decide_eq_true_eq] at h
    obtain ⟨i1, i2⟩ := preG_getD h.2
    refine ⟨fun _ => h.1, fun k hk => ?_⟩
    cases k with
    | zero => exact i1 (by simp at hk; omega)
    | succ k => exact i2 k (by simp at hk; omega)
theorem gErr_ok {o p : Int × Int} {gs : List Gt} (h : gErr o gs p = 0) : gs.length ≤ 100 ∧ offP p = false ∧ GtsOk o (gs ++ [gTo p]) 0 := by
  unfold gErr at h
  split at h
  · omega
  · rename_i h1
    split at h
    · omega
    · rename_i h2
      split at h
      · omega
      · rename_i h3
        split at h
        · rename_i h4
          have h5 : offP o = false ∧ offP p = false := by simpa using h2
          have h6 : gs.any badG = false := by simpa using h3
          have h7 : preG o.2 (gs ++ [gTo p]) = true := by
            unfold ascG at h4
            rw [Bool.and_eq_true, decide_eq_true_eq] at h4
            rw [preG_app, h4.1, preG, preG]
            simp [gTo, h4.2]
          obtain ⟨a1, a2⟩ := preG_getD h7
          refine ⟨by omega, h5.2, h5.1, fun k hk => ?_, a1, a2⟩
          rcases Nat.lt_or_ge k gs.length with hk2 | hk2
          · have : (gs ++ [gTo p]).getD k (0, 0, 0) = gs[k] := by simp [List.getD_eq_getElem?_getD, List.getElem?_append_left hk2, hk2]
            rw [this]
            exact by have := List.any_eq_false.1 h6 _ (List.getElem_mem hk2); simpa using this
          · obtain rfl : k = gs.length := by simp at hk; omega
            have : (gs ++ [gTo p]).getD gs.length (0, 0, 0) = gTo p := by simp [List.getD_eq_getElem?_getD]
            rw [this]
            unfold badG gTo Gt.l Gt.r
            simp [h5.2]
        · omega
theorem gTo_end (gs : List Gt) (p : Int × Int) : gL (gs ++ [gTo p]) ((gs ++ [gTo p]).length - 1) = gR (gs ++ [gTo p]) ((gs ++ [gTo p]).length - 1) := by
  have : (gs ++ [gTo p]).getD ((gs ++ [gTo p]).length - 1) (0, 0, 0) = gTo p := by simp [List.getD_eq_getElem?_getD]
  unfold gL gR
  rw [this]
  rfl
def tautV (o : Int × Int) (gs : List Gt) (p : Int × Int) : List (Int × Int) × Int := if gErr o gs p = 0 then (o :: tautR (gs ++ [gTo p]) (gs.length + 1) o 0, 0) else ([], gErr o gs p)
def TautPost (r : List (Int × Int) × Int) (w : World) (e : Ending) (w' : World) : Prop := ∃ A c, e = .returned (.tuple #[.slice A r.1.length c, .int .i64 r.2]) ∧ RdR w' A r.1 ∧ r.1.length ≤ c ∧ Below w.heap.size w w'
/-- The way so far, with what is still to come. -/
structure TaI (all : List Gt) (V W : List (Int × Int)) (u o : Int × Int) (next : Nat) : Prop where
  le : next ≤ all.length
  ok : GtsOk o all next
  ex : ∃ f, all.length - next ≤ f ∧ V = W ++ tautR all f o next
  ln : W.length ≤ next + 1
  lst : 0 < W.length ∧ W.getD (W.length - 1) (0, 0) = o
  prv : 2 ≤ W.length → W.getD (W.length - 2) (0, 0) = u
  bd : 2 ≤ W.length → next < all.length → lfV u o (pullF o all next).1 ≠ 0
theorem TaI.step {all : List Gt} {V W : List (Int × Int)} {u o : Int × Int} {next : Nat} (h : TaI all V W u o next) (hend : gL all (all.length - 1) = gR all (all.length - 1)) (hn : next < all.length) :
    TaI all V (W ++ [(pullF o all next).1]) o (pullF o all next).1 ((pullF o all next).2 + 1) ∧ next < (pullF o all next).2 + 1 ∧
    (2 < (W ++ [(pullF o all next).1]).length → lfV ((W ++ [(pullF o all next).1]).getD ((W ++ [(pullF o all next).1]).length - 3) (0, 0)) ((W ++ [(pullF o all next).1]).getD ((W ++ [(pullF o all next).1]).length - 2) (0, 0)) ((W ++ [(pullF o all next).1]).getD ((W ++ [(pullF o all next).1]).length - 1) (0, 0)) ≠ 0) := by
  obtain ⟨a1, a2, a3, a4, a5⟩ := pull_next h.ok hend hn
  obtain ⟨f, hf, hV⟩ := h.ex
  obtain ⟨l1, l2⟩ := h.lst
  have hl := h.ln
  have e1 : (W ++ [(pullF o all next).1]).getD ((W ++ [(pullF o all next).1]).length - 1) (0, 0) = (pullF o all next).1 := by simp [List.getD_eq_getElem?_getD]
  have e2 : (W ++ [(pullF o all next).1]).getD ((W ++ [(pullF o all next).1]).length - 2) (0, 0) = o := by
    rw [← l2]
    simp only [List.length_append, List.length_cons, List.length_nil, List.getD_eq_getElem?_getD]
    rw [List.getElem?_append_left (by omega)]
    congr 2
  refine ⟨⟨by omega, a3, ?_, by simp; omega, ⟨by simp, e1⟩, fun _ => e2, fun _ h2 => a5 h2⟩, by omega, fun h3 => ?_⟩
  · cases f with
    | zero => omega
    | succ f =>
      refine ⟨f, by omega, ?_⟩
      rw [hV, tautR, if_pos hn]
      simp
  · have hl3 : 2 ≤ W.length := by simp at h3; omega
    rw [e1, e2]
    have e3 : (W ++ [(pullF o all next).1]).getD ((W ++ [(pullF o all next).1]).length - 3) (0, 0) = u := by
      rw [← h.prv hl3]
      simp only [List.length_append, List.length_cons, List.length_nil, List.getD_eq_getElem?_getD]
      rw [List.getElem?_append_left (by omega)]
      congr 2
    rw [e3]
    exact h.bd hl3 hn
set_option maxRecDepth 100000 in
set_option maxHeartbeats 16000000 in
theorem tnTaut_ (A : Option Addr) (c : Nat) (o p : Int × Int) (gs : List Gt) (w : World) (hr : RdG w A gs) :
    Calls Try.prog 26 #[.agg #[.int .i64 o.1, .int .i64 o.2], .slice A gs.length c, .agg #[.int .i64 p.1, .int .i64 p.2]] w (TautPost (tautV o gs p) w) := by
  obtain ⟨w1, hw1⟩ : ∃ w1, w1 = (w.alloc (.cells #[.int .i64 o.1, .int .i64 o.2] 45)).alloc (.cells #[.int .i64 p.1, .int .i64 p.2] 45) := ⟨_, rfl⟩
  have hb1 : Below w.heap.size w w1 := by rw [hw1]; exact ((Below.refl _ _).alloc (Nat.le_refl _) _).alloc (by simp) _
  have k0 : w1.cell? ⟨w.heap.size, 0, none⟩ = some (.int .i64 o.1) := by rw [hw1]; go_simp
  have k1 : w1.cell? ⟨w.heap.size, 1, none⟩ = some (.int .i64 o.2) := by rw [hw1]; go_simp
  have k2 : w1.cell? ⟨w.heap.size + 1, 0, none⟩ = some (.int .i64 p.1) := by rw [hw1]; go_simp
  have k3 : w1.cell? ⟨w.heap.size + 1, 1, none⟩ = some (.int .i64 p.2) := by rw [hw1]; go_simp
  have hs1 : w.heap.size + 2 ≤ w1.heap.size := by rw [hw1]; simp
  have hr1 := hr.later hb1 (Nat.le_refl _)
  have hchk := tnlcheck_ A c o p gs w1 hr1
  have hV0 : gErr o gs p = 0 → tautV o gs p = (o :: tautR (gs ++ [gTo p]) (gs.length + 1) o 0, 0) := fun h => by unfold tautV; rw [if_pos h]
  have hV1 : gErr o gs p ≠ 0 → tautV o gs p = ([], gErr o gs p) := fun h => by unfold tautV; rw [if_neg h]
  have hok := @gErr_ok o p gs
  generalize gErr o gs p = E at *
  have HR := Lib.hid hr; have HB1 := Lib.hid hb1; have HR1 := Lib.hid hr1; have HCHK := Lib.hid hchk; have HV0 := Lib.hid hV0; have HV1 := Lib.hid hV1; have HOK := Lib.hid hok; clear hr hb1 hr1 hchk hV0 hV1 hok
  go_enter Try.func26, Try.ntmps26
  go_upto_region 1 with fail
  rw [← hw1]
  clear hw1
  have x0 : w.heap.size < w1.heap.size := by omega
  have x1 : w.heap.size + 1 < w1.heap.size := by omega
  have HS1 := Lib.hid hs1; clear hs1
  go_wp2_with fail
  refine HCHK.out.mono ?_
  rintro e w2 ⟨rfl, b1⟩
  have k0 := below_at b1 (Nat.le_refl _) k0
  have k1 := below_at b1 (Nat.le_refl _) k1
  have k2 := below_at b1 (Nat.le_refl _) k2
  have k3 := below_at b1 (Nat.le_refl _) k3
  have hr2 := HR1.out.later b1 (Nat.le_refl _)
  have hs2 : w.heap.size + 2 ≤ w2.heap.size := Nat.le_trans HS1.out b1.size
  have hb2 := HB1.out.trans (b1.mono HB1.out.size)
  clear b1 x0 x1 HB1 HR1 HR HS1 HCHK
  obtain ⟨w1, rfl⟩ : ∃ w1, w1 = w2 := ⟨_, rfl⟩
  have x0 : w.heap.size < w1.heap.size := by omega
  have x1 : w.heap.size + 1 < w1.heap.size := by omega
  by_cases hE : E = 0
  rotate_left
  · have f1 : (E != 0) = true := by simp [hE]
    have hV := HV1.out hE
    have HR2 := Lib.hid hr2; have HS2 := Lib.hid hs2; have HB2 := Lib.hid hb2; have HE := Lib.hid hE; have HV := Lib.hid hV; clear hr2 hs2 hb2 hE hV
    go_wp2
    go_ret2
    rw [HV.out]
    exact ⟨none, 0, rfl, ⟨by simp, fun h => by simp at h⟩, Nat.le_refl _, HB2.out⟩
  subst hE
  obtain ⟨hl0, hpo, hgok⟩ := HOK.out rfl
  have hV := HV0.out rfl
  clear HV0 HV1 HOK
  have HR1 := Lib.hid hr2
  have HL0 := Lib.hid hl0
  clear hr2 hl0
  have HS2 := Lib.hid hs2; have HB2 := Lib.hid hb2; have HPO := Lib.hid hpo; have HGOK := Lib.hid hgok; have HV := Lib.hid hV; clear hs2 hb2 hpo hgok hV
  go_upto_region 4 with fail
  go_cut [9] (fun sv wx => ∃ g cap, sv = .slice (some ⟨g, 0, none⟩) (gs.length + 1) cap ∧ wx.ownsRow w1.heap.size 68 3 (.slice (some ⟨g, 0, none⟩) (gs.length + 1) cap) (gs ++ [(p.2, p.1, p.1)]).length (gateC (gs ++ [(p.2, p.1, p.1)])) ∧ Below w1.heap.size w1 wx)
  case first =>
    go_region_held3 (fun wX => Below w1.heap.size w1 wX ∧ (∀ b o, b < w1.heap.size → wX.cell? ⟨b, o, none⟩ = w1.cell? ⟨b, o, none⟩) ∧ w1.heap.size ≤ wX.heap.size)
      ((refine bcell2 ?_; first | exact (Below.refl _ _).drew | exact hB4 | exact hB3 | exact hB3.alloc hB3.size _ | exact ‹Below w1.heap.size w1 _ ∧ _›.1.alloc ‹Below w1.heap.size w1 _ ∧ _›.1.size _ | exact ‹Below w1.heap.size w1 _ ∧ _›.1))
      (first | (refine step_copyGa_Try (by rfl) _ _ (by rfl) w1.heap.size (.slice (some ⟨w1.heap.size, 0, none⟩) 0 0) (by rfl) (own_emptyGa (heap_alloc_new _ _) (Nat.le_refl _)) A c gs (by rfl) (HR1.out.later (B := w1.heap.size) (by repeat (first | exact Below.refl _ _ | refine Below.drew ?_ | refine Below.alloc ?_ (by first | exact Nat.le_refl _ | (simp; done) | (simp; omega)) _)) (Nat.le_refl _)) (by have := HL0.out; omega) (by first | exact Nat.le_refl _ | (simp; done) | (simp; omega)) ?_; intro sA sc w3 hown hgrow hat; have hB3 : Below w1.heap.size w1 w3 := Below.grown (by repeat (first | exact Below.refl _ _ | refine Below.drew ?_ | refine Below.alloc ?_ (by first | exact Nat.le_refl _ | (simp; done) | (simp; omega)) _)) hgrow (by first | exact Nat.le_refl _ | (simp; done) | (simp; omega)) (fun k hk => by simp [Value.ownBlock] at hk; omega)) | (refine step_copyGa_Try (by rfl) _ _ (by rfl) w1.heap.size (.slice (some ⟨w1.heap.size, 0, none⟩) 0 0) (by rfl) (own_emptyGa (heap_alloc2_old _ _ _) (Nat.le_refl _)) A c gs (by rfl) (HR1.out.later (B := w1.heap.size) (by repeat (first | exact Below.refl _ _ | refine Below.drew ?_ | refine Below.alloc ?_ (by first | exact Nat.le_refl _ | (simp; done) | (simp; omega)) _)) (Nat.le_refl _)) (by have := HL0.out; omega) (by first | exact Nat.le_refl _ | (simp; done) | (simp; omega)) ?_; intro sA sc w3 hown hgrow hat; have hB3 : Below w1.heap.size w1 w3 := Below.grown (by repeat (first | exact Below.refl _ _ | refine Below.drew ?_ | refine Below.alloc ?_ (by first | exact Nat.le_refl _ | (simp; done) | (simp; omega)) _)) hgrow (by first | exact Nat.le_refl _ | (simp; done) | (simp; omega)) (fun k hk => by simp [Value.ownBlock] at hk; omega); have hS : w3.heap[w1.heap.size + 1]? = some (.cells #[.int .i64 p.2, .int .i64 p.1, .int .i64 p.1] 68 (0, 0)) := (hgrow.block _ (by first | (simp; done) | (simp; omega)) (by simp [Value.ownBlock])).trans (heap_alloc2_new _ _ _); have hS2 := lt_of_block hS) | (refine step_copyGa_Try (by rfl) _ _ (by rfl) w1.heap.size (.slice (some ⟨w1.heap.size + 1, 0, none⟩) 0 0) (by rfl) (own_emptyGa (heap_alloc2_new _ _ _) (by omega)) A c gs (by rfl) (HR1.out.later (B := w1.heap.size) (by repeat (first | exact Below.refl _ _ | refine Below.drew ?_ | refine Below.alloc ?_ (by first | exact Nat.le_refl _ | (simp; done) | (simp; omega)) _)) (Nat.le_refl _)) (by have := HL0.out; omega) (by first | exact Nat.le_refl _ | (simp; done) | (simp; omega)) ?_; intro sA sc w3 hown hgrow hat; have hB3 : Below w1.heap.size w1 w3 := Below.grown (by repeat (first | exact Below.refl _ _ | refine Below.drew ?_ | refine Below.alloc ?_ (by first | exact Nat.le_refl _ | (simp; done) | (simp; omega)) _)) hgrow (by first | exact Nat.le_refl _ | (simp; done) | (simp; omega)) (fun k hk => by simp [Value.ownBlock] at hk; omega); have hS : w3.heap[w1.heap.size]? = some (.cells #[.int .i64 p.2, .int .i64 p.1, .int .i64 p.1] 68 (0, 0)) := (hgrow.block _ (by first | (simp; done) | (simp; omega)) (by simp [Value.ownBlock])).trans (heap_alloc2_old _ _ _); have hS2 := lt_of_block hS) | (refine step_app1Ga_Try (by rfl) _ _ (by rfl) w1.heap.size (.slice sA gs.length sc) gs (by rfl) (by repeat (first | exact hown | refine World.ownsRow.alloc ?_ _ | exact (World.ownsRow.alloc hown _).drew)) (w3.heap.size) (p.2, p.1, p.1) (by rfl) (heap_alloc_new _ _) (by have := HL0.out; omega) (by have := hB3.size; first | (simp; done) | (simp; omega)) ?_; intro g cap w4 hown4 hgrow4 hat4 hlt4; have hB4 : Below w1.heap.size w1 w4 := Below.grown (by repeat (first | exact hB3 | refine Below.drew ?_ | refine Below.alloc ?_ (by first | exact hB3.size | (have := hB3.size; omega)) _)) hgrow4 (by have := hB3.size; first | exact this | (simp; omega)) (fun k hk => (hown.lt _ hk).1)) | (refine step_app1Ga_Try (by rfl) _ _ (by rfl) w1.heap.size (.slice sA gs.length sc) gs (by rfl) hown (w1.heap.size + 1) (p.2, p.1, p.1) (by rfl) hS (by have := HL0.out; omega) (by have := hB3.size; first | (simp; done) | (simp; omega)) ?_; intro g cap w4 hown4 hgrow4 hat4 hlt4; have hB4 : Below w1.heap.size w1 w4 := Below.grown (by repeat (first | exact hB3 | refine Below.drew ?_ | refine Below.alloc ?_ (by first | exact hB3.size | (have := hB3.size; omega)) _)) hgrow4 (by have := hB3.size; first | exact this | (simp; omega)) (fun k hk => (hown.lt _ hk).1)) | (refine step_app1Ga_Try (by rfl) _ _ (by rfl) w1.heap.size (.slice sA gs.length sc) gs (by rfl) hown (w1.heap.size) (p.2, p.1, p.1) (by rfl) hS (by have := HL0.out; omega) (by have := hB3.size; first | (simp; done) | (simp; omega)) ?_; intro g cap w4 hown4 hgrow4 hat4 hlt4; have hB4 : Below w1.heap.size w1 w4 := Below.grown (by repeat (first | exact hB3 | refine Below.drew ?_ | refine Below.alloc ?_ (by first | exact hB3.size | (have := hB3.size; omega)) _)) hgrow4 (by have := hB3.size; first | exact this | (simp; omega)) (fun k hk => (hown.lt _ hk).1)))
    all_goals
      go_wp2_with fail
      go_meet
      exact ⟨g, cap, rfl, hown4, hB4⟩
  case rest =>
    obtain ⟨g, cap, rfl, hownG, hBc⟩ := hcut
    obtain ⟨all, hall⟩ : ∃ all, all = gs ++ [gTo p] := ⟨_, rfl⟩
    have hall2 : all = gs ++ [(p.2, p.1, p.1)] := hall
    have hlen : gs.length + 1 = all.length := by rw [hall]; simp
    have hend := gTo_end gs p
    have hV := HV.out
    have hgok := HGOK.out
    rw [← hall] at hV hend hgok
    have hl0 := HL0.out
    rw [← hall2] at hownG
    have hG2 := hownG
    rw [hlen] at hG2
    have hrg : RdG wc (some ⟨g, 0, none⟩) all := RdG.of_own hG2 (by omega)
    clear hG2
    have k0 := below_at hBc (Nat.le_refl _) k0
    have k1 := below_at hBc (Nat.le_refl _) k1
    have hs3 : w.heap.size + 2 ≤ wc.heap.size := Nat.le_trans HS2.out hBc.size
    have hb3 := HB2.out.trans (hBc.mono HB2.out.size)
    rw [hlen] at hV
    rw [hlen]
    have hL : all.length ≤ 101 := by omega
    obtain ⟨V, hVV⟩ : ∃ V, V = o :: tautR all all.length o 0 := ⟨_, rfl⟩
    rw [← hVV] at hV
    have hT0 : TaI all V [o] o o 0 := ⟨Nat.zero_le _, hgok, ⟨all.length, Nat.le_refl _, by rw [hVV]; rfl⟩, by simp, ⟨by simp, rfl⟩, fun h => by simp at h, fun h => by simp at h⟩
    have hown0 : (wc.alloc (.cells #[.int .i64 o.1, .int .i64 o.2] 45)).ownsRow wc.heap.size 45 2 (.slice (some ⟨wc.heap.size, 0, none⟩) 1 1) [o].length (rootC [o]) :=
      ⟨rfl, .inr ⟨wc.heap.size, 1, #[.int .i64 o.1, .int .i64 o.2], rfl, Nat.le_refl _, heap_alloc_new _ _, Nat.le_refl _, by unfold maxLen; omega, rfl, rfl⟩⟩
    have hbw0 : Below wc.heap.size wc (wc.alloc (.cells #[.int .i64 o.1, .int .i64 o.2] 45)) := (Below.refl _ _).alloc (Nat.le_refl _) _
    have x0 : w.heap.size < wc.heap.size := by omega
    have hq0 : (0 : Int) ≤ (all.length : Int) := by omega
    clear hl0 hgok hBc hall hall2 hVV hownG k2 k3
    clear HL0 HGOK HR1 HB2 HS2 HPO HV
    have HLEN := Lib.hid hlen; have HEND := Lib.hid hend; have HV := Lib.hid hV; have HRG := Lib.hid hrg; have HS3 := Lib.hid hs3; have HB3 := Lib.hid hb3; have HT0 := Lib.hid hT0; have HOWN0 := Lib.hid hown0; have HBW0 := Lib.hid hbw0; have HL := Lib.hid hL; clear hlen hend hV hrg hs3 hb3 hT0 hown0 hbw0 hL
    go_wp2
    go_loopw [10, 11, 12, 13, 14] (fun wv nv _ _ _ wr => ∃ (W : List (Int × Int)) (u x : Int × Int) (next d : Nat) (B : Option Addr), wv = .slice B W.length d ∧ nv = .int .i64 (next : Int) ∧ TaI all V W u x next ∧ wr.ownsRow wc.heap.size 45 2 (.slice B W.length d) W.length (rootC W) ∧ Below wc.heap.size wc wr) (fun _ nv _ _ _ _ => all.length - (intOf nv).toNat)
    case atStart => exact ⟨[o], o, o, 0, 1, _, rfl, rfl, HT0.out, HOWN0.out, HBW0.out⟩
    case round =>
      obtain ⟨W, u, x, next, d, B, rfl, rfl, hT, hown, hbw⟩ := hrel
      by_cases hlt : next < all.length
      · have q2 : (next : Int) < (all.length : Int) := by omega
        have d2 : decide ((next : Int) < (all.length : Int)) = true := decide_eq_true q2
        obtain ⟨hw0, hlast⟩ := hT.lst
        have hwl := hT.ln
        have hll := HL.out
        have hst := hT.step HEND.out hlt
        have hrd := RdR.of_own hown (by omega)
        obtain ⟨bb, off, rfl, hbl, hc⟩ := hrd.all hw0
        obtain ⟨c0, c1⟩ := hc (W.length - 1) (by omega)
        rw [hlast] at c0 c1
        have t1 : IntKind.i64.wrap ((W.length : Int) - 1) = ((W.length - 1 : Nat) : Int) := by rw [IntWalk.i64_in _ (by omega)]; omega
        have t2 : (0 : Int) ≤ ((W.length - 1 : Nat) : Int) := by omega
        have t3 : ((W.length - 1 : Nat) : Int) < (W.length : Int) := by omega
        have hpull := fun w2 (h : Below wc.heap.size wc w2) => tnPull_ (some ⟨g, 0, none⟩) cap next x all w2 (HRG.out.later h (Nat.le_refl _)) hlt
        generalize pullF x all next = r at *
        obtain ⟨b, a⟩ := r
        have hxa : Below wc.heap.size wc (wr.alloc (.cells #[.int .i64 x.1, .int .i64 x.2] 45)) := hbw.alloc hbw.size _
        have hown1 : (wr.alloc (.cells #[.int .i64 x.1, .int .i64 x.2] 45)).ownsRow wc.heap.size 45 2 (.slice (some ⟨bb, off, none⟩) W.length d) W.length (rootC W) := hown.alloc _
        clear hrd hc
        generalize hk1 : W.length - 1 = k1 at *
        simp only at hst hpull
        have HT := Lib.hid hT; have HOWN := Lib.hid hown; have HBW := Lib.hid hbw; have HLT := Lib.hid hlt; have HLAST := Lib.hid hlast; have HWL := Lib.hid hwl; have HLL := Lib.hid hll; have HST := Lib.hid hst; have HPULL := Lib.hid hpull; have HXA := Lib.hid hxa; have HOWN1 := Lib.hid hown1; have HK1 := Lib.hid hk1; have HW0 := Lib.hid hw0; clear hT hown hbw hlt hlast hwl hll hst hpull hxa hown1 hk1 hw0
        go_wp2_with fail
        refine (HPULL.out _ HXA.out).mono ?_
        rintro e w2 ⟨rfl, b1⟩
        have hown2 := own_keepR HOWN1.out b1
        have hb2 := HXA.out.trans (b1.mono HXA.out.size)
        clear b1 HXA HOWN1
        have hpl : (W ++ [b]).length = W.length + 1 := by simp
        have hb22 : Below wc.heap.size wc ((w2.alloc (.cells #[.int .i64 b.1, .int .i64 b.2] 45)).alloc (.cells #[.int .i64 b.1, .int .i64 b.2] 45)) := (hb2.alloc hb2.size _).alloc (by have := hb2.size; simp; omega) _
        have hsz := hb2.size
        have HOWN2 := Lib.hid hown2; have HB2 := Lib.hid hb2; have HPL := Lib.hid hpl; have HB22 := Lib.hid hb22; have HSZ := Lib.hid hsz; clear hown2 hb2 hpl hb22 hsz
        go_wp2_with (refine wpList_app1Po_Try (by rfl) _ _ (by rfl) wc.heap.size (.slice (some ⟨bb, off, none⟩) W.length d) W (by rfl) ((HOWN2.out.alloc _).alloc _) (w2.heap.size + 1) b (by rfl) (heap_alloc2_new _ _ _) (by have := HWL.out; have := HLL.out; have := HLT.out; omega) (by have := HSZ.out; simp; omega) ?_; intro g2 cap2 w3 hown3 hgrow hat3 hlt3)
        have hb4 : Below wc.heap.size wc w3 := HB22.out.grown hgrow (by have := HSZ.out; simp; omega) (fun k hk => (HOWN2.out.lt k hk).1)
        rw [← HPL.out] at hown3 ⊢
        have hrd3 := RdR.of_own hown3 (by have := HPL.out; have := HWL.out; have := HLL.out; have := HLT.out; omega)
        have hstr := tnStraight_ (some ⟨g2, 0, none⟩) cap2 (W ++ [b]) w3 hrd3 HST.out.2.2
        have hst1 := HST.out.1
        have hst2 := HST.out.2.1
        have ha := hst1.le
        have t6 : IntKind.i64.wrap ((a : Int) + 1) = ((a + 1 : Nat) : Int) := by have := HLL.out; rw [IntWalk.i64_in _ (by omega)]; omega
        clear hgrow hat3 hlt3 hrd3
        have HOWN3 := Lib.hid hown3; have HB4 := Lib.hid hb4; have HSTR := Lib.hid hstr; have HST1 := Lib.hid hst1; have HST2 := Lib.hid hst2; have HA := Lib.hid ha; clear hown3 hb4 hstr hst1 hst2 ha
        go_wp2_with fail
        refine HSTR.out.mono ?_
        rintro e w4 ⟨rfl, b1⟩
        have hown4 := own_keepR HOWN3.out b1
        have hb5 := HB4.out.trans (b1.mono HB4.out.size)
        clear b1
        have HOWN4 := Lib.hid hown4; have HB5 := Lib.hid hb5; clear hown4 hb5
        go_wp2
        go_roundw
        case rel => exact ⟨W ++ [b], x, b, a + 1, cap2, _, by rw [HPL.out], by go_num, HST1.out, HOWN4.out, HB5.out⟩
        case measure => have := HST2.out; have := HA.out; have := HLT.out; simp [intOf]; omega
      · obtain rfl : next = all.length := by have := hT.le; omega
        have d2 : decide ((all.length : Int) < (all.length : Int)) = false := decide_eq_false (by omega)
        obtain ⟨f, _, hVW⟩ := hT.ex
        rw [tautR_done, List.append_nil] at hVW
        subst hVW
        have hres := HV.out
        have hwl := hT.ln
        have hrd := RdR.of_own hown (by have := HL.out; omega)
        obtain ⟨A', c', e', hc'⟩ := own_sliceN hown
        injection e' with e1 e2 e3
        subst e3
        have hfin := HB3.out.trans (hbw.mono HB3.out.size)
        clear hT e1 e2 hown
        have HRES := Lib.hid hres; have HRD := Lib.hid hrd; have HCp := Lib.hid hc'; have HFIN := Lib.hid hfin; have HBW := Lib.hid hbw; have HWL := Lib.hid hwl; clear hres hrd hc' hfin hbw hwl
        go_wp2
        go_ret2
        rw [HRES.out]
        exact ⟨_, _, rfl, HRD.out, HCp.out, HFIN.out⟩
end Go.Proofs.Ytlmhgcllikcedaa
/- Tight, walked. -/
namespace Go.Proofs.Ytlmhgcllikcedaa
open Go.RowKit

/-- A thread: its ends, its gates, what is given. -/
structure Thr where
  o : Int × Int
  p : Int × Int
  gs : List Gt
  giv : List (Int × Int)
instance : Inhabited Thr := ⟨⟨(0, 0), (0, 0), [], []⟩⟩
def ThrAt (w : World) (b j : Nat) (t : Thr) : Prop :=
  w.cell? ⟨b, j, none⟩ = some (.int .i64 t.o.1) ∧ w.cell? ⟨b, j + 1, none⟩ = some (.int .i64 t.o.2) ∧ w.cell? ⟨b, j + 2, none⟩ = some (.int .i64 t.p.1) ∧ w.cell? ⟨b, j + 3, none⟩ = some (.int .i64 t.p.2) ∧
    ∃ ga gc ra rc, w.cell? ⟨b, j + 4, none⟩ = some (.slice ga t.gs.length gc) ∧ w.cell? ⟨b, j + 5, none⟩ = some (.slice ra t.giv.length rc) ∧ RdG w ga t.gs ∧ RdR w ra t.giv ∧ t.gs.length ≤ gc ∧ t.giv.length ≤ rc
theorem ThrAt.later {w w' : World} {B b j : Nat} {t : Thr} (h : ThrAt w b j t) (hb : Below B w w') (hB : w.heap.size ≤ B) : ThrAt w' b j t := by
  obtain ⟨h0, h1, h2, h3, ga, gc, ra, rc, h4, h5, h6, h7, h8, h9⟩ := h
  exact ⟨below_at hb hB h0, below_at hb hB h1, below_at hb hB h2, below_at hb hB h3, ga, gc, ra, rc, below_at hb hB h4, below_at hb hB h5, h6.later hb hB, h7.later hb hB, h8, h9⟩
/-- The slice at A holds these threads. -/
def RdThr (w : World) (A : Option Addr) (l : List Thr) : Prop :=
  l.length ≤ 281474976710656 ∧ (0 < l.length → ∃ b off, A = some ⟨b, off, none⟩ ∧ b < w.heap.size ∧ ∀ k (hk : k < l.length), ThrAt w b (off + k * 6) l[k])
theorem RdThr.later {w w' : World} {B : Nat} {A : Option Addr} {l : List Thr} (h : RdThr w A l) (hb : Below B w w') (hB : w.heap.size ≤ B) : RdThr w' A l := by
  refine ⟨h.1, fun h0 => ?_⟩
  obtain ⟨b, off, e, hlt, hc⟩ := h.2 h0
  exact ⟨b, off, e, Nat.lt_of_lt_of_le hlt hb.size, fun k hk => (hc k hk).later hb hB⟩
section
variable (a b c : Int)
noncomputable def tgW (t : Thr) : List (Int × Int) × Int := lenR a b c (tautV t.o t.gs t.p).1
noncomputable def tgE (t : Thr) : Int := if chkE t.giv ≠ 0 then chkE t.giv else if (tautV t.o t.gs t.p).2 ≠ 0 then (tautV t.o t.gs t.p).2 else (tgW a b c t).2
noncomputable def tgB (t : Thr) : Bool := decide (cmpO t.giv (tgW a b c t).1 < 0)
/-- The threads that are too tight, from number i on. -/
noncomputable def tgR : Nat → List Thr → List Int → List Int × Int
  | _, [], acc => (acc, 0)
  | i, t :: l, acc => if tgE a b c t ≠ 0 then ([], tgE a b c t) else tgR (i + 1) l (if tgB a b c t = true then acc ++ [(i : Int)] else acc)
noncomputable def tightV (ths : List Thr) : List Int × Int := if 48 < ths.length then ([], 3) else if latB a b c = true then ([], 2) else tgR a b c 0 ths []
end
theorem cmp_stops {a b : List (Int × Int)} (h : a.length + b.length ≤ 38) : bothE a b = 0 → cmpQ (mg (-1) a b) (32 * 2 ^ 40) := fun h0 => by
  obtain ⟨_, _, h1, _, h3, h4⟩ := diff_nm h0
  refine cmp_halts h1 (by omega) h4 _ ?_
  exact Nat.mul_le_mul_left 32 (Nat.pow_le_pow_right (by decide) (by omega))
def IntsPost (r : List Int × Int) (w : World) (e : Ending) (w' : World) : Prop := ∃ A c, e = .returned (.tuple #[.slice A r.1.length c, .int .i64 r.2]) ∧ RdI w' A r.1 ∧ Below w.heap.size w w'
theorem IntsPost.bad {r : List Int × Int} {x : Int} {w w' : World} (h : r = ([], x)) (hb : Below w.heap.size w w') : IntsPost r w (.returned (.tuple #[.slice none 0 0, .int .i64 x])) w' := by
  subst h
  exact ⟨none, 0, rfl, ⟨by simp, fun h => by simp at h⟩, hb⟩
set_option maxRecDepth 100000 in
set_option maxHeartbeats 16000000 in
theorem tnTight_ (A : Option Addr) (d : Nat) (a b c : Int) (ths : List Thr) (w : World) (hr : RdThr w A ths)
    (hh : ∀ t ∈ ths, chkE t.giv = 0 → (tautV t.o t.gs t.p).2 = 0 → (tgW a b c t).2 = 0 → t.giv.length + (tgW a b c t).1.length ≤ 38) :
    Calls Try.prog 29 #[.agg #[.int .i64 a, .int .i64 b, .int .i64 c], .slice A ths.length d] w (IntsPost (tightV a b c ths) w) := by
  have hln := hr.1
  have hb : Below w.heap.size w (w.alloc (.cells #[.int .i64 a, .int .i64 b, .int .i64 c] 38)) := (Below.refl _ _).alloc (Nat.le_refl _) _
  have hx := heap_alloc_new w (.cells #[.int .i64 a, .int .i64 b, .int .i64 c] 38)
  by_cases h48 : 48 < ths.length
  · have hres : tightV a b c ths = ([], 3) := by unfold tightV; rw [if_pos h48]
    have f1 : decide ((48 : Int) < (ths.length : Int)) = true := decide_eq_true (by omega)
    have HR := Lib.hid hr; have HB := Lib.hid hb; have HX := Lib.hid hx; have HRES := Lib.hid hres; have HH := Lib.hid hh; clear hr hb hx hres hh
    go_enter Try.func29, Try.ntmps29
    go_wp2
    go_ret2
    exact IntsPost.bad HRES.out HB.out
  have f1 : decide ((48 : Int) < (ths.length : Int)) = false := decide_eq_false (by omega)
  have HR := Lib.hid hr; have HB := Lib.hid hb; have HX := Lib.hid hx; have HH := Lib.hid hh; clear hr hb hx hh
  go_enter Try.func29, Try.ntmps29
  go_wp2_with fail
  refine (gCheck_ a b c _).mono ?_
  rintro e w1 ⟨rfl, b1⟩
  have hx1 := (b1.block _ (lt_of_block HX.out)).trans HX.out
  have hb1 := HB.out.trans (b1.mono HB.out.size)
  clear b1 HB HX f1
  have he : latE a b c = if latB a b c = true then 2 else 0 := rfl
  by_cases hlat : latB a b c = true
  · rw [if_pos hlat] at he
    have hres : tightV a b c ths = ([], 2) := by unfold tightV; rw [if_neg h48, if_pos hlat]
    rw [he]
    have HE := Lib.hid he; have HB1 := Lib.hid hb1; have HX1 := Lib.hid hx1; have HRES := Lib.hid hres; have HLAT := Lib.hid hlat; clear he hb1 hx1 hres hlat
    go_wp2
    go_ret2
    exact IntsPost.bad HRES.out HB1.out
  rw [if_neg hlat] at he
  rw [he]
  have hres : tightV a b c ths = tgR a b c 0 ths [] := by unfold tightV; rw [if_neg h48, if_neg hlat]
  generalize tightV a b c ths = res at *
  have h48 : ths.length ≤ 48 := by omega
  have HE := Lib.hid he; have HB1 := Lib.hid hb1; have HX1 := Lib.hid hx1; have HRES := Lib.hid hres; have HLAT := Lib.hid hlat; have H48 := Lib.hid h48; clear he hb1 hx1 hres hlat h48
  go_wp2
  go_loopw [6, 7, 8, 9, 10, 11, 12, 13, 24] (fun sv _ _ _ _ _ _ _ iv wr => ∃ (k : Nat) (acc : List Int), iv = .int .i64 (k : Int) ∧ k ≤ ths.length ∧ acc.length ≤ k ∧ res = tgR a b c k (ths.drop k) acc ∧ wr.ownsRow (w.heap.size + 1) 3 1 sv acc.length (ints acc) ∧ wr.heap[w.heap.size]? = some (.cells #[.int .i64 a, .int .i64 b, .int .i64 c] 38 (0, 0)) ∧ Below w.heap.size w wr) (fun _ _ _ _ _ _ _ _ iv _ => ths.length - (intOf iv).toNat)
  case atStart => exact ⟨0, [], rfl, Nat.zero_le _, Nat.le_refl _, HRES.out, own_nilR _ _ _ _, HX1.out, HB1.out⟩
  case round =>
    clear HX1 HB1 HRES
    obtain ⟨k, acc, rfl, hk, hal, hres, hown, hx, hbw⟩ := hrel
    by_cases hkl : k < ths.length
    · have q1 : (0 : Int) ≤ (k : Int) := by omega
      have q2 : (k : Int) < (ths.length : Int) := by omega
      have d2 : decide ((k : Int) < (ths.length : Int)) = true := decide_eq_true q2
      have q3 : IntKind.i64.wrap ((k : Int) + 1) = ((k + 1 : Nat) : Int) := by rw [IntWalk.i64_in _ (by omega)]; omega
      obtain ⟨bl, off, rfl, hbl, hta⟩ := (HR.out.later hbw (Nat.le_refl _)).2 (by omega)
      obtain ⟨c0, c1, c2, c3, ga, gc, ra, rc, c4, c5, hrg, hrr, hgc, hrc⟩ := hta k hkl
      rw [List.drop_eq_getElem_cons hkl, tgR] at hres
      have hhk := HH.out ths[k] (List.getElem_mem _)
      obtain ⟨t, ht⟩ : ∃ t, t = ths[k] := ⟨_, rfl⟩
      rw [← ht] at c0 c1 c2 c3 c4 c5 hrg hrr hgc hrc hres hhk
      clear ht hta
      obtain ⟨w2, hw2⟩ : ∃ w2, w2 = wr.alloc (.cells #[.int .i64 t.o.1, .int .i64 t.o.2, .int .i64 t.p.1, .int .i64 t.p.2, .slice ga t.gs.length gc, .slice ra t.giv.length rc] 48) := ⟨_, rfl⟩
      have hT := heap_alloc_new wr (.cells #[.int .i64 t.o.1, .int .i64 t.o.2, .int .i64 t.p.1, .int .i64 t.p.2, .slice ga t.gs.length gc, .slice ra t.giv.length rc] 48)
      have hb2 : Below wr.heap.size wr w2 := by rw [hw2]; exact (Below.refl _ _).alloc (Nat.le_refl _) _
      rw [← hw2] at hT
      have hrg2 := hrg.later hb2 (Nat.le_refl _)
      have hrr2 := hrr.later hb2 (Nat.le_refl _)
      have hown2 := own_keepR hown hb2
      have hx2 := (hb2.block _ (lt_of_block hx)).trans hx
      have hbw2 := hbw.trans (hb2.mono hbw.size)
      have hvl := hown2.lt
      clear hrg hrr
      have HRES := Lib.hid hres; have HHK := Lib.hid hhk; have HT := Lib.hid hT; have HRG2 := Lib.hid hrg2; have HRR2 := Lib.hid hrr2; have HOWN2 := Lib.hid hown2; have HX2 := Lib.hid hx2; have HBW2 := Lib.hid hbw2; have HVL := Lib.hid hvl; have HGC := Lib.hid hgc; have HRC := Lib.hid hrc; have HB2 := Lib.hid hb2; clear hres hhk hT hrg2 hrr2 hown2 hx2 hbw2 hvl hgc hrc hb2
      go_upto_region 9 with fail
      rw [← hw2]
      have hT := HT.out
      clear hw2 hown hx hbw c0 c1 c2 c3 c4 c5 hbl HT HB2
      generalize wr.heap.size = TT at *
      have t0 := cell_of_row _ _ 0 _ _ _ hT
      have t1 := cell_of_row _ _ 1 _ _ _ hT
      have t2 := cell_of_row _ _ 2 _ _ _ hT
      have t3 := cell_of_row _ _ 3 _ _ _ hT
      have t4 := cell_of_row _ _ 4 _ _ _ hT
      have t5 := cell_of_row _ _ 5 _ _ _ hT
      simp only [List.getElem?_toArray, List.getElem?_cons_zero, List.getElem?_cons_succ] at t0 t1 t2 t3 t4 t5
      have hTl := lt_of_block hT
      have HT := Lib.hid hT; clear hT
      go_wp2_with fail
      refine (tnCheck_ ra rc t.giv w2 HRR2.out).mono ?_
      rintro e w3 ⟨rfl, b1⟩
      have hT3 := (b1.block _ (lt_of_block HT.out)).trans HT.out
      have hrg3 := HRG2.out.later b1 (Nat.le_refl _)
      have hrr3 := HRR2.out.later b1 (Nat.le_refl _)
      have hown3 := own_keepR HOWN2.out b1
      have hx3 := (b1.block _ (lt_of_block HX2.out)).trans HX2.out
      have hbw3 := HBW2.out.trans (b1.mono HBW2.out.size)
      clear b1 t0 t1 t2 t3 t4 t5 hTl HT HRG2 HRR2 HOWN2 HX2 HBW2 HVL
      have htge : tgE a b c t = if chkE t.giv ≠ 0 then chkE t.giv else if (tautV t.o t.gs t.p).2 ≠ 0 then (tautV t.o t.gs t.p).2 else (tgW a b c t).2 := rfl
      have hres := HRES.out
      have hhk := HHK.out
      clear HRES HHK
      by_cases hE1 : chkE t.giv = 0
      rotate_left
      · rw [if_pos hE1] at htge
        rw [htge, if_pos hE1] at hres
        generalize chkE t.giv = E1 at *
        have f1 : (E1 != 0) = true := by simp [hE1]
        clear hT3 hrg3 hrr3 hown3 hx3
        have HBW3 := Lib.hid hbw3; have HTGE := Lib.hid htge; have HRES := Lib.hid hres; have HHK := Lib.hid hhk; have HE1 := Lib.hid hE1; clear hbw3 htge hres hhk hE1
        go_wp2
        go_ret2
        exact IntsPost.bad HRES.out HBW3.out
      rw [if_neg (by simpa using hE1)] at htge
      rw [hE1]
      have hhk := hhk hE1
      have t0 := cell_of_row _ _ 0 _ _ _ hT3
      have t1 := cell_of_row _ _ 1 _ _ _ hT3
      have t2 := cell_of_row _ _ 2 _ _ _ hT3
      have t3 := cell_of_row _ _ 3 _ _ _ hT3
      have t4 := cell_of_row _ _ 4 _ _ _ hT3
      have t5 := cell_of_row _ _ 5 _ _ _ hT3
      simp only [List.getElem?_toArray, List.getElem?_cons_zero, List.getElem?_cons_succ] at t0 t1 t2 t3 t4 t5
      have hTl := lt_of_block hT3
      have HT3 := Lib.hid hT3; have HRG3 := Lib.hid hrg3; have HRR3 := Lib.hid hrr3; have HOWN3 := Lib.hid hown3; have HX3 := Lib.hid hx3; have HBW3 := Lib.hid hbw3; have HTGE := Lib.hid htge; have HRES := Lib.hid hres; have HHK := Lib.hid hhk; have HE1 := Lib.hid hE1; clear hT3 hrg3 hrr3 hown3 hx3 hbw3 htge hres hhk hE1
      go_wp2_with fail
      refine (tnTaut_ ga gc t.o t.p t.gs w3 HRG3.out).mono ?_
      rintro e w4 ⟨WA, wc4, rfl, hrw4, hwc4, b1⟩
      have hT4 := (b1.block _ (lt_of_block HT3.out)).trans HT3.out
      have hrr4 := HRR3.out.later b1 (Nat.le_refl _)
      have hown4 := own_keepR HOWN3.out b1
      have hx4 := (b1.block _ (lt_of_block HX3.out)).trans HX3.out
      have hbw4 := HBW3.out.trans (b1.mono HBW3.out.size)
      clear b1 t0 t1 t2 t3 t4 t5 hTl HT3 HRG3 HRR3 HOWN3 HX3 HBW3
      have htge := HTGE.out
      have hres := HRES.out
      have hhk := HHK.out
      clear HTGE HRES HHK
      have htw : tgW a b c t = lenR a b c (tautV t.o t.gs t.p).1 := rfl
      have htb : tgB a b c t = decide (cmpO t.giv (tgW a b c t).1 < 0) := rfl
      rw [htw] at htge htb hhk
      generalize tautV t.o t.gs t.p = TV at *
      obtain ⟨W, E2⟩ := TV
      simp only at htge htb hhk hrw4 hwc4 ⊢
      by_cases hE2 : E2 = 0
      rotate_left
      · rw [if_pos hE2] at htge
        rw [htge, if_pos hE2] at hres
        have f1 : (E2 != 0) = true := by simp [hE2]
        clear hT4 hrr4 hown4 hx4 hrw4
        have HBW4 := Lib.hid hbw4; have HTGE := Lib.hid htge; have HRES := Lib.hid hres; have HHK := Lib.hid hhk; have HE2 := Lib.hid hE2; have HWC4 := Lib.hid hwc4; have HTW := Lib.hid htw; have HTB := Lib.hid htb; clear hbw4 htge hres hhk hE2 hwc4 htw htb
        go_wp2
        go_ret2
        exact IntsPost.bad HRES.out HBW4.out
      rw [if_neg (by simpa using hE2)] at htge
      have hhk := hhk hE2
      subst hE2
      have l0 := cell_of_row _ _ 0 _ _ _ hx4
      have l1 := cell_of_row _ _ 1 _ _ _ hx4
      have l2 := cell_of_row _ _ 2 _ _ _ hx4
      simp only [List.getElem?_toArray, List.getElem?_cons_zero, List.getElem?_cons_succ] at l0 l1 l2
      have hxl := lt_of_block hx4
      have HT4 := Lib.hid hT4; have HRR4 := Lib.hid hrr4; have HOWN4 := Lib.hid hown4; have HX4 := Lib.hid hx4; have HBW4 := Lib.hid hbw4; have HTGE := Lib.hid htge; have HRES := Lib.hid hres; have HHK := Lib.hid hhk; have HRW4 := Lib.hid hrw4; have HWC4 := Lib.hid hwc4; have HTW := Lib.hid htw; have HTB := Lib.hid htb; clear hT4 hrr4 hown4 hx4 hbw4 htge hres hhk hrw4 hwc4 htw htb
      go_wp2_with fail
      refine (tnLength_ WA wc4 a b c W w4 HRW4.out).mono ?_
      rintro e w5 ⟨LA, lc, rfl, hrl, hlc, hls, b1⟩
      have hT5 := (b1.block _ (lt_of_block HT4.out)).trans HT4.out
      have hrr5 := HRR4.out.later b1 (Nat.le_refl _)
      have hown5 := own_keepR HOWN4.out b1
      have hx5 := (b1.block _ (lt_of_block HX4.out)).trans HX4.out
      have hbw5 := HBW4.out.trans (b1.mono HBW4.out.size)
      clear b1 l0 l1 l2 hxl HT4 HRR4 HOWN4 HX4 HBW4 HRW4
      have htge := HTGE.out
      have hres := HRES.out
      have hhk := HHK.out
      have htb := HTB.out
      clear HTGE HRES HHK HTB HTW HWC4
      generalize lenR a b c W = LV at *
      obtain ⟨S, E3⟩ := LV
      simp only at htge htb hhk hrl hlc hls ⊢
      rw [htge] at hres
      clear hls
      by_cases hE3 : E3 = 0
      rotate_left
      · rw [if_pos hE3] at hres
        have f1 : (E3 != 0) = true := by simp [hE3]
        clear hT5 hrr5 hown5 hx5 hrl
        have HBW5 := Lib.hid hbw5; have HTGE := Lib.hid htge; have HRES := Lib.hid hres; have HHK := Lib.hid hhk; have HE3 := Lib.hid hE3; have HLC := Lib.hid hlc; have HTB := Lib.hid htb; clear hbw5 htge hres hhk hE3 hlc htb
        go_wp2
        go_ret2
        exact IntsPost.bad HRES.out HBW5.out
      rw [if_neg (by simpa using hE3)] at hres
      have hst := cmp_stops (by first | exact hhk hE3 | exact hhk trivial hE3)
      clear hhk
      subst hE3
      have t5 := cell_of_row _ _ 5 _ _ _ hT5
      simp only [List.getElem?_toArray, List.getElem?_cons_zero, List.getElem?_cons_succ] at t5
      have hTl := lt_of_block hT5
      have HT5 := Lib.hid hT5; have HRR5 := Lib.hid hrr5; have HOWN5 := Lib.hid hown5; have HX5 := Lib.hid hx5; have HBW5 := Lib.hid hbw5; have HTGE := Lib.hid htge; have HRES := Lib.hid hres; have HST := Lib.hid hst; have HRL := Lib.hid hrl; have HLC := Lib.hid hlc; have HTB := Lib.hid htb; clear hT5 hrr5 hown5 hx5 hbw5 htge hres hst hrl hlc htb
      go_wp2_with fail
      refine (tnCmp_ ra LA rc lc 40 t.giv S w5 HRR5.out HRL.out HRC.out HLC.out (by decide) HST.out).mono ?_
      rintro e w6 ⟨rfl, b1⟩
      have hown6 := own_keepR HOWN5.out b1
      have hx6 := (b1.block _ (lt_of_block HX5.out)).trans HX5.out
      have hbw6 := HBW5.out.trans (b1.mono HBW5.out.size)
      clear b1 t5 hTl HT5 HRR5 HOWN5 HX5 HBW5 HRL
      have hres := HRES.out
      rw [HTB.out] at hres
      clear HRES HTB HTGE HST
      generalize cmpO t.giv S = C at *
      have hal2 : acc.length ≤ k + 1 := by omega
      by_cases hC : C < 0
      · have f1 : decide (C < 0) = true := decide_eq_true hC
        rw [f1, if_pos rfl] at hres
        have hsz := hbw6.size
        have hvl := hown6.lt
        have hs1 := lt_of_block hx6
        have h48 := H48.out
        clear hal2
        have HOWN6 := Lib.hid hown6; have HX6 := Lib.hid hx6; have HBW6 := Lib.hid hbw6; have HRES := Lib.hid hres; have HC := Lib.hid hC; have HSZ := Lib.hid hsz; have HVL := Lib.hid hvl; have HS1 := Lib.hid hs1; have HAL := Lib.hid hal; clear hown6 hx6 hbw6 hres hC hsz hvl hs1 hal
        go_wp2_with (refine wpList_app1_Try (by rfl) _ _ (by rfl) (w.heap.size + 1) u6 acc (by rfl) (by repeat (first | exact HOWN6.out | refine World.ownsRow.alloc ?_ _)) w6.heap.size (k : Int) (by rfl) (heap_alloc_new _ _) (by have := HAL.out; omega) (by simp; have := HS1.out; omega) ?_; intro g cap w7 hown7 hgrow hat7 hlt7)
        have hb7 : Below w.heap.size w w7 := (HBW6.out.alloc HBW6.out.size _).grown hgrow (by simp; have := HSZ.out; omega) (fun k' hk' => by have := (HVL.out k' hk').1; omega)
        have hx7 := (hgrow.block _ (by simp; have := HS1.out; omega) (fun h => by have := (HVL.out _ h.symm).1; omega)).trans ((Below.heap_alloc w6 _ _ HS1.out).trans HX6.out)
        have hlen : acc.length + 1 = (acc ++ [(k : Int)]).length := by simp
        rw [hlen] at hown7 ⊢
        clear hgrow hat7 hlt7 hlen
        have HB7 := Lib.hid hb7; have HX7 := Lib.hid hx7; have HOWN7 := Lib.hid hown7; clear hb7 hx7 hown7
        go_wp2
        go_roundw
        case rel => exact ⟨k + 1, acc ++ [(k : Int)], by go_num, by omega, by have := HAL.out; simp; omega, HRES.out, HOWN7.out, HX7.out, HB7.out⟩
        case measure => simp [intOf]; omega
      · have f1 : decide (C < 0) = false := decide_eq_false hC
        rw [f1, if_neg (by decide)] at hres
        have HOWN6 := Lib.hid hown6; have HX6 := Lib.hid hx6; have HBW6 := Lib.hid hbw6; have HRES := Lib.hid hres; have HC := Lib.hid hC; have HAL := Lib.hid hal; have HAL2 := Lib.hid hal2; clear hown6 hx6 hbw6 hres hC hal hal2
        go_wp2
        go_roundw
        case rel => exact ⟨k + 1, acc, by go_num, by omega, HAL2.out, HRES.out, HOWN6.out, HX6.out, HBW6.out⟩
        case measure => simp [intOf]; omega
    · obtain rfl : k = ths.length := by omega
      have d2 : decide ((ths.length : Int) < (ths.length : Int)) = false := decide_eq_false (by omega)
      rw [List.drop_length, tgR] at hres
      obtain ⟨A', c', rfl⟩ := own_slice1 hown
      have hrd := own_rd hown
      have h48 := H48.out
      clear hown hx
      have HRES := Lib.hid hres; have HBW := Lib.hid hbw; have HRD := Lib.hid hrd; have HAL := Lib.hid hal; have H48 := Lib.hid h48; clear hres hbw hrd hal h48
      go_wp2
      go_ret2
      rw [HRES.out]
      exact ⟨_, _, rfl, ⟨by show acc.length ≤ _; have := HAL.out; have := H48.out; omega, HRD.out⟩, HBW.out⟩
end Go.Proofs.Ytlmhgcllikcedaa
/- What the law's check needs: plain. -/
namespace Go.Proofs.Ytlmhgcllikcedaa
open Go.RowKit

theorem rt2 : rtN 2 32 = 6074000999 := sqrt_is (by decide) (by decide)
theorem rt3 : rtN 3 32 = 7439101573 := sqrt_is (by decide) (by decide)
theorem rt5 : rtN 5 32 = 9603838834 := sqrt_is (by decide) (by decide)
theorem rt10 : rtN 10 32 = 13581879131 := sqrt_is (by decide) (by decide)
theorem rt1 : rtN 1 32 = 4294967296 := sqrt_is (by decide) (by decide)
theorem nrt_of (n K S : Nat) (h0 : 0 < n) (h : n = K * K * S) (hs : sqfB S = true) : nrt (n : Int) = ((K : Int), (S : Int)) := nrt_is (by omega) ⟨by simpa using h, sqfB_iff.1 hs⟩
theorem aw_root {w w' : World} {e : Ending} (h : RootPost 72 w e w') : e = .returned (.tuple #[.agg #[.int .i64 6, .int .i64 2], .int .i64 0]) ∧ Below w.heap.size w w' := by
  obtain ⟨K, S, x, rfl, hb, _, _, h3⟩ := h
  obtain ⟨h4, h5, h6, h7⟩ := h3 (by decide) (by decide)
  have h8 : IsRt (72 : Int).toNat 6 2 := ⟨by decide, sqfB_iff.1 (by decide)⟩
  obtain ⟨e1, e2⟩ := isRt_unique (by decide) h7 h8
  rw [show K = 6 by omega, show S = 2 by omega, h4]
  exact ⟨rfl, hb⟩
theorem aw_len : lenR 1 0 1 [(0, 0), (3, 4), (4, 5), (6, 7)] = ([(5, 1), (3, 2)], 0) := by
  have hs : sqsK 1 0 1 [(0, 0), (3, 4), (4, 5), (6, 7)] 4 = [0, 25, 2, 8] := by decide
  have h := lenR_of (a := 1) (b := 0) (c := 1) (ps := [(0, 0), (3, 4), (4, 5), (6, 7)]) (by decide) (by decide) (by decide) (by decide)
  rw [h]
  show (lenF (sqsK 1 0 1 [(0, 0), (3, 4), (4, 5), (6, 7)] 4) [], (0 : Int)) = _
  rw [hs, lenF, lenF, lenF, lenF, lenF]
  have n1 : nrt 25 = (5, 1) := nrt_of 25 5 1 (by decide) (by decide) (by decide)
  have n2 : nrt 2 = (1, 2) := nrt_of 2 1 2 (by decide) (by decide) (by decide)
  have n3 : nrt 8 = (2, 2) := nrt_of 8 2 2 (by decide) (by decide) (by decide)
  simp [stepL, n1, n2, n3, mg]
theorem aw_mg1 : mg (-1) [(1, 2), (1, 3)] [(1, 10)] = [(1, 2), (1, 3), (-1, 10)] := by simp [mg]
theorem aw_mg2 : mg (-1) [(4, 1)] [(2, 5)] = [(4, 1), (-2, 5)] := by simp [mg]
theorem aw_cmp : cmpO [(1, 2), (1, 3)] [(1, 10)] = -1 := by
  unfold cmpO
  rw [if_pos (by decide), aw_mg1]
  refine sgV_neg ⟨by decide, by decide⟩ (by simp) (q := 32) ?_
  simp [upI, hiS, loS, sdR, moN, rt2, rt3, rt10]
theorem aw_cmp2 : cmpO [(4, 1)] [(2, 5)] = -1 := by
  unfold cmpO
  rw [if_pos (by decide), aw_mg2]
  refine sgV_neg ⟨by decide, by decide⟩ (by simp) (q := 32) ?_
  simp [upI, hiS, loS, sdR, moN, rt1, rt5]
theorem aw_bnd : bndO [(1, 2)] 1000 = ((1414, 1415), 0) := by
  unfold bndO
  rw [if_neg (by decide), if_neg (by decide)]
  have hi : intB [((1 : Int), (2 : Int))] = false := by decide
  have hn : Nm [((1 : Int), (2 : Int))] := ⟨by decide, by decide⟩
  have hlo : loI 1000 32 [(1, 2)] = 6074000999000 := by simp [loI, loS, hiS, sdR, rt2]
  have hup : upI 1000 32 [(1, 2)] = 6074001000000 := by simp [upI, loS, hiS, sdR, moN, rt2]
  have hs : stopQ 1000 [(1, 2)] 32 = true := by
    rw [stop_iff hi, hlo, hup]
    decide
  have hf : flT 1000 [(1, 2)] = 1414 := by
    rw [flT_eq (by decide) hn hs (by decide), hlo]
    decide
  show bndV 1000 [(1, 2)] = _
  unfold bndV upT
  rw [hf, hi]
  decide
theorem aw_taut : tautV (0, 0) [(2, 1, 3)] (0, 4) = ([(0, 0), (1, 2), (0, 4)], 0) := by decide
theorem aw_len2 : lenR 1 0 1 [(0, 0), (1, 2), (0, 4)] = ([(2, 5)], 0) := by
  have hs : sqsK 1 0 1 [(0, 0), (1, 2), (0, 4)] 3 = [0, 5, 5] := by decide
  have h := lenR_of (a := 1) (b := 0) (c := 1) (ps := [(0, 0), (1, 2), (0, 4)]) (by decide) (by decide) (by decide) (by decide)
  rw [h]
  show (lenF (sqsK 1 0 1 [(0, 0), (1, 2), (0, 4)] 3) [], (0 : Int)) = _
  rw [hs, lenF, lenF, lenF, lenF]
  have n1 : nrt 5 = (1, 5) := nrt_of 5 1 5 (by decide) (by decide) (by decide)
  simp [stepL, n1, mg]
def awT : Thr := ⟨(0, 0), (0, 4), [(2, 1, 3)], [(4, 1)]⟩
theorem aw_tgW : tgW 1 0 1 awT = ([(2, 5)], 0) := by
  unfold tgW awT
  simp only
  rw [aw_taut]
  exact aw_len2
theorem aw_tight : tightV 1 0 1 [awT] = ([0], 0) := by
  unfold tightV
  rw [if_neg (by decide), if_neg (by decide), tgR]
  have h1 : tgE 1 0 1 awT = 0 := by
    unfold tgE
    rw [aw_tgW, show tautV awT.o awT.gs awT.p = _ from aw_taut]
    decide
  have h2 : tgB 1 0 1 awT = true := by
    unfold tgB
    rw [aw_tgW]
    show decide (cmpO [(4, 1)] [(2, 5)] < 0) = true
    rw [aw_cmp2]
    decide
  rw [h1, h2, tgR]
  rfl
theorem aw_hh : ∀ t ∈ [awT], chkE t.giv = 0 → (tautV t.o t.gs t.p).2 = 0 → (tgW 1 0 1 t).2 = 0 → t.giv.length + (tgW 1 0 1 t).1.length ≤ 38 := by
  intro t ht _ _ _
  rw [List.mem_singleton.1 ht, aw_tgW]
  decide
theorem aw_stop : bothE [(1, 2), (1, 3)] [(1, 10)] = 0 → cmpQ (mg (-1) [(1, 2), (1, 3)] [(1, 10)]) (32 * 2 ^ 40) := cmp_stops (by decide)
end Go.Proofs.Ytlmhgcllikcedaa
/- The values of sums of roots, as sequences: plain. -/
namespace Go.Proofs.Ytlmhgcllikcedaa
open Go.RowKit

/-- The value of a sum, to 1 / (n + 1). -/
def vl : List (Int × Int) → Nat → Rat
  | [], _ => 0
  | x :: l, n => (x.1 : Rat) * rtq x.2.toNat n + vl l n
theorem vl_toL : ∀ (xs : List (Int × Int)) (n : Nat), valR (toL 1 xs) n = vl xs n
  | [], _ => rfl
  | x :: l, n => by
    show ((x.1 * ((1 : Nat) : Int) : Int) : Rat) * rtq x.2.toNat n + valR (toL 1 l) n = _
    rw [vl_toL l n, show x.1 * ((1 : Nat) : Int) = x.1 by omega]
    rfl
theorem vl_map (bz : Int) : ∀ (ys : List (Int × Int)) (n : Nat), vl (ys.map fun y => (bz * y.1, y.2)) n = (bz : Rat) * vl ys n
  | [], n => by show (0 : Rat) = _ * 0; rw [Rat.mul_zero]
  | y :: l, n => by
    show ((bz * y.1 : Int) : Rat) * rtq y.2.toNat n + vl (l.map fun y => (bz * y.1, y.2)) n = (bz : Rat) * ((y.1 : Rat) * rtq y.2.toNat n + vl l n)
    rw [vl_map bz l n, Rat.intCast_mul]
    grind
/-- Sums add up. -/
theorem vl_mg (bz : Int) (n : Nat) : ∀ xs ys : List (Int × Int), vl (mg bz xs ys) n = vl xs n + (bz : Rat) * vl ys n
  | [], ys => by
    rw [mg_nil, vl_map]
    show _ = 0 + _
    rw [Rat.zero_add]
  | x :: xs, [] => by
    rw [mg_nil2]
    show _ = _ + _ * 0
    rw [Rat.mul_zero, Rat.add_zero]
  | x :: xs, y :: ys => by
    have hc : ((bz * y.1 : Int) : Rat) = (bz : Rat) * (y.1 : Rat) := Rat.intCast_mul _ _
    rw [mg_cons]
    have ex : vl (x :: xs) n = (x.1 : Rat) * rtq x.2.toNat n + vl xs n := rfl
    have ey : vl (y :: ys) n = (y.1 : Rat) * rtq y.2.toNat n + vl ys n := rfl
    split
    · show (x.1 : Rat) * rtq x.2.toNat n + vl (mg bz xs (y :: ys)) n = _
      rw [vl_mg bz n xs (y :: ys), ex]
      grind
    · rename_i h1
      split
      · show ((bz * y.1 : Int) : Rat) * rtq y.2.toNat n + vl (mg bz (x :: xs) ys) n = _
        rw [vl_mg bz n (x :: xs) ys, hc, ey]
        grind
      · rename_i h2
        have h3 : x.2 = y.2 := by omega
        have hs : ((x.1 + bz * y.1 : Int) : Rat) = (x.1 : Rat) + (bz : Rat) * (y.1 : Rat) := by rw [Rat.intCast_add, hc]
        split
        · rename_i h4
          rw [vl_mg bz n xs ys, ex, ey, h3]
          have h5 : (x.1 : Rat) + (bz : Rat) * (y.1 : Rat) = 0 := by rw [← hs, h4]; rfl
          have h6 : ((x.1 : Rat) + (bz : Rat) * (y.1 : Rat)) * rtq y.2.toNat n = 0 := by rw [h5, Rat.zero_mul]
          grind
        · show ((x.1 + bz * y.1 : Int) : Rat) * rtq x.2.toNat n + vl (mg bz xs ys) n = _
          rw [vl_mg bz n xs ys, hs, ex, ey, h3]
          grind
termination_by xs ys => xs.length + ys.length
/-- The root's numerator. -/
def rtR (s n : Nat) : Nat := Nat.sqrt (s * ((n + 1) * (n + 1)))
theorem rt_cross {s : Nat} (hs : 0 < s) (n q : Nat) : rtR s n * 2 ^ q ≤ moN s q * (n + 1) ∧ rtN s q * (n + 1) ≤ (rtR s n + 1) * 2 ^ q := by
  have a1 : rtR s n * rtR s n ≤ s * ((n + 1) * (n + 1)) := Nat.sqrt_le _
  have a2 : s * ((n + 1) * (n + 1)) < (rtR s n + 1) * (rtR s n + 1) := Nat.lt_succ_sqrt _
  have b1 : rtN s q * rtN s q ≤ s * 4 ^ q := Nat.sqrt_le _
  have b2 : s * 4 ^ q < (rtN s q + 1) * (rtN s q + 1) := Nat.lt_succ_sqrt _
  rw [four_pow] at b1 b2
  have hq := Nat.two_pow_pos q
  constructor
  · by_cases h1 : 1 < s
    · unfold moN
      rw [if_pos h1, ← Nat.mul_self_le_mul_self_iff]
      generalize rtN s q = T at *
      generalize rtR s n = R at *
      generalize 2 ^ q = D at *
      have c1 := Nat.mul_le_mul_right (D * D) a1
      have c2 := Nat.mul_le_mul_right ((n + 1) * (n + 1)) (Nat.le_of_lt b2)
      calc R * D * (R * D) = R * R * (D * D) := by ac_rfl
        _ ≤ s * ((n + 1) * (n + 1)) * (D * D) := c1
        _ = s * (D * D) * ((n + 1) * (n + 1)) := by ac_rfl
        _ ≤ (T + 1) * (T + 1) * ((n + 1) * (n + 1)) := c2
        _ = (T + 1) * (n + 1) * ((T + 1) * (n + 1)) := by ac_rfl
    · obtain rfl : s = 1 := by omega
      have e1 : moN 1 q = 2 ^ q := by unfold moN; rw [if_neg (by decide), rt_one]
      have e2 : rtR 1 n ≤ n + 1 := by
        rw [← Nat.mul_self_le_mul_self_iff]
        omega
      rw [e1, Nat.mul_comm (2 ^ q)]
      exact Nat.mul_le_mul_right _ e2
  · rw [← Nat.mul_self_le_mul_self_iff]
    generalize rtN s q = T at *
    generalize rtR s n = R at *
    generalize 2 ^ q = D at *
    have c1 := Nat.mul_le_mul_right ((n + 1) * (n + 1)) b1
    have c2 := Nat.mul_le_mul_right (D * D) (Nat.le_of_lt a2)
    calc T * (n + 1) * (T * (n + 1)) = T * T * ((n + 1) * (n + 1)) := by ac_rfl
      _ ≤ s * (D * D) * ((n + 1) * (n + 1)) := c1
      _ = s * ((n + 1) * (n + 1)) * (D * D) := by ac_rfl
      _ ≤ (R + 1) * (R + 1) * (D * D) := c2
      _ = (R + 1) * D * ((R + 1) * D) := by ac_rfl
/-- The value's numerator, and how far it may be off. -/
def vlI : List (Int × Int) → Nat → Int
  | [], _ => 0
  | x :: l, n => x.1 * (rtR x.2.toNat n : Int) + vlI l n
def absS : List (Int × Int) → Nat
  | [] => 0
  | x :: l => x.1.natAbs + absS l
theorem vl_int : ∀ (xs : List (Int × Int)) (n : Nat), vl xs n * ((n : Rat) + 1) = ((vlI xs n : Int) : Rat)
  | [], n => by show (0 : Rat) * _ = _; rw [Rat.zero_mul]; rfl
  | x :: l, n => by
    have h := rtq_t x.2.toNat n
    have ih := vl_int l n
    show ((x.1 : Rat) * rtq x.2.toNat n + vl l n) * ((n : Rat) + 1) = ((x.1 * (rtR x.2.toNat n : Int) + vlI l n : Int) : Rat)
    rw [Rat.intCast_add, Rat.intCast_mul, ← ih]
    have h2 : (((rtR x.2.toNat n : Nat) : Int) : Rat) = rtq x.2.toNat n * ((n : Rat) + 1) := h.symm
    rw [h2]
    grind
theorem bd_cross (n q : Nat) : ∀ {xs : List (Int × Int)}, Ps xs → vlI xs n * ((2 ^ q : Nat) : Int) ≤ upI 1 q xs * ((n + 1 : Nat) : Int) + (absS xs : Int) * ((2 ^ q : Nat) : Int) ∧ loI 1 q xs * ((n + 1 : Nat) : Int) ≤ vlI xs n * ((2 ^ q : Nat) : Int) + (absS xs : Int) * ((2 ^ q : Nat) : Int)
  | [], _ => by simp [vlI, upI, loI, hiS, loS, absS]
  | x :: l, hp => by
    obtain ⟨i1, i2⟩ := bd_cross n q (xs := l) fun y hy => hp y (List.mem_cons_of_mem _ hy)
    have hx := hp x (List.mem_cons_self ..)
    obtain ⟨c1, c2⟩ := rt_cross (show 0 < x.2.toNat by omega) n q
    have eu : upI 1 q (x :: l) = (if sdR x = 0 then (x.1.natAbs : Int) * (moN x.2.toNat q : Int) else 0) - (if sdR x = 1 then (x.1.natAbs : Int) * (rtN x.2.toNat q : Int) else 0) + upI 1 q l := by
      unfold upI
      rw [hiS, loS]
      rcases sd_two x with ⟨_, h⟩ | ⟨_, h⟩ <;> rw [h] <;> simp <;> omega
    have el : loI 1 q (x :: l) = (if sdR x = 0 then (x.1.natAbs : Int) * (rtN x.2.toNat q : Int) else 0) - (if sdR x = 1 then (x.1.natAbs : Int) * (moN x.2.toNat q : Int) else 0) + loI 1 q l := by
      unfold loI
      rw [hiS, loS]
      rcases sd_two x with ⟨_, h⟩ | ⟨_, h⟩ <;> rw [h] <;> simp <;> omega
    rw [eu, el]
    have ev : vlI (x :: l) n = x.1 * (rtR x.2.toNat n : Int) + vlI l n := rfl
    have ea : absS (x :: l) = x.1.natAbs + absS l := rfl
    rw [ev, ea]
    have d1 : ((rtR x.2.toNat n : Nat) : Int) * ((2 ^ q : Nat) : Int) ≤ (moN x.2.toNat q : Int) * ((n + 1 : Nat) : Int) := by exact_mod_cast c1
    have d2 : ((rtN x.2.toNat q : Nat) : Int) * ((n + 1 : Nat) : Int) ≤ ((rtR x.2.toNat n : Nat) : Int) * ((2 ^ q : Nat) : Int) + ((2 ^ q : Nat) : Int) := by
      rw [Nat.add_mul, Nat.one_mul] at c2
      exact_mod_cast c2
    have hD0 : (0 : Int) ≤ ((2 ^ q : Nat) : Int) := Int.natCast_nonneg _
    generalize ((2 ^ q : Nat) : Int) = D at *
    generalize ((n + 1 : Nat) : Int) = M at *
    generalize ((rtR x.2.toNat n : Nat) : Int) = R at *
    generalize ((moN x.2.toNat q : Nat) : Int) = mo at *
    generalize ((rtN x.2.toNat q : Nat) : Int) = rt at *
    rw [Int.natCast_add]
    obtain ⟨k, hk⟩ : ∃ k : Int, k = (x.1.natAbs : Int) := ⟨_, rfl⟩
    have hk0 : 0 ≤ k := by omega
    have e1 := Int.mul_le_mul_of_nonneg_left d1 hk0
    have e2 := Int.mul_le_mul_of_nonneg_left d2 hk0
    rw [← hk]
    rcases sd_two x with ⟨hn, h⟩ | ⟨hn, h⟩
    · rw [h, show x.1 = -k by omega]
      simp only [show ¬ (1 : Nat) = 0 by decide, ↓reduceIte]
      clear eu el ev ea c1 c2 hk d1 d2
      generalize vlI l n = V at *
      generalize upI 1 q l = U at *
      generalize loI 1 q l = W at *
      generalize ((absS l : Nat) : Int) = S at *
      rw [Int.mul_add] at e2
      have p1 : (-k * R + V) * D = -(k * (R * D)) + V * D := by grind
      have p2 : (0 - k * rt + U) * M = -(k * (rt * M)) + U * M := by grind
      have p3 : (k + S) * D = k * D + S * D := by grind
      have p4 : (0 - k * mo + W) * M = -(k * (mo * M)) + W * M := by grind
      rw [p1, p2, p3, p4]
      have := Int.mul_nonneg hk0 hD0
      omega
    · rw [h, show x.1 = k by omega]
      simp only [show ¬ (0 : Nat) = 1 by decide, ↓reduceIte]
      clear eu el ev ea c1 c2 hk d1 d2
      generalize vlI l n = V at *
      generalize upI 1 q l = U at *
      generalize loI 1 q l = W at *
      generalize ((absS l : Nat) : Int) = S at *
      rw [Int.mul_add] at e2
      have p1 : (k * R + V) * D = k * (R * D) + V * D := by grind
      have p2 : (k * mo - 0 + U) * M = k * (mo * M) + U * M := by grind
      have p3 : (k + S) * D = k * D + S * D := by grind
      have p4 : (k * rt - 0 + W) * M = k * (rt * M) + W * M := by grind
      rw [p1, p2, p3, p4]
      have := Int.mul_nonneg hk0 hD0
      omega
theorem natR (n : Nat) : ((((n + 1 : Nat) : Int)) : Rat) = (n : Rat) + 1 := by
  have : (((n + 1 : Nat) : Int)) = (n : Int) + 1 := by omega
  rw [this, Rat.intCast_add]
  rfl
/-- A bound holds of the value. -/
theorem up_le {xs : List (Int × Int)} (hp : Ps xs) {q : Nat} {m : Int} (h : upI 1 q xs ≤ m * ((2 ^ q : Nat) : Int)) : LeS (vl xs) fun _ => (m : Rat) := by
  refine ⟨((absS xs : Nat) : Rat), nat_nn _, fun n => ?_⟩
  have hq : (0 : Int) < ((2 ^ q : Nat) : Int) := by have := Nat.two_pow_pos q; omega
  have h1 := (bd_cross n q hp).1
  have h2 := Int.mul_le_mul_of_nonneg_right h (show (0 : Int) ≤ ((n + 1 : Nat) : Int) by omega)
  have h3 : vlI xs n ≤ m * ((n + 1 : Nat) : Int) + (absS xs : Int) := by
    refine Int.le_of_mul_le_mul_right ?_ hq
    rw [Int.add_mul]
    have : m * ((2 ^ q : Nat) : Int) * ((n + 1 : Nat) : Int) = m * ((n + 1 : Nat) : Int) * ((2 ^ q : Nat) : Int) := by grind
    omega
  rw [vl_int]
  have h4 : ((vlI xs n : Int) : Rat) ≤ ((m * ((n + 1 : Nat) : Int) + (absS xs : Int) : Int) : Rat) := by exact_mod_cast h3
  rw [Rat.intCast_add, Rat.intCast_mul, natR] at h4
  exact h4
theorem lo_le {xs : List (Int × Int)} (hp : Ps xs) {q : Nat} {m : Int} (h : m * ((2 ^ q : Nat) : Int) ≤ loI 1 q xs) : LeS (fun _ => (m : Rat)) (vl xs) := by
  refine ⟨((absS xs : Nat) : Rat), nat_nn _, fun n => ?_⟩
  have hq : (0 : Int) < ((2 ^ q : Nat) : Int) := by have := Nat.two_pow_pos q; omega
  have h1 := (bd_cross n q hp).2
  have h2 := Int.mul_le_mul_of_nonneg_right h (show (0 : Int) ≤ ((n + 1 : Nat) : Int) by omega)
  have h3 : m * ((n + 1 : Nat) : Int) ≤ vlI xs n + (absS xs : Int) := by
    refine Int.le_of_mul_le_mul_right ?_ hq
    rw [Int.add_mul]
    have : m * ((2 ^ q : Nat) : Int) * ((n + 1 : Nat) : Int) = m * ((n + 1 : Nat) : Int) * ((2 ^ q : Nat) : Int) := by grind
    omega
  rw [vl_int]
  have h4 : ((m * ((n + 1 : Nat) : Int) : Int) : Rat) ≤ ((vlI xs n + (absS xs : Int) : Int) : Rat) := by exact_mod_cast h3
  rw [Rat.intCast_add, Rat.intCast_mul, natR] at h4
  exact h4
/-- A sum with a root is not nought. -/
theorem vl_apart {xs : List (Int × Int)} (hn : Nm xs) (h0 : xs ≠ []) : ∃ (c : Rat) (N : Nat), 0 < c ∧ ∀ n, N ≤ n → c ≤ vl xs n ∨ vl xs n ≤ -c := by
  have hs : ∀ x ∈ toL 1 xs, SqF x.2 := fun x hx => by
    obtain ⟨y, hy, rfl⟩ := List.mem_map.1 hx
    exact (norm_all xs 0 hn.1 y hy).1
  have hd := norm_dif 1 xs 0 (Int.le_refl _) hn.1
  cases xs with
  | nil => exact absurd rfl h0
  | cons x l =>
    have hc : cfR (toL 1 (x :: l)) x.2.toNat ≠ 0 := by
      have e : toL 1 (x :: l) = (x.1 * ((1 : Nat) : Int), x.2.toNat) :: toL 1 l := rfl
      rw [e] at hd ⊢
      rw [cfR, cf_none _ hd.1, if_pos rfl]
      have := hn.2 x (List.mem_cons_self ..)
      simpa using this
    obtain ⟨c, N, hc0, h⟩ := roots_apart hs (hs _ (List.mem_map.2 ⟨x, List.mem_cons_self .., rfl⟩)) hc
    exact ⟨c, N, hc0, fun n hn => by have := h n hn; rwa [vl_toL] at this⟩
/-- Places that are far out, and where a number is small. -/
theorem far_out (C c : Rat) (hc : 0 < c) (N : Nat) : ∃ Q, N ≤ 2 ^ Q - 1 ∧ C < c * ((2 ^ Q : Nat) : Rat) := by
  obtain ⟨M, hM⟩ : ∃ M : Nat, C < c * (M : Rat) := by
    refine ⟨(C / c).ceil.toNat + 1, ?_⟩
    have g1 : C / c ≤ ((C / c).ceil : Rat) := Rat.le_ceil
    have g2 : ((C / c).ceil : Rat) ≤ (((C / c).ceil.toNat : Nat) : Rat) := by
      have : (C / c).ceil ≤ ((C / c).ceil.toNat : Int) := Int.self_le_toNat _
      exact_mod_cast this
    have g3 : (((C / c).ceil.toNat + 1 : Nat) : Rat) = (((C / c).ceil.toNat : Nat) : Rat) + 1 := by exact_mod_cast rfl
    have h5 : C = C / c * c := by rw [Rat.div_mul_cancel]; grind
    rw [g3]
    have h6 := Rat.mul_nonneg (show (0 : Rat) ≤ (((C / c).ceil.toNat : Nat) : Rat) - C / c by grind) (Rat.le_of_lt hc)
    grind
  refine ⟨N + M + 1, ?_, ?_⟩
  · have := Nat.lt_two_pow_self (n := N + M + 1); omega
  · have h1 : M ≤ 2 ^ (N + M + 1) := by have := Nat.lt_two_pow_self (n := N + M + 1); omega
    have h2 : (M : Rat) ≤ ((2 ^ (N + M + 1) : Nat) : Rat) := by exact_mod_cast h1
    have h3 := Rat.mul_nonneg (Rat.le_of_lt hc) (show (0 : Rat) ≤ ((2 ^ (N + M + 1) : Nat) : Rat) - (M : Rat) by grind)
    grind
theorem two_one (Q : Nat) : (((2 ^ Q - 1 : Nat)) : Rat) + 1 = ((2 ^ Q : Nat) : Rat) := by
  have : ((2 ^ Q - 1 + 1 : Nat) : Rat) = ((2 ^ Q - 1 : Nat) : Rat) + 1 := by exact_mod_cast rfl
  rw [← this, two_q]
theorem vl_at (xs : List (Int × Int)) (Q : Nat) : vl xs (2 ^ Q - 1) * ((2 ^ Q : Nat) : Rat) = (((loS 1 Q 0 xs : Nat) : Int) : Rat) - (((loS 1 Q 1 xs : Nat) : Int) : Rat) := by
  rw [← vl_toL]; exact val_two 1 Q xs
/-- A sum that is shown to be above nought is not at most nought. -/
theorem pos_not {xs : List (Int × Int)} (hn : Nm xs) (h0 : xs ≠ []) {q : Nat} (h : 0 ≤ loI 1 q xs) : ¬ LeS (vl xs) fun _ => 0 := by
  rintro ⟨C, hC, hle⟩
  obtain ⟨c, N, hc, ha⟩ := vl_apart hn h0
  obtain ⟨Q', h1, h2⟩ := far_out C c hc (N + 2 ^ q)
  -- take q + Q' places
  have hQ : N ≤ 2 ^ (q + Q') - 1 ∧ C < c * ((2 ^ (q + Q') : Nat) : Rat) := by
    have h0q := Nat.two_pow_pos q
    have h3 : 2 ^ Q' ≤ 2 ^ (q + Q') := Nat.pow_le_pow_right (by decide) (by omega)
    have h4 : ((2 ^ Q' : Nat) : Rat) ≤ ((2 ^ (q + Q') : Nat) : Rat) := by exact_mod_cast h3
    have h5 := Rat.mul_nonneg (Rat.le_of_lt hc) (show (0 : Rat) ≤ ((2 ^ (q + Q') : Nat) : Rat) - ((2 ^ Q' : Nat) : Rat) by grind)
    exact ⟨by omega, by grind⟩
  obtain ⟨D, e, hD⟩ := two_mul_ex q (q + Q') (by omega)
  obtain ⟨u1, _, u3, _⟩ := bd_up 1 hn.ps e hD
  have h6 := Int.mul_nonneg h (show (0 : Int) ≤ (D : Int) by omega)
  have h7 : (0 : Rat) ≤ vl xs (2 ^ (q + Q') - 1) * ((2 ^ (q + Q') : Nat) : Rat) := by
    rw [vl_at, ← Rat.intCast_sub]
    have : (0 : Int) ≤ (loS 1 (q + Q') 0 xs : Int) - (loS 1 (q + Q') 1 xs : Int) := by omega
    exact_mod_cast this
  have h8 := hle (2 ^ (q + Q') - 1)
  rw [two_one] at h8
  have hp : (0 : Rat) < ((2 ^ (q + Q') : Nat) : Rat) := by exact_mod_cast Nat.two_pow_pos _
  generalize ((2 ^ (q + Q') : Nat) : Rat) = T at *
  rcases ha _ hQ.1 with h9 | h9
  · have := Rat.mul_nonneg (show (0 : Rat) ≤ vl xs (2 ^ (q + Q') - 1) - c by grind) (Rat.le_of_lt hp)
    grind
  · have := Rat.mul_pos (show (0 : Rat) < -vl xs (2 ^ (q + Q') - 1) by grind) hp
    grind
theorem neg_not {xs : List (Int × Int)} (hn : Nm xs) (h0 : xs ≠ []) {q : Nat} (h : upI 1 q xs ≤ 0) : ¬ LeS (fun _ => 0) (vl xs) := by
  rintro ⟨C, hC, hle⟩
  obtain ⟨c, N, hc, ha⟩ := vl_apart hn h0
  obtain ⟨Q', h1, h2⟩ := far_out C c hc (N + 2 ^ q)
  have hQ : N ≤ 2 ^ (q + Q') - 1 ∧ C < c * ((2 ^ (q + Q') : Nat) : Rat) := by
    have h0q := Nat.two_pow_pos q
    have h3 : 2 ^ Q' ≤ 2 ^ (q + Q') := Nat.pow_le_pow_right (by decide) (by omega)
    have h4 : ((2 ^ Q' : Nat) : Rat) ≤ ((2 ^ (q + Q') : Nat) : Rat) := by exact_mod_cast h3
    have h5 := Rat.mul_nonneg (Rat.le_of_lt hc) (show (0 : Rat) ≤ ((2 ^ (q + Q') : Nat) : Rat) - ((2 ^ Q' : Nat) : Rat) by grind)
    exact ⟨by omega, by grind⟩
  obtain ⟨D, e, hD⟩ := two_mul_ex q (q + Q') (by omega)
  obtain ⟨_, u2, _, u4⟩ := bd_up 1 hn.ps e hD
  have h6 := Int.mul_le_mul_of_nonneg_right h (show (0 : Int) ≤ (D : Int) by omega)
  rw [Int.zero_mul] at h6
  have h7 : vl xs (2 ^ (q + Q') - 1) * ((2 ^ (q + Q') : Nat) : Rat) ≤ 0 := by
    rw [vl_at, ← Rat.intCast_sub]
    have : (loS 1 (q + Q') 0 xs : Int) - (loS 1 (q + Q') 1 xs : Int) ≤ 0 := by omega
    exact_mod_cast this
  have h8 := hle (2 ^ (q + Q') - 1)
  rw [two_one] at h8
  have hp : (0 : Rat) < ((2 ^ (q + Q') : Nat) : Rat) := by exact_mod_cast Nat.two_pow_pos _
  generalize ((2 ^ (q + Q') : Nat) : Rat) = T at *
  rcases ha _ hQ.1 with h9 | h9
  · have := Rat.mul_pos (show (0 : Rat) < vl xs (2 ^ (q + Q') - 1) by grind) hp
    grind
  · have := Rat.mul_nonneg (show (0 : Rat) ≤ -vl xs (2 ^ (q + Q') - 1) - c by grind) (Rat.le_of_lt hp)
    grind
/-- Enough places show the sign. -/
theorem cmp_ex {xs : List (Int × Int)} (hn : Nm xs) : ∃ q, cmpQ xs q := by
  obtain ⟨q, hq⟩ : ∃ q, (2 * bdL (toL 1 xs)) ^ 2 ^ xs.length < 2 ^ q := ⟨_, Nat.lt_two_pow_self⟩
  exact ⟨q, cmp_big hn hq⟩
/-- The sign is that of the value. -/
theorem sgV_le {xs : List (Int × Int)} (hn : Nm xs) : (sgV xs ≤ 0 ↔ LeS (vl xs) fun _ => 0) ∧ (0 ≤ sgV xs ↔ LeS (fun _ => 0) (vl xs)) ∧ (sgV xs = 0 ↔ xs = []) ∧ (sgV xs = -1 ∨ sgV xs = 0 ∨ sgV xs = 1) := by
  by_cases h0 : xs = []
  · subst h0
    have h1 : LeS (vl []) fun _ => 0 := .of_le fun n => by show (0 : Rat) ≤ 0; grind
    have h2 : LeS (fun _ => 0) (vl []) := .of_le fun n => by show (0 : Rat) ≤ 0; grind
    rw [sgV_nil]
    exact ⟨⟨fun _ => h1, fun _ => by decide⟩, ⟨fun _ => h2, fun _ => by decide⟩, by simp, by simp⟩
  · obtain ⟨q, hq⟩ := cmp_ex hn
    rcases hq with h | h
    · have h1 := pos_not hn h0 h
      have h2 : LeS (fun _ => 0) (vl xs) := (lo_le hn.ps (q := q) (m := 0) (by rw [Int.zero_mul]; exact h))
      rw [sgV_pos h0 h]
      exact ⟨⟨fun h => by omega, fun h => absurd h h1⟩, ⟨fun _ => h2, fun _ => by decide⟩, by simp [h0], by simp⟩
    · have h1 := neg_not hn h0 h
      have h2 : LeS (vl xs) fun _ => 0 := (up_le hn.ps (q := q) (m := 0) (by rw [Int.zero_mul]; exact h))
      rw [sgV_neg hn h0 h]
      exact ⟨⟨fun _ => h2, fun _ => by decide⟩, ⟨fun h => by omega, fun h => absurd h h1⟩, by simp [h0], by simp⟩
/-- Nothing is left over only of equal sums. -/
theorem mg_eq : ∀ xs ys : List (Int × Int), mg (-1) xs ys = [] → xs = ys
  | [], ys, h => by
    rw [mg_nil] at h
    exact (List.map_eq_nil_iff.1 h).symm
  | x :: xs, [], h => by rw [mg_nil2] at h; cases h
  | x :: xs, y :: ys, h => by
    rw [mg_cons] at h
    split at h
    · cases h
    · split at h
      · cases h
      · split at h
        · rw [mg_eq xs ys h]
          congr 1
          exact Prod.ext (by omega) (by omega)
        · cases h
termination_by xs ys => xs.length + ys.length
theorem mg_self : ∀ xs : List (Int × Int), mg (-1) xs xs = []
  | [] => by rw [mg_nil]; rfl
  | x :: xs => by
    rw [mg_cons, if_neg (by omega), if_neg (by omega), if_pos (by omega)]
    exact mg_self xs
theorem mg_nz (bz : Int) (hbz : bz = 1 ∨ bz = -1) : ∀ xs ys : List (Int × Int), (∀ x ∈ xs, x.1 ≠ 0) → (∀ x ∈ ys, x.1 ≠ 0) → ∀ x ∈ mg bz xs ys, x.1 ≠ 0
  | [], ys, _, hy, x, hx => by
    rw [mg_nil] at hx
    obtain ⟨y, h1, rfl⟩ := List.mem_map.1 hx
    have := hy y h1
    rcases hbz with h | h <;> subst h <;> simp <;> omega
  | x :: xs, [], hx, _, z, hz => by rw [mg_nil2] at hz; exact hx z hz
  | x :: xs, y :: ys, hx, hy, z, hz => by
    have hx1 := hx x (List.mem_cons_self ..)
    have hy1 := hy y (List.mem_cons_self ..)
    have hxs : ∀ x ∈ xs, x.1 ≠ 0 := fun w h => hx w (List.mem_cons_of_mem _ h)
    have hys : ∀ x ∈ ys, x.1 ≠ 0 := fun w h => hy w (List.mem_cons_of_mem _ h)
    rw [mg_cons] at hz
    split at hz
    · rcases List.mem_cons.1 hz with rfl | hz
      · exact hx1
      · exact mg_nz bz hbz xs (y :: ys) hxs hy z hz
    · split at hz
      · rcases List.mem_cons.1 hz with rfl | hz
        · rcases hbz with h | h <;> subst h <;> simp <;> omega
        · exact mg_nz bz hbz (x :: xs) ys hx hys z hz
      · split at hz
        · exact mg_nz bz hbz xs ys hxs hys z hz
        · rename_i h4
          rcases List.mem_cons.1 hz with rfl | hz
          · exact h4
          · exact mg_nz bz hbz xs ys hxs hys z hz
termination_by xs ys => xs.length + ys.length
theorem Nm.mg {bz : Int} (hbz : bz = 1 ∨ bz = -1) {xs ys : List (Int × Int)} (hx : Nm xs) (hy : Nm ys) : Nm (mg bz xs ys) := ⟨mg_norm bz xs ys 0 hx.1 hy.1, mg_nz bz hbz xs ys hx.2 hy.2⟩
theorem vl_sub (n : Nat) (xs ys : List (Int × Int)) : vl (mg (-1) xs ys) n = vl xs n - vl ys n := by
  have := vl_mg (-1) n xs ys
  have h : ((-1 : Int) : Rat) = -1 := rfl
  rw [h] at this
  grind
theorem vl_sum (n : Nat) (xs ys : List (Int × Int)) : vl (mg 1 xs ys) n = vl xs n + vl ys n := by
  have := vl_mg 1 n xs ys
  have h : ((1 : Int) : Rat) = 1 := rfl
  rw [h] at this
  grind
/-- A comparison, by values. -/
theorem cmp_le {xs ys : List (Int × Int)} (hx : Nm xs) (hy : Nm ys) : (sgV (mg (-1) xs ys) ≤ 0 ↔ LeS (vl xs) (vl ys)) ∧ (0 ≤ sgV (mg (-1) xs ys) ↔ LeS (vl ys) (vl xs)) ∧ (sgV (mg (-1) xs ys) = 0 ↔ xs = ys) ∧ (sgV (mg (-1) xs ys) = -1 ∨ sgV (mg (-1) xs ys) = 0 ∨ sgV (mg (-1) xs ys) = 1) := by
  obtain ⟨h1, h2, h3, h4⟩ := sgV_le (hx.mg (.inr rfl) hy (bz := -1))
  refine ⟨h1.trans ⟨fun h => ?_, fun h => ?_⟩, h2.trans ⟨fun h => ?_, fun h => ?_⟩, h3.trans ⟨mg_eq _ _, fun h => by rw [h]; exact mg_self _⟩, h4⟩
  · exact (h.add (LeS.refl (vl ys))).congr (fun n => by rw [vl_sub]; grind) fun n => by grind
  · exact (h.add (LeS.refl fun n => -vl ys n)).congr (fun n => by rw [vl_sub]; grind) fun n => by grind
  · exact (h.add (LeS.refl (vl ys))).congr (fun n => by grind) fun n => by rw [vl_sub]; grind
  · exact (h.add (LeS.refl fun n => -vl ys n)).congr (fun n => by grind) fun n => by rw [vl_sub]; grind
/-- Equal values are equal sums. -/
theorem vl_inj {xs ys : List (Int × Int)} (hx : Nm xs) (hy : Nm ys) (h : Nul fun n => vl xs n - vl ys n) : xs = ys := by
  obtain ⟨h1, h2, h3, _⟩ := cmp_le hx hy
  have := h1.2 (.of_nul h)
  have := h2.2 (.of_nul' h)
  exact h3.1 (by omega)
end Go.Proofs.Ytlmhgcllikcedaa
