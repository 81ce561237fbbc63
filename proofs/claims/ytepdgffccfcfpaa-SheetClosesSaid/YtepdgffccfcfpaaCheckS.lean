/- The program's own check of a sheet returns errSheet. -/
import Derived.Test.YtepdgffccfcfpaaLeaf
namespace Go.Proofs.Ytepdgffccfcfpaa
open Go.RowKit

set_option maxHeartbeats 400000 in
theorem sCheck1_ (x : GW) (w : World) (hx : x.word.size ≤ 9223372036854775807) :
    Calls Try.prog 37 #[x.val] w fun e w' => e = .returned (.bool (longW x)) ∧ Below w.heap.size w w' := by
  unfold GW.val
  go_enter Try.func37, Try.ntmps37
  go_wp2
  go_ret
  exact ⟨ret_bool (by unfold longW; rw [decide_eq_decide]; omega), (Below.refl _ _).alloc (Nat.le_refl _) _⟩

def idxLong (ws : List GW) : Int := if ws.any longW = true then (ws.findIdx longW : Nat) else -1

set_option maxHeartbeats 400000 in
theorem indW_ (A : Option Addr) (c : Nat) (ws : List GW) (w : World) (ha : RdW w A ws) :
    Calls Try.prog 51 #[.slice A ws.length c, .func (.func 37) #[] #[]] w fun e w' => e = .returned (.int .i64 (idxLong ws)) ∧ Below w.heap.size w w' := by
  have hla := ha.1
  have HA := Lib.hid ha; clear ha
  go_enter Try.func51, Try.ntmps51
  go_wp2
  go_loopw [8] (fun i wr => ∃ k : Nat, i = .int .i64 k ∧ k ≤ ws.length ∧ (ws.take k).any longW = false ∧ Below w.heap.size w wr) (fun i _ => ws.length - (intOf i).toNat)
  case atStart => exact ⟨0, rfl, Nat.zero_le _, rfl, Below.refl _ _⟩
  case round =>
    obtain ⟨k, rfl, hk, hne, hbw⟩ := hrel
    have HE := Lib.hid hne; clear hne
    by_cases hlt : k < ws.length
    · obtain ⟨b, off, rfl, hbA, h1, h2, h3⟩ := (HA.out.later hbw (Nat.le_refl _)).at_ hlt
      have hc := (HA.out.2.1 _ (List.getElem_mem hlt)).2.2
      have ht := any_take_succ ws longW k hlt
      have HT := Lib.hid ht; clear ht
      by_cases hx : longW ws[k] = true
      · go_wp2_with (go_at_call 37; refine (sCheck1_ ws[k] _ hc).mono ?_; rintro e w' ⟨rfl, hb1⟩)
        go_ret
        refine ⟨ret_int ?_, hbw.trans (hb1.mono hbw.size)⟩
        unfold idxLong; rw [if_pos (any_hit hlt hx)]
        have hk : ws.findIdx longW = k := (List.findIdx_eq hlt).2 ⟨hx, fun j hj => ?_⟩
        · rw [hk]
        have := List.any_eq_false.1 HE.out ws[j] (List.mem_take_iff_getElem.2 ⟨j, by omega, rfl⟩)
        simpa using this
      · go_wp2_with (go_at_call 37; refine (sCheck1_ ws[k] _ hc).mono ?_; rintro e w' ⟨rfl, hb1⟩)
        go_roundw
        case rel => exact ⟨k + 1, by go_num, by omega, by rw [HT.out, HE.out, Bool.false_or]; simpa using hx, hbw.trans (hb1.mono hbw.size)⟩
        case measure => simp [intOf]; omega
    · go_wp2
      go_ret
      exact ⟨ret_int (by unfold idxLong; rw [if_neg (by rw [any_end hlt HE.out]; decide)]), hbw⟩

set_option maxHeartbeats 400000 in
theorem contW_ (A : Option Addr) (c : Nat) (ws : List GW) (w : World) (ha : RdW w A ws) :
    Calls Try.prog 36 #[.slice A ws.length c, .func (.func 37) #[] #[]] w fun e w' => e = .returned (.bool (ws.any longW)) ∧ Below w.heap.size w w' := by
  go_enter Try.func36, Try.ntmps36
  go_wp2_with (go_at_call 51; refine (indW_ _ _ _ _ ha).mono ?_; rintro e w' ⟨rfl, hb1⟩)
  go_ret
  refine ⟨ret_bool ?_, hb1⟩
  unfold idxLong
  cases ws.any longW <;> simp

set_option maxHeartbeats 1000000 in
theorem sCheck_ (p : Int) (A : Option Addr) (c : Nat) (ws : List GW) (w : World) (hp : -9223372036854775808 ≤ p) (hp' : p ≤ 9223372036854775807) (ha : RdW w A ws) :
    Calls Try.prog 14 #[.agg #[.int .i64 p, .slice A ws.length c]] w fun e w' => e = .returned (.int .i64 (errSheet p ws)) ∧ Below w.heap.size w w' := by
  have hla := ha.1
  have HA := Lib.hid ha; clear ha
  by_cases hp1 : 24 < p
  · go_enter Try.func14, Try.ntmps14
    go_wp2
    go_ret
    exact ⟨ret_int (by unfold errSheet; rw [if_pos (.inl hp1)]), (Below.refl _ _).alloc (Nat.le_refl _) _⟩
  by_cases hl1 : 400 < ws.length
  · go_enter Try.func14, Try.ntmps14
    go_wp2
    go_ret
    exact ⟨ret_int (by unfold errSheet; rw [if_pos (.inr (.inl hl1))]), (Below.refl _ _).alloc (Nat.le_refl _) _⟩
  by_cases hl3 : ws.any longW = true
  · have HL3 := Lib.hid hl3
    go_enter Try.func14, Try.ntmps14
    go_wp2_with (go_at_call 36; refine (contW_ _ _ _ _ (HA.out.later ((Below.refl _ _).alloc (Nat.le_refl _) _) (Nat.le_refl _))).mono ?_; rintro e w' ⟨rfl, hb1⟩)
    go_ret
    refine ⟨ret_int ?_, below_of_box (by simpa using hb1)⟩
    unfold errSheet; rw [if_pos (.inr (.inr HL3.out))]
  have hl3 : ws.any longW = false := by simpa using hl3
  have HL3 := Lib.hid hl3
  have hend : errSheet p ws = if p < 2 then 2 else if ws.any (badW p) = true then 2 else if ws.any (fun x => formW x.word) = true then 6 else 0 := by
    unfold errSheet; rw [if_neg (by rw [HL3.out]; simp; omega)]
  have HEND := Lib.hid hend; clear hend
  by_cases hp2 : p < 2
  · go_enter Try.func14, Try.ntmps14
    go_wp2_with (go_at_call 36; refine (contW_ _ _ _ _ (HA.out.later ((Below.refl _ _).alloc (Nat.le_refl _) _) (Nat.le_refl _))).mono ?_; rintro e w1 ⟨rfl, hb1⟩; simp at hb1; have c0 := box_cell hb1 0; have c1 := box_cell hb1 1; simp at c0 c1)
    go_ret
    exact ⟨ret_int (by rw [HEND.out, if_pos (by omega)]), below_of_box hb1⟩
  · go_enter Try.func14, Try.ntmps14
    go_wp2_with (go_at_call 36; refine (contW_ _ _ _ _ (HA.out.later ((Below.refl _ _).alloc (Nat.le_refl _) _) (Nat.le_refl _))).mono ?_; rintro e w1 ⟨rfl, hb1⟩; simp at hb1; have c0 := box_cell hb1 0; have c1 := box_cell hb1 1; simp at c0 c1)
    clear hl3
    go_loopw [3, 26] (fun f i wr => ∃ k : Nat, i = .int .i64 k ∧ k ≤ ws.length ∧ (ws.take k).any (badW p) = false ∧ f = .int .i64 (if (ws.take k).any (fun x => formW x.word) = true then 6 else 0) ∧ Below (w.heap.size + 1) (w.alloc (.cells #[.int .i64 p, .slice A ws.length c] 24)) wr) (fun _ i _ => ws.length - (intOf i).toNat)
    case atStart => exact ⟨0, rfl, Nat.zero_le _, rfl, rfl, hb1⟩
    case round =>
      clear c0 c1
      obtain ⟨k, rfl, hk, hne, rfl, hbw⟩ := hrel
      have HE := Lib.hid hne; clear hne
      have c0 := box_cell hbw 0
      have hsz : w.heap.size < wr.heap.size := by have := hbw.size; simp at this; omega
      simp at c0
      generalize hfo : (if (ws.take k).any (fun x => formW x.word) = true then (6 : Int) else 0) = fo
      have HFO := Lib.hid hfo; clear hfo
      have hf0 : 0 ≤ fo ∧ fo ≤ 6 := by rw [← HFO.out]; split <;> omega
      by_cases hlt : k < ws.length
      · obtain ⟨b, off, rfl, hbA, h1, h2, h3⟩ := (HA.out.later (below_of_box hbw) (Nat.le_refl _)).at_ hlt
        have hc := (HA.out.2.1 _ (List.getElem_mem hlt)).2.2
        have ht := any_take_succ ws (badW p) k hlt
        have HT := Lib.hid ht; clear ht
        have hf := any_take_succ ws (fun x => formW x.word) k hlt
        have HF := Lib.hid hf; clear hf
        have hlong : ¬ 16 < ws[k].word.size := by
          have := List.any_eq_false.1 HL3.out _ (List.getElem_mem hlt)
          simpa [longW] using this
        have hew : errWord ws[k].word = if formW ws[k].word = true then 6 else 0 := by unfold errWord; rw [if_neg hlong]
        have HW := Lib.hid hew; clear hew hlong
        go_wp2_with (go_at_call 38; refine (wCheck_ _ _ hc).mono ?_; rintro e w' ⟨rfl, rfl⟩)
        all_goals first
          | (go_roundw
             case rel =>
               refine ⟨k + 1, by go_num, by omega, ?_, ?_, hbw.alloc (by omega) _⟩
               · rw [HT.out, HE.out, Bool.false_or]; unfold badW; rw [decide_eq_false_iff_not]
                 rintro (h | h | h | ⟨h, h'⟩) <;> first | omega | simp_all
               · rw [HF.out, HW.out, ← HFO.out]
                 cases (ws.take k).any (fun x => formW x.word) <;> cases formW ws[k].word <;> rfl
             case measure => simp [intOf]; omega)
          | (go_ret
             refine ⟨ret_int ?_, below_of_box (hbw.alloc (by omega) _)⟩
             rw [HEND.out, if_neg (by omega), if_pos (any_hit hlt ?_)]
             unfold badW; rw [decide_eq_true_eq]
             first
               | exact .inr (.inl (by omega))
               | exact .inr (.inr (.inl (by omega)))
               | exact .inl (by omega)
               | exact .inr (.inr (.inr ⟨by omega, by simpa using ‹¬ ws[k].word.toList = []›⟩)))
      · go_wp2
        go_ret
        refine ⟨ret_int ?_, below_of_box hbw⟩
        rw [HEND.out, if_neg (by omega), if_neg (by rw [any_end hlt HE.out]; decide), ← HFO.out, List.take_of_length_le (by omega)]
end Go.Proofs.Ytepdgffccfcfpaa
