/- Both checks of a sheet return errSheet. -/
import Derived.Test.YtepdgffccfcfpaaLeaf
namespace Go.Proofs.Ytepdgffccfcfpaa
open Go.RowKit

set_option maxHeartbeats 1000000 in
theorem rCheck_ (p : Int) (A : Option Addr) (c : Nat) (ws : List GW) (w : World) (hp : -9223372036854775808 ≤ p) (hp' : p ≤ 9223372036854775807) (ha : RdW w A ws) :
    Calls Try.prog 15 #[.agg #[.int .i64 p, .slice A ws.length c]] w fun e w' => e = .returned (.int .i64 (errSheet p ws)) ∧ Below w.heap.size w w' := by
  have hla := ha.1
  have HA := Lib.hid ha; clear ha
  by_cases hp1 : 24 < p
  · go_enter Try.func15, Try.ntmps15
    go_wp2
    go_ret
    exact ⟨ret_int (by unfold errSheet; rw [if_pos (.inl hp1)]), (Below.refl _ _).alloc (Nat.le_refl _) _⟩
  by_cases hl1 : 400 < ws.length
  · go_enter Try.func15, Try.ntmps15
    go_wp2
    go_ret
    exact ⟨ret_int (by unfold errSheet; rw [if_pos (.inr (.inl hl1))]), (Below.refl _ _).alloc (Nat.le_refl _) _⟩
  go_enter Try.func15, Try.ntmps15
  go_wp2
  go_loop [3] (fun i => ∃ k : Nat, i = .int .i64 k ∧ k ≤ ws.length ∧ (ws.take k).any longW = false) (fun i => ws.length - (intOf i).toNat)
  case atStart => exact ⟨0, rfl, Nat.zero_le _, rfl⟩
  case round =>
    obtain ⟨k, rfl, hk, hne⟩ := hrel
    have HE := Lib.hid hne; clear hne
    by_cases hlt : k < ws.length
    · obtain ⟨b, off, rfl, hbA, h1, h2, h3⟩ := HA.out.at_ hlt
      have hc := (HA.out.2.1 _ (List.getElem_mem hlt)).2.2
      have ht := any_take_succ ws longW k hlt
      have HT := Lib.hid ht; clear ht
      by_cases hx : 16 < ws[k].word.size
      · go_wp2
        go_ret
        refine ⟨ret_int ?_, (Below.refl _ _).alloc (Nat.le_refl _) _⟩
        unfold errSheet; rw [if_pos (.inr (.inr (any_hit hlt (by simp [longW, hx]))))]
      · go_wp2
        go_round
        case rel => exact ⟨k + 1, by go_num, by omega, by rw [HT.out, HE.out]; simp [longW]; omega⟩
        case measure => simp [intOf]; omega
    · have hl3 : ws.any longW = false := any_end hlt HE.out
      have HL3 := Lib.hid hl3; clear hl3
      have hend : errSheet p ws = if p < 2 then 2 else if ws.any (badW p) = true then 2 else if ws.any (fun x => formW x.word) = true then 6 else 0 := by
        unfold errSheet; rw [if_neg (by rw [HL3.out]; simp; omega)]
      have HEND := Lib.hid hend; clear hend
      by_cases hp2 : p < 2
      · go_wp2
        go_ret
        exact ⟨ret_int (by rw [HEND.out, if_pos hp2]), (Below.refl _ _).alloc (Nat.le_refl _) _⟩
      · go_wp2
        go_loopw [4] (fun i wr => ∃ k : Nat, i = .int .i64 k ∧ k ≤ ws.length ∧ (ws.take k).any (badW p) = false ∧ Below (w.heap.size + 1) (w.alloc (.cells #[.int .i64 p, .slice A ws.length c] 24)) wr) (fun i _ => ws.length - (intOf i).toNat)
        case atStart => exact ⟨0, rfl, Nat.zero_le _, rfl, Below.refl _ _⟩
        case round =>
          clear hk HE hlt
          obtain ⟨k, rfl, hk, hne, hbw⟩ := hrel
          have HE := Lib.hid hne; clear hne
          have c0 := box_cell hbw 0
          have c1 := box_cell hbw 1
          have hsz : w.heap.size < wr.heap.size := by have := hbw.size; simp at this; omega
          simp at c0 c1
          by_cases hlt : k < ws.length
          · obtain ⟨b, off, rfl, hbA, h1, h2, h3⟩ := (HA.out.later (below_of_box hbw) (Nat.le_refl _)).at_ hlt
            have hc := (HA.out.2.1 _ (List.getElem_mem hlt)).2.2
            have ht := any_take_succ ws (badW p) k hlt
            have HT := Lib.hid ht; clear ht
            go_wp2
            all_goals first
              | (go_roundw
                 case rel =>
                   refine ⟨k + 1, by go_num, by omega, ?_, hbw.alloc (by omega) _⟩
                   rw [HT.out, HE.out, Bool.false_or]; unfold badW; rw [decide_eq_false_iff_not]
                   rintro (h | h | h | ⟨h, h'⟩) <;> first | omega | simp_all
                 case measure => simp [intOf]; omega)
              | (go_ret
                 refine ⟨ret_int ?_, below_of_box (hbw.alloc (by omega) _)⟩
                 rw [HEND.out, if_neg (by omega), if_pos (any_hit hlt ?_)]
                 unfold badW; rw [decide_eq_true_eq]
                 first
                   | exact .inr (.inl (by omega))
                   | exact .inr (.inr (.inl (by omega)))
                   | exact .inl (by omega)
                   | (refine .inr (.inr (.inr ⟨by omega, ?_⟩))
                      rcases ‹(_ ∨ _) ∨ _› with (h | h) | h
                      · omega
                      · omega
                      · exact h))
          · have hl4 : ws.any (badW p) = false := any_end hlt HE.out
            have HEND2 : Hid (errSheet p ws = if ws.any (fun x => formW x.word) = true then 6 else 0) := by
              have := HEND.out; rw [if_neg (by omega), if_neg (by rw [hl4]; decide)] at this; exact this
            clear hl4
            go_wp2
            go_loopw [6] (fun i wx => ∃ k : Nat, i = .int .i64 k ∧ k ≤ ws.length ∧ (ws.take k).any (fun x => formW x.word) = false ∧ wx = wr) (fun i _ => ws.length - (intOf i).toNat)
            case atStart => exact ⟨0, rfl, Nat.zero_le _, rfl, rfl⟩
            case round =>
              clear hk HE hlt
              obtain ⟨k, rfl, hk, hne, rfl⟩ := hrel
              have HE := Lib.hid hne; clear hne
              by_cases hlt : k < ws.length
              · obtain ⟨b, off, rfl, hbA, h1, h2, h3⟩ := (HA.out.later (below_of_box hbw) (Nat.le_refl _)).at_ hlt
                have hc := (HA.out.2.1 _ (List.getElem_mem hlt)).2.2
                have ht := any_take_succ ws (fun x => formW x.word) k hlt
                have HT := Lib.hid ht; clear ht
                have hlong : ¬ 16 < ws[k].word.size := by
                  have := List.any_eq_false.1 HL3.out _ (List.getElem_mem hlt)
                  simpa [longW] using this
                by_cases hx : formW ws[k].word = true
                · have he : (errWord ws[k].word != 0) = true := by unfold errWord; rw [if_neg hlong, if_pos hx]; rfl
                  have HX := Lib.hid hx; clear hx hlong
                  go_wp2_with (go_at_call 39; refine (rwCheck_ _ _ hc).mono ?_; rintro e w' ⟨rfl, rfl⟩)
                  go_ret
                  refine ⟨ret_int ?_, below_of_box hbw⟩
                  rw [HEND2.out, if_pos (any_hit hlt HX.out)]
                · have he : (errWord ws[k].word != 0) = false := by unfold errWord; rw [if_neg hlong, if_neg hx]; rfl
                  have HX := Lib.hid hx; clear hx hlong
                  go_wp2_with (go_at_call 39; refine (rwCheck_ _ _ hc).mono ?_; rintro e w' ⟨rfl, rfl⟩)
                  go_roundw
                  case rel => exact ⟨k + 1, by go_num, by omega, by rw [HT.out, HE.out, Bool.false_or]; simpa using HX.out, trivial⟩
                  case measure => simp [intOf]; omega
              · go_wp2
                go_ret
                refine ⟨ret_int ?_, below_of_box hbw⟩
                rw [HEND2.out, if_neg (by rw [any_end hlt HE.out]; decide)]
end Go.Proofs.Ytepdgffccfcfpaa
