/- Package traces: row. -/
import Derived.Test.YtifpkdajfdlgeaaTr1
import Derived.Test.YtifpkdajfdlgeaaOwn
import Derived.Deep.RegionLaw
import Derived.Deep.DeepCutAuto

namespace Go.Proofs.Ytifpkdajfdlgeaa
open Go.RowKit

/- A valid sheet. -/
def OkS (p : Int) (ws : List GW) : Prop := errSheet p ws = 0
theorem OkS.all {p : Int} {ws : List GW} (h : OkS p ws) : 2 ≤ p ∧ p ≤ 24 ∧ ws.length ≤ 400 ∧ ∀ x ∈ ws, x.word.size ≤ 16 ∧ 0 ≤ x.pl ∧ x.pl ≤ p - 2 ∧ formW x.word = false := by
  unfold OkS errSheet at h
  split at h
  · omega
  · rename_i h1
    split at h
    · omega
    · rename_i h2
      split at h
      · omega
      · rename_i h3
        split at h
        · omega
        · rename_i h4
          refine ⟨by omega, by omega, by omega, fun x hx => ?_⟩
          have e1 := List.any_eq_false.1 (by simpa using (show ¬ ws.any longW = true from fun h => h1 (.inr (.inr h)))) x hx
          have e3 := List.any_eq_false.1 (by simpa using h3) x hx
          have e4 := List.any_eq_false.1 (by simpa using h4) x hx
          unfold longW at e1
          unfold badW at e3
          simp only [decide_eq_true_eq, not_or] at e1 e3
          exact ⟨by omega, by omega, by omega, by simpa using e4⟩

def takesB (x : GW) (p : Nat) : Bool := decide (x.pl = p ∨ x.pl + 1 = p)
/-- The works among the first k that take place p. -/
def rowK (ws : List GW) (k p : Nat) : List Int := ((List.range k).filter fun i => match ws[i]? with | some x => takesB x p | none => false).map Int.ofNat
theorem rowK_succ (ws : List GW) (k p : Nat) (hk : k < ws.length) : rowK ws (k + 1) p = rowK ws k p ++ if takesB ws[k] p = true then [(k : Int)] else [] := by
  unfold rowK
  rw [List.range_succ, List.filter_append, List.map_append]
  simp only [List.filter_cons, List.filter_nil, List.getElem?_eq_getElem hk]
  split <;> simp_all
theorem rowK_len (ws : List GW) (k p : Nat) : (rowK ws k p).length ≤ k := by
  unfold rowK; rw [List.length_map]; exact Nat.le_trans (List.length_filter_le _ _) (by simp)

theorem info_int_Try : (Try.prog.info? 3).map (fun i => (i.zero, i.size, i.bytes)) = some (some (.int .i64 0), 1, 8) := by kernel_rfl

/-- One int is appended to a row of the call's own. -/
theorem run_app1_Try (w : World) (base : Nat) (v : Value) (xs : List Int) (hown : w.ownsRow base 3 1 v xs.length (ints xs)) (b : Nat) (z : Int) (hb : w.heap[b]? = some (.cells #[.int .i64 z] 3 (0, 0)))
    (hn : xs.length ≤ 1000000000) (hbase : base ≤ w.heap.size) (ty : TypeId) :
    ∃ g cap w', (Builtin.append_ #[30, 30] ty #[v, .slice (some ⟨b, 0, none⟩) 1 1]).run Try.prog w = .ok (.slice (some ⟨g, 0, none⟩) (xs.length + 1) cap) w' ∧
      w'.ownsRow base 3 1 (.slice (some ⟨g, 0, none⟩) (xs.length + 1) cap) (xs ++ [z]).length (ints (xs ++ [z])) ∧ w.grownBy w' v.ownBlock ∧ (v.ownBlock = some g ∨ g = w.heap.size) ∧ g < w'.heap.size := by
  obtain ⟨i0, hi, hz0, hz1, hz2⟩ := info_parts info_int_Try
  obtain ⟨g, cap, w', h1, h2, h3, h4, h5⟩ := run_append_lies (P := Try.prog) w 30 ty base 3 i0 (.int .i64 0) 1 8 Try.underlying30 hi hz0 hz1 hz2 rfl (by omega) v xs.length (ints xs) hown ⟨b, 0, none⟩ 1 1 [.int .i64 z] rfl
    (World.news_of_block hb) (ints_one [z]) (by omega) (by unfold maxLen; omega) (by omega) hbase w.heap.size rfl
  refine ⟨g, cap, w', h1, ?_, h3, h4, h5⟩
  rw [List.length_append]
  simpa [ints] using h2
theorem step_app1_Try {ops : Array Oper} {o : Oper} {a : Act} {K : Act → World → Prop} {Q : Exit → Act → World → Prop} {E : Prop} {w : World} (hgd : o.guard = none) (s x : Operand)
    (ho : o.op = .call { callee := .builtin .append, args := #[s, x], argTypes := #[30, 30] })
    (base : Nat) (v : Value) (xs : List Int) (hs : a.eval s = v) (hown : w.ownsRow base 3 1 v xs.length (ints xs)) (b : Nat) (z : Int) (hx : a.eval x = .slice (some ⟨b, 0, none⟩) 1 1)
    (hb : w.heap[b]? = some (.cells #[.int .i64 z] 3 (0, 0))) (hn : xs.length ≤ 1000000000) (hbase : base ≤ w.heap.size)
    (h : ∀ g cap w', w'.ownsRow base 3 1 (.slice (some ⟨g, 0, none⟩) (xs.length + 1) cap) (xs ++ [z]).length (ints (xs ++ [z])) → w.grownBy w' v.ownBlock → (v.ownBlock = some g ∨ g = w.heap.size) → g < w'.heap.size →
      K (a.put o.dst (.slice (some ⟨g, 0, none⟩) (xs.length + 1) cap)) w') :
    if Region.wanted o (yielded ops a.tmps) = true then Oper.wp Try.prog o a w K Q else E := by
  obtain ⟨i0, hi, hz0, hz1, hz2⟩ := info_parts info_int_Try
  refine step_append_lies w hgd s x 30 ho base 3 i0 (.int .i64 0) 1 8 Try.underlying30 hi hz0 hz1 hz2 rfl (by omega) v xs.length (ints xs) hs hown ⟨b, 0, none⟩ 1 1 [.int .i64 z] hx rfl
    (World.news_of_block hb) (ints_one [z]) (by omega) (by unfold maxLen; omega) (by omega) hbase w.heap.size rfl fun g cap w' h2 h3 h4 h5 => h g cap w' ?_ h3 h4 h5
  rw [List.length_append]
  simpa [ints] using h2
theorem wpList_app1_Try {ops : Array Oper} {rest : List Oper} {o : Oper} {a : Act} {Q : Exit → Act → World → Prop} {w : World} (hgd : o.guard = none) (s x : Operand)
    (ho : o.op = .call { callee := .builtin .append, args := #[s, x], argTypes := #[30, 30] })
    (base : Nat) (v : Value) (xs : List Int) (hs : a.eval s = v) (hown : w.ownsRow base 3 1 v xs.length (ints xs)) (b : Nat) (z : Int) (hx : a.eval x = .slice (some ⟨b, 0, none⟩) 1 1)
    (hb : w.heap[b]? = some (.cells #[.int .i64 z] 3 (0, 0))) (hn : xs.length ≤ 1000000000) (hbase : base ≤ w.heap.size)
    (h : ∀ g cap w', w'.ownsRow base 3 1 (.slice (some ⟨g, 0, none⟩) (xs.length + 1) cap) (xs ++ [z]).length (ints (xs ++ [z])) → w.grownBy w' v.ownBlock → (v.ownBlock = some g ∨ g = w.heap.size) → g < w'.heap.size →
      wpList Try.prog ops Q rest (a.put o.dst (.slice (some ⟨g, 0, none⟩) (xs.length + 1) cap)) w') : wpList Try.prog ops Q (o :: rest) a w := by
  obtain ⟨i0, hi, hz0, hz1, hz2⟩ := info_parts info_int_Try
  refine wpList_append_lies w hgd s x 30 ho base 3 i0 (.int .i64 0) 1 8 Try.underlying30 hi hz0 hz1 hz2 rfl (by omega) v xs.length (ints xs) hs hown ⟨b, 0, none⟩ 1 1 [.int .i64 z] hx rfl
    (World.news_of_block hb) (ints_one [z]) (by omega) (by unfold maxLen; omega) (by omega) hbase w.heap.size rfl fun g cap w' h2 h3 h4 h5 => h g cap w' ?_ h3 h4 h5
  rw [List.length_append]
  simpa [ints] using h2

set_option maxRecDepth 100000 in
set_option maxHeartbeats 2000000 in
theorem trow_ (ba : Nat) (pp : Int) (A : Option Addr) (c : Nat) (ws : List GW) (w : World) (hok : OkS pp ws) (ha : RdW w A ws)
    (a1 : w.cell? ⟨ba, 1, none⟩ = some (.slice A ws.length c)) :
    Calls Try.prog 51 #[.pointer (some ⟨ba, 0, none⟩)] w fun e w' => e = .returned (.pointer (some ⟨w.heap.size, 0, none⟩)) ∧ Rws w' w.heap.size 102 3 24 (rowK ws ws.length) ∧ Below w.heap.size w w' := by
  have hbl := World.block_lt_of_cell? w _ a1
  obtain ⟨_, _, hlen, hall⟩ := hok.all
  have HALL := Lib.hid hall; clear hall
  have HA := Lib.hid ha; clear ha
  go_enter Try.func51, Try.ntmps51
  go_wp2
  go_loopw [13] (fun i wr => ∃ k : Nat, i = .int .i64 k ∧ k ≤ ws.length ∧ Rws wr w.heap.size 102 3 24 (rowK ws k) ∧ Below w.heap.size w wr) (fun i _ => ws.length - (intOf i).toNat)
  case atStart => exact ⟨0, rfl, Nat.zero_le _, Rws.made w (Array.replicate 24 (.slice none 0 0)) (by simp) (fun p hp => by simp), (Below.refl _ _).alloc (Nat.le_refl _) _⟩
  case round =>
    obtain ⟨k, rfl, hk, hrows, hbw⟩ := hrel
    by_cases hlt : k < ws.length
    · obtain ⟨b, off, rfl, hbA, h1, h2, h3⟩ := (HA.out.later hbw (Nat.le_refl _)).at_ hlt
      obtain ⟨_, hx1, hx2, _⟩ := HALL.out ws[k] (List.getElem_mem hlt)
      obtain ⟨P, hP⟩ := Int.eq_ofNat_of_zero_le hx1
      have HP := Lib.hid hP
      rw [hP] at h2
      have hP22 : P ≤ 22 := by omega
      clear hP hx1 hx2
      have hRlt := hrows.lt
      have hrl := rowK_len ws k P
      have hrl' := rowK_len ws k (P + 1)
      have hP0 : (0 : Int) ≤ (P : Int) := by omega
      have hP24 : (P : Int) < 24 := by omega
      obtain ⟨v, hvc, hvf, hvo⟩ := hrows.at_ (p := P) (by omega)
      have HN1 : Hid (some wr.heap.size ≠ v.ownBlock) := fun h => by have := (hvo.lt _ h.symm).2; omega
      have HN2 : Hid (some w.heap.size ≠ v.ownBlock) := fun h => by have := (hvo.lt _ h.symm).1; omega
      have HR := Lib.hid hrows; clear hrows
      have HV := Lib.hid hvo; clear hvo
      go_upto_region 5 with fail
      go_cut [] (fun wx => Rws wx w.heap.size 102 3 24 (fun q => if q = P then rowK ws k P ++ [(k : Int)] else rowK ws k q) ∧ Below w.heap.size w wx ∧ wx.heap[wr.heap.size]? = some (.cells #[.int .i64 ws[k].kind, .int .i64 (P : Int), .string ws[k].word] 40 (0, 0)) ∧ wr.heap.size < wx.heap.size)
      case first =>
        go_region_law
          (first | (refine step_app1_Try (by rfl) _ _ (by rfl) (w.heap.size + 1) v (rowK ws k P) (by rfl) (by first | exact ((HV.out.alloc _).alloc _).drew | exact (HV.out.alloc _).alloc _) (wr.heap.size + 1) k (by rfl) (heap_alloc2_new _ _ _) (by omega) (by simp; omega) ?_; intro g cap w1 hown hgrow hat hlt1; have q0 : w1.cell? ⟨wr.heap.size, 1, none⟩ = some (.int .i64 (P : Int)) := (hgrow.cell_far ⟨wr.heap.size, 1, none⟩ (by simp; omega) HN1.out).trans (by go_simp); have q1 : w1.cell? ⟨w.heap.size, P, none⟩ = some v := (hgrow.cell_far ⟨w.heap.size, P, none⟩ (by simp; omega) HN2.out).trans (by go_simp); have q2 : w1.frozen? ⟨w.heap.size, P, none⟩ = false := (hgrow.frozen_far ⟨w.heap.size, P, none⟩ (by simp; omega) HN2.out).trans (by go_simp)))
        all_goals
          go_wp2_with fail
          go_meet
          have e1 := ((HR.out.alloc (.cells #[.int .i64 ws[k].kind, .int .i64 (P : Int), .string ws[k].word] 40)).alloc (.cells #[.int .i64 (k : Int)] 3)).drew
          have e2 : v.ownBlock = some g ∨ g = _ := hat
          refine ⟨e1.grow (by omega) (by go_simp) hown rfl hgrow hat, (((hbw.alloc hbw.size _).alloc (by simp; omega) _).drew.grown hgrow (by simp; omega) (fun j hj => by have := (HV.out.lt j hj).1; omega)).setCell (Nat.le_refl _) _, ?_, ?_⟩
          · rw [heap_setCell_other _ _ _ _ (by simp; omega), hgrow.block wr.heap.size (by simp; omega) HN1.out]
            exact heap_alloc2_old _ _ _
          · have := hgrow.size; simp at this ⊢; omega
      case rest =>
        obtain ⟨hrx, hbx, hcx, hsx⟩ := hcut
        obtain ⟨v2, hvc2, hvf2, hvo2⟩ := hrx.at_ (p := P + 1) (by omega)
        rw [if_neg (by omega)] at hvo2
        have HM1 : Hid (some wr.heap.size ≠ v2.ownBlock) := own_ne_type hvo2 hcx (by decide)
        have HM2 : Hid (some w.heap.size ≠ v2.ownBlock) := fun h => by have := (hvo2.lt _ h.symm).1; omega
        have HR2 := Lib.hid hrx; clear hrx
        have HV2 := Lib.hid hvo2; clear hvo2
        clear hvc hvf
        have hRlt2 : w.heap.size < wc.heap.size := by omega
        have q4 := cell_of_row wc wr.heap.size 1 _ _ _ hcx
        simp at q4
        have HCX := Lib.hid hcx; clear hcx
        have w1e : IntKind.i64.wrap ((P : Int) + 1) = (P : Int) + 1 := IntWalk.i64_in _ (by omega)
        have w2e : (0 : Int) ≤ (P : Int) + 1 := by omega
        have w3e : (P : Int) + 1 < 24 := by omega
        have w4e : ((P : Int) + 1).toNat = P + 1 := by omega
        go_wp2
        go_region_law
          (first | (refine step_app1_Try (by rfl) _ _ (by rfl) (w.heap.size + 1) v2 (rowK ws k (P + 1)) (by rfl) (by first | exact (HV2.out.alloc _).drew | exact HV2.out.alloc _) wc.heap.size k (by rfl) (heap_alloc_new _ _) (by omega) (by simp; omega) ?_; intro g cap w2 hown hgrow hat hlt1; have q0 : w2.cell? ⟨wr.heap.size, 1, none⟩ = some (.int .i64 (P : Int)) := (hgrow.cell_far ⟨wr.heap.size, 1, none⟩ (by simp; omega) HM1.out).trans (by go_simp); have q1 : w2.cell? ⟨w.heap.size, P + 1, none⟩ = some v2 := (hgrow.cell_far ⟨w.heap.size, P + 1, none⟩ (by simp; omega) HM2.out).trans (by go_simp); have q2 : w2.frozen? ⟨w.heap.size, P + 1, none⟩ = false := (hgrow.frozen_far ⟨w.heap.size, P + 1, none⟩ (by simp; omega) HM2.out).trans (by go_simp)))
        clear w1e w2e w3e w4e
        all_goals
          go_wp2
          go_roundw
          case rel =>
            have e1 := (HR2.out.alloc (.cells #[.int .i64 (k : Int)] 3)).drew
            refine ⟨k + 1, by go_num, by omega, (e1.grow (p := P + 1) (by omega) (by go_simp) hown rfl hgrow hat).congr fun q _ => ?_, ?_⟩
            · rw [rowK_succ ws k q hlt]
              unfold takesB
              rw [HP.out]
              by_cases hq1 : q = P + 1
              · subst hq1; rw [if_pos rfl, if_pos (by simp)]
              · rw [if_neg hq1]
                by_cases hq2 : q = P
                · subst hq2; rw [if_pos rfl, if_pos (by simp)]
                · rw [if_neg hq2, if_neg (by simp; omega), List.append_nil]
            · exact (((hbx.alloc hbx.size _).drew.grown hgrow (by simp; omega) (fun j hj => by have := (HV2.out.lt j hj).1; omega)).setCell (Nat.le_refl _) _)
          case measure => simp [intOf]; omega
    · go_wp2
      go_ret
      obtain rfl : k = ws.length := by omega
      exact ⟨rfl, hrows, hbw⟩
end Go.Proofs.Ytifpkdajfdlgeaa
