/- Texts of this claim, laid together: Leaf, Check, CheckS. -/
import Derived.Test.YtlpfecjkkgccgaaDoorMaA
import Derived.Lib.Bytealg
import Derived.Test.YtlpfecjkkgccgaaDoorRows
/- Contracts of the checks of words and sheets, and of Touch, SameInts. -/
namespace Go.Proofs.YtlpfecjkkgccgaaDoor
open Go.RowKit

set_option maxHeartbeats 400000 in
theorem touch_ (k1 a1 k2 a2 : Int) (s1 s2 : ByteArray) (w : World) (h1 : -1000 ≤ a1) (h1' : a1 ≤ 1000) (h2 : -1000 ≤ a2) (h2' : a2 ≤ 1000) :
    Calls Tryd.prog 57 #[.agg #[.int .i64 k1, .int .i64 a1, .string s1], .agg #[.int .i64 k2, .int .i64 a2, .string s2]] w fun e w' => e = .returned (.bool (touchB a1 a2)) ∧ Below w.heap.size w w' := by
  by_cases hc : a1 - a2 ≤ 1
  · go_enter Tryd.func57, Tryd.ntmps57
    go_wp2
    go_ret
    exact ⟨ret_bool (by unfold touchB; by_cases h : a2 - a1 ≤ 1 <;> simp [h] <;> omega), ((Below.refl _ _).alloc (Nat.le_refl _) _).alloc (by simp) _⟩
  · go_enter Tryd.func57, Tryd.ntmps57
    go_wp2
    go_ret
    exact ⟨ret_bool (by unfold touchB; simp; omega), ((Below.refl _ _).alloc (Nat.le_refl _) _).alloc (by simp) _⟩

set_option maxHeartbeats 400000 in
theorem sameInts_ (A B : Option Addr) (c d : Nat) (xs ys : List Int) (w : World) (ha : RdI w A xs) (hb : RdI w B ys) :
    Calls Tryd.prog 15 #[.slice A xs.length c, .slice B ys.length d] w fun e w' => e = .returned (.bool (decide (xs = ys))) ∧ Below w.heap.size w w' := by
  have hla := ha.1
  have hlb := hb.1
  by_cases hl : xs.length = ys.length
  · have h0 : ((xs.length : Int) != (ys.length : Int)) = false := by simp [hl]
    have HL := Lib.hid hl; clear hl
    have HA := Lib.hid ha; clear ha
    have HB := Lib.hid hb; clear hb
    go_enter Tryd.func15, Tryd.ntmps15
    go_wp2
    go_loopw [5] (fun i wr => ∃ k n : Nat, i = .int .i64 k ∧ k ≤ xs.length ∧ wr = w.drewN n ∧ (∀ j, j < k → xs[j]? = ys[j]?)) (fun i _ => xs.length - (intOf i).toNat)
    case atStart => exact ⟨0, 0, rfl, Nat.zero_le _, rfl, fun j h => absurd h (by omega)⟩
    case round =>
      obtain ⟨k, n, rfl, hk, rfl, heq⟩ := hrel
      have HE := Lib.hid heq; clear heq
      by_cases hlt : k < xs.length
      · have hlt' : k < ys.length := by rw [← HL.out]; exact hlt
        obtain ⟨ba, oa, rfl, hba, hca⟩ := HA.out.at_ hlt
        obtain ⟨bb, ob, rfl, hbb, hcb⟩ := HB.out.at_ hlt'
        by_cases hx : xs[k] = ys[k]
        · have hxb : (xs[k] != ys[k]) = false := by simp [hx]
          have HX := Lib.hid hx; clear hx
          go_wp2
          go_quiet (fail)
          go_wp2
          go_roundw
          case rel =>
            refine ⟨k + 1, n + nq, by go_num, by omega, rfl, fun j hj => ?_⟩
            rcases Nat.lt_or_ge j k with h | h
            · exact HE.out j h
            · obtain rfl : j = k := by omega
              rw [List.getElem?_eq_getElem hlt, List.getElem?_eq_getElem hlt', HX.out]
          case measure => simp [intOf]; omega
        · have hxb : (xs[k] != ys[k]) = true := by simp [hx]
          have HX := Lib.hid hx; clear hx
          go_wp2
          go_quiet (fail)
          go_wp2
          go_ret
          refine ⟨ret_bool ?_, below_drewN (below_drewN (Below.refl _ _) _) _⟩
          symm
          simp only [decide_eq_false_iff_not]
          rintro rfl
          exact HX.out rfl
      · go_wp2
        go_ret
        refine ⟨ret_bool ?_, below_drewN (Below.refl _ _) _⟩
        symm
        simp only [decide_eq_true_eq]
        refine List.ext_getElem? fun j => ?_
        rcases Nat.lt_or_ge j k with h | h
        · exact HE.out j h
        · have := HL.out
          rw [List.getElem?_eq_none (by omega), List.getElem?_eq_none (by omega)]
  · have h0 : ((xs.length : Int) != (ys.length : Int)) = true := by simp; omega
    go_enter Tryd.func15, Tryd.ntmps15
    go_wp2
    go_ret
    exact ⟨ret_bool (by simp; rintro rfl; exact hl rfl), Below.refl _ _⟩


theorem idx_hit (l : List UInt8) (c : UInt8) (k : Nat) (hk : k < l.length) (h : l[k] = c) (hne : ∀ j (h : j < l.length), j < k → l[j] ≠ c) : Lib.indexByte l c = k := by
  induction l generalizing k with
  | nil => simp at hk
  | cons b l ih =>
    unfold Lib.indexByte
    cases k with
    | zero => simp at h; simp [h]
    | succ k =>
      have hb : b ≠ c := by have := hne 0 (by simp) (by omega); simpa using this
      have := ih k (by simpa using hk) (by simpa using h) (fun j h1 h2 => by have := hne (j + 1) (by simpa using h1) (by omega); simpa using this)
      rw [if_neg (by simpa using hb), this, if_neg (by simp)]
      rfl
theorem idx_miss (l : List UInt8) (c : UInt8) (hne : ∀ j (h : j < l.length), l[j] ≠ c) : Lib.indexByte l c = -1 := by
  induction l with
  | nil => rfl
  | cons b l ih =>
    unfold Lib.indexByte
    have hb : b ≠ c := by have := hne 0 (by simp); simpa using this
    rw [if_neg (by simpa using hb), ih (fun j h1 => by have := hne (j + 1) (by simpa using h1); simpa using this)]
    rfl
theorem idx_neg (l : List UInt8) (c : UInt8) : decide (Lib.indexByte l c < 0) = !l.contains c := by
  induction l with
  | nil => rfl
  | cons b l ih =>
    unfold Lib.indexByte
    rw [List.contains_cons]
    have hge := Lib.indexByte_ge l c
    by_cases hb : b = c
    · subst hb; simp
    · have e1 : (b == c) = false := by simp [hb]
      have e2 : (c == b) = false := by simp; exact fun h => hb h.symm
      rw [e2, Bool.false_or, ← ih, e1]
      by_cases hn : Lib.indexByte l c = -1
      · simp [hn]
      · have e3 : (Lib.indexByte l c == -1) = false := by simp [hn]
        rw [e3]
        simp only [Bool.false_eq_true, if_false, decide_eq_decide]
        omega
theorem idx_letter (c : UInt8) : decide (Lib.indexByte [67, 84, 76, 82, 80, 99, 116, 108, 114] c < 0) = !letterB c := idx_neg _ _

set_option maxHeartbeats 400000 in
theorem rindex_ (s : ByteArray) (c : UInt8) (w : World) (hs : s.size ≤ 9223372036854775807) :
    Calls Tryd.prog 67 #[.string s, .int .u8 (c.toNat : Int)] w fun e w' => e = .returned (.int .i64 (Lib.indexByte s.data.toList c)) ∧ w = w' := by
  go_enter Tryd.func67, Tryd.ntmps67
  go_wp2
  go_loop [5] (fun i => ∃ k : Nat, i = .int .i64 k ∧ k ≤ s.size ∧ (∀ j (h : j < s.size), j < k → s[j] ≠ c)) (fun i => s.size - (intOf i).toNat)
  case atStart => exact ⟨0, rfl, Nat.zero_le _, fun j h h0 => absurd h0 (by omega)⟩
  case round =>
    obtain ⟨k, rfl, hk, hne⟩ := hrel
    have HE := Lib.hid hne; clear hne
    by_cases hlt : k < s.size
    · by_cases hx : s[k] = c
      · have hxb : ((s[k].toNat : Int) == (c.toNat : Int)) = true := by simp [hx]
        have HX := Lib.hid hx; clear hx
        go_wp2
        go_ret
        refine ⟨ret_int (idx_hit s.data.toList c k (by simpa using hlt) HX.out fun j h1 h2 => HE.out j (by simpa using h1) h2).symm, rfl⟩
      · have hxb : ((s[k].toNat : Int) == (c.toNat : Int)) = false := by simp; intro h; exact hx (UInt8.toNat_inj.1 (by omega))
        have HX := Lib.hid hx; clear hx
        go_wp2
        go_round
        case rel =>
          refine ⟨k + 1, by go_num, by omega, fun j h1 h2 => ?_⟩
          rcases Nat.lt_or_ge j k with h | h
          · exact HE.out j h1 h
          · obtain rfl : j = k := by omega
            exact HX.out
        case measure => simp [intOf]; omega
    · go_wp2
      go_ret
      refine ⟨ret_int (idx_miss s.data.toList c fun j h1 => HE.out j (by simpa using h1) (by simp at h1; omega)).symm, rfl⟩

theorem baIndexByte_run (s : ByteArray) (c : UInt8) (w : World) : (callFunc 75 #[.string s, .int .u8 (c.toNat : Int)]).run Tryd.prog w = .ok (.value (.int .i64 (Lib.indexByte s.data.toList c))) w := by
  rw [run_callFunc_extern (e := Extern.BytealgIndexByte.indexByte) Tryd.func75 (by kernel_rfl) (by kernel_rfl) (by kernel_rfl) (by kernel_rfl), Lib.run_indexByteString]
  simp [Result.andThen]

set_option maxHeartbeats 400000 in
theorem sIndexByte_ (s : ByteArray) (c : UInt8) (w : World) :
    Calls Tryd.prog 71 #[.string s, .int .u8 (c.toNat : Int)] w fun e w' => e = .returned (.int .i64 (Lib.indexByte s.data.toList c)) ∧ w = w' := by
  have hx := baIndexByte_run s c w
  go_enter Tryd.func71, Tryd.ntmps71
  go_wp2
  go_ret
  exact ⟨rfl, rfl⟩

theorem form_take (s : ByteArray) (k : Nat) (hk : k < s.size) : (s.data.toList.take (k + 1)).any (fun c => !letterB c) = ((s.data.toList.take k).any (fun c => !letterB c) || !letterB s[k]) :=
  any_take_succ s.data.toList _ k (by simpa using hk)

set_option maxHeartbeats 400000 in
theorem rwCheck_ (s : ByteArray) (w : World) (hs : s.size ≤ 9223372036854775807) :
    Calls Tryd.prog 56 #[.string s] w fun e w' => e = .returned (.int .i64 (errWord s)) ∧ w = w' := by
  by_cases hl : 16 < s.size
  · go_enter Tryd.func56, Tryd.ntmps56
    go_wp2
    go_ret
    exact ⟨ret_int (by unfold errWord; rw [if_pos hl]), rfl⟩
  · go_enter Tryd.func56, Tryd.ntmps56
    go_wp2
    go_loop [3] (fun i => ∃ k : Nat, i = .int .i64 k ∧ k ≤ s.size ∧ (s.data.toList.take k).any (fun c => !letterB c) = false) (fun i => s.size - (intOf i).toNat)
    case atStart => exact ⟨0, rfl, Nat.zero_le _, rfl⟩
    case round =>
      obtain ⟨k, rfl, hk, hne⟩ := hrel
      have HE := Lib.hid hne; clear hne
      by_cases hlt : k < s.size
      · have hft := form_take s k hlt
        have HF := Lib.hid hft; clear hft
        have hlet := idx_letter s[k]
        by_cases hx : letterB s[k] = true
        · have hneg : decide (Lib.indexByte [67, 84, 76, 82, 80, 99, 116, 108, 114] s[k] < 0) = false := by rw [hlet, hx]; rfl
          have HX := Lib.hid hx; clear hx hlet
          go_wp2_with (go_at_call 67; refine (rindex_ _ _ _ (by decide)).mono ?_; rintro e w' ⟨rfl, rfl⟩)
          go_round
          case rel => exact ⟨k + 1, by go_num, by omega, by rw [HF.out, HE.out, HX.out]; rfl⟩
          case measure => simp [intOf]; omega
        · have hneg : decide (Lib.indexByte [67, 84, 76, 82, 80, 99, 116, 108, 114] s[k] < 0) = true := by rw [hlet]; simpa using hx
          have HX := Lib.hid hx; clear hx hlet
          go_wp2_with (go_at_call 67; refine (rindex_ _ _ _ (by decide)).mono ?_; rintro e w' ⟨rfl, rfl⟩)
          go_ret
          exact ⟨ret_int (by unfold errWord formW; rw [if_neg hl, if_pos (any_hit (k := k) (by simpa using hlt) (by show (!letterB (s[k]'hlt)) = true; simpa using HX.out))]), rfl⟩
      · go_wp2
        go_ret
        exact ⟨ret_int (by unfold errWord formW; rw [if_neg hl, if_neg (by rw [any_end (k := k) (by simpa using hlt) HE.out]; decide)]), rfl⟩

set_option maxHeartbeats 400000 in
theorem wCheck_ (s : ByteArray) (w : World) (hs : s.size ≤ 9223372036854775807) :
    Calls Tryd.prog 64 #[.string s] w fun e w' => e = .returned (.int .i64 (errWord s)) ∧ w = w' := by
  by_cases hl : 16 < s.size
  · go_enter Tryd.func64, Tryd.ntmps64
    go_wp2
    go_ret
    exact ⟨ret_int (by unfold errWord; rw [if_pos hl]), rfl⟩
  · go_enter Tryd.func64, Tryd.ntmps64
    go_wp2
    go_loop [9] (fun i => ∃ k : Nat, i = .int .i64 k ∧ k ≤ s.size ∧ (s.data.toList.take k).any (fun c => !letterB c) = false) (fun i => s.size - (intOf i).toNat)
    case atStart => exact ⟨0, rfl, Nat.zero_le _, rfl⟩
    case round =>
      obtain ⟨k, rfl, hk, hne⟩ := hrel
      have HE := Lib.hid hne; clear hne
      by_cases hlt : k < s.size
      · have hft := form_take s k hlt
        have HF := Lib.hid hft; clear hft
        have hlet := idx_letter s[k]
        by_cases hx : letterB s[k] = true
        · have hneg : decide (Lib.indexByte [67, 84, 76, 82, 80, 99, 116, 108, 114] s[k] < 0) = false := by rw [hlet, hx]; rfl
          have HX := Lib.hid hx; clear hx hlet
          go_wp2_with (go_at_call 71; refine (sIndexByte_ _ _ _).mono ?_; rintro e w' ⟨rfl, rfl⟩)
          go_round
          case rel => exact ⟨k + 1, by go_num, by omega, by rw [HF.out, HE.out, HX.out]; rfl⟩
          case measure => simp [intOf]; omega
        · have hneg : decide (Lib.indexByte [67, 84, 76, 82, 80, 99, 116, 108, 114] s[k] < 0) = true := by rw [hlet]; simpa using hx
          have HX := Lib.hid hx; clear hx hlet
          go_wp2_with (go_at_call 71; refine (sIndexByte_ _ _ _).mono ?_; rintro e w' ⟨rfl, rfl⟩)
          go_ret
          exact ⟨ret_int (by unfold errWord formW; rw [if_neg hl, if_pos (any_hit (k := k) (by simpa using hlt) (by show (!letterB (s[k]'hlt)) = true; simpa using HX.out))]), rfl⟩
      · go_wp2
        go_ret
        exact ⟨ret_int (by unfold errWord formW; rw [if_neg hl, if_neg (by rw [any_end (k := k) (by simpa using hlt) HE.out]; decide)]), rfl⟩
end Go.Proofs.YtlpfecjkkgccgaaDoor
/- Both checks of a sheet return errSheet. -/
namespace Go.Proofs.YtlpfecjkkgccgaaDoor
open Go.RowKit

set_option maxHeartbeats 1000000 in
theorem rCheck_ (p : Int) (A : Option Addr) (c : Nat) (ws : List GW) (w : World) (hp : -9223372036854775808 ≤ p) (hp' : p ≤ 9223372036854775807) (ha : RdW w A ws) :
    Calls Tryd.prog 44 #[.agg #[.int .i64 p, .slice A ws.length c]] w fun e w' => e = .returned (.int .i64 (errSheet p ws)) ∧ Below w.heap.size w w' := by
  have hla := ha.1
  have HA := Lib.hid ha; clear ha
  by_cases hp1 : 24 < p
  · go_enter Tryd.func44, Tryd.ntmps44
    go_wp2
    go_ret
    exact ⟨ret_int (by unfold errSheet; rw [if_pos (.inl hp1)]), (Below.refl _ _).alloc (Nat.le_refl _) _⟩
  by_cases hl1 : 400 < ws.length
  · go_enter Tryd.func44, Tryd.ntmps44
    go_wp2
    go_ret
    exact ⟨ret_int (by unfold errSheet; rw [if_pos (.inr (.inl hl1))]), (Below.refl _ _).alloc (Nat.le_refl _) _⟩
  go_enter Tryd.func44, Tryd.ntmps44
  go_wp2
  go_loop [3] (fun i => ∃ k : Nat, i = .int .i64 k ∧ k ≤ ws.length ∧ (ws.take k).any longW = false) (fun i => ws.length - (intOf i).toNat)
  case atStart => exact ⟨0, rfl, Nat.zero_le _, rfl⟩
  case round =>
    obtain ⟨k, rfl, hk, hne⟩ := hrel
    have HE := Lib.hid hne; clear hne
    by_cases hlt : k < ws.length
    · obtain ⟨b, off, rfl, hbA, h1, h2, h3⟩ := HA.out.at_ hlt
      have hc := (HA.out.2.1 _ (List.getElem_mem hlt)).2.2
      have ht := any_take_succ ws longW k hlt
      have HT := Lib.hid ht; clear ht
      by_cases hx : 16 < ws[k].word.size
      · go_wp2
        go_ret
        refine ⟨ret_int ?_, (Below.refl _ _).alloc (Nat.le_refl _) _⟩
        unfold errSheet; rw [if_pos (.inr (.inr (any_hit hlt (by simp [longW, hx]))))]
      · go_wp2
        go_round
        case rel => exact ⟨k + 1, by go_num, by omega, by rw [HT.out, HE.out]; simp [longW]; omega⟩
        case measure => simp [intOf]; omega
    · have hl3 : ws.any longW = false := any_end hlt HE.out
      have HL3 := Lib.hid hl3; clear hl3
      have hend : errSheet p ws = if p < 2 then 2 else if ws.any (badW p) = true then 2 else if ws.any (fun x => formW x.word) = true then 6 else 0 := by
        unfold errSheet; rw [if_neg (by rw [HL3.out]; simp; omega)]
      have HEND := Lib.hid hend; clear hend
      by_cases hp2 : p < 2
      · go_wp2
        go_ret
        exact ⟨ret_int (by rw [HEND.out, if_pos hp2]), (Below.refl _ _).alloc (Nat.le_refl _) _⟩
      · go_wp2
        go_loopw [4] (fun i wr => ∃ k : Nat, i = .int .i64 k ∧ k ≤ ws.length ∧ (ws.take k).any (badW p) = false ∧ Below (w.heap.size + 1) (w.alloc (.cells #[.int .i64 p, .slice A ws.length c] 24)) wr) (fun i _ => ws.length - (intOf i).toNat)
        case atStart => exact ⟨0, rfl, Nat.zero_le _, rfl, Below.refl _ _⟩
        case round =>
          clear hk HE hlt
          obtain ⟨k, rfl, hk, hne, hbw⟩ := hrel
          have HE := Lib.hid hne; clear hne
          have c0 := box_cell hbw 0
          have c1 := box_cell hbw 1
          have hsz : w.heap.size < wr.heap.size := by have := hbw.size; simp at this; omega
          simp at c0 c1
          by_cases hlt : k < ws.length
          · obtain ⟨b, off, rfl, hbA, h1, h2, h3⟩ := (HA.out.later (below_of_box hbw) (Nat.le_refl _)).at_ hlt
            have hc := (HA.out.2.1 _ (List.getElem_mem hlt)).2.2
            have ht := any_take_succ ws (badW p) k hlt
            have HT := Lib.hid ht; clear ht
            go_wp2
            all_goals first
              | (go_roundw
                 case rel =>
                   refine ⟨k + 1, by go_num, by omega, ?_, hbw.alloc (by omega) _⟩
                   rw [HT.out, HE.out, Bool.false_or]; unfold badW; rw [decide_eq_false_iff_not]
                   rintro (h | h | h | ⟨h, h'⟩) <;> first | omega | simp_all
                 case measure => simp [intOf]; omega)
              | (go_ret
                 refine ⟨ret_int ?_, below_of_box (hbw.alloc (by omega) _)⟩
                 rw [HEND.out, if_neg (by omega), if_pos (any_hit hlt ?_)]
                 unfold badW; rw [decide_eq_true_eq]
                 first
                   | exact .inr (.inl (by omega))
                   | exact .inr (.inr (.inl (by omega)))
                   | exact .inl (by omega)
                   | (refine .inr (.inr (.inr ⟨by omega, ?_⟩))
                      rcases ‹(_ ∨ _) ∨ _› with (h | h) | h
                      · omega
                      · omega
                      · exact h))
          · have hl4 : ws.any (badW p) = false := any_end hlt HE.out
            have HEND2 : Hid (errSheet p ws = if ws.any (fun x => formW x.word) = true then 6 else 0) := by
              have := HEND.out; rw [if_neg (by omega), if_neg (by rw [hl4]; decide)] at this; exact this
            clear hl4
            go_wp2
            go_loopw [6] (fun i wx => ∃ k : Nat, i = .int .i64 k ∧ k ≤ ws.length ∧ (ws.take k).any (fun x => formW x.word) = false ∧ wx = wr) (fun i _ => ws.length - (intOf i).toNat)
            case atStart => exact ⟨0, rfl, Nat.zero_le _, rfl, rfl⟩
            case round =>
              clear hk HE hlt
              obtain ⟨k, rfl, hk, hne, rfl⟩ := hrel
              have HE := Lib.hid hne; clear hne
              by_cases hlt : k < ws.length
              · obtain ⟨b, off, rfl, hbA, h1, h2, h3⟩ := (HA.out.later (below_of_box hbw) (Nat.le_refl _)).at_ hlt
                have hc := (HA.out.2.1 _ (List.getElem_mem hlt)).2.2
                have ht := any_take_succ ws (fun x => formW x.word) k hlt
                have HT := Lib.hid ht; clear ht
                have hlong : ¬ 16 < ws[k].word.size := by
                  have := List.any_eq_false.1 HL3.out _ (List.getElem_mem hlt)
                  simpa [longW] using this
                by_cases hx : formW ws[k].word = true
                · have he : (errWord ws[k].word != 0) = true := by unfold errWord; rw [if_neg hlong, if_pos hx]; rfl
                  have HX := Lib.hid hx; clear hx hlong
                  go_wp2_with (go_at_call 56; refine (rwCheck_ _ _ hc).mono ?_; rintro e w' ⟨rfl, rfl⟩)
                  go_ret
                  refine ⟨ret_int ?_, below_of_box hbw⟩
                  rw [HEND2.out, if_pos (any_hit hlt HX.out)]
                · have he : (errWord ws[k].word != 0) = false := by unfold errWord; rw [if_neg hlong, if_neg hx]; rfl
                  have HX := Lib.hid hx; clear hx hlong
                  go_wp2_with (go_at_call 56; refine (rwCheck_ _ _ hc).mono ?_; rintro e w' ⟨rfl, rfl⟩)
                  go_roundw
                  case rel => exact ⟨k + 1, by go_num, by omega, by rw [HT.out, HE.out, Bool.false_or]; simpa using HX.out, trivial⟩
                  case measure => simp [intOf]; omega
              · go_wp2
                go_ret
                refine ⟨ret_int ?_, below_of_box hbw⟩
                rw [HEND2.out, if_neg (by rw [any_end hlt HE.out]; decide)]
end Go.Proofs.YtlpfecjkkgccgaaDoor
/- The program's own check of a sheet returns errSheet. -/
namespace Go.Proofs.YtlpfecjkkgccgaaDoor
open Go.RowKit

set_option maxHeartbeats 400000 in
theorem sCheck1_ (x : GW) (w : World) (hx : x.word.size ≤ 9223372036854775807) :
    Calls Tryd.prog 63 #[x.val] w fun e w' => e = .returned (.bool (longW x)) ∧ Below w.heap.size w w' := by
  unfold GW.val
  go_enter Tryd.func63, Tryd.ntmps63
  go_wp2
  go_ret
  exact ⟨ret_bool (by unfold longW; rw [decide_eq_decide]; omega), (Below.refl _ _).alloc (Nat.le_refl _) _⟩

def idxLong (ws : List GW) : Int := if ws.any longW = true then (ws.findIdx longW : Nat) else -1

set_option maxHeartbeats 400000 in
theorem indW_ (A : Option Addr) (c : Nat) (ws : List GW) (w : World) (ha : RdW w A ws) :
    Calls Tryd.prog 70 #[.slice A ws.length c, .func (.func 63) #[] #[]] w fun e w' => e = .returned (.int .i64 (idxLong ws)) ∧ Below w.heap.size w w' := by
  have hla := ha.1
  have HA := Lib.hid ha; clear ha
  go_enter Tryd.func70, Tryd.ntmps70
  go_wp2
  go_loopw [8] (fun i wr => ∃ k : Nat, i = .int .i64 k ∧ k ≤ ws.length ∧ (ws.take k).any longW = false ∧ Below w.heap.size w wr) (fun i _ => ws.length - (intOf i).toNat)
  case atStart => exact ⟨0, rfl, Nat.zero_le _, rfl, Below.refl _ _⟩
  case round =>
    obtain ⟨k, rfl, hk, hne, hbw⟩ := hrel
    have HE := Lib.hid hne; clear hne
    by_cases hlt : k < ws.length
    · obtain ⟨b, off, rfl, hbA, h1, h2, h3⟩ := (HA.out.later hbw (Nat.le_refl _)).at_ hlt
      have hc := (HA.out.2.1 _ (List.getElem_mem hlt)).2.2
      have ht := any_take_succ ws longW k hlt
      have HT := Lib.hid ht; clear ht
      by_cases hx : longW ws[k] = true
      · go_wp2_with (go_at_call 63; refine (sCheck1_ ws[k] _ hc).mono ?_; rintro e w' ⟨rfl, hb1⟩)
        go_ret
        refine ⟨ret_int ?_, hbw.trans (hb1.mono hbw.size)⟩
        unfold idxLong; rw [if_pos (any_hit hlt hx)]
        have hk : ws.findIdx longW = k := (List.findIdx_eq hlt).2 ⟨hx, fun j hj => ?_⟩
        · rw [hk]
        have := List.any_eq_false.1 HE.out ws[j] (List.mem_take_iff_getElem.2 ⟨j, by omega, rfl⟩)
        simpa using this
      · go_wp2_with (go_at_call 63; refine (sCheck1_ ws[k] _ hc).mono ?_; rintro e w' ⟨rfl, hb1⟩)
        go_roundw
        case rel => exact ⟨k + 1, by go_num, by omega, by rw [HT.out, HE.out, Bool.false_or]; simpa using hx, hbw.trans (hb1.mono hbw.size)⟩
        case measure => simp [intOf]; omega
    · go_wp2
      go_ret
      exact ⟨ret_int (by unfold idxLong; rw [if_neg (by rw [any_end hlt HE.out]; decide)]), hbw⟩

set_option maxHeartbeats 400000 in
theorem contW_ (A : Option Addr) (c : Nat) (ws : List GW) (w : World) (ha : RdW w A ws) :
    Calls Tryd.prog 62 #[.slice A ws.length c, .func (.func 63) #[] #[]] w fun e w' => e = .returned (.bool (ws.any longW)) ∧ Below w.heap.size w w' := by
  go_enter Tryd.func62, Tryd.ntmps62
  go_wp2_with (go_at_call 70; refine (indW_ _ _ _ _ ha).mono ?_; rintro e w' ⟨rfl, hb1⟩)
  go_ret
  refine ⟨ret_bool ?_, hb1⟩
  unfold idxLong
  cases ws.any longW <;> simp

set_option maxHeartbeats 1000000 in
theorem sCheck_ (p : Int) (A : Option Addr) (c : Nat) (ws : List GW) (w : World) (hp : -9223372036854775808 ≤ p) (hp' : p ≤ 9223372036854775807) (ha : RdW w A ws) :
    Calls Tryd.prog 53 #[.agg #[.int .i64 p, .slice A ws.length c]] w fun e w' => e = .returned (.int .i64 (errSheet p ws)) ∧ Below w.heap.size w w' := by
  have hla := ha.1
  have HA := Lib.hid ha; clear ha
  by_cases hp1 : 24 < p
  · go_enter Tryd.func53, Tryd.ntmps53
    go_wp2
    go_ret
    exact ⟨ret_int (by unfold errSheet; rw [if_pos (.inl hp1)]), (Below.refl _ _).alloc (Nat.le_refl _) _⟩
  by_cases hl1 : 400 < ws.length
  · go_enter Tryd.func53, Tryd.ntmps53
    go_wp2
    go_ret
    exact ⟨ret_int (by unfold errSheet; rw [if_pos (.inr (.inl hl1))]), (Below.refl _ _).alloc (Nat.le_refl _) _⟩
  by_cases hl3 : ws.any longW = true
  · have HL3 := Lib.hid hl3
    go_enter Tryd.func53, Tryd.ntmps53
    go_wp2_with (go_at_call 62; refine (contW_ _ _ _ _ (HA.out.later ((Below.refl _ _).alloc (Nat.le_refl _) _) (Nat.le_refl _))).mono ?_; rintro e w' ⟨rfl, hb1⟩)
    go_ret
    refine ⟨ret_int ?_, below_of_box (by simpa using hb1)⟩
    unfold errSheet; rw [if_pos (.inr (.inr HL3.out))]
  have hl3 : ws.any longW = false := by simpa using hl3
  have HL3 := Lib.hid hl3
  have hend : errSheet p ws = if p < 2 then 2 else if ws.any (badW p) = true then 2 else if ws.any (fun x => formW x.word) = true then 6 else 0 := by
    unfold errSheet; rw [if_neg (by rw [HL3.out]; simp; omega)]
  have HEND := Lib.hid hend; clear hend
  by_cases hp2 : p < 2
  · go_enter Tryd.func53, Tryd.ntmps53
    go_wp2_with (go_at_call 62; refine (contW_ _ _ _ _ (HA.out.later ((Below.refl _ _).alloc (Nat.le_refl _) _) (Nat.le_refl _))).mono ?_; rintro e w1 ⟨rfl, hb1⟩; simp at hb1; have c0 := box_cell hb1 0; have c1 := box_cell hb1 1; simp at c0 c1)
    go_ret
    exact ⟨ret_int (by rw [HEND.out, if_pos (by omega)]), below_of_box hb1⟩
  · go_enter Tryd.func53, Tryd.ntmps53
    go_wp2_with (go_at_call 62; refine (contW_ _ _ _ _ (HA.out.later ((Below.refl _ _).alloc (Nat.le_refl _) _) (Nat.le_refl _))).mono ?_; rintro e w1 ⟨rfl, hb1⟩; simp at hb1; have c0 := box_cell hb1 0; have c1 := box_cell hb1 1; simp at c0 c1)
    clear hl3
    go_loopw [3, 26] (fun f i wr => ∃ k : Nat, i = .int .i64 k ∧ k ≤ ws.length ∧ (ws.take k).any (badW p) = false ∧ f = .int .i64 (if (ws.take k).any (fun x => formW x.word) = true then 6 else 0) ∧ Below (w.heap.size + 1) (w.alloc (.cells #[.int .i64 p, .slice A ws.length c] 24)) wr) (fun _ i _ => ws.length - (intOf i).toNat)
    case atStart => exact ⟨0, rfl, Nat.zero_le _, rfl, rfl, hb1⟩
    case round =>
      clear c0 c1
      obtain ⟨k, rfl, hk, hne, rfl, hbw⟩ := hrel
      have HE := Lib.hid hne; clear hne
      have c0 := box_cell hbw 0
      have hsz : w.heap.size < wr.heap.size := by have := hbw.size; simp at this; omega
      simp at c0
      generalize hfo : (if (ws.take k).any (fun x => formW x.word) = true then (6 : Int) else 0) = fo
      have HFO := Lib.hid hfo; clear hfo
      have hf0 : 0 ≤ fo ∧ fo ≤ 6 := by rw [← HFO.out]; split <;> omega
      by_cases hlt : k < ws.length
      · obtain ⟨b, off, rfl, hbA, h1, h2, h3⟩ := (HA.out.later (below_of_box hbw) (Nat.le_refl _)).at_ hlt
        have hc := (HA.out.2.1 _ (List.getElem_mem hlt)).2.2
        have ht := any_take_succ ws (badW p) k hlt
        have HT := Lib.hid ht; clear ht
        have hf := any_take_succ ws (fun x => formW x.word) k hlt
        have HF := Lib.hid hf; clear hf
        have hlong : ¬ 16 < ws[k].word.size := by
          have := List.any_eq_false.1 HL3.out _ (List.getElem_mem hlt)
          simpa [longW] using this
        have hew : errWord ws[k].word = if formW ws[k].word = true then 6 else 0 := by unfold errWord; rw [if_neg hlong]
        have HW := Lib.hid hew; clear hew hlong
        go_wp2_with (go_at_call 64; refine (wCheck_ _ _ hc).mono ?_; rintro e w' ⟨rfl, rfl⟩)
        all_goals first
          | (go_roundw
             case rel =>
               refine ⟨k + 1, by go_num, by omega, ?_, ?_, hbw.alloc (by omega) _⟩
               · rw [HT.out, HE.out, Bool.false_or]; unfold badW; rw [decide_eq_false_iff_not]
                 rintro (h | h | h | ⟨h, h'⟩) <;> first | omega | simp_all
               · rw [HF.out, HW.out, ← HFO.out]
                 cases (ws.take k).any (fun x => formW x.word) <;> cases formW ws[k].word <;> rfl
             case measure => simp [intOf]; omega)
          | (go_ret
             refine ⟨ret_int ?_, below_of_box (hbw.alloc (by omega) _)⟩
             rw [HEND.out, if_neg (by omega), if_pos (any_hit hlt ?_)]
             unfold badW; rw [decide_eq_true_eq]
             first
               | exact .inr (.inl (by omega))
               | exact .inr (.inr (.inl (by omega)))
               | exact .inl (by omega)
               | exact .inr (.inr (.inr ⟨by omega, by simpa using ‹¬ ws[k].word.toList = []›⟩)))
      · go_wp2
        go_ret
        refine ⟨ret_int ?_, below_of_box hbw⟩
        rw [HEND.out, if_neg (by omega), if_neg (by rw [any_end hlt HE.out]; decide), ← HFO.out, List.take_of_length_le (by omega)]
end Go.Proofs.YtlpfecjkkgccgaaDoor
