/- Contracts of the checks of words and sheets, and of Touch, SameInts. -/
import Derived.Test.YtepdgffccfcfpaaSpec
import Derived.Test.YtepdgffccfcfpaaRows
import Derived.Lib.Bytealg
namespace Go.Proofs.Ytepdgffccfcfpaa
open Go.RowKit

set_option maxHeartbeats 400000 in
theorem touch_ (k1 a1 k2 a2 : Int) (s1 s2 : ByteArray) (w : World) (h1 : -1000 ≤ a1) (h1' : a1 ≤ 1000) (h2 : -1000 ≤ a2) (h2' : a2 ≤ 1000) :
    Calls Try.prog 30 #[.agg #[.int .i64 k1, .int .i64 a1, .string s1], .agg #[.int .i64 k2, .int .i64 a2, .string s2]] w fun e w' => e = .returned (.bool (touchB a1 a2)) ∧ Below w.heap.size w w' := by
  by_cases hc : a1 - a2 ≤ 1
  · go_enter Try.func30, Try.ntmps30
    go_wp2
    go_ret
    exact ⟨ret_bool (by unfold touchB; by_cases h : a2 - a1 ≤ 1 <;> simp [h] <;> omega), ((Below.refl _ _).alloc (Nat.le_refl _) _).alloc (by simp) _⟩
  · go_enter Try.func30, Try.ntmps30
    go_wp2
    go_ret
    exact ⟨ret_bool (by unfold touchB; simp; omega), ((Below.refl _ _).alloc (Nat.le_refl _) _).alloc (by simp) _⟩

set_option maxHeartbeats 400000 in
theorem sameInts_ (A B : Option Addr) (c d : Nat) (xs ys : List Int) (w : World) (ha : RdI w A xs) (hb : RdI w B ys) :
    Calls Try.prog 21 #[.slice A xs.length c, .slice B ys.length d] w fun e w' => e = .returned (.bool (decide (xs = ys))) ∧ Below w.heap.size w w' := by
  have hla := ha.1
  have hlb := hb.1
  by_cases hl : xs.length = ys.length
  · have h0 : ((xs.length : Int) != (ys.length : Int)) = false := by simp [hl]
    have HL := Lib.hid hl; clear hl
    have HA := Lib.hid ha; clear ha
    have HB := Lib.hid hb; clear hb
    go_enter Try.func21, Try.ntmps21
    go_wp2
    go_loopw [5] (fun i wr => ∃ k n : Nat, i = .int .i64 k ∧ k ≤ xs.length ∧ wr = w.drewN n ∧ (∀ j, j < k → xs[j]? = ys[j]?)) (fun i _ => xs.length - (intOf i).toNat)
    case atStart => exact ⟨0, 0, rfl, Nat.zero_le _, rfl, fun j h => absurd h (by omega)⟩
    case round =>
      obtain ⟨k, n, rfl, hk, rfl, heq⟩ := hrel
      have HE := Lib.hid heq; clear heq
      by_cases hlt : k < xs.length
      · have hlt' : k < ys.length := by rw [← HL.out]; exact hlt
        obtain ⟨ba, oa, rfl, hba, hca⟩ := HA.out.at_ hlt
        obtain ⟨bb, ob, rfl, hbb, hcb⟩ := HB.out.at_ hlt'
        by_cases hx : xs[k] = ys[k]
        · have hxb : (xs[k] != ys[k]) = false := by simp [hx]
          have HX := Lib.hid hx; clear hx
          go_wp2
          go_quiet (fail)
          go_wp2
          go_roundw
          case rel =>
            refine ⟨k + 1, n + nq, by go_num, by omega, rfl, fun j hj => ?_⟩
            rcases Nat.lt_or_ge j k with h | h
            · exact HE.out j h
            · obtain rfl : j = k := by omega
              rw [List.getElem?_eq_getElem hlt, List.getElem?_eq_getElem hlt', HX.out]
          case measure => simp [intOf]; omega
        · have hxb : (xs[k] != ys[k]) = true := by simp [hx]
          have HX := Lib.hid hx; clear hx
          go_wp2
          go_quiet (fail)
          go_wp2
          go_ret
          refine ⟨ret_bool ?_, below_drewN (below_drewN (Below.refl _ _) _) _⟩
          symm
          simp only [decide_eq_false_iff_not]
          rintro rfl
          exact HX.out rfl
      · go_wp2
        go_ret
        refine ⟨ret_bool ?_, below_drewN (Below.refl _ _) _⟩
        symm
        simp only [decide_eq_true_eq]
        refine List.ext_getElem? fun j => ?_
        rcases Nat.lt_or_ge j k with h | h
        · exact HE.out j h
        · have := HL.out
          rw [List.getElem?_eq_none (by omega), List.getElem?_eq_none (by omega)]
  · have h0 : ((xs.length : Int) != (ys.length : Int)) = true := by simp; omega
    go_enter Try.func21, Try.ntmps21
    go_wp2
    go_ret
    exact ⟨ret_bool (by simp; rintro rfl; exact hl rfl), Below.refl _ _⟩


theorem idx_hit (l : List UInt8) (c : UInt8) (k : Nat) (hk : k < l.length) (h : l[k] = c) (hne : ∀ j (h : j < l.length), j < k → l[j] ≠ c) : Lib.indexByte l c = k := by
  induction l generalizing k with
  | nil => simp at hk
  | cons b l ih =>
    unfold Lib.indexByte
    cases k with
    | zero => simp at h; simp [h]
    | succ k =>
      have hb : b ≠ c := by have := hne 0 (by simp) (by omega); simpa using this
      have := ih k (by simpa using hk) (by simpa using h) (fun j h1 h2 => by have := hne (j + 1) (by simpa using h1) (by omega); simpa using this)
      rw [if_neg (by simpa using hb), this, if_neg (by simp)]
      rfl
theorem idx_miss (l : List UInt8) (c : UInt8) (hne : ∀ j (h : j < l.length), l[j] ≠ c) : Lib.indexByte l c = -1 := by
  induction l with
  | nil => rfl
  | cons b l ih =>
    unfold Lib.indexByte
    have hb : b ≠ c := by have := hne 0 (by simp); simpa using this
    rw [if_neg (by simpa using hb), ih (fun j h1 => by have := hne (j + 1) (by simpa using h1); simpa using this)]
    rfl
theorem idx_neg (l : List UInt8) (c : UInt8) : decide (Lib.indexByte l c < 0) = !l.contains c := by
  induction l with
  | nil => rfl
  | cons b l ih =>
    unfold Lib.indexByte
    rw [List.contains_cons]
    have hge := Lib.indexByte_ge l c
    by_cases hb : b = c
    · subst hb; simp
    · have e1 : (b == c) = false := by simp [hb]
      have e2 : (c == b) = false := by simp; exact fun h => hb h.symm
      rw [e2, Bool.false_or, ← ih, e1]
      by_cases hn : Lib.indexByte l c = -1
      · simp [hn]
      · have e3 : (Lib.indexByte l c == -1) = false := by simp [hn]
        rw [e3]
        simp only [Bool.false_eq_true, if_false, decide_eq_decide]
        omega
theorem idx_letter (c : UInt8) : decide (Lib.indexByte [67, 84, 76, 82, 80, 99, 116, 108, 114] c < 0) = !letterB c := idx_neg _ _

set_option maxHeartbeats 400000 in
theorem rindex_ (s : ByteArray) (c : UInt8) (w : World) (hs : s.size ≤ 9223372036854775807) :
    Calls Try.prog 53 #[.string s, .int .u8 (c.toNat : Int)] w fun e w' => e = .returned (.int .i64 (Lib.indexByte s.data.toList c)) ∧ w = w' := by
  go_enter Try.func53, Try.ntmps53
  go_wp2
  go_loop [5] (fun i => ∃ k : Nat, i = .int .i64 k ∧ k ≤ s.size ∧ (∀ j (h : j < s.size), j < k → s[j] ≠ c)) (fun i => s.size - (intOf i).toNat)
  case atStart => exact ⟨0, rfl, Nat.zero_le _, fun j h h0 => absurd h0 (by omega)⟩
  case round =>
    obtain ⟨k, rfl, hk, hne⟩ := hrel
    have HE := Lib.hid hne; clear hne
    by_cases hlt : k < s.size
    · by_cases hx : s[k] = c
      · have hxb : ((s[k].toNat : Int) == (c.toNat : Int)) = true := by simp [hx]
        have HX := Lib.hid hx; clear hx
        go_wp2
        go_ret
        refine ⟨ret_int (idx_hit s.data.toList c k (by simpa using hlt) HX.out fun j h1 h2 => HE.out j (by simpa using h1) h2).symm, rfl⟩
      · have hxb : ((s[k].toNat : Int) == (c.toNat : Int)) = false := by simp; intro h; exact hx (UInt8.toNat_inj.1 (by omega))
        have HX := Lib.hid hx; clear hx
        go_wp2
        go_round
        case rel =>
          refine ⟨k + 1, by go_num, by omega, fun j h1 h2 => ?_⟩
          rcases Nat.lt_or_ge j k with h | h
          · exact HE.out j h1 h
          · obtain rfl : j = k := by omega
            exact HX.out
        case measure => simp [intOf]; omega
    · go_wp2
      go_ret
      refine ⟨ret_int (idx_miss s.data.toList c fun j h1 => HE.out j (by simpa using h1) (by simp at h1; omega)).symm, rfl⟩

theorem baIndexByte_run (s : ByteArray) (c : UInt8) (w : World) : (callFunc 59 #[.string s, .int .u8 (c.toNat : Int)]).run Try.prog w = .ok (.value (.int .i64 (Lib.indexByte s.data.toList c))) w := by
  rw [run_callFunc_extern (e := Extern.BytealgIndexByte.indexByte) Try.func59 (by kernel_rfl) (by kernel_rfl) (by kernel_rfl) (by kernel_rfl), Lib.run_indexByteString]
  simp [Result.andThen]

set_option maxHeartbeats 400000 in
theorem sIndexByte_ (s : ByteArray) (c : UInt8) (w : World) :
    Calls Try.prog 52 #[.string s, .int .u8 (c.toNat : Int)] w fun e w' => e = .returned (.int .i64 (Lib.indexByte s.data.toList c)) ∧ w = w' := by
  have hx := baIndexByte_run s c w
  go_enter Try.func52, Try.ntmps52
  go_wp2
  go_ret
  exact ⟨rfl, rfl⟩

theorem form_take (s : ByteArray) (k : Nat) (hk : k < s.size) : (s.data.toList.take (k + 1)).any (fun c => !letterB c) = ((s.data.toList.take k).any (fun c => !letterB c) || !letterB s[k]) :=
  any_take_succ s.data.toList _ k (by simpa using hk)

set_option maxHeartbeats 400000 in
theorem rwCheck_ (s : ByteArray) (w : World) (hs : s.size ≤ 9223372036854775807) :
    Calls Try.prog 39 #[.string s] w fun e w' => e = .returned (.int .i64 (errWord s)) ∧ w = w' := by
  by_cases hl : 16 < s.size
  · go_enter Try.func39, Try.ntmps39
    go_wp2
    go_ret
    exact ⟨ret_int (by unfold errWord; rw [if_pos hl]), rfl⟩
  · go_enter Try.func39, Try.ntmps39
    go_wp2
    go_loop [3] (fun i => ∃ k : Nat, i = .int .i64 k ∧ k ≤ s.size ∧ (s.data.toList.take k).any (fun c => !letterB c) = false) (fun i => s.size - (intOf i).toNat)
    case atStart => exact ⟨0, rfl, Nat.zero_le _, rfl⟩
    case round =>
      obtain ⟨k, rfl, hk, hne⟩ := hrel
      have HE := Lib.hid hne; clear hne
      by_cases hlt : k < s.size
      · have hft := form_take s k hlt
        have HF := Lib.hid hft; clear hft
        have hlet := idx_letter s[k]
        by_cases hx : letterB s[k] = true
        · have hneg : decide (Lib.indexByte [67, 84, 76, 82, 80, 99, 116, 108, 114] s[k] < 0) = false := by rw [hlet, hx]; rfl
          have HX := Lib.hid hx; clear hx hlet
          go_wp2_with (go_at_call 53; refine (rindex_ _ _ _ (by decide)).mono ?_; rintro e w' ⟨rfl, rfl⟩)
          go_round
          case rel => exact ⟨k + 1, by go_num, by omega, by rw [HF.out, HE.out, HX.out]; rfl⟩
          case measure => simp [intOf]; omega
        · have hneg : decide (Lib.indexByte [67, 84, 76, 82, 80, 99, 116, 108, 114] s[k] < 0) = true := by rw [hlet]; simpa using hx
          have HX := Lib.hid hx; clear hx hlet
          go_wp2_with (go_at_call 53; refine (rindex_ _ _ _ (by decide)).mono ?_; rintro e w' ⟨rfl, rfl⟩)
          go_ret
          exact ⟨ret_int (by unfold errWord formW; rw [if_neg hl, if_pos (any_hit (k := k) (by simpa using hlt) (by show (!letterB (s[k]'hlt)) = true; simpa using HX.out))]), rfl⟩
      · go_wp2
        go_ret
        exact ⟨ret_int (by unfold errWord formW; rw [if_neg hl, if_neg (by rw [any_end (k := k) (by simpa using hlt) HE.out]; decide)]), rfl⟩

set_option maxHeartbeats 400000 in
theorem wCheck_ (s : ByteArray) (w : World) (hs : s.size ≤ 9223372036854775807) :
    Calls Try.prog 38 #[.string s] w fun e w' => e = .returned (.int .i64 (errWord s)) ∧ w = w' := by
  by_cases hl : 16 < s.size
  · go_enter Try.func38, Try.ntmps38
    go_wp2
    go_ret
    exact ⟨ret_int (by unfold errWord; rw [if_pos hl]), rfl⟩
  · go_enter Try.func38, Try.ntmps38
    go_wp2
    go_loop [9] (fun i => ∃ k : Nat, i = .int .i64 k ∧ k ≤ s.size ∧ (s.data.toList.take k).any (fun c => !letterB c) = false) (fun i => s.size - (intOf i).toNat)
    case atStart => exact ⟨0, rfl, Nat.zero_le _, rfl⟩
    case round =>
      obtain ⟨k, rfl, hk, hne⟩ := hrel
      have HE := Lib.hid hne; clear hne
      by_cases hlt : k < s.size
      · have hft := form_take s k hlt
        have HF := Lib.hid hft; clear hft
        have hlet := idx_letter s[k]
        by_cases hx : letterB s[k] = true
        · have hneg : decide (Lib.indexByte [67, 84, 76, 82, 80, 99, 116, 108, 114] s[k] < 0) = false := by rw [hlet, hx]; rfl
          have HX := Lib.hid hx; clear hx hlet
          go_wp2_with (go_at_call 52; refine (sIndexByte_ _ _ _).mono ?_; rintro e w' ⟨rfl, rfl⟩)
          go_round
          case rel => exact ⟨k + 1, by go_num, by omega, by rw [HF.out, HE.out, HX.out]; rfl⟩
          case measure => simp [intOf]; omega
        · have hneg : decide (Lib.indexByte [67, 84, 76, 82, 80, 99, 116, 108, 114] s[k] < 0) = true := by rw [hlet]; simpa using hx
          have HX := Lib.hid hx; clear hx hlet
          go_wp2_with (go_at_call 52; refine (sIndexByte_ _ _ _).mono ?_; rintro e w' ⟨rfl, rfl⟩)
          go_ret
          exact ⟨ret_int (by unfold errWord formW; rw [if_neg hl, if_pos (any_hit (k := k) (by simpa using hlt) (by show (!letterB (s[k]'hlt)) = true; simpa using HX.out))]), rfl⟩
      · go_wp2
        go_ret
        exact ⟨ret_int (by unfold errWord formW; rw [if_neg hl, if_neg (by rw [any_end (k := k) (by simpa using hlt) HE.out]; decide)]), rfl⟩
end Go.Proofs.Ytepdgffccfcfpaa
