/- The reference's ready, both. -/
import Derived.Test.YtifpkdajfdlgeaaTrSame
import Derived.Test.YtifpkdajfdlgeaaCheck
namespace Go.Proofs.Ytifpkdajfdlgeaa
open Go.RowKit

/-- The slice at A holds these bools. -/
def RdB (w : World) (A : Option Addr) (bs : List Bool) : Prop := bs.length ≤ 281474976710656 ∧ Rd w A 1 bs.length fun j => .bool (bs.getD j false)
theorem RdB.at_ {w : World} {A : Option Addr} {bs : List Bool} (h : RdB w A bs) {k : Nat} (hk : k < bs.length) :
    ∃ b off, A = some ⟨b, off, none⟩ ∧ b < w.heap.size ∧ w.cell? ⟨b, off + k, none⟩ = some (.bool bs[k]) := by
  obtain ⟨b, off, e, hlt, hc⟩ := h.2 (by omega)
  exact ⟨b, off, e, hlt, by rw [hc k (by omega)]; simp [List.getD_eq_getElem?_getD, hk]⟩
theorem RdB.later {w w' : World} {B : Nat} {A : Option Addr} {bs : List Bool} (h : RdB w A bs) (hb : Below B w w') (hB : w.heap.size ≤ B) : RdB w' A bs := ⟨h.1, h.2.later hb hB⟩

/-- No earlier work that is not done touches work i, among the first k. -/
def noTouch (ws : List GW) (ds : List Bool) (i : Nat) : Nat → Bool
  | 0 => true
  | k + 1 => noTouch ws ds i k && (ds.getD k false || !touchB (ws.getD k ⟨0, 0, ByteArray.empty⟩).pl (ws.getD i ⟨0, 0, ByteArray.empty⟩).pl)
def readyB (ws : List GW) (ds : List Bool) (i : Nat) : Bool := noTouch ws ds i i && !ds.getD i false
theorem noTouch_succ (ws : List GW) (ds : List Bool) (i k : Nat) (hi : i < ws.length) (hk : k < ws.length) (hd : k < ds.length) : noTouch ws ds i (k + 1) = (noTouch ws ds i k && (ds[k] || !touchB ws[k].pl ws[i].pl)) := by
  rw [noTouch]; simp [List.getD_eq_getElem?_getD, hi, hk, hd]
theorem noTouch_mono (ws : List GW) (ds : List Bool) (i : Nat) : ∀ n k, k ≤ n → noTouch ws ds i k = false → noTouch ws ds i n = false
  | 0, k, h, hf => by obtain rfl : k = 0 := by omega
                      exact hf
  | n + 1, k, h, hf => by
    rcases Nat.lt_or_ge k (n + 1) with h1 | h1
    · rw [noTouch, noTouch_mono ws ds i n k (by omega) hf]; rfl
    · obtain rfl : k = n + 1 := by omega
      exact hf

set_option maxRecDepth 100000 in
set_option maxHeartbeats 2000000 in
theorem rready_ (p : Int) (A D : Option Addr) (c dc i : Nat) (ws : List GW) (ds : List Bool) (w : World) (ha : RdW w A ws) (hd : RdB w D ds) (hl : ds.length = ws.length) (hi : i < ws.length) (hw : ws.length ≤ 400)
    (hat : ∀ x ∈ ws, 0 ≤ x.pl ∧ x.pl ≤ 22) :
    Calls Try.prog 52 #[shV p A c ws, .slice D ds.length dc, .int .i64 (i : Int)] w fun e w' => e = .returned (.bool (readyB ws ds i)) ∧ Below w.heap.size w w' := by
  have hlen : ds.length ≤ 400 := by omega
  have hids : i < ds.length := by omega
  have HL := Lib.hid hl; clear hl
  have HA := Lib.hid ha; clear ha
  have HD := Lib.hid hd; clear hd
  have HAT := Lib.hid hat; clear hat
  unfold shV
  go_enter Try.func52, Try.ntmps52
  go_wp2
  go_loopw [7] (fun i' wr => ∃ k : Nat, i' = .int .i64 k ∧ k ≤ i ∧ noTouch ws ds i k = true ∧ Below (w.heap.size + 1) (w.alloc (.cells #[.int .i64 p, .slice A ws.length c] 24)) wr) (fun i' _ => i - (intOf i').toNat)
  case atStart => exact ⟨0, rfl, Nat.zero_le _, rfl, Below.refl _ _⟩
  case round =>
    obtain ⟨k, rfl, hk, hno, hbw⟩ := hrel
    have HNO := Lib.hid hno; clear hno
    have c1 := box_cell hbw 1
    simp at c1
    have hsz : w.heap.size < wr.heap.size := by have := hbw.size; simp at this; omega
    have hbA := below_of_box hbw
    have HBA := Lib.hid hbA
    obtain ⟨bd, od, rfl, hbd, d2⟩ := (HD.out.later hbA (Nat.le_refl _)).at_ hids
    by_cases hlt : k < i
    · have hkd : k < ds.length := by omega
      have hkw : k < ws.length := by omega
      obtain ⟨bd', od', hD', _, d1⟩ := (HD.out.later hbA (Nat.le_refl _)).at_ hkd
      injection hD' with hD'; injection hD' with hD1 hD2; subst hD1; subst hD2
      obtain ⟨b, off, rfl, hbl, g1, g2, g3⟩ := (HA.out.later hbA (Nat.le_refl _)).at_ hkw
      obtain ⟨b', off', hA', _, e1, e2, e3⟩ := (HA.out.later hbA (Nat.le_refl _)).at_ hi
      injection hA' with hA'; injection hA' with hA1 hA2; subst hA1; subst hA2
      have hsu := noTouch_succ ws ds i k hi hkw hkd
      have HSU := Lib.hid hsu; clear hsu
      obtain ⟨p1, p2⟩ := HAT.out ws[k] (List.getElem_mem hkw)
      obtain ⟨p3, p4⟩ := HAT.out ws[i] (List.getElem_mem hi)
      have x1 : (0 : Int) ≤ (k : Int) := by omega
      have x2 : (k : Int) < (ds.length : Int) := by omega
      have x3 : (k : Int) < (ws.length : Int) := by omega
      have x4 : (0 : Int) ≤ (i : Int) := by omega
      have x5 : (i : Int) < (ws.length : Int) := by omega
      by_cases hdk : ds[k] = true
      · rw [hdk] at d1
        have HDK := Lib.hid hdk; clear hdk
        go_wp2
        go_quiet (fail)
        go_wp2
        go_roundw
        case rel => exact ⟨k + 1, by go_num, by omega, by rw [HSU.out, HNO.out, HDK.out]; rfl, below_drewN hbw _⟩
        case measure => simp [intOf]; omega
      · have hdk' : ds[k] = false := by simpa using hdk
        rw [hdk'] at d1
        have HDK := Lib.hid hdk'; clear hdk hdk'
        have keep0 : ∀ w1, Below wr.heap.size wr w1 → Below wr.heap.size wr w1 ∧ w1.cell? ⟨w.heap.size, 1, none⟩ = some (.slice (some ⟨b, off, none⟩) ws.length c) ∧ w1.cell? ⟨bd, od + k, none⟩ = some (.bool false) ∧
            w1.cell? ⟨b, off + k * 3, none⟩ = some (.int .i64 ws[k].kind) ∧ w1.cell? ⟨b, off + k * 3 + 1, none⟩ = some (.int .i64 ws[k].pl) ∧ w1.cell? ⟨b, off + k * 3 + 2, none⟩ = some (.string ws[k].word) ∧
            w1.cell? ⟨b, off + i * 3, none⟩ = some (.int .i64 ws[i].kind) ∧ w1.cell? ⟨b, off + i * 3 + 1, none⟩ = some (.int .i64 ws[i].pl) ∧ w1.cell? ⟨b, off + i * 3 + 2, none⟩ = some (.string ws[i].word) := fun w1 hb =>
          ⟨hb, below_at hb (Nat.le_refl _) c1, below_at hb (Nat.le_refl _) d1, below_at hb (Nat.le_refl _) g1, below_at hb (Nat.le_refl _) g2, below_at hb (Nat.le_refl _) g3, below_at hb (Nat.le_refl _) e1, below_at hb (Nat.le_refl _) e2, below_at hb (Nat.le_refl _) e3⟩
        have KEEP := Lib.hid keep0; clear keep0
        by_cases ht : touchB ws[k].pl ws[i].pl = true
        · have hn : noTouch ws ds i (k + 1) = false := by rw [HSU.out, HNO.out, HDK.out, ht]; rfl
          have HN := Lib.hid hn; clear hn
          go_wp2
          go_region_held3 (fun w1 => Below wr.heap.size wr w1 ∧ w1.cell? ⟨w.heap.size, 1, none⟩ = some (.slice (some ⟨b, off, none⟩) ws.length c) ∧ w1.cell? ⟨bd, od + k, none⟩ = some (.bool false) ∧
            w1.cell? ⟨b, off + k * 3, none⟩ = some (.int .i64 ws[k].kind) ∧ w1.cell? ⟨b, off + k * 3 + 1, none⟩ = some (.int .i64 ws[k].pl) ∧ w1.cell? ⟨b, off + k * 3 + 2, none⟩ = some (.string ws[k].word) ∧
            w1.cell? ⟨b, off + i * 3, none⟩ = some (.int .i64 ws[i].kind) ∧ w1.cell? ⟨b, off + i * 3 + 1, none⟩ = some (.int .i64 ws[i].pl) ∧ w1.cell? ⟨b, off + i * 3 + 2, none⟩ = some (.string ws[i].word))
            ((refine KEEP.out _ ?_; first | exact (Below.refl _ _).drew | exact ‹Below wr.heap.size wr _ ∧ _›.1.trans (hb1.mono ‹Below wr.heap.size wr _ ∧ _›.1.size)))
            (first | (go_at_call 27; refine (touch_ _ _ _ _ _ _ _ (by omega) (by omega) (by omega) (by omega)).mono ?_; rintro e w2 ⟨rfl, hb1⟩))
          go_wp2
          go_ret
          exact ⟨ret_bool (by unfold readyB; rw [noTouch_mono ws ds i i (k + 1) (by omega) HN.out]; rfl), hbA.trans (‹Below wr.heap.size wr _ ∧ _›.1.mono (by omega))⟩
        · have ht' : touchB ws[k].pl ws[i].pl = false := by simpa using ht
          clear ht
          have hn : noTouch ws ds i (k + 1) = true := by rw [HSU.out, HNO.out, HDK.out, ht']; rfl
          have HN := Lib.hid hn; clear hn
          go_wp2
          go_region_held3 (fun w1 => Below wr.heap.size wr w1 ∧ w1.cell? ⟨w.heap.size, 1, none⟩ = some (.slice (some ⟨b, off, none⟩) ws.length c) ∧ w1.cell? ⟨bd, od + k, none⟩ = some (.bool false) ∧
            w1.cell? ⟨b, off + k * 3, none⟩ = some (.int .i64 ws[k].kind) ∧ w1.cell? ⟨b, off + k * 3 + 1, none⟩ = some (.int .i64 ws[k].pl) ∧ w1.cell? ⟨b, off + k * 3 + 2, none⟩ = some (.string ws[k].word) ∧
            w1.cell? ⟨b, off + i * 3, none⟩ = some (.int .i64 ws[i].kind) ∧ w1.cell? ⟨b, off + i * 3 + 1, none⟩ = some (.int .i64 ws[i].pl) ∧ w1.cell? ⟨b, off + i * 3 + 2, none⟩ = some (.string ws[i].word))
            ((refine KEEP.out _ ?_; first | exact (Below.refl _ _).drew | exact ‹Below wr.heap.size wr _ ∧ _›.1.trans (hb1.mono ‹Below wr.heap.size wr _ ∧ _›.1.size)))
            (first | (go_at_call 27; refine (touch_ _ _ _ _ _ _ _ (by omega) (by omega) (by omega) (by omega)).mono ?_; rintro e w2 ⟨rfl, hb1⟩))
          go_wp2
          go_roundw
          case rel => exact ⟨k + 1, by go_num, by omega, HN.out, hbw.trans (‹Below wr.heap.size wr _ ∧ _›.1.mono (by omega))⟩
          case measure => simp [intOf]; omega
    · obtain rfl : k = i := by omega
      have x1 : (0 : Int) ≤ (k : Int) := by omega
      have x2 : (k : Int) < (ds.length : Int) := by omega
      have hres : readyB ws ds k = !ds[k] := by unfold readyB; rw [HNO.out]; simp [List.getD_eq_getElem?_getD, hids]
      have HRES := Lib.hid hres; clear hres
      go_wp2
      go_ret
      exact ⟨ret_bool (by rw [HRES.out]), hbA⟩
end Go.Proofs.Ytifpkdajfdlgeaa
