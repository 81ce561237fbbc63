/- The law's Far: it ends, and false only of a short sheet, or of one with too many works. -/
import Derived.Test.YtepdgffccfcfpaaRSame4
namespace Go.Proofs.Ytepdgffccfcfpaa
open Go.RowKit

def FarPost (n : Nat) (w : World) (e : Ending) (w' : World) : Prop := ∃ z : Bool, e = .returned (.bool z) ∧ (z = false → n ≤ 100 ∨ (400 < n ∧ n ≤ 2000)) ∧ Below w.heap.size w w'
def FarIn (w wr : World) (A : Option Addr) (c n : Nat) : Prop := wr.cell? ⟨w.heap.size, 1, none⟩ = some (.slice A n c) ∧ w.heap.size < wr.heap.size
set_option maxRecDepth 100000 in
set_option maxHeartbeats 1000000 in
theorem far4_ (p : Int) (A : Option Addr) (c : Nat) (ws : List GW) (w : World) (ha : RdW w A ws) :
    Calls Try.prog 10 #[.agg #[.int .i64 p, .slice A ws.length c]] w (FarPost ws.length w) := by
  have hl := ha.1
  have hb2 : Below w.heap.size w (w.alloc (.cells #[.int .i64 p, .slice A ws.length c] 24)) := (Below.refl _ _).alloc (Nat.le_refl _) _
  have hx : FarIn w (w.alloc (.cells #[.int .i64 p, .slice A ws.length c] 24)) A c ws.length := ⟨by go_simp, by simp⟩
  by_cases h1 : 100 < (ws.length : Int) ∧ (ws.length : Int) ≤ 400
  · obtain ⟨h2, h3⟩ := h1
    have HA := Lib.hid ha; have HB2 := Lib.hid hb2; have HX := Lib.hid hx; clear ha hb2 hx
    go_enter Try.func10, Try.ntmps10
    go_wp2
    go_ret
    exact ⟨true, rfl, (fun h => by cases h), HB2.out⟩
  · by_cases h4 : 2000 < (ws.length : Int)
    · have h5 : 400 < (ws.length : Int) := by omega
      have h6 : 100 < (ws.length : Int) := by omega
      have HA := Lib.hid ha; have HB2 := Lib.hid hb2; have HX := Lib.hid hx; have H1 := Lib.hid h1; clear ha hb2 hx h1
      go_enter Try.func10, Try.ntmps10
      go_wp2
      go_ret
      exact ⟨true, rfl, (fun h => by cases h), HB2.out⟩
    · have hz : ws.length ≤ 100 ∨ (400 < ws.length ∧ ws.length ≤ 2000) := by omega
      by_cases h6 : 100 < (ws.length : Int)
      all_goals
        have h5 : ¬ 100 < (ws.length : Int) ∨ ¬ (ws.length : Int) ≤ 400 := by omega
        have h7 : 100 < (ws.length : Int) → ¬ (ws.length : Int) ≤ 400 := by omega
        try replace h7 := h7 h6
        have HA := Lib.hid ha; have HB2 := Lib.hid hb2; have HZ := Lib.hid hz; have H1 := Lib.hid h1; have H5 := Lib.hid h5; have HX := Lib.hid hx; clear ha hb2 hz h1 h5 hx
        go_enter Try.func10, Try.ntmps10
        go_wp2
        go_loopw [3] (fun iv wr => ∃ j : Nat, iv = .int .i64 j ∧ j ≤ ws.length ∧ FarIn w wr A c ws.length ∧ Below w.heap.size w wr) (fun iv _ => ws.length - (intOf iv).toNat)
        case atStart => exact ⟨0, rfl, Nat.zero_le _, HX.out, HB2.out⟩
        case round =>
          obtain ⟨j, rfl, hj, hx, hb3⟩ := hrel
          obtain ⟨e1, e2⟩ := hx
          by_cases hlt : j < ws.length
          · obtain ⟨b, off, rfl, hbL, g1, g2, g3⟩ := (HA.out.later hb3 (Nat.le_refl _)).at_ hlt
            have x1 : (0 : Int) ≤ (j : Int) := by omega
            have x2 : (j : Int) < (ws.length : Int) := by omega
            generalize ws[j].word = zw at *
            by_cases hs : 1000 < (zw.size : Int)
            · have HB3 := Lib.hid hb3; clear hb3
              go_wp2
              go_ret
              exact ⟨true, rfl, (fun h => by cases h), HB3.out⟩
            · have HB3 := Lib.hid hb3; clear hb3
              go_wp2
              go_roundw
              case rel => exact ⟨j + 1, by go_num, by omega, ⟨e1, e2⟩, HB3.out⟩
              case measure => simp [intOf]; omega
          · have HB3 := Lib.hid hb3; clear hb3
            go_wp2
            go_ret
            exact ⟨false, rfl, fun _ => HZ.out, HB3.out⟩
end Go.Proofs.Ytepdgffccfcfpaa
