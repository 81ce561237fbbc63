/- Words for memory, over any program: what a slice of ints or of works reads as, regions that draw their order over worlds that only grow. No program is named here. -/
import Derived.WalkKit
import Derived.WalkSpells
import Derived.WalkLawsBesides
import Derived.Deep.QuietTactic
import Derived.BigQuiet
import Derived.Lib.Hide
import Derived.Deep.AppendLies
namespace Go.Proofs.Ytepdgffccfcfpaa
open Go.RowKit

theorem ret_bool {a b : Bool} (h : a = b) : Ending.returned (.bool a) = .returned (.bool b) := by rw [h]
theorem ret_int {k : IntKind} {a b : Int} (h : a = b) : Ending.returned (.int k a) = .returned (.int k b) := by rw [h]

theorem block_of_add (a : Addr) (n : Nat) : (a.add n).block = a.block := by unfold Addr.add; split <;> rfl
theorem add_of_add (a : Addr) (i j : Nat) : (a.add i).add j = a.add (i + j) := by
  unfold Addr.add
  by_cases hi : i = 0 <;> by_cases hj : j = 0 <;> simp [hi, hj, Nat.add_assoc]

/-- A world that is as W was below B. -/
structure Bel (B : Nat) (W : World) where
  wd : World
  h : Below B W wd

theorem wp_region_bel {P : Program} (B : Nat) {id : Nat} {Q : Exit → Act → World → Prop} {a : Act} {w : World} {l : List Oper} (hm : P.follows .mixedOrders = true) (hB : Region.lexB .any l.toArray = true)
    (h : wpQuiet P l.toArray (fun w' => ∃ u : Bel B w, w' = u.wd) (fun a' => ∀ w', (∃ u : Bel B w, w' = u.wd) → Q .normal a' w') l a) : (Code.region id l.toArray true).wp P Q a w :=
  wp_region_quiet (C := fun w' => ∃ u : Bel B w, w' = u.wd) hm hB ⟨⟨w.drew, (Below.refl B w).drew⟩, rfl⟩ (by simpa using h)

theorem quiet_bel {P : Program} {f : FuncId} {args : Array Value} {B : Nat} {w : World} {u : Bel B w} {v : Value} (hB : B ≤ w.heap.size)
    (h : Calls P f args u.wd fun e w' => e = .returned v ∧ Below u.wd.heap.size u.wd w') : Calls P f args u.wd fun e w'' => e = .returned v ∧ ∃ u' : Bel B w, w'' = u'.wd :=
  h.mono fun _ w' ⟨he, hb⟩ => ⟨he, ⟨w', u.h.trans (hb.mono (Nat.le_trans hB u.h.size))⟩, rfl⟩
theorem quiet_bel_same {P : Program} {f : FuncId} {args : Array Value} {B : Nat} {w : World} {u : Bel B w} {v : Value}
    (h : Calls P f args u.wd fun e w' => e = .returned v ∧ u.wd = w') : Calls P f args u.wd fun e w'' => e = .returned v ∧ ∃ u' : Bel B w, w'' = u'.wd :=
  h.mono fun _ _ ⟨he, hb⟩ => ⟨he, u, hb.symm⟩

/-- What holds of the cells at w holds at every later world. -/
theorem below_at {B : Nat} {w w' : World} (h : Below B w w') (hB : w.heap.size ≤ B) {a : Addr} {v : Value} (hc : w.cell? a = some v) : w'.cell? a = some v :=
  (h.cell (Nat.lt_of_lt_of_le (World.block_lt_of_cell? w a hc) hB)).trans hc
theorem below_drewN {B : Nat} {a w : World} (h : Below B a w) (n : Nat) : Below B a (w.drewN n) := ⟨h.os, h.tape, h.output, h.size, h.block⟩

/-- The slice at A holds these cells, `size` of them for each element. -/
def Rd (w : World) (A : Option Addr) (size n : Nat) (f : Nat → Value) : Prop :=
  0 < n * size → ∃ b off, A = some ⟨b, off, none⟩ ∧ b < w.heap.size ∧ ∀ j, j < n * size → w.cell? ⟨b, off + j, none⟩ = some (f j)
theorem Rd.later {w w' : World} {B : Nat} {A : Option Addr} {size n : Nat} {f : Nat → Value} (h : Rd w A size n f) (hb : Below B w w') (hB : w.heap.size ≤ B) : Rd w' A size n f := fun h0 => by
  obtain ⟨b, off, e, hlt, hc⟩ := h h0
  exact ⟨b, off, e, Nat.lt_of_lt_of_le hlt hb.size, fun j hj => below_at hb hB (hc j hj)⟩
theorem Rd.ofAddr {w : World} {A : Option Addr} {size n : Nat} {f : Nat → Value} (h : 0 < n * size → ∃ ad, A = some ad ∧ ∀ j, j < n * size → w.cell? (ad.add j) = some (f j)) : Rd w A size n f := fun h0 => by
  obtain ⟨ad, e, hc⟩ := h h0
  have h1 := hc 0 h0
  have hlt := World.block_lt_of_cell? w _ h1
  obtain ⟨b, off, spot⟩ := ad
  have hs : spot = none := by
    simp only [Addr.add, if_true] at h1
    unfold World.cell? at h1
    split at h1
    · split at h1
      · cases h1
      · rename_i hs; cases spot with
        | none => rfl
        | some x => simp at hs
    · cases h1
  subst hs
  refine ⟨b, off, e, by simpa [Addr.add] using hlt, fun j hj => ?_⟩
  have := hc j hj
  unfold Addr.add at this
  by_cases hj0 : j = 0
  · subst hj0; simpa using this
  · simpa [hj0] using this
theorem Rd.congr {w : World} {A : Option Addr} {size n : Nat} {f g : Nat → Value} (h : Rd w A size n f) (he : ∀ j, j < n * size → f j = g j) : Rd w A size n g := fun h0 => by
  obtain ⟨b, off, e, hlt, hc⟩ := h h0
  exact ⟨b, off, e, hlt, fun j hj => by rw [hc j hj, he j hj]⟩

/-- The slice at A holds these ints. -/
def RdI (w : World) (A : Option Addr) (xs : List Int) : Prop :=
  xs.length ≤ 281474976710656 ∧ Rd w A 1 xs.length fun j => .int .i64 (xs.getD j 0)

theorem RdI.at_ {w : World} {A : Option Addr} {xs : List Int} (h : RdI w A xs) {k : Nat} (hk : k < xs.length) :
    ∃ b off, A = some ⟨b, off, none⟩ ∧ b < w.heap.size ∧ w.cell? ⟨b, off + k, none⟩ = some (.int .i64 xs[k]) := by
  obtain ⟨b, off, e, hlt, hc⟩ := h.2 (by omega)
  exact ⟨b, off, e, hlt, by rw [hc k (by omega)]; simp [List.getD_eq_getElem?_getD, hk]⟩
theorem RdI.later {w w' : World} {B : Nat} {A : Option Addr} {xs : List Int} (h : RdI w A xs) (hb : Below B w w') (hB : w.heap.size ≤ B) : RdI w' A xs := ⟨h.1, h.2.later hb hB⟩

/-- A work: a struct of three cells. -/
structure GW where
  kind : Int
  pl : Int
  word : ByteArray
deriving DecidableEq
def GW.val (x : GW) : Value := .agg #[.int .i64 x.kind, .int .i64 x.pl, .string x.word]
/-- Its numbers fit, and its word is no longer than a string can be. -/
def GW.fits (x : GW) : Prop := (-9223372036854775808 ≤ x.kind ∧ x.kind ≤ 9223372036854775807) ∧ (-9223372036854775808 ≤ x.pl ∧ x.pl ≤ 9223372036854775807) ∧ x.word.size ≤ 9223372036854775807

/-- The cells of works. -/
def cellsW (ws : List GW) (j : Nat) : Value :=
  let x := ws.getD (j / 3) ⟨0, 0, ByteArray.empty⟩
  match j % 3 with
  | 0 => .int .i64 x.kind
  | 1 => .int .i64 x.pl
  | _ => .string x.word
/-- The slice at A holds these works. -/
def RdW (w : World) (A : Option Addr) (ws : List GW) : Prop :=
  ws.length ≤ 281474976710656 ∧ (∀ x ∈ ws, x.fits) ∧ Rd w A 3 ws.length (cellsW ws)
theorem RdW.at_ {w : World} {A : Option Addr} {ws : List GW} (h : RdW w A ws) {k : Nat} (hk : k < ws.length) :
    ∃ b off, A = some ⟨b, off, none⟩ ∧ b < w.heap.size ∧ w.cell? ⟨b, off + k * 3, none⟩ = some (.int .i64 ws[k].kind) ∧ w.cell? ⟨b, off + k * 3 + 1, none⟩ = some (.int .i64 ws[k].pl) ∧
      w.cell? ⟨b, off + k * 3 + 2, none⟩ = some (.string ws[k].word) := by
  obtain ⟨b, off, e, hlt, hc⟩ := h.2.2 (by omega)
  have e0 := hc (k * 3) (by omega)
  have e1 := hc (k * 3 + 1) (by omega)
  have e2 := hc (k * 3 + 2) (by omega)
  have hx : ws.getD k ⟨0, 0, ByteArray.empty⟩ = ws[k] := by simp [List.getD_eq_getElem?_getD, hk]
  refine ⟨b, off, e, hlt, ?_, ?_, ?_⟩
  · rw [e0]; unfold cellsW; rw [show k * 3 / 3 = k by omega, show k * 3 % 3 = 0 by omega, hx]; rfl
  · rw [Nat.add_assoc, e1]; unfold cellsW; rw [show (k * 3 + 1) / 3 = k by omega, show (k * 3 + 1) % 3 = 1 by omega, hx]; rfl
  · rw [Nat.add_assoc, e2]; unfold cellsW; rw [show (k * 3 + 2) / 3 = k by omega, show (k * 3 + 2) % 3 = 2 by omega, hx]; rfl
theorem RdW.later {w w' : World} {B : Nat} {A : Option Addr} {ws : List GW} (h : RdW w A ws) (hb : Below B w w') (hB : w.heap.size ≤ B) : RdW w' A ws := ⟨h.1, h.2.1, h.2.2.later hb hB⟩

/-- A block that was made, in a later world. -/
theorem box_cell {w wr : World} {cs : Array Value} {T : TypeId} (hb : Below (w.heap.size + 1) (w.alloc (.cells cs T)) wr) (j : Nat) : wr.cell? ⟨w.heap.size, j, none⟩ = cs[j]? := by
  rw [hb.cell (p := ⟨w.heap.size, j, none⟩) (by simp)]; simp
theorem below_of_box {w wr : World} {o : Obj} (hb : Below (w.heap.size + 1) (w.alloc o) wr) : Below w.heap.size w wr :=
  ((Below.refl _ _).alloc (Nat.le_refl _) o).trans (hb.mono (by omega))

theorem any_take_succ {α : Type} (l : List α) (p : α → Bool) (k : Nat) (hk : k < l.length) : (l.take (k + 1)).any p = ((l.take k).any p || p l[k]) := by
  rw [List.take_succ_eq_append_getElem hk, List.any_append]; simp
theorem any_hit {α : Type} {l : List α} {p : α → Bool} {k : Nat} (hk : k < l.length) (h : p l[k] = true) : l.any p = true :=
  List.any_eq_true.2 ⟨_, List.getElem_mem hk, h⟩
theorem any_end {α : Type} {l : List α} {p : α → Bool} {k : Nat} (hk : ¬ k < l.length) (h : (l.take k).any p = false) : l.any p = false := by
  rw [List.take_of_length_le (by omega)] at h; exact h
end Go.Proofs.Ytepdgffccfcfpaa
