/- Texts of this claim, laid together: Base, Bits, Own, EdPure, EdF, SetW, Spec, Cnt, Ok, OrP, OrCt, OrCy, OrBk, OrL, OrNr, PrPure, PrFew. -/
import Derived.BigQuiet
import Derived.Deep.AppendLies
import Derived.Deep.QuietTactic
import Derived.Lib.Hide
import Derived.WalkKit
import Derived.WalkLawsBesides
import Derived.WalkSpells
/- Words for memory, over any program: what a slice of ints or of works reads as, regions that draw their order over worlds that only grow. No program is named here. -/
namespace Go.Proofs.YtlpfecjkkgccgaaDoor
open Go.RowKit

theorem ret_bool {a b : Bool} (h : a = b) : Ending.returned (.bool a) = .returned (.bool b) := by rw [h]
theorem ret_int {k : IntKind} {a b : Int} (h : a = b) : Ending.returned (.int k a) = .returned (.int k b) := by rw [h]

theorem block_of_add (a : Addr) (n : Nat) : (a.add n).block = a.block := by unfold Addr.add; split <;> rfl
theorem add_of_add (a : Addr) (i j : Nat) : (a.add i).add j = a.add (i + j) := by
  unfold Addr.add
  by_cases hi : i = 0 <;> by_cases hj : j = 0 <;> simp [hi, hj, Nat.add_assoc]

/-- A world that is as W was below B. -/
structure Bel (B : Nat) (W : World) where
  wd : World
  h : Below B W wd

theorem wp_region_bel {P : Program} (B : Nat) {id : Nat} {Q : Exit → Act → World → Prop} {a : Act} {w : World} {l : List Oper} (hm : P.follows .mixedOrders = true) (hB : Region.lexB .any l.toArray = true)
    (h : wpQuiet P l.toArray (fun w' => ∃ u : Bel B w, w' = u.wd) (fun a' => ∀ w', (∃ u : Bel B w, w' = u.wd) → Q .normal a' w') l a) : (Code.region id l.toArray true).wp P Q a w :=
  wp_region_quiet (C := fun w' => ∃ u : Bel B w, w' = u.wd) hm hB ⟨⟨w.drew, (Below.refl B w).drew⟩, rfl⟩ (by simpa using h)

theorem quiet_bel {P : Program} {f : FuncId} {args : Array Value} {B : Nat} {w : World} {u : Bel B w} {v : Value} (hB : B ≤ w.heap.size)
    (h : Calls P f args u.wd fun e w' => e = .returned v ∧ Below u.wd.heap.size u.wd w') : Calls P f args u.wd fun e w'' => e = .returned v ∧ ∃ u' : Bel B w, w'' = u'.wd :=
  h.mono fun _ w' ⟨he, hb⟩ => ⟨he, ⟨w', u.h.trans (hb.mono (Nat.le_trans hB u.h.size))⟩, rfl⟩
theorem quiet_bel_same {P : Program} {f : FuncId} {args : Array Value} {B : Nat} {w : World} {u : Bel B w} {v : Value}
    (h : Calls P f args u.wd fun e w' => e = .returned v ∧ u.wd = w') : Calls P f args u.wd fun e w'' => e = .returned v ∧ ∃ u' : Bel B w, w'' = u'.wd :=
  h.mono fun _ _ ⟨he, hb⟩ => ⟨he, u, hb.symm⟩

/-- What holds of the cells at w holds at every later world. -/
theorem below_at {B : Nat} {w w' : World} (h : Below B w w') (hB : w.heap.size ≤ B) {a : Addr} {v : Value} (hc : w.cell? a = some v) : w'.cell? a = some v :=
  (h.cell (Nat.lt_of_lt_of_le (World.block_lt_of_cell? w a hc) hB)).trans hc
theorem below_drewN {B : Nat} {a w : World} (h : Below B a w) (n : Nat) : Below B a (w.drewN n) := ⟨h.os, h.tape, h.output, h.size, h.block⟩

/-- The slice at A holds these cells, `size` of them for each element. -/
def Rd (w : World) (A : Option Addr) (size n : Nat) (f : Nat → Value) : Prop :=
  0 < n * size → ∃ b off, A = some ⟨b, off, none⟩ ∧ b < w.heap.size ∧ ∀ j, j < n * size → w.cell? ⟨b, off + j, none⟩ = some (f j)
theorem Rd.later {w w' : World} {B : Nat} {A : Option Addr} {size n : Nat} {f : Nat → Value} (h : Rd w A size n f) (hb : Below B w w') (hB : w.heap.size ≤ B) : Rd w' A size n f := fun h0 => by
  obtain ⟨b, off, e, hlt, hc⟩ := h h0
  exact ⟨b, off, e, Nat.lt_of_lt_of_le hlt hb.size, fun j hj => below_at hb hB (hc j hj)⟩
theorem Rd.ofAddr {w : World} {A : Option Addr} {size n : Nat} {f : Nat → Value} (h : 0 < n * size → ∃ ad, A = some ad ∧ ∀ j, j < n * size → w.cell? (ad.add j) = some (f j)) : Rd w A size n f := fun h0 => by
  obtain ⟨ad, e, hc⟩ := h h0
  have h1 := hc 0 h0
  have hlt := World.block_lt_of_cell? w _ h1
  obtain ⟨b, off, spot⟩ := ad
  have hs : spot = none := by
    simp only [Addr.add, if_true] at h1
    unfold World.cell? at h1
    split at h1
    · split at h1
      · cases h1
      · rename_i hs; cases spot with
        | none => rfl
        | some x => simp at hs
    · cases h1
  subst hs
  refine ⟨b, off, e, by simpa [Addr.add] using hlt, fun j hj => ?_⟩
  have := hc j hj
  unfold Addr.add at this
  by_cases hj0 : j = 0
  · subst hj0; simpa using this
  · simpa [hj0] using this
theorem Rd.congr {w : World} {A : Option Addr} {size n : Nat} {f g : Nat → Value} (h : Rd w A size n f) (he : ∀ j, j < n * size → f j = g j) : Rd w A size n g := fun h0 => by
  obtain ⟨b, off, e, hlt, hc⟩ := h h0
  exact ⟨b, off, e, hlt, fun j hj => by rw [hc j hj, he j hj]⟩

/-- The slice at A holds these ints. -/
def RdI (w : World) (A : Option Addr) (xs : List Int) : Prop :=
  xs.length ≤ 281474976710656 ∧ Rd w A 1 xs.length fun j => .int .i64 (xs.getD j 0)

theorem RdI.at_ {w : World} {A : Option Addr} {xs : List Int} (h : RdI w A xs) {k : Nat} (hk : k < xs.length) :
    ∃ b off, A = some ⟨b, off, none⟩ ∧ b < w.heap.size ∧ w.cell? ⟨b, off + k, none⟩ = some (.int .i64 xs[k]) := by
  obtain ⟨b, off, e, hlt, hc⟩ := h.2 (by omega)
  exact ⟨b, off, e, hlt, by rw [hc k (by omega)]; simp [List.getD_eq_getElem?_getD, hk]⟩
theorem RdI.later {w w' : World} {B : Nat} {A : Option Addr} {xs : List Int} (h : RdI w A xs) (hb : Below B w w') (hB : w.heap.size ≤ B) : RdI w' A xs := ⟨h.1, h.2.later hb hB⟩

/-- A work: a struct of three cells. -/
structure GW where
  kind : Int
  pl : Int
  word : ByteArray
deriving DecidableEq
def GW.val (x : GW) : Value := .agg #[.int .i64 x.kind, .int .i64 x.pl, .string x.word]
/-- Its numbers fit, and its word is no longer than a string can be. -/
def GW.fits (x : GW) : Prop := (-9223372036854775808 ≤ x.kind ∧ x.kind ≤ 9223372036854775807) ∧ (-9223372036854775808 ≤ x.pl ∧ x.pl ≤ 9223372036854775807) ∧ x.word.size ≤ 9223372036854775807

/-- The cells of works. -/
def cellsW (ws : List GW) (j : Nat) : Value :=
  let x := ws.getD (j / 3) ⟨0, 0, ByteArray.empty⟩
  match j % 3 with
  | 0 => .int .i64 x.kind
  | 1 => .int .i64 x.pl
  | _ => .string x.word
/-- The slice at A holds these works. -/
def RdW (w : World) (A : Option Addr) (ws : List GW) : Prop :=
  ws.length ≤ 281474976710656 ∧ (∀ x ∈ ws, x.fits) ∧ Rd w A 3 ws.length (cellsW ws)
theorem RdW.at_ {w : World} {A : Option Addr} {ws : List GW} (h : RdW w A ws) {k : Nat} (hk : k < ws.length) :
    ∃ b off, A = some ⟨b, off, none⟩ ∧ b < w.heap.size ∧ w.cell? ⟨b, off + k * 3, none⟩ = some (.int .i64 ws[k].kind) ∧ w.cell? ⟨b, off + k * 3 + 1, none⟩ = some (.int .i64 ws[k].pl) ∧
      w.cell? ⟨b, off + k * 3 + 2, none⟩ = some (.string ws[k].word) := by
  obtain ⟨b, off, e, hlt, hc⟩ := h.2.2 (by omega)
  have e0 := hc (k * 3) (by omega)
  have e1 := hc (k * 3 + 1) (by omega)
  have e2 := hc (k * 3 + 2) (by omega)
  have hx : ws.getD k ⟨0, 0, ByteArray.empty⟩ = ws[k] := by simp [List.getD_eq_getElem?_getD, hk]
  refine ⟨b, off, e, hlt, ?_, ?_, ?_⟩
  · rw [e0]; unfold cellsW; rw [show k * 3 / 3 = k by omega, show k * 3 % 3 = 0 by omega, hx]; rfl
  · rw [Nat.add_assoc, e1]; unfold cellsW; rw [show (k * 3 + 1) / 3 = k by omega, show (k * 3 + 1) % 3 = 1 by omega, hx]; rfl
  · rw [Nat.add_assoc, e2]; unfold cellsW; rw [show (k * 3 + 2) / 3 = k by omega, show (k * 3 + 2) % 3 = 2 by omega, hx]; rfl
theorem RdW.later {w w' : World} {B : Nat} {A : Option Addr} {ws : List GW} (h : RdW w A ws) (hb : Below B w w') (hB : w.heap.size ≤ B) : RdW w' A ws := ⟨h.1, h.2.1, h.2.2.later hb hB⟩

/-- A block that was made, in a later world. -/
theorem box_cell {w wr : World} {cs : Array Value} {T : TypeId} (hb : Below (w.heap.size + 1) (w.alloc (.cells cs T)) wr) (j : Nat) : wr.cell? ⟨w.heap.size, j, none⟩ = cs[j]? := by
  rw [hb.cell (p := ⟨w.heap.size, j, none⟩) (by simp)]; simp
theorem below_of_box {w wr : World} {o : Obj} (hb : Below (w.heap.size + 1) (w.alloc o) wr) : Below w.heap.size w wr :=
  ((Below.refl _ _).alloc (Nat.le_refl _) o).trans (hb.mono (by omega))

theorem any_take_succ {α : Type} (l : List α) (p : α → Bool) (k : Nat) (hk : k < l.length) : (l.take (k + 1)).any p = ((l.take k).any p || p l[k]) := by
  rw [List.take_succ_eq_append_getElem hk, List.any_append]; simp
theorem any_hit {α : Type} {l : List α} {p : α → Bool} {k : Nat} (hk : k < l.length) (h : p l[k] = true) : l.any p = true :=
  List.any_eq_true.2 ⟨_, List.getElem_mem hk, h⟩
theorem any_end {α : Type} {l : List α} {p : α → Bool} {k : Nat} (hk : ¬ k < l.length) (h : (l.take k).any p = false) : l.any p = false := by
  rw [List.take_of_length_le (by omega)] at h; exact h
end Go.Proofs.YtlpfecjkkgccgaaDoor
/- Bits of whole numbers, as the walk spells them. Over any program. -/
namespace Go.Proofs.YtlpfecjkkgccgaaDoor
open Go.RowKit

theorem wraps_u32 (n : Int) (h₀ : 0 ≤ n) (h₁ : n < 2 ^ 31) : IntKind.u32.wrap n = n := by
  simp [IntKind.wrap, IntKind.bits, IntKind.signed]; omega
theorem wraps_u64 (n : Int) (h₀ : 0 ≤ n) (h₁ : n < 2 ^ 31) : IntKind.u64.wrap n = n := by
  simp [IntKind.wrap, IntKind.bits, IntKind.signed]; omega
theorem wraps_i64 (n : Int) (h₀ : 0 ≤ n) (h₁ : n < 2 ^ 31) : IntKind.i64.wrap n = n := IntWalk.i64_in _ (by omega)

theorem bits_andnot (k : IntKind) (j : Nat) (hj : j ≤ k.bits) (hk : ∀ n : Int, 0 ≤ n → n < 2 ^ j → k.wrap n = n) (a b : Nat) (ha : a < 2 ^ j) (hb : b < 2 ^ j) :
    (bits .andNot k a b == 0) = decide (a &&& b = a) := by
  have hp : 2 ^ j ≤ 2 ^ k.bits := Nat.pow_le_pow_right (by decide) hj
  have ha' : a % 2 ^ k.bits = a := Nat.mod_eq_of_lt (Nat.lt_of_lt_of_le ha hp)
  have hb' : b % 2 ^ k.bits = b := Nat.mod_eq_of_lt (Nat.lt_of_lt_of_le hb hp)
  have cast : ∀ n : Nat, n < 2 ^ j → ((n : Nat) : Int) < 2 ^ j := fun n h => by exact_mod_cast h
  simp only [bits, BitVec.ofInt_natCast]
  have hle : (BitVec.ofNat k.bits a &&& ~~~BitVec.ofNat k.bits b).toNat < 2 ^ j := by
    rw [BitVec.toNat_and, BitVec.toNat_ofNat, ha']
    exact Nat.lt_of_le_of_lt Nat.and_le_left ha
  rw [hk _ (Int.natCast_nonneg _) (cast _ hle), Bool.eq_iff_iff]
  simp only [beq_iff_eq, decide_eq_true_eq]
  have e1 : ((BitVec.ofNat k.bits a &&& ~~~BitVec.ofNat k.bits b).toNat : Int) = 0 ↔ BitVec.ofNat k.bits a &&& ~~~BitVec.ofNat k.bits b = 0#k.bits := by
    constructor
    · intro h; apply BitVec.eq_of_toNat_eq; simp only [BitVec.toNat_zero]; omega
    · intro h; rw [h]; simp
  have e2 : a &&& b = a ↔ BitVec.ofNat k.bits a &&& BitVec.ofNat k.bits b = BitVec.ofNat k.bits a := by
    constructor
    · intro h; apply BitVec.eq_of_toNat_eq; simp only [BitVec.toNat_and, BitVec.toNat_ofNat, ha', hb', h]
    · intro h; have := congrArg BitVec.toNat h; simpa only [BitVec.toNat_and, BitVec.toNat_ofNat, ha', hb'] using this
  rw [e1, e2]
  constructor
  · intro h
    apply BitVec.eq_of_getLsbD_eq
    intro i hi
    have := congrArg (fun z => BitVec.getLsbD z i) h
    simp only [BitVec.getLsbD_and, BitVec.getLsbD_not, BitVec.getLsbD_zero, hi, decide_true, Bool.true_and] at this ⊢
    cases h1 : BitVec.getLsbD (BitVec.ofNat k.bits a) i <;> cases h2 : BitVec.getLsbD (BitVec.ofNat k.bits b) i <;> simp_all
  · intro h
    apply BitVec.eq_of_getLsbD_eq
    intro i hi
    have := congrArg (fun z => BitVec.getLsbD z i) h
    simp only [BitVec.getLsbD_and, BitVec.getLsbD_not, BitVec.getLsbD_zero, hi, decide_true, Bool.true_and] at this ⊢
    cases h1 : BitVec.getLsbD (BitVec.ofNat k.bits a) i <;> cases h2 : BitVec.getLsbD (BitVec.ofNat k.bits b) i <;> simp_all

theorem bit_at (k : IntKind) (j : Nat) (hj : j ≤ k.bits) (hj1 : 1 ≤ j) (hk : ∀ n : Int, 0 ≤ n → n < 2 ^ j → k.wrap n = n) (a i : Nat) (ha : a < 2 ^ j) :
    (bits .and k ((a : Int) / 2 ^ i) 1 == 0) = !a.testBit i := by
  have e : ((a : Int) / 2 ^ i) = ((a / 2 ^ i : Nat) : Int) := by simp
  have h1 : (1 : Nat) < 2 ^ j := Nat.one_lt_two_pow (by omega)
  have hd : a / 2 ^ i < 2 ^ j := Nat.lt_of_le_of_lt (Nat.div_le_self _ _) ha
  rw [e, show (1 : Int) = ((1 : Nat) : Int) from rfl, (bits_nat k j hj hk _ 1 hd h1).1, Nat.testBit, Nat.shiftRight_eq_div_pow, Nat.and_comm]
  rw [Bool.eq_iff_iff]
  simp only [beq_iff_eq, Bool.not_eq_true', bne_eq_false_iff_eq]
  omega
theorem bit_set (k : IntKind) (j : Nat) (hj : j ≤ k.bits) (hk : ∀ n : Int, 0 ≤ n → n < 2 ^ j → k.wrap n = n) (a i : Nat) (ha : a < 2 ^ j) (hi : i < j) :
    bits .or k (a : Int) (2 ^ i) = ((a ||| 2 ^ i : Nat) : Int) := by
  have e : (2 : Int) ^ i = ((2 ^ i : Nat) : Int) := by simp
  rw [e]
  exact (bits_nat k j hj hk a _ ha (Nat.pow_lt_pow_right (by decide) hi)).2
end Go.Proofs.YtlpfecjkkgccgaaDoor
/- A block of rows: cells that hold slices of ints, each of the call's own. Over any program. -/
namespace Go.Proofs.YtlpfecjkkgccgaaDoor
open Go.RowKit

/-- The ints' cells. -/
def ints (xs : List Int) : List Value := xs.map (Value.int .i64)
theorem ints_length (xs : List Int) : (ints xs).length = xs.length := by simp [ints]
theorem ints_one (xs : List Int) : ∀ u ∈ ints xs, u.oneCell' = true := by
  intro u hu; simp only [ints, List.mem_map] at hu; obtain ⟨x, _, rfl⟩ := hu; rfl

/-- An owned row of ints reads as those ints. -/
theorem own_rd {w : World} {base e n c : Nat} {A : Option Addr} {xs : List Int} (h : w.ownsRow base e 1 (.slice A n c) n (ints xs)) : Rd w A 1 xs.length fun j => .int .i64 (xs.getD j 0) := fun h0 => by
  have hl : n = xs.length := by have := h.1; rw [ints_length] at this; omega
  obtain ⟨g, cap, hv, _, hlt⟩ := h.form (by omega)
  injection hv with hA
  subst hA
  refine ⟨g, 0, rfl, hlt, fun j hj => ?_⟩
  have := h.cells (g := g) rfl j (.int .i64 (xs.getD j 0)) (by simp [ints, List.getD_eq_getElem?_getD, List.getElem?_eq_getElem (show j < xs.length by omega)])
  unfold Addr.add at this
  by_cases hj0 : j = 0
  · subst hj0; simpa using this
  · simpa [hj0] using this

theorem own_drewN {w : World} {base e size n : Nat} {v : Value} {xs : List Value} (h : w.ownsRow base e size v n xs) (k : Nat) : (w.drewN k).ownsRow base e size v n xs := h
/-- An owned row lies in no block of another element type. -/
theorem own_ne_type {w : World} {base e size n t g : Nat} {v : Value} {xs : List Value} {cs : Array Value} {fr : Nat × Nat} (h : w.ownsRow base e size v n xs) (hg : w.heap[g]? = some (.cells cs t fr)) (hne : e ≠ t) : some g ≠ v.ownBlock := by
  rcases h.2 with ⟨rfl, _⟩ | ⟨g', cap, cur, rfl, _, hh, _⟩
  · simp [Value.ownBlock]
  · intro he
    have : g = g' := by simpa [Value.ownBlock] using he
    subst this
    rw [hh] at hg
    injection hg with hg
    injection hg with _ ht
    exact hne ht

/-- Block R holds `m` slices of ints, each a row of its own above R. -/
def Rws (w : World) (R T e m : Nat) (f : Nat → List Int) : Prop :=
  ∃ cs : Array Value, w.heap[R]? = some (.cells cs T (0, 0)) ∧ cs.size = m ∧ (∀ p (h : p < cs.size), w.ownsRow (R + 1) e 1 cs[p] (f p).length (ints (f p))) ∧
    (∀ p q (hp : p < cs.size) (hq : q < cs.size), p ≠ q → cs[p].ownBlock = none ∨ cs[p].ownBlock ≠ cs[q].ownBlock)

section
variable {w w1 : World} {R T e m : Nat} {f : Nat → List Int}
theorem Rws.lt (h : Rws w R T e m f) : R < w.heap.size := by
  obtain ⟨cs, h1, _⟩ := h
  exact lt_of_block h1
theorem Rws.kept (h : Rws w R T e m f) {row : Option Nat} (hg : w.grownBy w1 row) (hr : ∀ k, row = some k → w.heap.size ≤ k) : Rws w1 R T e m f := by
  have hlt := h.lt
  obtain ⟨cs, h1, h2, h3, h4⟩ := h
  have far : ∀ k, k < w.heap.size → some k ≠ row := fun k hk hc => by have := hr k hc.symm; omega
  refine ⟨cs, ?_, h2, fun p hp => (h3 p hp).kept hg ?_, h4⟩
  · rw [hg.block R hlt (far R hlt)]; exact h1
  · cases hb : cs[p].ownBlock with
    | none => exact .inl rfl
    | some k => exact .inr (far k ((h3 p hp).lt k hb).2)
theorem Rws.alloc (h : Rws w R T e m f) (o : Obj) : Rws (w.alloc o) R T e m f := h.kept (World.grownBy_alloc w o none) (fun k hk => by cases hk)
theorem Rws.drew (h : Rws w R T e m f) : Rws w.drew R T e m f := h
theorem Rws.drewN (h : Rws w R T e m f) (n : Nat) : Rws (w.drewN n) R T e m f := h
/-- The slice in a cell. -/
theorem Rws.at_ (h : Rws w R T e m f) {p : Nat} (hp : p < m) :
    ∃ v, w.cell? ⟨R, p, none⟩ = some v ∧ w.frozen? ⟨R, p, none⟩ = false ∧ w.ownsRow (R + 1) e 1 v (f p).length (ints (f p)) := by
  obtain ⟨cs, h1, h2, h3, h4⟩ := h
  refine ⟨cs[p]'(by omega), ?_, frozen_of_row w R p cs T h1, h3 p (by omega)⟩
  rw [cell_of_row w R p cs T _ h1, Array.getElem?_eq_getElem (by omega)]
/-- One row has grown by an append, and its slice is stored. -/
theorem Rws.grow (h : Rws w R T e m f) {p : Nat} (hp : p < m) {v v' : Value} {xs : List Int} {g n cap : Nat} (hv : w.cell? ⟨R, p, none⟩ = some v) (hown : w1.ownsRow (R + 1) e 1 v' xs.length (ints xs))
    (hv' : v' = .slice (some ⟨g, 0, none⟩) n cap) (hgrow : w.grownBy w1 v.ownBlock) (hat : v.ownBlock = some g ∨ g = w.heap.size) : Rws (w1.setCell ⟨R, p, none⟩ v') R T e m (fun q => if q = p then xs else f q) := by
  have hlt := h.lt
  obtain ⟨cs, h1, h2, h3, h4⟩ := h
  have hpc : p < cs.size := by omega
  have hvp : v = cs[p] := by
    rw [cell_of_row w R p cs T _ h1, Array.getElem?_eq_getElem hpc] at hv
    exact (Option.some.inj hv).symm
  subst hvp
  have hb : ∀ k, cs[p].ownBlock = some k → R + 1 ≤ k ∧ k < w.heap.size := (h3 p hpc).lt
  have hR : w1.heap[R]? = some (.cells cs T (0, 0)) := by
    rw [hgrow.block R hlt (fun hc => by have := hb R hc.symm; omega)]; exact h1
  have hgR : R + 1 ≤ g := by
    rcases hat with hat | hat
    · exact (hb g hat).1
    · omega
  refine ⟨cs.setIfInBounds p v', heap_setCell_same w1 R p cs T v' hR, by simpa using h2, fun q hq => ?_, fun q r hq hr hqr => ?_⟩
  · have hqc : q < cs.size := by simpa using hq
    by_cases hqp : q = p
    · subst hqp
      simp only [Array.getElem_setIfInBounds_self, if_true]
      exact ownsRow_setCell_below hown (by show R < R + 1; omega) _
    · simp only [Array.getElem_setIfInBounds_ne hqc (Ne.symm hqp), if_neg hqp]
      refine ownsRow_setCell_below ((h3 q hqc).kept hgrow ?_) (by show R < R + 1; omega) _
      exact h4 q p hqc hpc hqp
  · have hqc : q < cs.size := by simpa using hq
    have hrc : r < cs.size := by simpa using hr
    by_cases hqp : q = p
    · subst hqp
      have hrp : r ≠ q := Ne.symm hqr
      simp only [Array.getElem_setIfInBounds_self, Array.getElem_setIfInBounds_ne hrc (Ne.symm hrp)]
      refine .inr fun he => ?_
      have he' : cs[r].ownBlock = some g := by rw [← he, hv']; rfl
      rcases hat with hat | hat
      · rcases h4 q r hqc hrc hqr with h | h
        · rw [h] at hat; cases hat
        · exact h (by rw [hat, he'])
      · have := ((h3 r hrc).lt g he').2; omega
    · by_cases hrp : r = p
      · subst hrp
        simp only [Array.getElem_setIfInBounds_self, Array.getElem_setIfInBounds_ne hqc (Ne.symm hqp)]
        cases hbq : cs[q].ownBlock with
        | none => exact .inl rfl
        | some k =>
          refine .inr fun he => ?_
          have he' : k = g := by rw [hv'] at he; exact Option.some.inj he
          subst he'
          rcases hat with hat | hat
          · rcases h4 q r hqc hpc hqp with h | h
            · rw [hbq] at h; cases h
            · exact h (by rw [hat, hbq])
          · have := ((h3 q hqc).lt k hbq).2; omega
      · simp only [Array.getElem_setIfInBounds_ne hqc (Ne.symm hqp), Array.getElem_setIfInBounds_ne hrc (Ne.symm hrp)]
        exact h4 q r hqc hrc hqr
theorem Rws.congr {f' : Nat → List Int} (h : Rws w R T e m f) (he : ∀ p, p < m → f p = f' p) : Rws w R T e m f' := by
  obtain ⟨cs, h1, h2, h3, h4⟩ := h
  exact ⟨cs, h1, h2, fun p hp => by rw [← he p (by omega)]; exact h3 p hp, h4⟩
/-- A new block of nil slices. -/
theorem Rws.made (w : World) (cs : Array Value) (hm : cs.size = m) (hc : ∀ p (h : p < cs.size), cs[p] = .slice none 0 0) : Rws (w.alloc (.cells cs T)) w.heap.size T e m (fun _ => []) :=
  ⟨cs, heap_alloc_new w _, hm, fun p hp => by rw [hc p hp]; exact World.ownsRow_nil _ _ _ _, fun p q hp _ _ => .inl (by rw [hc p hp]; rfl)⟩
end

section
variable {a w w1 : World} {row : Option Nat} {R : Nat}
theorem GB.drew (h : a.grownBy w row) : a.grownBy w.drew row := ⟨h.os, h.tape, h.output, h.size, h.block⟩
theorem GB.drewN (h : a.grownBy w row) (n : Nat) : a.grownBy (w.drewN n) row := ⟨h.os, h.tape, h.output, h.size, h.block⟩
theorem GB.alloc (h : a.grownBy w row) (o : Obj) : a.grownBy (w.alloc o) row :=
  ⟨h.os, h.tape, h.output, Nat.le_trans h.size (by simp), fun i hi hne => (Below.heap_alloc w o i (Nat.lt_of_lt_of_le hi h.size)).trans (h.block i hi hne)⟩
theorem GB.setCell (h : a.grownBy w (some R)) {p : Addr} (hp : p.block = R ∨ a.heap.size ≤ p.block) (u : Value) : a.grownBy (w.setCell p u) (some R) :=
  ⟨h.os, h.tape, h.output, by simpa [World.setCell] using h.size, fun i hi hne => (Below.heap_setCell w p u i (by
    rintro rfl
    rcases hp with hp | hp
    · exact hne (by rw [hp])
    · omega)).trans (h.block i hi hne)⟩
theorem GB.grown (h : a.grownBy w row) {row' : Option Nat} (hg : w.grownBy w1 row') (hr : ∀ k, row' = some k → a.heap.size ≤ k) : a.grownBy w1 row :=
  ⟨hg.os.trans h.os, hg.tape.trans h.tape, hg.output.trans h.output, Nat.le_trans h.size hg.size, fun i hi hne =>
    (hg.block i (Nat.lt_of_lt_of_le hi h.size) (fun e => by have := hr i e.symm; omega)).trans (h.block i hi hne)⟩
theorem GB.below {B : Nat} (h : a.grownBy w (some R)) (hB : B ≤ R) (hs : B ≤ a.heap.size) : Below B a w :=
  ⟨h.os, h.tape, h.output, h.size, fun k hk => h.block k (by omega) (by simp; omega)⟩
theorem GB.cell (h : a.grownBy w (some R)) {p : Addr} {v : Value} (hc : a.cell? p = some v) (hne : p.block ≠ R) : w.cell? p = some v :=
  h.cell hc (by simpa using hne)
end

/-- Block R holds m slices of ints; what they hold lies in other blocks of W0, and of those nothing has changed but block R. -/
structure Views (W0 w : World) (R T m : Nat) (f : Nat → List Int) : Prop where
  grown : W0.grownBy w (some R)
  cells : ∃ cs : Array Value, w.heap[R]? = some (.cells cs T (0, 0)) ∧ cs.size = m ∧ ∀ p (h : p < cs.size), ∃ A c, cs[p] = .slice A (f p).length c ∧ (f p).length ≤ c ∧ c ≤ maxLen ∧
    (0 < (f p).length → ∃ b off, A = some ⟨b, off, none⟩ ∧ b ≠ R ∧ b < W0.heap.size ∧ ∀ j (hj : j < (f p).length), W0.cell? ⟨b, off + j, none⟩ = some (.int .i64 (f p)[j]))

section
variable {W0 w w1 : World} {R T m : Nat} {f : Nat → List Int}
theorem Views.of_rws {e : Nat} (h : Rws W0 R T e m f) : Views W0 W0 R T m f := by
  refine ⟨World.grownBy.refl W0 _, ?_⟩
  obtain ⟨cs, h1, h2, h3, h4⟩ := h
  refine ⟨cs, h1, h2, fun p hp => ?_⟩
  have ho := h3 p hp
  rcases ho.2 with ⟨hv, h0⟩ | ⟨g, cap, cur, hv, hb, hh, hnc, hcap, _⟩
  · exact ⟨none, 0, by rw [hv, h0], by omega, by unfold maxLen; omega, fun hl => absurd hl (by omega)⟩
  · refine ⟨some ⟨g, 0, none⟩, cap, hv, hnc, hcap, fun hl => ⟨g, 0, rfl, by omega, lt_of_block hh, fun j hj => ?_⟩⟩
    rw [hv] at ho
    obtain ⟨b, off, e, _, hc⟩ := own_rd ho (by omega)
    injection e with e
    injection e with e1 e2
    subst e1; subst e2
    rw [hc j (by omega)]
    simp [List.getD_eq_getElem?_getD, hj]
theorem Views.kept (h : Views W0 w R T m f) (hg : W0.grownBy w1 (some R)) (hR : w1.heap[R]? = w.heap[R]?) : Views W0 w1 R T m f := by
  obtain ⟨_, cs, h1, h2, h3⟩ := h
  exact ⟨hg, cs, hR.trans h1, h2, h3⟩
theorem Views.lt (h : Views W0 w R T m f) : R < w.heap.size := by
  obtain ⟨_, cs, h1, _⟩ := h
  exact lt_of_block h1
theorem Views.alloc (h : Views W0 w R T m f) (o : Obj) : Views W0 (w.alloc o) R T m f := h.kept (GB.alloc h.grown o) (Below.heap_alloc w o R h.lt)
theorem Views.drew (h : Views W0 w R T m f) : Views W0 w.drew R T m f := h.kept (GB.drew h.grown) rfl
theorem Views.drewN (h : Views W0 w R T m f) (n : Nat) : Views W0 (w.drewN n) R T m f := h.kept (GB.drewN h.grown n) rfl
theorem Views.after (h : Views W0 w R T m f) {row : Option Nat} (hg : w.grownBy w1 row) (hr : ∀ k, row = some k → W0.heap.size ≤ k) (hR : R < W0.heap.size) : Views W0 w1 R T m f :=
  h.kept (GB.grown h.grown hg hr) (hg.block R h.lt (fun e => by have := hr R e.symm; omega))
theorem Views.at_ (h : Views W0 w R T m f) {p : Nat} (hp : p < m) : ∃ A c, w.cell? ⟨R, p, none⟩ = some (.slice A (f p).length c) ∧ w.frozen? ⟨R, p, none⟩ = false ∧ (f p).length ≤ c ∧ c ≤ maxLen ∧
    (0 < (f p).length → ∃ b off, A = some ⟨b, off, none⟩ ∧ b ≠ R ∧ b < W0.heap.size ∧ ∀ j (hj : j < (f p).length), W0.cell? ⟨b, off + j, none⟩ = some (.int .i64 (f p)[j])) := by
  obtain ⟨_, cs, h1, h2, h3⟩ := h
  obtain ⟨A, c, hv, h4, h5, h6⟩ := h3 p (by omega)
  exact ⟨A, c, by rw [cell_of_row w R p cs T _ h1, Array.getElem?_eq_getElem (by omega), hv], frozen_of_row w R p cs T h1, h4, h5, h6⟩
theorem Views.store (h : Views W0 w R T m f) {p : Nat} {xs : List Int} {A : Option Addr} {c : Nat} (h4 : xs.length ≤ c) (h5 : c ≤ maxLen)
    (h6 : 0 < xs.length → ∃ b off, A = some ⟨b, off, none⟩ ∧ b ≠ R ∧ b < W0.heap.size ∧ ∀ j (hj : j < xs.length), W0.cell? ⟨b, off + j, none⟩ = some (.int .i64 xs[j])) :
    Views W0 (w.setCell ⟨R, p, none⟩ (.slice A xs.length c)) R T m (fun q => if q = p then xs else f q) := by
  obtain ⟨hg, cs, h1, h2, h3⟩ := h
  refine ⟨GB.setCell hg (.inl rfl) _, cs.setIfInBounds p (.slice A xs.length c), heap_setCell_same w R p cs T _ h1, by simpa using h2, fun q hq => ?_⟩
  have hqc : q < cs.size := by simpa using hq
  by_cases hqp : q = p
  · subst hqp
    simp only [Array.getElem_setIfInBounds_self, if_true]
    exact ⟨A, c, rfl, h4, h5, h6⟩
  · simp only [Array.getElem_setIfInBounds_ne hqc (Ne.symm hqp), if_neg hqp]
    exact h3 q hqc
end

/-- A slice value that reads as these ints. -/
def RdV (w : World) (v : Value) (xs : List Int) : Prop := ∃ A c, v = .slice A xs.length c ∧ RdI w A xs
theorem RdV.nil (w : World) : RdV w (.slice none 0 0) [] := ⟨none, 0, rfl, by simp, fun h => absurd h (by simp)⟩
theorem RdV.later {w w' : World} {B : Nat} {v : Value} {xs : List Int} (h : RdV w v xs) (hb : Below B w w') (hB : w.heap.size ≤ B) : RdV w' v xs := by
  obtain ⟨A, c, h1, h2⟩ := h
  exact ⟨A, c, h1, h2.later hb hB⟩
theorem RdV.of_own {w : World} {base e : Nat} {v : Value} {xs : List Int} (h : w.ownsRow base e 1 v xs.length (ints xs)) (hl : xs.length ≤ 281474976710656) : RdV w v xs := by
  rcases h.2 with ⟨rfl, h0⟩ | ⟨g, cap, cur, rfl, _⟩
  · have : xs = [] := List.eq_nil_of_length_eq_zero h0
    subst this; exact RdV.nil w
  · exact ⟨_, cap, rfl, hl, own_rd h⟩
end Go.Proofs.YtlpfecjkkgccgaaDoor
/- The edges of a sheet in the order in which they end: plain, and the cells that hold them. -/
namespace Go.Proofs.YtlpfecjkkgccgaaDoor
open Go.RowKit

def updF {α : Type} (f : Nat → α) (i : Nat) (v : α) : Nat → α := fun q => if q = i then v else f q
/-- An edge: its number, where it begins and where it ends. -/
structure El where
  idx : Int
  fr : Int
  out : Int
  to : Int
  inn : Int
/-- The line: for each place the edge that lies there. -/
structure Ln where
  fr : Nat → Int
  out : Nat → Int
  idx : Nat → Int
def ln0 : Ln := ⟨fun _ => -1, fun p => p, fun p => p⟩
def Ln.el (s : Ln) (p : Nat) (to inn : Int) : El := ⟨s.idx p, s.fr p, s.out p, to, inn⟩
def Ln.put (s : Ln) (p : Nat) (fr out idx : Int) : Ln := ⟨updF s.fr p fr, updF s.out p out, updF s.idx p idx⟩
/-- The place q gets the edge that leaves the work k at that side. -/
def eStep (P : Nat) (s : Ln) (k q side : Nat) : Ln := s.put q k side (P + 2 * k + side)
/-- One work: its left side, then its right side. -/
def sdS (P q k : Nat) (s : Ln) : Nat → Ln
  | 0 => s
  | sd + 1 => eStep P (sdS P q k s sd) k (q + sd) sd
def sdL (P q k : Nat) (s : Ln) (L : List El) : Nat → List El
  | 0 => L
  | sd + 1 => sdL P q k s L sd ++ [(sdS P q k s sd).el (q + sd) k sd]
def eWork (P : Nat) (pls : Nat → Nat) : Nat → Ln
  | 0 => ln0
  | k + 1 => sdS P (pls k) k (eWork P pls k) 2
/-- What has come before the work k. -/
def eList (P : Nat) (pls : Nat → Nat) : Nat → List El
  | 0 => []
  | k + 1 => sdL P (pls k) k (eWork P pls k) (eList P pls k) 2
theorem sdL_le (P q k : Nat) (s : Ln) (L : List El) : ∀ {a b : Nat}, a ≤ b → sdL P q k s L a <+: sdL P q k s L b := by
  intro a b h
  induction b with
  | zero => obtain rfl : a = 0 := by omega
            exact List.prefix_refl _
  | succ b ih =>
    rcases Nat.lt_or_ge a (b + 1) with h1 | h1
    · exact (ih (by omega)).trans (List.prefix_append _ _)
    · obtain rfl : a = b + 1 := by omega
      exact List.prefix_refl _
/-- The ends at the bottom, of the first j places. -/
def eEnds (s : Ln) (j : Nat) : List El := (List.range j).map fun p => s.el p (-1) p
def eAll (P : Nat) (pls : Nat → Nat) (n : Nat) : List El := eList P pls n ++ eEnds (eWork P pls n) P
theorem eEnds_succ (s : Ln) (j : Nat) : eEnds s (j + 1) = eEnds s j ++ [s.el j (-1) j] := by simp [eEnds, List.range_succ]
theorem eList_le (P : Nat) (pls : Nat → Nat) : ∀ {k n : Nat}, k ≤ n → eList P pls k <+: eList P pls n := by
  intro k n h
  induction n with
  | zero => obtain rfl : k = 0 := by omega
            exact List.prefix_refl _
  | succ n ih =>
    rcases Nat.lt_or_ge k (n + 1) with h1 | h1
    · exact (ih (by omega)).trans (sdL_le P (pls n) n _ (eList P pls n) (show 0 ≤ 2 by omega))
    · obtain rfl : k = n + 1 := by omega
      exact List.prefix_refl _
theorem eAll_side (P : Nat) (pls : Nat → Nat) {k n sd : Nat} (h : k < n) (hs : sd < 2) :
    sdL P (pls k) k (eWork P pls k) (eList P pls k) sd ++ [(sdS P (pls k) k (eWork P pls k) sd).el (pls k + sd) k sd] <+: eAll P pls n := by
  have h1 : sdL P (pls k) k (eWork P pls k) (eList P pls k) (sd + 1) <+: eList P pls (k + 1) := sdL_le _ _ _ _ _ (by omega)
  exact (h1.trans (eList_le P pls (show k + 1 ≤ n by omega))).trans (List.prefix_append _ _)
theorem eEnds_le (s : Ln) {j P : Nat} (h : j ≤ P) : eEnds s j <+: eEnds s P := by
  induction P with
  | zero => obtain rfl : j = 0 := by omega
            exact List.prefix_refl _
  | succ P ih =>
    rcases Nat.lt_or_ge j (P + 1) with h1 | h1
    · rw [eEnds_succ]; exact (ih (by omega)).trans (List.prefix_append _ _)
    · obtain rfl : j = P + 1 := by omega
      exact List.prefix_refl _
theorem eAll_end (P : Nat) (pls : Nat → Nat) (n : Nat) {j : Nat} (h : j < P) : (eList P pls n ++ eEnds (eWork P pls n) j) ++ [(eWork P pls n).el j (-1) j] <+: eAll P pls n := by
  rw [List.append_assoc, ← eEnds_succ]
  exact (List.prefix_append_right_inj _).2 (eEnds_le _ (by omega))

/-- The cells of edges of which the ends are not known. -/
def eCell (g h : Nat → Int) (j : Nat) : Value := if j % 4 = 0 then .int .i64 (g (j / 4)) else if j % 4 = 1 then .int .i64 (h (j / 4)) else .int .i64 0
def eCells (m : Nat) (g h : Nat → Int) : Array Value := ((List.range (m * 4)).map (eCell g h)).toArray
/-- Block R holds m edges. -/
def EdB (w : World) (R m : Nat) (g h : Nat → Int) : Prop := w.heap[R]? = some (.cells (eCells m g h) 118 (0, 0))
section
variable {w w' : World} {R m : Nat} {g h : Nat → Int}
theorem EdB.lt (e : EdB w R m g h) : R < w.heap.size := lt_of_block e
theorem EdB.free (e : EdB w R m g h) (j : Nat) : w.frozen? ⟨R, j, none⟩ = false := frozen_of_row _ _ j _ _ e
theorem EdB.at_ (e : EdB w R m g h) {p : Nat} (hp : p < m) : w.cell? ⟨R, p * 4, none⟩ = some (.int .i64 (g p)) ∧ w.cell? ⟨R, p * 4 + 1, none⟩ = some (.int .i64 (h p)) ∧ w.cell? ⟨R, p * 4 + 2, none⟩ = some (.int .i64 0) ∧ w.cell? ⟨R, p * 4 + 3, none⟩ = some (.int .i64 0) := by
  have key : ∀ j, j < m * 4 → w.cell? ⟨R, j, none⟩ = some (eCell g h j) := fun j hj => by
    rw [cell_of_row w R j _ _ _ e]; simp [eCells, hj]
  refine ⟨?_, ?_, ?_, ?_⟩
  · rw [key _ (by omega)]; unfold eCell; rw [if_pos (by omega), show p * 4 / 4 = p by omega]
  · rw [key _ (by omega)]; unfold eCell; rw [if_neg (by omega), if_pos (by omega), show (p * 4 + 1) / 4 = p by omega]
  · rw [key _ (by omega)]; unfold eCell; rw [if_neg (by omega), if_neg (by omega)]
  · rw [key _ (by omega)]; unfold eCell; rw [if_neg (by omega), if_neg (by omega)]
theorem EdB.put (e : EdB w R m g h) (p : Nat) (a b : Int) : EdB ((((w.setCell ⟨R, p * 4, none⟩ (.int .i64 a)).setCell ⟨R, p * 4 + 1, none⟩ (.int .i64 b)).setCell ⟨R, p * 4 + 2, none⟩ (.int .i64 0)).setCell ⟨R, p * 4 + 3, none⟩ (.int .i64 0)) R m (updF g p a) (updF h p b) := by
  have h1 := heap_setCell_same w R (p * 4) _ _ (.int .i64 a) e
  have h2 := heap_setCell_same _ R (p * 4 + 1) _ _ (.int .i64 b) h1
  have h3 := heap_setCell_same _ R (p * 4 + 2) _ _ (.int .i64 0) h2
  have h4 := heap_setCell_same _ R (p * 4 + 3) _ _ (.int .i64 0) h3
  refine Eq.trans h4 ?_
  clear h1 h2 h3 h4 e
  congr 2
  apply Array.ext'
  simp only [eCells, Array.toList_setIfInBounds]
  apply List.ext_getElem
  · simp
  · intro j h1 h2
    rw [List.getElem_set, List.getElem_set, List.getElem_set, List.getElem_set]
    simp only [List.getElem_map, List.getElem_range]
    unfold eCell updF
    by_cases c3 : p * 4 + 3 = j
    · subst c3; rw [if_pos rfl, if_neg (by omega), if_neg (by omega)]
    · rw [if_neg c3]
      by_cases c2 : p * 4 + 2 = j
      · subst c2; rw [if_pos rfl, if_neg (by omega), if_neg (by omega)]
      · rw [if_neg c2]
        by_cases c1 : p * 4 + 1 = j
        · subst c1; rw [if_pos rfl, if_neg (by omega), if_pos (by omega), if_pos (by omega)]
        · rw [if_neg c1]
          by_cases c0 : p * 4 = j
          · subst c0; rw [if_pos rfl, if_pos (by omega), if_pos (by omega)]
          · rw [if_neg c0]
            by_cases d0 : j % 4 = 0
            · rw [if_pos d0, if_pos d0, if_neg (by omega)]
            · rw [if_neg d0, if_neg d0]
              by_cases d1 : j % 4 = 1
              · rw [if_pos d1, if_pos d1, if_neg (by omega)]
              · rw [if_neg d1, if_neg d1]
theorem eCells_zero (m : Nat) : madeCells #[Value.int .i64 0, .int .i64 0, .int .i64 0, .int .i64 0] (m * 4) = eCells m (fun _ => 0) (fun _ => 0) := by
  apply Array.ext'
  apply List.ext_getElem
  · simp [madeCells, eCells]
  · intro j h1 h2
    have e : ∀ q, q < 4 → (#[Value.int .i64 0, .int .i64 0, .int .i64 0, .int .i64 0] : Array Value)[q]! = .int .i64 0 := fun q hq => by
      obtain rfl | rfl | rfl | rfl : q = 0 ∨ q = 1 ∨ q = 2 ∨ q = 3 := by omega
      all_goals rfl
    simp only [madeCells, eCells, Array.toList_map, Array.toList_range, List.getElem_map, List.getElem_range]
    unfold eCell
    rw [show (#[Value.int .i64 0, .int .i64 0, .int .i64 0, .int .i64 0] : Array Value).size = 4 from rfl, e (j % 4) (by omega)]
    split
    · rfl
    · split <;> rfl
end
end Go.Proofs.YtlpfecjkkgccgaaDoor
/- Edges laid at their numbers. -/
namespace Go.Proofs.YtlpfecjkkgccgaaDoor
open Go.RowKit

structure E4 where
  fr : Int
  out : Int
  to : Int
  inn : Int
deriving DecidableEq
def El.e4 (x : El) : E4 := ⟨x.fr, x.out, x.to, x.inn⟩
def e40 : E4 := ⟨0, 0, 0, 0⟩
/-- Each edge at its number. -/
def outF (l : List El) : Nat → E4 := l.foldl (fun g x => updF g x.idx.toNat x.e4) (fun _ => e40)
theorem outF_snoc (l : List El) (x : El) : outF (l ++ [x]) = updF (outF l) x.idx.toNat x.e4 := by unfold outF; rw [List.foldl_append]; rfl
def fCell (g : Nat → E4) (j : Nat) : Value := if j % 4 = 0 then .int .i64 (g (j / 4)).fr else if j % 4 = 1 then .int .i64 (g (j / 4)).out else if j % 4 = 2 then .int .i64 (g (j / 4)).to else .int .i64 (g (j / 4)).inn
def fCells (m : Nat) (g : Nat → E4) : Array Value := ((List.range (m * 4)).map (fCell g)).toArray
/-- Block R holds m edges, with their ends. -/
def FB (w : World) (R m : Nat) (g : Nat → E4) : Prop := w.heap[R]? = some (.cells (fCells m g) 118 (0, 0))
section
variable {w w' : World} {R m : Nat} {g : Nat → E4}
theorem FB.lt (e : FB w R m g) : R < w.heap.size := lt_of_block e
theorem FB.free (e : FB w R m g) (j : Nat) : w.frozen? ⟨R, j, none⟩ = false := frozen_of_row _ _ j _ _ e
theorem FB.at_ (e : FB w R m g) {p : Nat} (hp : p < m) : w.cell? ⟨R, p * 4, none⟩ = some (.int .i64 (g p).fr) ∧ w.cell? ⟨R, p * 4 + 1, none⟩ = some (.int .i64 (g p).out) ∧ w.cell? ⟨R, p * 4 + 2, none⟩ = some (.int .i64 (g p).to) ∧ w.cell? ⟨R, p * 4 + 3, none⟩ = some (.int .i64 (g p).inn) := by
  have key : ∀ j, j < m * 4 → w.cell? ⟨R, j, none⟩ = some (fCell g j) := fun j hj => by
    rw [cell_of_row w R j _ _ _ e]; simp [fCells, hj]
  refine ⟨?_, ?_, ?_, ?_⟩
  · rw [key _ (by omega)]; unfold fCell; rw [if_pos (by omega), show p * 4 / 4 = p by omega]
  · rw [key _ (by omega)]; unfold fCell; rw [if_neg (by omega), if_pos (by omega), show (p * 4 + 1) / 4 = p by omega]
  · rw [key _ (by omega)]; unfold fCell; rw [if_neg (by omega), if_neg (by omega), if_pos (by omega), show (p * 4 + 2) / 4 = p by omega]
  · rw [key _ (by omega)]; unfold fCell; rw [if_neg (by omega), if_neg (by omega), if_neg (by omega), show (p * 4 + 3) / 4 = p by omega]
theorem FB.put (e : FB w R m g) (p : Nat) (x : E4) : FB ((((w.setCell ⟨R, p * 4, none⟩ (.int .i64 x.fr)).setCell ⟨R, p * 4 + 1, none⟩ (.int .i64 x.out)).setCell ⟨R, p * 4 + 2, none⟩ (.int .i64 x.to)).setCell ⟨R, p * 4 + 3, none⟩ (.int .i64 x.inn)) R m (updF g p x) := by
  have h1 := heap_setCell_same w R (p * 4) _ _ (.int .i64 x.fr) e
  have h2 := heap_setCell_same _ R (p * 4 + 1) _ _ (.int .i64 x.out) h1
  have h3 := heap_setCell_same _ R (p * 4 + 2) _ _ (.int .i64 x.to) h2
  have h4 := heap_setCell_same _ R (p * 4 + 3) _ _ (.int .i64 x.inn) h3
  refine Eq.trans h4 ?_
  clear h1 h2 h3 h4 e
  congr 2
  apply Array.ext'
  simp only [fCells, Array.toList_setIfInBounds]
  apply List.ext_getElem
  · simp
  · intro j h1 h2
    rw [List.getElem_set, List.getElem_set, List.getElem_set, List.getElem_set]
    simp only [List.getElem_map, List.getElem_range]
    unfold fCell updF
    by_cases c3 : p * 4 + 3 = j
    · subst c3; rw [if_pos rfl, if_neg (by omega), if_neg (by omega), if_neg (by omega), if_pos (by omega)]
    · rw [if_neg c3]
      by_cases c2 : p * 4 + 2 = j
      · subst c2; rw [if_pos rfl, if_neg (by omega), if_neg (by omega), if_pos (by omega), if_pos (by omega)]
      · rw [if_neg c2]
        by_cases c1 : p * 4 + 1 = j
        · subst c1; rw [if_pos rfl, if_neg (by omega), if_pos (by omega), if_pos (by omega)]
        · rw [if_neg c1]
          by_cases c0 : p * 4 = j
          · subst c0; rw [if_pos rfl, if_pos (by omega), if_pos (by omega)]
          · rw [if_neg c0, if_neg (show ¬ j / 4 = p by omega)]
theorem fCells_zero (m : Nat) : madeCells #[Value.int .i64 0, .int .i64 0, .int .i64 0, .int .i64 0] (m * 4) = fCells m (fun _ => e40) := by
  rw [eCells_zero]
  unfold eCells fCells
  refine congrArg List.toArray (List.map_congr_left fun j _ => ?_)
  unfold eCell fCell e40
  simp only
  split
  · rfl
  · split
    · rfl
    · split <;> rfl
end
/-- The numbers of the edges in the line. -/
def IdxB (P N : Nat) (s : Ln) : Prop := ∀ p, p < P → 0 ≤ s.idx p ∧ s.idx p < N
theorem IdxB.step {P N : Nat} {s : Ln} (h : IdxB P N s) (k q side : Nat) (hk : P + 2 * k + side < N) : IdxB P N (eStep P s k q side) := fun p hp => by
  unfold eStep Ln.put updF
  simp only
  split
  · omega
  · exact h p hp
theorem idx_work {P n N : Nat} (pls : Nat → Nat) (hN : P + 2 * n ≤ N) : ∀ k, k ≤ n → IdxB P N (eWork P pls k)
  | 0, _ => fun p hp => by unfold eWork ln0; simp only; omega
  | k + 1, hk => by
    have ih := idx_work pls hN k (by omega)
    exact (ih.step k _ 0 (by omega)).step k _ 1 (by omega)
theorem idx_all {P n : Nat} (pls : Nat → Nat) (hpl : ∀ k, k < n → pls k + 2 ≤ P) : ∀ x ∈ eAll P pls n, 0 ≤ x.idx ∧ x.idx < (P + 2 * n : Nat) := by
  have hl : ∀ k, k ≤ n → ∀ x ∈ eList P pls k, 0 ≤ x.idx ∧ x.idx < (P + 2 * n : Nat) := by
    intro k
    induction k with
    | zero => intro _ x hx; cases hx
    | succ k ih =>
      intro hk x hx
      have h1 := idx_work pls (show P + 2 * n ≤ P + 2 * n by omega) k (by omega)
      have h2 := h1.step k (pls k + 0) 0 (by omega)
      have hp := hpl k (by omega)
      rw [eList, sdL, sdL, sdL] at hx
      rcases List.mem_append.1 hx with hx | hx
      · rcases List.mem_append.1 hx with hx | hx
        · exact ih (by omega) x hx
        · rw [List.mem_singleton.1 hx]
          exact h1 (pls k + 0) (by omega)
      · rw [List.mem_singleton.1 hx]
        exact h2 (pls k + 1) (by omega)
  intro x hx
  rcases List.mem_append.1 hx with hx | hx
  · exact hl n (Nat.le_refl _) x hx
  · obtain ⟨p, hp, rfl⟩ := List.mem_map.1 hx
    exact idx_work pls (Nat.le_refl _) n (Nat.le_refl _) p (List.mem_range.1 hp)
end Go.Proofs.YtlpfecjkkgccgaaDoor
/- Sets of works as seven words: plain. -/
namespace Go.Proofs.YtlpfecjkkgccgaaDoor
open Go.RowKit

/-- The word k of a set. -/
def wd (S k : Nat) : Nat := S / 2 ^ (64 * k) % 2 ^ 64
theorem wd_lt (S k : Nat) : wd S k < 2 ^ 64 := Nat.mod_lt _ (Nat.two_pow_pos _)
theorem wd_bit (S k j : Nat) : (wd S k).testBit j = (decide (j < 64) && S.testBit (64 * k + j)) := by
  unfold wd
  rw [Nat.testBit_mod_two_pow, Nat.testBit_div_two_pow, Nat.add_comm]
theorem wd_or (S T k : Nat) : wd (S ||| T) k = wd S k ||| wd T k := by
  apply Nat.eq_of_testBit_eq
  intro j
  rw [Nat.testBit_or, wd_bit, wd_bit, wd_bit, Nat.testBit_or]
  cases decide (j < 64) <;> simp
theorem wd_put (S i : Nat) : wd (S ||| 2 ^ i) (i / 64) = wd S (i / 64) ||| 2 ^ (i % 64) := by
  apply Nat.eq_of_testBit_eq
  intro j
  rw [Nat.testBit_or, wd_bit, wd_bit, Nat.testBit_or, Nat.testBit_two_pow, Nat.testBit_two_pow]
  by_cases h : j < 64
  · have e : (i = 64 * (i / 64) + j) = (i % 64 = j) := by apply propext; omega
    simp [h, e]
  · have : ¬ i % 64 = j := by omega
    simp [h, this]
theorem wd_put_ne (S i k : Nat) (h : k ≠ i / 64) : wd (S ||| 2 ^ i) k = wd S k := by
  apply Nat.eq_of_testBit_eq
  intro j
  rw [wd_bit, wd_bit, Nat.testBit_or, Nat.testBit_two_pow]
  by_cases hj : j < 64
  · have : ¬ i = 64 * k + j := by omega
    simp [this]
  · simp [hj]
/-- Is the word k of one set in that of another one? -/
def winW (S T k : Nat) : Bool := decide (wd S k &&& wd T k = wd S k)
theorem winW_iff (S T k : Nat) : winW S T k = true ↔ ∀ j, j < 64 → S.testBit (64 * k + j) = true → T.testBit (64 * k + j) = true := by
  unfold winW
  rw [decide_eq_true_eq]
  constructor
  · intro h j hj hs
    have := congrArg (fun z => Nat.testBit z j) h
    simp only [Nat.testBit_and, wd_bit, hj, decide_true, Bool.true_and, hs] at this
    simpa using this
  · intro h
    apply Nat.eq_of_testBit_eq
    intro j
    rw [Nat.testBit_and, wd_bit, wd_bit]
    by_cases hj : j < 64
    · have := h j hj
      cases h1 : S.testBit (64 * k + j) <;> simp_all
    · simp [hj]
/-- Of the first n words. -/
def winN (S T : Nat) : Nat → Bool
  | 0 => true
  | n + 1 => winN S T n && winW S T n
theorem winN_iff (S T : Nat) : ∀ n, winN S T n = true ↔ ∀ i, i < 64 * n → S.testBit i = true → T.testBit i = true
  | 0 => by simp [winN]
  | n + 1 => by
    rw [winN, Bool.and_eq_true, winN_iff S T n, winW_iff]
    constructor
    · rintro ⟨h1, h2⟩ i hi hs
      rcases Nat.lt_or_ge i (64 * n) with h | h
      · exact h1 i h hs
      · have := h2 (i - 64 * n) (by omega)
        rw [show 64 * n + (i - 64 * n) = i by omega] at this
        exact this hs
    · intro h
      exact ⟨fun i hi => h i (by omega), fun j hj => h _ (by omega)⟩
theorem winN_mono (S T : Nat) : ∀ n k, k ≤ n → winN S T k = false → winN S T n = false
  | 0, k, h, hf => by obtain rfl : k = 0 := by omega
                      exact hf
  | n + 1, k, h, hf => by
    rcases Nat.lt_or_ge n k with h1 | h1
    · obtain rfl : k = n + 1 := by omega
      exact hf
    · rw [winN, winN_mono S T n k h1 hf]; rfl
theorem wraps64 : ∀ n : Int, 0 ≤ n → n < 2 ^ 64 → IntKind.u64.wrap n = n := fun n h0 h1 => by
  simp [IntKind.wrap, IntKind.bits, IntKind.signed]; omega
/-- The cells of a set. -/
def SetAt (w : World) (R off S : Nat) : Prop := ∀ k, k < 7 → w.cell? ⟨R, off + k, none⟩ = some (.int .u64 (wd S k : Nat)) ∧ w.frozen? ⟨R, off + k, none⟩ = false
end Go.Proofs.YtlpfecjkkgccgaaDoor
/- What the checks of a sheet say, as plain functions. -/
namespace Go.Proofs.YtlpfecjkkgccgaaDoor
def touchB (a b : Int) : Bool := decide (a - b ≤ 1 ∧ b - a ≤ 1)
def letterB (c : UInt8) : Bool := [67, 84, 76, 82, 80, 99, 116, 108, 114].contains c
/-- The word has a letter that is none. -/
def formW (s : ByteArray) : Bool := s.data.toList.any fun c => !letterB c
def errWord (s : ByteArray) : Int := if 16 < s.size then 3 else if formW s = true then 6 else 0
def longW (x : GW) : Bool := decide (16 < x.word.size)
def badW (p : Int) (x : GW) : Bool := decide ((x.kind ≠ 1 ∧ x.kind ≠ 2) ∨ x.pl < 0 ∨ p - 2 < x.pl ∨ (x.kind = 2 ∧ (!x.word.toList.isEmpty) = true))
def errSheet (p : Int) (ws : List GW) : Int :=
  if 24 < p ∨ 400 < ws.length ∨ ws.any longW = true then 3 else if p < 2 then 2 else if ws.any (badW p) = true then 2 else if ws.any (fun x => formW x.word) = true then 6 else 0
end Go.Proofs.YtlpfecjkkgccgaaDoor
/- How many orders there are: counted over sets of works, with a limit. Plain functions. -/
namespace Go.Proofs.YtlpfecjkkgccgaaDoor

def freeB (bef : Nat → Nat) (s i : Nat) : Bool := !s.testBit i && decide (bef i &&& s = bef i)
def accF (g : Nat → Int) (bef : Nat → Nat) (s : Nat) : Nat → Int
  | 0 => 0
  | k + 1 => if freeB bef s k = true then min (accF g bef s k + g (s ||| 2 ^ k)) 1000000001 else accF g bef s k
def cntF (n : Nat) (bef : Nat → Nat) : Nat → Nat → Int
  | 0, _ => 0
  | f + 1, s => if s = 2 ^ n - 1 then 1 else accF (cntF n bef f) bef s n
/-- How many orders of the rest there are, at most one more than the limit. -/
def cntN (n : Nat) (bef : Nat → Nat) (s : Nat) : Int := cntF n bef (n + 1) s
/-- The works that are not done. -/
def miss (n s : Nat) : Nat := (List.range n).countP fun i => !s.testBit i

theorem testBit_set (s k i : Nat) : (s ||| 2 ^ k).testBit i = (s.testBit i || decide (k = i)) := by
  rw [Nat.testBit_or, Nat.testBit_two_pow]
theorem miss_le (n s : Nat) : miss n s ≤ n := by
  unfold miss; have := List.countP_le_length (p := fun i => !s.testBit i) (l := List.range n); simpa using this
theorem countP_lt {l : List Nat} {p q : Nat → Bool} {k : Nat} (hk : k ∈ l) (hpq : ∀ i, q i = true → p i = true) (h1 : p k = true) (h2 : q k = false) : l.countP q < l.countP p := by
  induction l with
  | nil => cases hk
  | cons a l ih =>
    have hle : l.countP q ≤ l.countP p := List.countP_mono_left fun i _ h => hpq i h
    rw [List.countP_cons, List.countP_cons]
    rcases List.mem_cons.1 hk with rfl | hk
    · rw [h1, h2]; simp; omega
    · have := ih hk
      by_cases hq : q a = true
      · rw [hq, hpq a hq]; simp; omega
      · have hq' : q a = false := by simpa using hq
        rw [hq']; simp; split <;> omega
theorem miss_set {n s k : Nat} (hk : k < n) (h : s.testBit k = false) : miss n (s ||| 2 ^ k) < miss n s := by
  unfold miss
  refine countP_lt (k := k) (by simpa using hk) (fun i hi => ?_) (by simp [h]) (by simp)
  simp only [testBit_set, Bool.not_or, Bool.and_eq_true] at hi
  exact hi.1
theorem freeB_bit {bef : Nat → Nat} {s k : Nat} (h : freeB bef s k = true) : s.testBit k = false := by
  unfold freeB at h; simp at h; exact h.1
theorem accF_congr {g g' : Nat → Int} {bef : Nat → Nat} {s : Nat} : ∀ n, (∀ k, k < n → freeB bef s k = true → g (s ||| 2 ^ k) = g' (s ||| 2 ^ k)) → accF g bef s n = accF g' bef s n
  | 0, _ => rfl
  | k + 1, h => by
    have := accF_congr (g := g) (g' := g') (bef := bef) (s := s) k (fun j hj => h j (by omega))
    unfold accF
    split
    · rename_i hf; rw [this, h k (by omega) hf]
    · exact this
theorem cntF_stable (n : Nat) (bef : Nat → Nat) : ∀ f f' s, miss n s < f → miss n s < f' → cntF n bef f s = cntF n bef f' s
  | 0, _, _, h, _ => absurd h (by omega)
  | _ + 1, 0, _, _, h => absurd h (by omega)
  | f + 1, f' + 1, s, h, h' => by
    unfold cntF
    split
    · rfl
    · refine accF_congr n fun k hk hf => ?_
      have := miss_set hk (freeB_bit hf)
      exact cntF_stable n bef f f' _ (by omega) (by omega)
theorem cntN_full (n : Nat) (bef : Nat → Nat) : cntN n bef (2 ^ n - 1) = 1 := by unfold cntN cntF; rw [if_pos rfl]
theorem cntN_step (n : Nat) (bef : Nat → Nat) (s : Nat) (h : s ≠ 2 ^ n - 1) : cntN n bef s = accF (cntN n bef) bef s n := by
  unfold cntN
  rw [cntF, if_neg h]
  refine accF_congr n fun k hk hf => ?_
  have := miss_set hk (freeB_bit hf)
  have := miss_le n s
  exact cntF_stable n bef _ _ _ (by omega) (by omega)
theorem accF_bounds {g : Nat → Int} {bef : Nat → Nat} {s : Nat} (hg : ∀ t, 0 ≤ g t) : ∀ n, 0 ≤ accF g bef s n ∧ accF g bef s n ≤ 1000000001
  | 0 => by unfold accF; omega
  | k + 1 => by
    have := accF_bounds (bef := bef) (s := s) hg k
    have := hg (s ||| 2 ^ k)
    unfold accF
    split <;> omega
theorem cntF_bounds (n : Nat) (bef : Nat → Nat) : ∀ f s, 0 ≤ cntF n bef f s ∧ cntF n bef f s ≤ 1000000001
  | 0, _ => by unfold cntF; omega
  | f + 1, s => by
    unfold cntF
    split
    · omega
    · exact accF_bounds (fun t => (cntF_bounds n bef f t).1) n
theorem cntN_bounds (n : Nat) (bef : Nat → Nat) (s : Nat) : 0 ≤ cntN n bef s ∧ cntN n bef s ≤ 1000000001 := cntF_bounds n bef _ s
end Go.Proofs.YtlpfecjkkgccgaaDoor
/- A valid sheet, part by part. -/
namespace Go.Proofs.YtlpfecjkkgccgaaDoor
open Go.RowKit

theorem okAll {p : Int} {ws : List GW} (h : errSheet p ws = 0) : 2 ≤ p ∧ p ≤ 24 ∧ ws.length ≤ 400 ∧ ∀ x ∈ ws, x.word.size ≤ 16 ∧ 0 ≤ x.pl ∧ x.pl ≤ p - 2 ∧ formW x.word = false := by
  unfold errSheet at h
  split at h
  · omega
  · rename_i h1
    split at h
    · omega
    · rename_i h2
      split at h
      · omega
      · rename_i h3
        split at h
        · omega
        · rename_i h4
          refine ⟨by omega, by omega, by omega, fun x hx => ?_⟩
          have e1 := List.any_eq_false.1 (by simpa using (show ¬ ws.any longW = true from fun h => h1 (.inr (.inr h)))) x hx
          have e3 := List.any_eq_false.1 (by simpa using h3) x hx
          have e4 := List.any_eq_false.1 (by simpa using h4) x hx
          unfold longW at e1
          unfold badW at e3
          simp only [decide_eq_true_eq, not_or] at e1 e3
          exact ⟨by omega, by omega, by omega, by simpa using e4⟩
theorem rdW_lt {w : World} {A : Option Addr} {ws : List GW} (h : RdW w A ws) (h0 : 0 < ws.length) (b off : Nat) (e : A = some ⟨b, off, none⟩) : b < w.heap.size := by
  obtain ⟨b', off', e', hlt, _⟩ := h.2.2 (by omega)
  rw [e] at e'
  have := congrArg Addr.block (Option.some.inj e')
  simp at this
  omega
def Box1 (w w1 : World) (p : Int) (A : Option Addr) (c n : Nat) : Prop :=
  w1.cell? ⟨w.heap.size, 0, none⟩ = some (.int .i64 p) ∧ w1.cell? ⟨w.heap.size, 1, none⟩ = some (.slice A n c) ∧ w.heap.size < w1.heap.size
theorem Box1.later {w w1 w2 : World} {p : Int} {A : Option Addr} {c n : Nat} (h : Box1 w w1 p A c n) (hb : Below w1.heap.size w1 w2) : Box1 w w2 p A c n :=
  ⟨below_at hb (Nat.le_refl _) h.1, below_at hb (Nat.le_refl _) h.2.1, Nat.lt_of_lt_of_le h.2.2 hb.size⟩
theorem Box1.made (w : World) (p : Int) (A : Option Addr) (c n T : Nat) : Box1 w (w.alloc (.cells #[.int .i64 p, .slice A n c] T)) p A c n :=
  ⟨by go_simp, by go_simp, by simp⟩
end Go.Proofs.YtlpfecjkkgccgaaDoor
/- Orders that respect what comes directly before what: plain. L b holds, as bits, what comes directly before b. -/
namespace Go.Proofs.YtlpfecjkkgccgaaDoor

/-- The first number below m with p; m if there is none. -/
def fstF (p : Nat → Bool) : Nat → Nat
  | 0 => 0
  | m + 1 => if fstF p m < m then fstF p m else if p m = true then m else m + 1
theorem fstF_le (p : Nat → Bool) : ∀ m, fstF p m ≤ m
  | 0 => Nat.le_refl _
  | m + 1 => by
    have := fstF_le p m
    unfold fstF
    split
    · omega
    · split <;> omega
theorem fstF_none (p : Nat → Bool) : ∀ m, fstF p m = m ↔ ∀ k, k < m → p k = false
  | 0 => by simp [fstF]
  | m + 1 => by
    have ih := fstF_none p m
    have hl := fstF_le p m
    unfold fstF
    by_cases h : fstF p m < m
    · rw [if_pos h]
      constructor
      · intro e; omega
      · intro e
        have := ih.2 fun k hk => e k (by omega)
        omega
    · rw [if_neg h]
      have h2 := ih.1 (by omega)
      by_cases hp : p m = true
      · rw [if_pos hp]
        constructor
        · intro e; omega
        · intro e
          rw [e m (by omega)] at hp; cases hp
      · rw [if_neg hp]
        refine ⟨fun _ k hk => ?_, fun _ => rfl⟩
        by_cases hkm : k = m
        · subst hkm; simpa using hp
        · exact h2 k (by omega)
theorem fstF_lt {p : Nat → Bool} : ∀ {m}, fstF p m < m → p (fstF p m) = true ∧ ∀ k, k < fstF p m → p k = false
  | 0, h => absurd h (by omega)
  | m + 1, h => by
    have hl := fstF_le p m
    unfold fstF at h ⊢
    by_cases h1 : fstF p m < m
    · rw [if_pos h1]
      exact fstF_lt h1
    · rw [if_neg h1] at h ⊢
      by_cases hp : p m = true
      · rw [if_pos hp]
        exact ⟨hp, (fstF_none p m).1 (by omega)⟩
      · rw [if_neg hp] at h; omega
theorem fstF_eq {p : Nat → Bool} {m k : Nat} (hk : k < m) (hp : p k = true) (hn : ∀ j, j < k → p j = false) : fstF p m = k := by
  have hl := fstF_le p m
  rcases Nat.lt_or_ge (fstF p m) m with h | h
  · obtain ⟨h1, h2⟩ := fstF_lt h
    rcases Nat.lt_trichotomy (fstF p m) k with h3 | h3 | h3
    · rw [hn _ h3] at h1; cases h1
    · exact h3
    · rw [h2 k h3] at hp; cases hp
  · have := (fstF_none p m).1 (by omega) k hk
    rw [this] at hp; cases hp
theorem fstF_some {p : Nat → Bool} {m k : Nat} (hk : k < m) (hp : p k = true) : fstF p m < m ∧ fstF p m ≤ k := by
  have hl := fstF_le p m
  have h : fstF p m < m := by
    rcases Nat.lt_or_ge (fstF p m) m with h | h
    · exact h
    · have := (fstF_none p m).1 (by omega) k hk
      rw [this] at hp; cases hp
  refine ⟨h, ?_⟩
  rcases Nat.lt_or_ge k (fstF p m) with h3 | h3
  · rw [(fstF_lt h).2 k h3] at hp; cases hp
  · exact h3
theorem fstF_congr {p q : Nat → Bool} : ∀ m, (∀ k, k < m → p k = q k) → fstF p m = fstF q m
  | 0, _ => rfl
  | m + 1, h => by
    unfold fstF
    rw [fstF_congr m fun k hk => h k (by omega), h m (by omega)]

/-- One more work of an order. -/
def pStep (n : Nat) (L : Nat → Nat) (S : Nat) (x : Int) : Option Nat := if 0 ≤ x ∧ x < n ∧ freeB L S x.toNat = true then some (S ||| 2 ^ x.toNat) else none
def pRun (n : Nat) (L : Nat → Nat) : Nat → List Int → Option Nat
  | S, [] => some S
  | S, x :: l => match pStep n L S x with
    | some T => pRun n L T l
    | none => none
/-- The least works that may come, f of them. -/
def goO (n : Nat) (L : Nat → Nat) : Nat → Nat → Option (List Int)
  | 0, _ => some []
  | f + 1, S => if fstF (freeB L S) n < n then (goO n L f (S ||| 2 ^ fstF (freeB L S) n)).map (((fstF (freeB L S) n : Nat) : Int) :: ·) else none
def OrdL (n : Nat) (L : Nat → Nat) (l : List Int) : Prop := l.length = n ∧ (pRun n L 0 l).isSome = true
section
variable {n : Nat} {L : Nat → Nat}
theorem freeB_iff (S b : Nat) : freeB L S b = true ↔ S.testBit b = false ∧ ∀ a, (L b).testBit a = true → S.testBit a = true := by
  unfold freeB
  rw [Bool.and_eq_true, Bool.not_eq_true', decide_eq_true_eq]
  refine and_congr_right fun _ => ?_
  constructor
  · intro h a ha
    have := congrArg (fun z => z.testBit a) h
    simp only [Nat.testBit_and, ha, Bool.true_and] at this
    exact this
  · intro h
    apply Nat.eq_of_testBit_eq
    intro a
    rw [Nat.testBit_and]
    cases ha : (L b).testBit a with
    | false => rfl
    | true => rw [h a ha]; rfl
theorem pStep_some {S T : Nat} {x : Int} (h : pStep n L S x = some T) : ∃ k : Nat, x = k ∧ k < n ∧ freeB L S k = true ∧ T = S ||| 2 ^ k := by
  unfold pStep at h
  split at h
  · rename_i c
    cases h
    exact ⟨x.toNat, by omega, by omega, c.2.2, rfl⟩
  · cases h
theorem pStep_nat {S k : Nat} (hk : k < n) (hf : freeB L S k = true) : pStep n L S (k : Int) = some (S ||| 2 ^ k) := by
  unfold pStep
  rw [if_pos ⟨by omega, by omega, by simpa using hf⟩]
  simp
theorem pRun_nat {S k : Nat} {l : List Int} (hk : k < n) (hf : freeB L S k = true) : pRun n L S ((k : Int) :: l) = pRun n L (S ||| 2 ^ k) l := by
  rw [pRun, pStep_nat hk hf]
theorem pRun_cons {S : Nat} {x : Int} {l : List Int} (h : (pRun n L S (x :: l)).isSome = true) : ∃ k : Nat, x = k ∧ k < n ∧ freeB L S k = true ∧ (pRun n L (S ||| 2 ^ k) l).isSome = true := by
  rw [pRun] at h
  cases hs : pStep n L S x with
  | none => rw [hs] at h; cases h
  | some T =>
    rw [hs] at h
    obtain ⟨k, h1, h2, h3, rfl⟩ := pStep_some hs
    exact ⟨k, h1, h2, h3, h⟩
theorem pRun_snoc (S : Nat) (l : List Int) (x : Int) : pRun n L S (l ++ [x]) = (pRun n L S l).bind (pStep n L · x) := by
  induction l generalizing S with
  | nil =>
    show (match pStep n L S x with | some T => pRun n L T [] | none => none) = pStep n L S x
    cases pStep n L S x <;> rfl
  | cons y l ih =>
    show (match pStep n L S y with | some T => pRun n L T (l ++ [x]) | none => none) = _
    rw [pRun]
    cases pStep n L S y with
    | none => rfl
    | some T => exact ih T
theorem pRun_app (S : Nat) (l m : List Int) : pRun n L S (l ++ m) = (pRun n L S l).bind (pRun n L · m) := by
  induction l generalizing S with
  | nil => rfl
  | cons y l ih =>
    show (match pStep n L S y with | some T => pRun n L T (l ++ m) | none => none) = _
    rw [pRun]
    cases pStep n L S y with
    | none => rfl
    | some T => exact ih T
theorem miss_step' {s k : Nat} (h : s.testBit k = false) : ∀ n, k < n → miss n (s ||| 2 ^ k) + 1 = miss n s := by
  have hsucc : ∀ n s, miss (n + 1) s = miss n s + (if s.testBit n = true then 0 else 1) := fun n s => by
    unfold miss
    rw [List.range_succ, List.countP_append]
    simp only [List.countP_cons, List.countP_nil, Nat.zero_add]
    cases s.testBit n <;> simp
  have hhigh : ∀ n, n ≤ k → miss n (s ||| 2 ^ k) = miss n s := fun n => by
    induction n with
    | zero => intro _; rfl
    | succ n ih =>
      intro hn
      rw [hsucc, hsucc, ih (by omega), testBit_set, decide_eq_false (by omega : ¬ k = n), Bool.or_false]
  intro n
  induction n with
  | zero => intro hk; omega
  | succ n ih =>
    intro hk
    rw [hsucc, hsucc, testBit_set]
    by_cases hkn : k = n
    · subst hkn
      rw [hhigh k (Nat.le_refl _), h]
      simp
    · have := ih (by omega)
      rw [decide_eq_false hkn, Bool.or_false]
      omega
theorem miss_nil (n : Nat) : miss n 0 = n := by unfold miss; simp
theorem pRun_miss : ∀ {l : List Int} {S T : Nat}, pRun n L S l = some T → miss n T + l.length = miss n S
  | [], S, T, h => by cases h; rfl
  | x :: l, S, T, h => by
    obtain ⟨k, rfl, hk, hf, _⟩ := pRun_cons (by rw [h]; rfl)
    rw [pRun_nat hk hf] at h
    have := pRun_miss h
    have h2 := miss_step' (freeB_bit hf) n hk
    simp only [List.length_cons]
    omega
/-- What has been done stays, and the works of the run have been done. -/
theorem pRun_bit : ∀ {l : List Int} {S T : Nat}, pRun n L S l = some T → ∀ a, T.testBit a = true ↔ S.testBit a = true ∨ (a : Int) ∈ l
  | [], S, T, h => fun a => by cases h; simp
  | x :: l, S, T, h => fun a => by
    obtain ⟨k, rfl, hk, hf, _⟩ := pRun_cons (by rw [h]; rfl)
    rw [pRun_nat hk hf] at h
    rw [pRun_bit h a, testBit_set, Bool.or_eq_true, decide_eq_true_eq, List.mem_cons, or_assoc]
    refine or_congr Iff.rfl (or_congr ?_ Iff.rfl)
    omega
theorem pRun_fresh : ∀ {l : List Int} {S T : Nat}, pRun n L S l = some T → ∀ a : Nat, (a : Int) ∈ l → S.testBit a = false
  | [], _, _, _ => fun a h => by cases h
  | x :: l, S, T, h => fun a ha => by
    obtain ⟨k, rfl, hk, hf, _⟩ := pRun_cons (by rw [h]; rfl)
    rw [pRun_nat hk hf] at h
    rcases List.mem_cons.1 ha with e | e
    · have : a = k := by omega
      subst this; exact freeB_bit hf
    · have := pRun_fresh h a e
      rw [testBit_set, Bool.or_eq_false_iff] at this
      exact this.1
/-- A work that may come is done first: the others stay a run. -/
theorem pRun_first : ∀ {l : List Int} {S T b : Nat}, pRun n L S l = some T → (b : Int) ∈ l → pRun n L (S ||| 2 ^ b) (l.erase (b : Int)) = some T
  | [], _, _, _, _, h => by cases h
  | x :: l, S, T, b, h, hb => by
    obtain ⟨k, rfl, hk, hf, _⟩ := pRun_cons (by rw [h]; rfl)
    rw [pRun_nat hk hf] at h
    by_cases e : k = b
    · subst e
      rw [List.erase_cons_head]
      exact h
    · have hb2 : (b : Int) ∈ l := by
        rcases List.mem_cons.1 hb with e2 | e2
        · exact absurd (by omega) e
        · exact e2
      rw [List.erase_cons_tail (by simp; omega)]
      have hf2 : freeB L (S ||| 2 ^ b) k = true := by
        rw [freeB_iff] at hf ⊢
        refine ⟨?_, fun a ha => ?_⟩
        · rw [testBit_set, hf.1, decide_eq_false (Ne.symm e)]; rfl
        · rw [testBit_set, hf.2 a ha]; rfl
      rw [pRun_nat hk hf2, show S ||| 2 ^ b ||| 2 ^ k = (S ||| 2 ^ k) ||| 2 ^ b by rw [Nat.or_assoc, Nat.or_comm (2 ^ b), ← Nat.or_assoc]]
      exact pRun_first h hb2
theorem goO_succ {f S : Nat} {l : List Int} (h : goO n L (f + 1) S = some l) : ∃ k m, k < n ∧ freeB L S k = true ∧ (∀ j, j < k → freeB L S j = false) ∧ l = (k : Int) :: m ∧ goO n L f (S ||| 2 ^ k) = some m := by
  rw [goO] at h
  split at h
  · rename_i c
    obtain ⟨h1, h2⟩ := fstF_lt c
    obtain ⟨m, hm, rfl⟩ := Option.map_eq_some_iff.1 h
    exact ⟨_, m, c, h1, h2, rfl, hm⟩
  · cases h
theorem goO_run : ∀ {f S : Nat} {l : List Int}, goO n L f S = some l → l.length = f ∧ (pRun n L S l).isSome = true
  | 0, S, l, h => by cases h; exact ⟨rfl, rfl⟩
  | f + 1, S, l, h => by
    obtain ⟨k, m, hk, hf, _, rfl, hm⟩ := goO_succ h
    obtain ⟨h1, h2⟩ := goO_run hm
    exact ⟨by simp [h1], by rw [pRun_nat hk hf]; exact h2⟩
/-- All that is not done is in a run of as many. -/
theorem mem_run {l : List Int} {S T : Nat} (h : pRun n L S l = some T) (hl : l.length = miss n S) {a : Nat} (ha : a < n) (hS : S.testBit a = false) : (a : Int) ∈ l := by
  have h1 := pRun_miss h
  have h2 : T.testBit a = true := by
    cases ht : T.testBit a with
    | true => rfl
    | false =>
      have := miss_step' ht n ha
      omega
  rcases (pRun_bit h a).1 h2 with h3 | h3
  · rw [hS] at h3; cases h3
  · exact h3
/-- If the rest can be done in some order, the least works that may come do it, and no order is less. -/
theorem goO_some : ∀ {f S : Nat} {l : List Int}, miss n S = f → l.length = f → (pRun n L S l).isSome = true → (goO n L f S).isSome = true
  | 0, _, _, _, _, _ => rfl
  | f + 1, S, l, hm, hl, hr => by
    obtain ⟨T, hT⟩ := Option.isSome_iff_exists.1 hr
    cases l with
    | nil => simp at hl
    | cons x m =>
      obtain ⟨k, rfl, hk, hf, _⟩ := pRun_cons hr
      have hs := fstF_some hk hf
      obtain ⟨g1, g2⟩ := fstF_lt hs.1
      have hmem := mem_run hT (by omega) hs.1 (freeB_bit g1)
      have h2 := pRun_first hT hmem
      rw [goO, if_pos hs.1, Option.isSome_map]
      refine goO_some (l := List.erase _ _) ?_ ?_ (by rw [h2]; rfl)
      · have := miss_step' (freeB_bit g1) n hs.1; omega
      · rw [List.length_erase_of_mem hmem]; omega
/-- Is a list less than another one: at the first place where they differ? -/
def lessL : List Int → List Int → Bool
  | x :: l, y :: m => if x ≠ y then decide (x < y) else lessL l m
  | _, _ => false
theorem goO_least : ∀ {f S : Nat} {l m : List Int}, goO n L f S = some l → (pRun n L S m).isSome = true → lessL m l = false
  | 0, S, l, m, h, _ => by cases h; cases m <;> rfl
  | f + 1, S, l, m, h, hr => by
    obtain ⟨k, l', hk, hf, hn, rfl, hm⟩ := goO_succ h
    cases m with
    | nil => rfl
    | cons y m =>
      obtain ⟨j, rfl, hj, hfj, hrj⟩ := pRun_cons hr
      unfold lessL
      by_cases e : j = k
      · subst e
        rw [if_neg (by simp)]
        exact goO_least hm hrj
      · rw [if_pos (by omega), decide_eq_false_iff_not]
        intro hlt
        rw [hn j (by omega)] at hfj; cases hfj
end
end Go.Proofs.YtlpfecjkkgccgaaDoor
/- How many orders respect what comes directly before what; the next order: plain. -/
namespace Go.Proofs.YtlpfecjkkgccgaaDoor

/-- The sum over the works below k that may be next. -/
def accU (g : Nat → Nat) (L : Nat → Nat) (S : Nat) : Nat → Nat
  | 0 => 0
  | k + 1 => if freeB L S k = true then accU g L S k + g (S ||| 2 ^ k) else accU g L S k
def cntU (n : Nat) (L : Nat → Nat) : Nat → Nat → Nat
  | 0, _ => 0
  | f + 1, S => if S = 2 ^ n - 1 then 1 else accU (cntU n L f) L S n
/-- In how many orders the rest can be done. -/
def cU (n : Nat) (L : Nat → Nat) (S : Nat) : Nat := cntU n L (n + 1) S
section
variable {n : Nat} {L : Nat → Nat}
theorem accU_congr {g g' : Nat → Nat} {S : Nat} : ∀ k, (∀ j, j < k → freeB L S j = true → g (S ||| 2 ^ j) = g' (S ||| 2 ^ j)) → accU g L S k = accU g' L S k
  | 0, _ => rfl
  | k + 1, h => by
    have ih := accU_congr (g := g) (g' := g') (S := S) k fun j hj => h j (by omega)
    unfold accU
    split
    · rename_i c
      rw [ih, h k (by omega) c]
    · exact ih
theorem cntU_stable : ∀ f f' S, miss n S < f → miss n S < f' → cntU n L f S = cntU n L f' S
  | 0, _, _, h, _ => absurd h (by omega)
  | _ + 1, 0, _, _, h => absurd h (by omega)
  | f + 1, f' + 1, S, h, h' => by
    unfold cntU
    split
    · rfl
    · refine accU_congr n fun k hk hf => ?_
      have := miss_set hk (freeB_bit hf)
      exact cntU_stable f f' _ (by omega) (by omega)
theorem cU_full : cU n L (2 ^ n - 1) = 1 := by unfold cU cntU; rw [if_pos rfl]
theorem cU_step {S : Nat} (h : S ≠ 2 ^ n - 1) : cU n L S = accU (cU n L) L S n := by
  unfold cU
  rw [cntU, if_neg h]
  refine accU_congr n fun k hk hf => ?_
  have := miss_set hk (freeB_bit hf)
  have := miss_le n S
  exact cntU_stable _ _ _ (by omega) (by omega)
/-- With a limit it is what is counted with a limit. -/
theorem cntN_cU : ∀ f S, cntF n L f S = min (cntU n L f S : Int) 1000000001
  | 0, S => by unfold cntF cntU; omega
  | f + 1, S => by
    unfold cntF cntU
    split
    · omega
    · have key : ∀ k, accF (cntF n L f) L S k = min (accU (cntU n L f) L S k : Int) 1000000001 := by
        intro k
        induction k with
        | zero => unfold accF accU; omega
        | succ k ih =>
          unfold accF accU
          split
          · rw [ih, cntN_cU f (S ||| 2 ^ k)]
            push_cast
            omega
          · exact ih
      exact key n
theorem accU_mono (g : Nat → Nat) (S : Nat) : ∀ {j k}, j ≤ k → accU g L S j ≤ accU g L S k := by
  intro j k h
  induction k with
  | zero => obtain rfl : j = 0 := by omega
            exact Nat.le_refl _
  | succ k ih =>
    rcases Nat.lt_or_ge j (k + 1) with h1 | h1
    · have := ih (by omega)
      rw [accU]; split <;> omega
    · obtain rfl : j = k + 1 := by omega
      exact Nat.le_refl _
theorem full_has {i : Nat} (hi : i < n) : (2 ^ n - 1).testBit i = true := by rw [Nat.testBit_two_pow_sub_one, decide_eq_true hi]
theorem not_full {S k : Nat} (hk : k < n) (h : S.testBit k = false) : S ≠ 2 ^ n - 1 := fun e => by rw [e, full_has hk] at h; cases h
theorem full_is {S : Nat} (hS : S < 2 ^ n) (h : miss n S = 0) : S = 2 ^ n - 1 := by
  apply Nat.eq_of_testBit_eq
  intro i
  rcases Nat.lt_or_ge i n with hi | hi
  · rw [full_has hi]
    unfold miss at h
    rw [List.countP_eq_zero] at h
    have := h i (List.mem_range.2 hi)
    simpa using this
  · rw [Nat.testBit_lt_two_pow (Nat.lt_of_lt_of_le hS (Nat.pow_le_pow_right (by decide) hi)), Nat.testBit_two_pow_sub_one, decide_eq_false (by omega)]
theorem set_lt {S k : Nat} (hS : S < 2 ^ n) (hk : k < n) : S ||| 2 ^ k < 2 ^ n := Nat.or_lt_two_pow hS (Nat.pow_lt_pow_right (by decide) hk)
theorem run_lt : ∀ {l : List Int} {S T : Nat}, S < 2 ^ n → pRun n L S l = some T → T < 2 ^ n
  | [], S, T, hS, h => by cases h; exact hS
  | x :: l, S, T, hS, h => by
    obtain ⟨k, rfl, hk, hf, _⟩ := pRun_cons (by rw [h]; rfl)
    rw [pRun_nat hk hf] at h
    exact run_lt (set_lt hS hk) h
theorem accU_free {g : Nat → Nat} {S k : Nat} (hf : freeB L S k = true) : accU g L S (k + 1) = accU g L S k + g (S ||| 2 ^ k) := by rw [accU, if_pos hf]
/-- One more work does not make more orders of the rest. -/
theorem cU_sub {S k : Nat} (hk : k < n) (hf : freeB L S k = true) : cU n L (S ||| 2 ^ k) ≤ cU n L S := by
  rw [cU_step (not_full hk (freeB_bit hf))]
  have h1 := accU_free (g := cU n L) hf
  have h2 := accU_mono (L := L) (cU n L) S (show k + 1 ≤ n by omega)
  omega
theorem cU_run : ∀ {l : List Int} {S T : Nat}, pRun n L S l = some T → cU n L T ≤ cU n L S
  | [], S, T, h => by cases h; exact Nat.le_refl _
  | x :: l, S, T, h => by
    obtain ⟨k, rfl, hk, hf, _⟩ := pRun_cons (by rw [h]; rfl)
    rw [pRun_nat hk hf] at h
    exact Nat.le_trans (cU_run h) (cU_sub hk hf)

/-- All that comes before the works of a set is in it. -/
def SndB (n : Nat) (L : Nat → Nat) (U : Nat) : Prop := ∀ b, b < n → U.testBit b = true → ∀ a, (L b).testBit a = true → U.testBit a = true
theorem SndB.put {U b : Nat} (h : SndB n L U) (hf : freeB L U b = true) : SndB n L (U ||| 2 ^ b) := fun c hc hU a ha => by
  rw [testBit_set, Bool.or_eq_true, decide_eq_true_eq] at hU ⊢
  rcases hU with hU | hU
  · exact .inl (h c hc hU a ha)
  · subst hU; exact .inl (((freeB_iff U b).1 hf).2 a ha)
theorem run_filter {U : Nat} (hU : SndB n L U) : ∀ {l : List Int} {S T : Nat}, pRun n L S l = some T → pRun n L (S &&& U) (l.filter fun x => U.testBit x.toNat) = some (T &&& U)
  | [], S, T, h => by cases h; rfl
  | x :: l, S, T, h => by
    obtain ⟨k, rfl, hk, hf, _⟩ := pRun_cons (by rw [h]; rfl)
    rw [pRun_nat hk hf] at h
    have ih := run_filter hU h
    obtain ⟨f1, f2⟩ := (freeB_iff S k).1 hf
    cases hb : U.testBit k with
    | true =>
      have e : (S ||| 2 ^ k) &&& U = (S &&& U) ||| 2 ^ k := by
        apply Nat.eq_of_testBit_eq
        intro i
        rw [Nat.testBit_and, testBit_set, testBit_set, Nat.testBit_and]
        by_cases hi : k = i
        · subst hi; simp [hb]
        · simp [hi]
      rw [e] at ih
      rw [List.filter_cons_of_pos (by simpa using hb), pRun_nat hk]
      · exact ih
      · rw [freeB_iff]
        refine ⟨by rw [Nat.testBit_and, f1]; rfl, fun a ha => ?_⟩
        rw [Nat.testBit_and, f2 a ha, hU k hk hb a ha]; rfl
    | false =>
      have e : (S ||| 2 ^ k) &&& U = S &&& U := by
        apply Nat.eq_of_testBit_eq
        intro i
        rw [Nat.testBit_and, testBit_set, Nat.testBit_and]
        by_cases hi : k = i
        · subst hi; simp [hb]
        · simp [hi]
      rw [e] at ih
      rw [List.filter_cons_of_neg (by simp [hb])]
      exact ih
/-- Where there is an order, no set that is sound has more orders of the rest than there are orders. -/
theorem cU_sound {U : Nat} {l : List Int} (hl : OrdL n L l) (hU : SndB n L U) (hlt : U < 2 ^ n) : cU n L U ≤ cU n L 0 := by
  obtain ⟨T, hT⟩ := Option.isSome_iff_exists.1 hl.2
  have h1 := run_filter hU hT
  have hm := pRun_miss hT
  rw [miss_nil, hl.1] at hm
  have hTl := run_lt (Nat.two_pow_pos n) hT
  rw [Nat.zero_and, full_is hTl (by omega)] at h1
  have e : (2 ^ n - 1) &&& U = U := by
    apply Nat.eq_of_testBit_eq
    intro i
    rw [Nat.testBit_and]
    rcases Nat.lt_or_ge i n with hi | hi
    · rw [full_has hi]; simp
    · rw [Nat.testBit_lt_two_pow (Nat.lt_of_lt_of_le hlt (Nat.pow_le_pow_right (by decide) hi))]; simp
  rw [e] at h1
  exact cU_run h1
/-- More that comes before: no more orders. -/
theorem free_more {L' : Nat → Nat} (h : ∀ b a, (L b).testBit a = true → (L' b).testBit a = true) {S k : Nat} (hf : freeB L' S k = true) : freeB L S k = true := by
  rw [freeB_iff] at hf ⊢
  exact ⟨hf.1, fun a ha => hf.2 a (h k a ha)⟩
theorem cU_more {L' : Nat → Nat} (h : ∀ b a, (L b).testBit a = true → (L' b).testBit a = true) : ∀ f S, cntU n L' f S ≤ cntU n L f S
  | 0, _ => Nat.le_refl _
  | f + 1, S => by
    unfold cntU
    split
    · exact Nat.le_refl _
    · have key : ∀ k, accU (cntU n L' f) L' S k ≤ accU (cntU n L f) L S k := by
        intro k
        induction k with
        | zero => exact Nat.le_refl _
        | succ k ih =>
          have := cU_more h f (S ||| 2 ^ k)
          unfold accU
          by_cases c : freeB L' S k = true
          · rw [if_pos c, if_pos (free_more h c)]; omega
          · rw [if_neg c]
            split <;> omega
      exact key n
theorem run_more {L' : Nat → Nat} (h : ∀ b a, (L b).testBit a = true → (L' b).testBit a = true) : ∀ {l : List Int} {S T : Nat}, pRun n L' S l = some T → pRun n L S l = some T
  | [], _, _, hr => hr
  | x :: l, S, T, hr => by
    obtain ⟨k, rfl, hk, hf, _⟩ := pRun_cons (by rw [hr]; rfl)
    rw [pRun_nat hk hf] at hr
    rw [pRun_nat hk (free_more h hf)]
    exact run_more h hr

/-- How many orders are less. -/
def rkU (n : Nat) (L : Nat → Nat) : Nat → List Int → Nat
  | _, [] => 0
  | S, x :: l => accU (cU n L) L S x.toNat + rkU n L (S ||| 2 ^ x.toNat) l
theorem rkU_app : ∀ {l : List Int} {S T : Nat} (m : List Int), pRun n L S l = some T → rkU n L S (l ++ m) = rkU n L S l + rkU n L T m
  | [], S, T, m, h => by cases h; simp [rkU]
  | x :: l, S, T, m, h => by
    obtain ⟨k, rfl, hk, hf, _⟩ := pRun_cons (by rw [h]; rfl)
    rw [pRun_nat hk hf] at h
    have := rkU_app m h
    rw [List.cons_append, rkU, rkU]
    simp only [Int.toNat_natCast]
    omega
theorem rkU_lt : ∀ {l : List Int} {S : Nat}, S < 2 ^ n → (pRun n L S l).isSome = true → l.length = miss n S → rkU n L S l < cU n L S
  | [], S, hS, h, hl => by
    rw [full_is hS hl.symm, cU_full]
    exact Nat.one_pos
  | x :: l, S, hS, h, hl => by
    obtain ⟨k, rfl, hk, hf, hr⟩ := pRun_cons h
    have hm := miss_step' (freeB_bit hf) n hk
    have ih := rkU_lt (set_lt hS hk) hr (by simp at hl; omega)
    have h2 := accU_mono (L := L) (cU n L) S (show k + 1 ≤ n by omega)
    rw [accU_free hf] at h2
    rw [cU_step (not_full hk (freeB_bit hf)), rkU]
    simp only [Int.toNat_natCast]
    omega
theorem accU_none {g : Nat → Nat} {S : Nat} : ∀ {j k}, j ≤ k → (∀ i, j ≤ i → i < k → freeB L S i = false) → accU g L S k = accU g L S j := by
  intro j k h hn
  induction k with
  | zero => obtain rfl : j = 0 := by omega
            rfl
  | succ k ih =>
    rcases Nat.lt_or_ge j (k + 1) with h1 | h1
    · rw [accU, hn k (by omega) (by omega)]
      exact ih (by omega) fun i h2 h3 => hn i h2 (by omega)
    · obtain rfl : j = k + 1 := by omega
      rfl
/-- The least order has no order that is less. -/
theorem rkU_least : ∀ {f S : Nat} {l : List Int}, goO n L f S = some l → rkU n L S l = 0
  | 0, S, l, h => by cases h; rfl
  | f + 1, S, l, h => by
    obtain ⟨k, m, hk, hf, hn, rfl, hm⟩ := goO_succ h
    rw [rkU]
    simp only [Int.toNat_natCast]
    rw [rkU_least hm, accU_none (j := 0) (Nat.zero_le _) fun i _ hi => hn i hi]
    rfl
/-- Is there no work beyond that could come here? At each place of a list. -/
def maxR (n : Nat) (L : Nat → Nat) : Nat → List Int → Prop
  | _, [] => True
  | S, x :: l => (∀ b, x.toNat < b → b < n → freeB L S b = false) ∧ maxR n L (S ||| 2 ^ x.toNat) l
theorem rkU_max : ∀ {l : List Int} {S : Nat}, S < 2 ^ n → (pRun n L S l).isSome = true → l.length = miss n S → maxR n L S l → rkU n L S l + 1 = cU n L S
  | [], S, hS, h, hl, _ => by
    rw [full_is hS hl.symm, cU_full]
    rfl
  | x :: l, S, hS, h, hl, hM => by
    obtain ⟨k, rfl, hk, hf, hr⟩ := pRun_cons h
    have hm := miss_step' (freeB_bit hf) n hk
    simp only [maxR, Int.toNat_natCast] at hM
    have ih := rkU_max (set_lt hS hk) hr (by simp at hl; omega) hM.2
    have h2 := accU_none (g := cU n L) (S := S) (L := L) (show k + 1 ≤ n by omega) fun i h3 h4 => hM.1 i (by omega) h4
    rw [accU_free hf] at h2
    rw [cU_step (not_full hk (freeB_bit hf)), rkU]
    simp only [Int.toNat_natCast]
    omega
/-- The first work beyond one that may come. -/
def overF (n : Nat) (L : Nat → Nat) (S x : Nat) : Nat := fstF (fun b => freeB L S b && decide (x < b)) n
/-- The next order: at the last place below k at which a greater work may come. -/
def nxK (n : Nat) (L : Nat → Nat) (l : List Int) : Nat → Option (List Int)
  | 0 => none
  | k + 1 => match pRun n L 0 (l.take k) with
    | none => none
    | some S => if overF n L S (l.getD k 0).toNat < n then some (l.take k ++ ((overF n L S (l.getD k 0).toNat : Nat) : Int) :: ((goO n L (n - (k + 1)) (S ||| 2 ^ overF n L S (l.getD k 0).toNat)).getD []))
      else nxK n L l k
theorem take_run {l : List Int} {k S : Nat} (hk : k < l.length) (h : (pRun n L 0 l).isSome = true) (hS : pRun n L 0 (l.take k) = some S) :
    ∃ x : Nat, l.getD k 0 = x ∧ x < n ∧ freeB L S x = true ∧ pRun n L 0 (l.take (k + 1)) = some (S ||| 2 ^ x) ∧ (pRun n L S (l.drop k)).isSome = true ∧ l.drop k = (x : Int) :: l.drop (k + 1) := by
  have e : l.drop k = l[k] :: l.drop (k + 1) := List.drop_eq_getElem_cons hk
  have h1 : pRun n L 0 l = pRun n L S (l.drop k) := by
    conv => lhs; rw [← List.take_append_drop k l]
    rw [pRun_app, hS]; rfl
  rw [h1] at h
  have h2 := h
  rw [e] at h2
  obtain ⟨x, hx, hxn, hf, _⟩ := pRun_cons h2
  refine ⟨x, by rw [List.getD_eq_getElem?_getD, List.getElem?_eq_getElem hk]; exact hx, hxn, hf, ?_, h, by rw [e, hx]⟩
  rw [List.take_succ_eq_append_getElem hk, pRun_snoc, hS, hx]
  exact pStep_nat hxn hf
theorem take_some {l : List Int} (h : (pRun n L 0 l).isSome = true) (k : Nat) : ∃ S, pRun n L 0 (l.take k) = some S := by
  have e := List.take_append_drop k l
  rw [← e, pRun_app] at h
  cases hs : pRun n L 0 (l.take k) with
  | none => rw [hs] at h; cases h
  | some S => exact ⟨S, rfl⟩
/-- What the next order is: greater, an order, and the very next one. -/
theorem nxK_spec {l : List Int} (hl : OrdL n L l) : ∀ k, k ≤ n → (∀ S, pRun n L 0 (l.take k) = some S → maxR n L S (l.drop k)) →
    match nxK n L l k with
    | none => rkU n L 0 l + 1 = cU n L 0
    | some m => OrdL n L m ∧ lessL l m = true ∧ rkU n L 0 m = rkU n L 0 l + 1
  | 0, _, hM => by
    show rkU n L 0 l + 1 = cU n L 0
    refine rkU_max (Nat.two_pow_pos n) hl.2 (by rw [miss_nil]; exact hl.1) ?_
    exact hM 0 rfl
  | k + 1, hk, hM => by
    obtain ⟨S, hS⟩ := take_some hl.2 k
    have hkl : k < l.length := by have := hl.1; omega
    obtain ⟨x, hx, hxn, hf, hS2, hr, hd⟩ := take_run hkl hl.2 hS
    have hSl := run_lt (Nat.two_pow_pos n) hS
    have hmS := pRun_miss hS
    rw [miss_nil, List.length_take, Nat.min_eq_left (by omega)] at hmS
    have hM2 := hM _ hS2
    rw [nxK, hS]
    simp only
    rw [hx]
    simp only [Int.toNat_natCast]
    by_cases c : overF n L S x < n
    · rw [if_pos c]
      obtain ⟨c1, c2⟩ := fstF_lt (p := fun b => freeB L S b && decide (x < b)) c
      have eb : fstF (fun b => freeB L S b && decide (x < b)) n = overF n L S x := rfl
      rw [eb] at c1 c2
      generalize overF n L S x = b at *
      rw [Bool.and_eq_true, decide_eq_true_eq] at c1
      obtain ⟨hfb, hxb⟩ := c1
      have hmis := miss_step' (freeB_bit hfb) n c
      obtain ⟨T, hT⟩ := Option.isSome_iff_exists.1 hr
      have hdl : (l.drop k).length = miss n S := by rw [List.length_drop, hl.1]; omega
      have hmem := mem_run hT hdl c (freeB_bit hfb)
      have hfirst := pRun_first hT hmem
      have hgo : (goO n L (n - (k + 1)) (S ||| 2 ^ b)).isSome = true := goO_some (l := (l.drop k).erase (b : Int)) (by omega) (by rw [List.length_erase_of_mem hmem, hdl]; omega) (by rw [hfirst]; rfl)
      obtain ⟨m, hm⟩ := Option.isSome_iff_exists.1 hgo
      obtain ⟨m1, m2⟩ := goO_run hm
      rw [hm]
      simp only [Option.getD_some]
      have hrun : pRun n L 0 (l.take k ++ (b : Int) :: m) = pRun n L (S ||| 2 ^ b) m := by
        rw [pRun_app, hS]
        exact pRun_nat c hfb
      refine ⟨⟨?_, by rw [hrun]; exact m2⟩, ?_, ?_⟩
      · simp only [List.length_append, List.length_take, List.length_cons]; omega
      · have hlk : ∀ (p q r : List Int), lessL (p ++ q) (p ++ r) = lessL q r := fun p q r => by
          induction p with
          | nil => rfl
          | cons y p ih =>
            show (if y ≠ y then decide (y < y) else lessL (p ++ q) (p ++ r)) = _
            rw [if_neg (by simp)]; exact ih
        conv => lhs; arg 1; rw [← List.take_append_drop k l]
        rw [hlk, hd]
        show (if (x : Int) ≠ (b : Int) then decide ((x : Int) < b) else _) = true
        rw [if_pos (by omega), decide_eq_true (by omega)]
      · have e1 := rkU_app ((b : Int) :: m) hS
        have e2 := rkU_app (l.drop k) hS
        rw [List.take_append_drop] at e2
        rw [e1, e2, hd, rkU, rkU]
        simp only [Int.toNat_natCast]
        rw [rkU_least hm]
        have e3 : accU (cU n L) L S b = accU (cU n L) L S (x + 1) := accU_none (by omega) fun i h1 h2 => by
          have := c2 i h2
          rw [Bool.and_eq_false_iff, decide_eq_false_iff_not] at this
          rcases this with h | h
          · exact h
          · omega
        have hmx := miss_step' (freeB_bit hf) n hxn
        have hr2 : (pRun n L (S ||| 2 ^ x) (l.drop (k + 1))).isSome = true := by
          rw [hd, pRun_nat hxn hf] at hr; exact hr
        have e4 := rkU_max (set_lt hSl hxn) hr2 (by rw [List.length_drop, hl.1]; omega) hM2
        rw [e3, accU_free hf]
        omega
    · rw [if_neg c]
      refine nxK_spec hl k (by omega) fun S' hS' => ?_
      rw [hS] at hS'
      cases hS'
      rw [hd]
      refine ⟨fun b h1 h2 => ?_, by simpa using hM2⟩
      have hle := fstF_le (fun b => freeB L S b && decide (x < b)) n
      have hn := (fstF_none (fun b => freeB L S b && decide (x < b)) n).1 (by unfold overF at c; omega) b h2
      simp only [Int.toNat_natCast] at h1
      rw [decide_eq_true h1, Bool.and_true] at hn
      exact hn
theorem next_spec {l : List Int} (hl : OrdL n L l) : match nxK n L l n with
    | none => rkU n L 0 l + 1 = cU n L 0
    | some m => OrdL n L m ∧ lessL l m = true ∧ rkU n L 0 m = rkU n L 0 l + 1 :=
  nxK_spec hl n (Nat.le_refl _) fun S _ => by rw [List.drop_eq_nil_of_le (by rw [hl.1]; exact Nat.le_refl _)]; trivial
end
end Go.Proofs.YtlpfecjkkgccgaaDoor
/- Shortest ways back: plain. Cycles and orders. -/
namespace Go.Proofs.YtlpfecjkkgccgaaDoor

/-- May the way from a go on to b, in round k + 1? -/
def hopB (L : Nat → Nat) (g k : Nat) (F : Nat → Nat) (a b : Nat) : Bool := (L b).testBit a && (if k = 0 then decide (b = g) else decide (b ≠ g ∧ F b = k))
/-- How far each work is from g, as far as k rounds show it (0: not shown). -/
def farK (n : Nat) (L : Nat → Nat) (g : Nat) : Nat → Nat → Nat
  | 0, _ => 0
  | k + 1, a => if farK n L g k a ≠ 0 then farK n L g k a else if fstF (hopB L g k (farK n L g k) a) n < n then k + 1 else 0
/-- The next work on the way. -/
def hopN (n : Nat) (L : Nat → Nat) (g : Nat) (F : Nat → Nat) (d a : Nat) : Nat :=
  if fstF (fun b => decide (b ≠ g) && (decide (F b = d) && (L b).testBit a)) n < n then fstF (fun b => decide (b ≠ g) && (decide (F b = d) && (L b).testBit a)) n else a
def bkP (n : Nat) (L : Nat → Nat) (g : Nat) (F : Nat → Nat) : Nat → Nat → List Int
  | 0, _ => []
  | d + 1, a => (hopN n L g F (d + 1) a : Int) :: bkP n L g F d (hopN n L g F (d + 1) a)
/-- A shortest way from g back to g; none if there is none. -/
def fromL (n : Nat) (L : Nat → Nat) (g : Nat) : List Int := if farK n L g n g = 0 then [] else (g : Int) :: bkP n L g (farK n L g n) (farK n L g n g - 1) g
/-- The first of the shortest ones that begin with works below k. -/
def cycL (n : Nat) (L : Nat → Nat) : Nat → List Int
  | 0 => []
  | k + 1 => if fromL n L k ≠ [] ∧ (cycL n L k = [] ∨ (fromL n L k).length < (cycL n L k).length) then fromL n L k else cycL n L k
/-- A walk of k steps. -/
def Wlk (n : Nat) (L : Nat → Nat) : Nat → Nat → Nat → Prop
  | 0, a, b => a = b
  | k + 1, a, b => ∃ c, c < n ∧ (L c).testBit a = true ∧ Wlk n L k c b
section
variable {n g : Nat} {L : Nat → Nat}
theorem hop_iff {k a b : Nat} {F : Nat → Nat} : hopB L g k F a b = true ↔ (L b).testBit a = true ∧ ((k = 0 ∧ b = g) ∨ (k ≠ 0 ∧ b ≠ g ∧ F b = k)) := by
  unfold hopB
  rw [Bool.and_eq_true]
  refine and_congr_right fun _ => ?_
  by_cases h : k = 0
  · simp [h]
  · simp [h]
theorem farK_le : ∀ k a, farK n L g k a ≤ k
  | 0, _ => Nat.le_refl _
  | k + 1, a => by
    have := farK_le k a
    rw [farK]
    split
    · omega
    · split <;> omega
theorem farK_stay {k a : Nat} (h : farK n L g k a ≠ 0) : farK n L g (k + 1) a = farK n L g k a := by rw [farK, if_pos h]
theorem farK_more {k a : Nat} (h : farK n L g k a ≠ 0) : ∀ d, farK n L g (k + d) a = farK n L g k a
  | 0 => rfl
  | d + 1 => by
    have ih := farK_more h d
    rw [show k + (d + 1) = (k + d) + 1 by omega, farK_stay (by rw [ih]; exact h), ih]
/-- A distance that is shown has been shown in its round. -/
theorem farK_at {d a : Nat} : ∀ {k}, farK n L g k a = d → d ≠ 0 → farK n L g d a = d
  | 0, h, hd => absurd h (by unfold farK; omega)
  | k + 1, h, hd => by
    by_cases h0 : farK n L g k a ≠ 0
    · rw [farK_stay h0] at h
      exact farK_at h hd
    · have e := h
      rw [farK, if_neg h0] at e
      split at e
      · subst e; exact h
      · omega
theorem farK_eq {j k d a : Nat} (hd : d ≠ 0) (hj : d ≤ j) (h : farK n L g k a = d) : farK n L g j a = d := by
  have h1 := farK_at h hd
  have := farK_more (d := j - d) (show farK n L g d a ≠ 0 by omega)
  rw [show d + (j - d) = j by omega] at this
  omega
theorem farK_iff {j k d a : Nat} (hd : d ≠ 0) (hj : d ≤ j) (hk : d ≤ k) : farK n L g j a = d ↔ farK n L g k a = d := ⟨farK_eq hd hk, farK_eq hd hj⟩
theorem farK_hop {d a : Nat} (h : farK n L g (d + 1) a = d + 1) : ∃ b, b < n ∧ (L b).testBit a = true ∧ ((d = 0 ∧ b = g) ∨ (d ≠ 0 ∧ b ≠ g ∧ farK n L g d b = d)) := by
  have h0 : ¬ farK n L g d a ≠ 0 := fun hn => by
    rw [farK_stay hn] at h
    have := farK_le (n := n) (L := L) (g := g) d a
    omega
  rw [farK, if_neg h0] at h
  split at h
  · rename_i c
    obtain ⟨h1, _⟩ := fstF_lt c
    rw [hop_iff] at h1
    exact ⟨_, c, h1.1, h1.2⟩
  · omega
theorem farK_get {k a b : Nat} (hb : b < n) (h : hopB L g k (farK n L g k) a b = true) : farK n L g (k + 1) a ≠ 0 := by
  rw [farK]
  split
  · assumption
  · rw [if_pos (fstF_some hb h).1]; omega
/-- A walk shows the distance. -/
theorem farK_walk : ∀ d a, Wlk n L (d + 1) a g → farK n L g (d + 1) a ≠ 0 := by
  intro d
  induction d using Nat.strongRecOn with
  | _ d ih =>
    intro a h
    obtain ⟨c, hc, hD, hw⟩ := h
    by_cases hg : c = g
    · have h1 : farK n L g 1 a ≠ 0 := farK_get (k := 0) hc (hop_iff.2 ⟨hD, .inl ⟨rfl, hg⟩⟩)
      have := farK_more (d := d) h1
      rw [show 1 + d = d + 1 by omega] at this
      omega
    · cases d with
      | zero => exact absurd hw hg
      | succ d =>
        have h1 := ih d (by omega) c hw
        obtain ⟨e, he⟩ : ∃ e, e = farK n L g (d + 1) c := ⟨_, rfl⟩
        have hle := farK_le (n := n) (L := L) (g := g) (d + 1) c
        have h2 := farK_at he.symm (by omega)
        have h3 : farK n L g (e + 1) a ≠ 0 := farK_get (k := e) hc (hop_iff.2 ⟨hD, .inr ⟨by omega, hg, h2⟩⟩)
        have := farK_more (d := d + 1 - e) h3
        rw [show e + 1 + (d + 1 - e) = d + 1 + 1 by omega] at this
        omega
/-- How many works have a distance. -/
def farC (n : Nat) (L : Nat → Nat) (g k : Nat) : Nat := (List.range n).countP fun a => decide (farK n L g k a ≠ 0)
theorem farC_ge : ∀ k, (∃ a, a < n ∧ farK n L g k a = k) → k ≤ farC n L g k
  | 0, _ => Nat.zero_le _
  | k + 1, ⟨a, ha, h⟩ => by
    have h0 : farK n L g k a = 0 := Classical.byContradiction fun hn => by
      rw [farK_stay hn] at h
      have := farK_le (n := n) (L := L) (g := g) k a
      omega
    have hlt : farC n L g k < farC n L g (k + 1) := by
      refine countP_lt (k := a) (by simpa using ha) (fun i hi => ?_) (by simp [h]) (by simp [h0])
      simp only [decide_eq_true_eq] at hi ⊢
      rw [farK_stay hi]; exact hi
    by_cases hk : k = 0
    · omega
    · obtain ⟨b, hb, _, hh⟩ := farK_hop h
      rcases hh with hh | hh
      · omega
      · have := farC_ge k ⟨b, hb, hh.2.2⟩
        omega
theorem farK_n {k a : Nat} (ha : a < n) (h : farK n L g k a ≠ 0) : farK n L g n a = farK n L g k a ∧ farK n L g k a ≤ n := by
  obtain ⟨d, hd⟩ : ∃ d, farK n L g k a = d := ⟨_, rfl⟩
  rw [hd] at h ⊢
  have h1 := farK_at hd h
  have h2 := farC_ge d ⟨a, ha, h1⟩
  have h3 : farC n L g d ≤ n := by
    unfold farC
    have := List.countP_le_length (p := fun a => decide (farK n L g d a ≠ 0)) (l := List.range n)
    simpa using this
  exact ⟨farK_eq h (by omega) hd, by omega⟩
theorem hopN_is {d a : Nat} (h : farK n L g n a = d + 1) (hd : d ≠ 0) : hopN n L g (farK n L g n) d a < n ∧ hopN n L g (farK n L g n) d a ≠ g ∧ farK n L g n (hopN n L g (farK n L g n) d a) = d ∧ (L (hopN n L g (farK n L g n) d a)).testBit a = true := by
  have hn := farK_le (n := n) (L := L) (g := g) n a
  obtain ⟨b, hb, h1, h2⟩ := farK_hop (farK_at h (by omega))
  rcases h2 with h2 | h2
  · omega
  · have h3 := farK_eq (j := n) (by omega) (by omega) h2.2.2
    have hs := fstF_some (p := fun b => decide (b ≠ g) && (decide (farK n L g n b = d) && (L b).testBit a)) hb (by simp [h2.2.1, h3, h1])
    have hp := (fstF_lt hs.1).1
    simp only [Bool.and_eq_true, decide_eq_true_eq] at hp
    unfold hopN
    rw [if_pos hs.1]
    exact ⟨hs.1, hp.1, hp.2.1, hp.2.2⟩
/-- A list goes from work to work. -/
def Chn (L : Nat → Nat) : Nat → List Int → Nat → Prop
  | a, [], z => (L z).testBit a = true
  | a, x :: l, z => (L x.toNat).testBit a = true ∧ Chn L x.toNat l z
theorem bkP_spec : ∀ d a, farK n L g n a = d + 1 → (bkP n L g (farK n L g n) d a).length = d ∧ Chn L a (bkP n L g (farK n L g n) d a) g ∧ ∀ x ∈ bkP n L g (farK n L g n) d a, ∃ k : Nat, x = k ∧ k < n ∧ k ≠ g ∧ 1 ≤ farK n L g n k ∧ farK n L g n k ≤ d
  | 0, a, h => by
    obtain ⟨b, hb, h1, h2⟩ := farK_hop (farK_at h (by omega))
    rcases h2 with h2 | h2
    · refine ⟨rfl, ?_, fun x hx => by cases hx⟩
      show (L g).testBit a = true
      rw [← h2.2]; exact h1
    · omega
  | d + 1, a, h => by
    obtain ⟨h1, h2, h3, h4⟩ := hopN_is h (by omega)
    obtain ⟨g1, g2, g3⟩ := bkP_spec d _ h3
    rw [bkP]
    refine ⟨by simp [g1], ⟨by simpa using h4, by simpa using g2⟩, fun x hx => ?_⟩
    rcases List.mem_cons.1 hx with rfl | hx
    · exact ⟨_, rfl, h1, h2, by omega, by omega⟩
    · obtain ⟨k, e, k1, k2, k3, k4⟩ := g3 x hx
      exact ⟨k, e, k1, k2, k3, by omega⟩
theorem bkP_nodup : ∀ d a, farK n L g n a = d + 1 → (bkP n L g (farK n L g n) d a).Nodup
  | 0, _, _ => List.nodup_nil
  | d + 1, a, h => by
    obtain ⟨h1, h2, h3, h4⟩ := hopN_is h (by omega)
    rw [bkP]
    refine List.nodup_cons.2 ⟨fun hm => ?_, bkP_nodup d _ h3⟩
    obtain ⟨k, e, k1, k2, k3, k4⟩ := (bkP_spec d _ h3).2.2 _ hm
    have : k = hopN n L g (farK n L g n) (d + 1) a := by omega
    subst this
    omega
/-- The list is a cycle: works, each one once, each one directly before the next one, the last one before the first one. -/
def CycB (n : Nat) (L : Nat → Nat) (l : List Int) : Prop := l ≠ [] ∧ l.Nodup ∧ (∀ x ∈ l, 0 ≤ x ∧ x < n) ∧ ∀ i, i < l.length → (L (l.getD ((i + 1) % l.length) 0).toNat).testBit (l.getD i 0).toNat = true
theorem chn_at {a z : Nat} : ∀ {l : List Int}, Chn L a l z → ∀ i, i ≤ l.length → (L (if i < l.length then (l.getD i 0).toNat else z)).testBit (((a : Int) :: l).getD i 0).toNat = true := by
  intro l
  induction l generalizing a with
  | nil => intro h i hi; simp at hi; subst hi; simpa [Chn] using h
  | cons x l ih =>
    intro h i hi
    cases i with
    | zero => simpa using h.1
    | succ i =>
      have h2 := ih h.2 i (by simpa using hi)
      have e : ((((x.toNat : Nat) : Int) :: l).getD i 0).toNat = ((x :: l).getD i 0).toNat := by
        cases i with
        | zero => exact Int.toNat_natCast _
        | succ i => simp
      rw [e] at h2
      simp only [List.getD_cons_succ, List.length_cons, Nat.add_lt_add_iff_right] at h2 ⊢
      exact h2
theorem fromL_cycle (hg : g < n) (h : farK n L g n g ≠ 0) : CycB n L (fromL n L g) ∧ (fromL n L g).length = farK n L g n g := by
  obtain ⟨d, hd⟩ : ∃ d, farK n L g n g = d + 1 := ⟨farK n L g n g - 1, by omega⟩
  obtain ⟨h1, h2, h3⟩ := bkP_spec d g hd
  have hnd := bkP_nodup d g hd
  have e : fromL n L g = (g : Int) :: bkP n L g (farK n L g n) d g := by unfold fromL; rw [if_neg h, hd]; rfl
  rw [e]
  have hlen : ((g : Int) :: bkP n L g (farK n L g n) d g).length = d + 1 := by simp [h1]
  refine ⟨⟨by simp, List.nodup_cons.2 ⟨fun hm => ?_, hnd⟩, fun x hx => ?_, fun i hi => ?_⟩, by rw [hlen, hd]⟩
  · obtain ⟨k, e2, _, k2, _⟩ := h3 _ hm
    exact k2 (by omega)
  · rcases List.mem_cons.1 hx with rfl | hx
    · omega
    · obtain ⟨k, e2, k1, _⟩ := h3 x hx
      omega
  · have h4 := chn_at h2 i (by rw [hlen] at hi; omega)
    rw [hlen]
    rw [hlen] at hi
    by_cases hl : i < (bkP n L g (farK n L g n) d g).length
    · rw [if_pos hl] at h4
      rw [Nat.mod_eq_of_lt (by omega)]
      exact h4
    · rw [if_neg hl] at h4
      have : i = d := by omega
      subst this
      rw [Nat.mod_self]
      exact h4
theorem Wlk.snoc : ∀ {k a b c : Nat}, Wlk n L k a b → c < n → (L c).testBit b = true → Wlk n L (k + 1) a c
  | 0, a, b, c, h, hc, hd => by
    have : a = b := h
    subst this
    exact ⟨c, hc, hd, rfl⟩
  | k + 1, a, b, c, ⟨e, he, hD, hw⟩, hc, hd => ⟨e, he, hD, hw.snoc hc hd⟩
theorem Wlk.trans : ∀ {k m a b c : Nat}, Wlk n L k a b → Wlk n L m b c → Wlk n L (k + m) a c
  | 0, m, a, b, c, h, h2 => by
    have : a = b := h
    subst this
    rw [Nat.zero_add]; exact h2
  | k + 1, m, a, b, c, ⟨e, he, hD, hw⟩, h2 => by
    rw [show k + 1 + m = (k + m) + 1 by omega]
    exact ⟨e, he, hD, hw.trans h2⟩
/-- A cycle is a walk from its first work back to it. -/
theorem CycB.walk {l : List Int} (h : CycB n L l) : Wlk n L l.length (l.getD 0 0).toNat (l.getD 0 0).toNat := by
  obtain ⟨h1, h2, h3, h4⟩ := h
  have hl : 0 < l.length := List.length_pos_iff.2 h1
  have hin : ∀ j, j < l.length → (l.getD j 0).toNat < n := fun j hj => by
    have := h3 (l.getD j 0) (by rw [List.getD_eq_getElem?_getD, List.getElem?_eq_getElem hj]; exact List.getElem_mem hj)
    omega
  have key : ∀ i, i ≤ l.length → Wlk n L i (l.getD 0 0).toNat (l.getD (i % l.length) 0).toNat := by
    intro i
    induction i with
    | zero => intro _; show _ = _; rw [Nat.zero_mod]
    | succ i ih =>
      intro hi
      have hi2 : i % l.length = i := Nat.mod_eq_of_lt (by omega)
      have := ih (by omega)
      rw [hi2] at this
      exact this.snoc (hin _ (Nat.mod_lt _ hl)) (h4 i (by omega))
  have := key l.length (Nat.le_refl _)
  rwa [Nat.mod_self] at this
theorem cycle_far {l : List Int} (h : CycB n L l) : ∃ g, g < n ∧ farK n L g n g ≠ 0 ∧ farK n L g n g ≤ l.length := by
  have hl : 0 < l.length := List.length_pos_iff.2 h.1
  have hg : (l.getD 0 0).toNat < n := by
    have := h.2.2.1 (l.getD 0 0) (by rw [List.getD_eq_getElem?_getD, List.getElem?_eq_getElem hl]; exact List.getElem_mem hl)
    omega
  have hw := h.walk
  obtain ⟨d, hd⟩ : ∃ d, l.length = d + 1 := ⟨l.length - 1, by omega⟩
  rw [hd] at hw ⊢
  have h1 := farK_walk d _ hw
  obtain ⟨h2, h3⟩ := farK_n hg h1
  have h4 := farK_le (n := n) (L := L) (g := (l.getD 0 0).toNat) (d + 1) (l.getD 0 0).toNat
  exact ⟨_, hg, by rw [h2]; exact h1, by omega⟩
theorem fromL_nil (h : farK n L g n g = 0) : fromL n L g = [] := by unfold fromL; rw [if_pos h]
theorem fromL_len (hg : g < n) : (fromL n L g).length = farK n L g n g := by
  by_cases h : farK n L g n g = 0
  · rw [fromL_nil h, h]; rfl
  · exact (fromL_cycle hg h).2
theorem fromL_ne (hg : g < n) : fromL n L g ≠ [] ↔ farK n L g n g ≠ 0 := by
  have := fromL_len (L := L) hg
  constructor
  · intro h h2; rw [h2] at this; exact h (List.eq_nil_of_length_eq_zero this)
  · intro h h2; rw [h2] at this; exact h (by simpa using this.symm)
theorem cycL_spec : ∀ k, k ≤ n → (cycL n L k = [] → ∀ g, g < k → farK n L g n g = 0) ∧ (cycL n L k ≠ [] → CycB n L (cycL n L k) ∧ ∀ g, g < k → farK n L g n g ≠ 0 → (cycL n L k).length ≤ farK n L g n g)
  | 0, _ => ⟨fun _ g h => absurd h (by omega), fun h => absurd rfl h⟩
  | k + 1, hk => by
    obtain ⟨h1, h2⟩ := cycL_spec k (by omega)
    have hl := fromL_len (L := L) (show k < n by omega)
    have hne := fromL_ne (L := L) (show k < n by omega)
    rw [cycL]
    split
    · rename_i c
      have hf := hne.1 c.1
      refine ⟨fun h => absurd h c.1, fun _ => ⟨(fromL_cycle (by omega) hf).1, fun g hg h => ?_⟩⟩
      rw [hl]
      by_cases e : g = k
      · subst e; exact Nat.le_refl _
      · rcases c.2 with c2 | c2
        · exact absurd (h1 c2 g (by omega)) h
        · have hcn : cycL n L k ≠ [] := fun h => by rw [h] at c2; simp at c2
          have := (h2 hcn).2 g (by omega) h
          omega
    · rename_i c
      refine ⟨fun h g hg => ?_, fun h => ⟨(h2 h).1, fun g hg hf => ?_⟩⟩
      · by_cases e : g = k
        · subst e
          exact Classical.byContradiction fun hn => c ⟨hne.2 hn, .inl h⟩
        · exact h1 h g (by omega)
      · by_cases e : g = k
        · subst e
          have : ¬ (fromL n L g).length < (cycL n L g).length := fun h3 => c ⟨hne.2 hf, .inr h3⟩
          omega
        · exact (h2 h).2 g (by omega) hf
/-- The cycle that is found is one, and none is shorter. -/
theorem cycL_cycle (h : cycL n L n ≠ []) : CycB n L (cycL n L n) := ((cycL_spec n (Nat.le_refl _)).2 h).1
theorem cycL_least {l : List Int} (h : CycB n L l) : cycL n L n ≠ [] ∧ (cycL n L n).length ≤ l.length := by
  obtain ⟨g, h1, h2, h3⟩ := cycle_far h
  have hne : cycL n L n ≠ [] := fun e => h2 ((cycL_spec n (Nat.le_refl _)).1 e g h1)
  exact ⟨hne, Nat.le_trans (((cycL_spec n (Nat.le_refl _)).2 hne).2 g h1 h2) h3⟩
theorem idxOf_ne {x y : Int} {l : List Int} (h : x ≠ y) : (x :: l).idxOf y = l.idxOf y + 1 := by
  rw [List.idxOf_cons, beq_eq_false_iff_ne.2 h]; rfl
/-- Of an order, what comes directly before comes before. -/
theorem run_idx : ∀ {l : List Int} {S T : Nat}, pRun n L S l = some T → ∀ a b : Nat, (L b).testBit a = true → (b : Int) ∈ l → S.testBit a = true ∨ ((a : Int) ∈ l ∧ l.idxOf (a : Int) < l.idxOf (b : Int))
  | [], _, _, _ => fun _ _ _ h => by cases h
  | x :: l, S, T, h => fun a b hD hb => by
    obtain ⟨k, rfl, hk, hf, _⟩ := pRun_cons (by rw [h]; rfl)
    have hfr := pRun_fresh h
    rw [pRun_nat hk hf] at h
    by_cases e : b = k
    · subst e
      exact .inl (((freeB_iff S b).1 hf).2 a hD)
    · have hb2 : (b : Int) ∈ l := by
        rcases List.mem_cons.1 hb with e2 | e2
        · exact absurd (by omega) e
        · exact e2
      rcases run_idx h a b hD hb2 with h1 | ⟨h1, h2⟩
      · rw [testBit_set, Bool.or_eq_true, decide_eq_true_eq] at h1
        rcases h1 with h1 | h1
        · exact .inl h1
        · subst h1
          refine .inr ⟨by simp, ?_⟩
          rw [List.idxOf_cons_self, idxOf_ne (by omega)]
          omega
      · refine .inr ⟨List.mem_cons_of_mem _ h1, ?_⟩
        have hak : (a : Int) ≠ (k : Int) := fun e2 => by
          have := pRun_fresh h a h1
          rw [testBit_set, show k = a by omega] at this
          simp at this
        rw [idxOf_ne (Ne.symm hak), idxOf_ne (by omega)]
        omega
theorem walk_idx {l : List Int} (h : OrdL n L l) : ∀ {k a b : Nat}, Wlk n L (k + 1) a b → l.idxOf (a : Int) < l.idxOf (b : Int) := by
  obtain ⟨hl, hr⟩ := h
  obtain ⟨T, hT⟩ := Option.isSome_iff_exists.1 hr
  have hmem : ∀ c, c < n → (c : Int) ∈ l := fun c hc => mem_run hT (by rw [miss_nil]; exact hl) hc (by simp)
  have hstep : ∀ a c, c < n → (L c).testBit a = true → l.idxOf (a : Int) < l.idxOf (c : Int) := fun a c hc hD => by
    rcases run_idx hT a c hD (hmem c hc) with h1 | h1
    · simp at h1
    · exact h1.2
  intro k
  induction k with
  | zero =>
    rintro a b ⟨c, hc, hD, hw⟩
    have : c = b := hw
    subst this
    exact hstep a c hc hD
  | succ k ih =>
    rintro a b ⟨c, hc, hD, hw⟩
    exact Nat.lt_trans (hstep a c hc hD) (ih hw)
/-- With an order there is no cycle. -/
theorem ord_no_cycle {l : List Int} (h : OrdL n L l) : cycL n L n = [] := by
  refine Classical.byContradiction fun hne => ?_
  have hc := cycL_cycle hne
  have hl : 0 < (cycL n L n).length := List.length_pos_iff.2 hne
  have hw := hc.walk
  obtain ⟨d, hd⟩ : ∃ d, (cycL n L n).length = d + 1 := ⟨(cycL n L n).length - 1, by omega⟩
  rw [hd] at hw
  exact Nat.lt_irrefl _ (walk_idx h hw)
/-- Where the greedy search stops. -/
theorem goO_stuck : ∀ f S, miss n S = f → goO n L f S = none → ∃ T, (∃ b, b < n ∧ T.testBit b = false) ∧ ∀ b, b < n → freeB L T b = false
  | 0, _, _, h => by cases h
  | f + 1, S, hm, h => by
    rw [goO] at h
    split at h
    · rename_i c
      obtain ⟨h1, _⟩ := fstF_lt c
      refine goO_stuck f _ ?_ (by simpa using h)
      have := miss_step' (freeB_bit h1) n c
      omega
    · rename_i c
      have hle := fstF_le (freeB L S) n
      refine ⟨S, Classical.byContradiction fun hn => ?_, (fstF_none _ n).1 (by omega)⟩
      have h0 : miss n S = 0 := by
        unfold miss
        rw [List.countP_eq_zero]
        intro i hi
        have := fun hf => hn ⟨i, List.mem_range.1 hi, hf⟩
        simpa using this
      omega
/-- Without an order there is a cycle. -/
theorem no_ord_cycle (hL : ∀ b a, (L b).testBit a = true → a < n) (h : goO n L n 0 = none) : cycL n L n ≠ [] := by
  obtain ⟨T, ⟨b, hb, hTb⟩, hstuck⟩ := goO_stuck n 0 (miss_nil n) h
  intro hnil
  have hno : ∀ k a, a < n → ¬ Wlk n L (k + 1) a a := fun k a ha hw => by
    have h1 := farK_walk k a hw
    obtain ⟨h2, _⟩ := farK_n ha h1
    have := (cycL_spec n (Nat.le_refl _)).1 hnil a ha
    omega
  have hpred : ∀ b, b < n → T.testBit b = false → ∃ a, a < n ∧ T.testBit a = false ∧ (L b).testBit a = true := fun b hb hT => by
    have h1 := hstuck b hb
    refine Classical.byContradiction fun hn => ?_
    rw [(freeB_iff T b).2 ⟨hT, fun a ha => ?_⟩] at h1
    · cases h1
    · refine Classical.byContradiction fun hf => hn ⟨a, hL b a ha, by simpa using hf, ha⟩
  classical
  obtain ⟨M, hM⟩ : ∃ M : Nat → Nat, ∀ b, M b = (List.range n).countP fun a => decide (∃ k, Wlk n L (k + 1) a b) := ⟨_, fun _ => rfl⟩
  have key : ∀ m b, M b = m → b < n → T.testBit b = false → False := by
    intro m
    induction m using Nat.strongRecOn with
    | _ m ih =>
      intro b hm hb hT
      obtain ⟨a, ha, hTa, hD⟩ := hpred b hb hT
      have hlt : M a < M b := by
        rw [hM, hM]
        refine countP_lt (k := a) (by simpa using ha) (fun i hi => ?_) ?_ ?_
        · simp only [decide_eq_true_eq] at hi ⊢
          obtain ⟨k, hk⟩ := hi
          exact ⟨k + 1, hk.snoc hb hD⟩
        · simp only [decide_eq_true_eq]
          exact ⟨0, b, hb, hD, rfl⟩
        · simp only [decide_eq_false_iff_not]
          rintro ⟨k, hk⟩
          exact hno k a ha hk
      exact ih (M a) (by omega) a rfl ha hTa
  exact key (M b) b rfl hb hTb
end
end Go.Proofs.YtlpfecjkkgccgaaDoor
/- The program's search for a way back, level by level: plain. -/
namespace Go.Proofs.YtlpfecjkkgccgaaDoor

/-- The works of level k. -/
def LevIs (n : Nat) (L : Nat → Nat) (g k : Nat) (lev : List Int) : Prop := (∀ x ∈ lev, ∃ a : Nat, x = a ∧ a < n) ∧ ∀ a : Nat, (a : Int) ∈ lev ↔ a < n ∧ ((k = 0 ∧ a = g) ∨ (k ≠ 0 ∧ farK n L g k a = k))
/-- Does x come directly before one of the works so far? -/
def anyD (L : Nat → Nat) (lev : List Int) (i a x : Nat) : Bool := ((lev.take i).any fun b => (L b.toNat).testBit x) || (decide (x < a) && (L (lev.getD i 0).toNat).testBit x)
def curF (n : Nat) (L : Nat → Nat) (g k : Nat) (lev : List Int) (i a x : Nat) : Nat := if farK n L g k x ≠ 0 then farK n L g k x else if anyD L lev i a x = true then k + 1 else 0
section
variable {n g k : Nat} {L : Nat → Nat} {lev : List Int}
theorem anyD_zero (i : Nat) (x : Nat) : anyD L lev i 0 x = ((lev.take i).any fun b => (L b.toNat).testBit x) := by unfold anyD; simp
theorem anyD_end {i : Nat} (hi : i < lev.length) {x : Nat} (hx : x < n) : anyD L lev i n x = anyD L lev (i + 1) 0 x := by
  rw [anyD_zero, List.take_succ_eq_append_getElem hi, List.any_append]
  unfold anyD
  rw [decide_eq_true hx, Bool.true_and]
  simp [List.getD_eq_getElem?_getD, hi]
theorem anyD_succ {i a x : Nat} : anyD L lev i (a + 1) x = (anyD L lev i a x || (decide (x = a) && (L (lev.getD i 0).toNat).testBit x)) := by
  unfold anyD
  rw [Bool.or_assoc]
  congr 1
  by_cases h : x = a
  · subst h; simp
  · have : decide (x < a + 1) = decide (x < a) := by rw [decide_eq_decide]; omega
    rw [this]
    simp [h]
theorem curF_zero (x : Nat) : curF n L g k lev 0 0 x = farK n L g k x := by
  unfold curF
  rw [anyD_zero]
  by_cases h : farK n L g k x ≠ 0
  · rw [if_pos h]
  · rw [if_neg h]
    simp only [List.take_zero, List.any_nil, Bool.false_eq_true, if_false]
    omega
theorem curF_end {i : Nat} (hi : i < lev.length) {x : Nat} (hx : x < n) : curF n L g k lev i n x = curF n L g k lev (i + 1) 0 x := by
  unfold curF; rw [anyD_end hi hx]
/-- At a work whose distance is known, or that does not come before: nothing turns. -/
theorem curF_same {i a : Nat} (h : curF n L g k lev i a a ≠ 0 ∨ (L (lev.getD i 0).toNat).testBit a = false) (x : Nat) : curF n L g k lev i (a + 1) x = curF n L g k lev i a x := by
  unfold curF at h ⊢
  by_cases hx : farK n L g k x ≠ 0
  · rw [if_pos hx, if_pos hx]
  · rw [if_neg hx, if_neg hx, anyD_succ]
    by_cases e : x = a
    · subst e
      rw [if_neg hx] at h
      rcases h with h | h
      · by_cases h2 : anyD L lev i x x = true
        · rw [h2]; simp
        · rw [if_neg h2] at h; exact absurd rfl h
      · rw [h]; simp
    · rw [decide_eq_false e, Bool.false_and, Bool.or_false]
theorem curF_new {i a : Nat} (h0 : curF n L g k lev i a a = 0) (h : (L (lev.getD i 0).toNat).testBit a = true) (x : Nat) : curF n L g k lev i (a + 1) x = if x = a then k + 1 else curF n L g k lev i a x := by
  by_cases e : x = a
  · subst e
    rw [if_pos rfl]
    unfold curF at h0 ⊢
    by_cases hx : farK n L g k x ≠ 0
    · rw [if_pos hx] at h0; exact absurd h0 hx
    · rw [if_neg hx, anyD_succ, h]; simp
  · rw [if_neg e]
    unfold curF
    rw [anyD_succ, decide_eq_false e, Bool.false_and, Bool.or_false]
/-- A round is over. -/
theorem curF_round (_ : g < n) (hl : LevIs n L g k lev) (h0 : farK n L g k g = 0) {x : Nat} (_ : x < n) : curF n L g k lev lev.length 0 x = farK n L g (k + 1) x := by
  unfold curF
  rw [farK]
  by_cases hx : farK n L g k x ≠ 0
  · rw [if_pos hx, if_pos hx]
  · rw [if_neg hx, if_neg hx, anyD_zero, List.take_length]
    have e : ((lev.any fun b => (L b.toNat).testBit x) = true) ↔ fstF (hopB L g k (farK n L g k) x) n < n := by
      constructor
      · intro h
        obtain ⟨b, hb, hd⟩ := List.any_eq_true.1 h
        obtain ⟨c, rfl, hc⟩ := hl.1 b hb
        refine (fstF_some hc (hop_iff.2 ⟨by simpa using hd, ?_⟩)).1
        rcases (hl.2 c).1 hb with ⟨_, h1 | h1⟩
        · exact .inl h1
        · exact .inr ⟨h1.1, fun e => by rw [e, h0] at h1; omega, h1.2⟩
      · intro h
        obtain ⟨h1, _⟩ := fstF_lt h
        rw [hop_iff] at h1
        refine List.any_eq_true.2 ⟨_, (hl.2 _).2 ⟨h, ?_⟩, by simpa using h1.1⟩
        rcases h1.2 with h2 | h2
        · exact .inl h2
        · exact .inr ⟨h2.1, h2.2.2⟩
    by_cases h : (lev.any fun b => (L b.toNat).testBit x) = true
    · rw [if_pos h, if_pos (e.1 h)]
    · rw [if_neg h, if_neg (fun h2 => h (e.2 h2))]
theorem LevIs.zero (hg : g < n) : LevIs n L g 0 [(g : Int)] :=
  ⟨fun x hx => ⟨g, List.mem_singleton.1 hx, hg⟩, fun a => by
    rw [List.mem_singleton]
    constructor
    · intro h; exact ⟨by omega, .inl ⟨rfl, by omega⟩⟩
    · rintro ⟨_, h | h⟩
      · rw [h.2]
      · exact absurd rfl h.1⟩
/-- The next level while it is laid. -/
def NxtIs (n : Nat) (L : Nat → Nat) (g k : Nat) (lev : List Int) (i a : Nat) (nl : List Int) : Prop := (∀ x ∈ nl, ∃ b : Nat, x = b ∧ b < n) ∧ (∀ b : Nat, (b : Int) ∈ nl ↔ b < n ∧ farK n L g k b = 0 ∧ curF n L g k lev i a b ≠ 0) ∧ nl.length ≤ (List.range n).countP fun b => decide (curF n L g k lev i a b ≠ 0)
theorem NxtIs.len {i a : Nat} {nl : List Int} (h : NxtIs n L g k lev i a nl) : nl.length ≤ n := by
  have := List.countP_le_length (p := fun b => decide (curF n L g k lev i a b ≠ 0)) (l := List.range n)
  have := h.2.2
  simp at *; omega
theorem NxtIs.nil : NxtIs n L g k lev 0 0 [] := ⟨fun x h => (by cases h), fun b => by
  rw [curF_zero]
  constructor
  · intro h; cases h
  · rintro ⟨_, h1, h2⟩; exact absurd h1 h2, Nat.zero_le _⟩
theorem NxtIs.congr {i a i' a' : Nat} {nl : List Int} (h : NxtIs n L g k lev i a nl) (he : ∀ b, b < n → curF n L g k lev i a b = curF n L g k lev i' a' b) : NxtIs n L g k lev i' a' nl :=
  ⟨h.1, fun b => (h.2.1 b).trans (and_congr_right fun hb => by rw [he b hb]), by
    have e : ((List.range n).countP fun b => decide (curF n L g k lev i a b ≠ 0)) = (List.range n).countP fun b => decide (curF n L g k lev i' a' b ≠ 0) :=
      List.countP_congr fun b hb => by rw [he b (List.mem_range.1 hb)]
    rw [← e]; exact h.2.2⟩
theorem NxtIs.add {i a : Nat} {nl : List Int} (h : NxtIs n L g k lev i a nl) (ha : a < n) (h0 : curF n L g k lev i a a = 0) (hd : (L (lev.getD i 0).toNat).testBit a = true) : NxtIs n L g k lev i (a + 1) (nl ++ [(a : Int)]) := by
  have hn := curF_new h0 hd
  have hf : farK n L g k a = 0 := Classical.byContradiction fun hf => by
    unfold curF at h0; rw [if_pos hf] at h0; exact hf h0
  refine ⟨fun x hx => ?_, fun b => ?_, ?_⟩
  · rcases List.mem_append.1 hx with hx | hx
    · exact h.1 x hx
    · exact ⟨a, List.mem_singleton.1 hx, ha⟩
  · rw [List.mem_append, h.2.1 b, List.mem_singleton, hn b]
    by_cases e : b = a
    · subst e
      rw [if_pos rfl]
      exact ⟨fun _ => ⟨ha, hf, by omega⟩, fun _ => .inr rfl⟩
    · rw [if_neg e]
      constructor
      · rintro (h1 | h1)
        · exact h1
        · exact absurd (by omega) e
      · exact .inl
  · have hlt := countP_lt (l := List.range n) (p := fun b => decide (curF n L g k lev i (a + 1) b ≠ 0)) (q := fun b => decide (curF n L g k lev i a b ≠ 0)) (k := a) (by simpa using ha) (fun b hb => by
      simp only [decide_eq_true_eq] at hb ⊢
      rw [hn b]; split <;> omega) (by simp only [decide_eq_true_eq]; rw [hn a, if_pos rfl]; omega) (by simp [h0])
    have := h.2.2
    rw [List.length_append, List.length_singleton]
    omega
theorem NxtIs.level {nl : List Int} (h : NxtIs n L g k lev lev.length 0 nl) (hg : g < n) (hl : LevIs n L g k lev) (h0 : farK n L g k g = 0) : LevIs n L g (k + 1) nl :=
  ⟨h.1, fun b => (h.2.1 b).trans ⟨fun ⟨h1, h2, h3⟩ => ⟨h1, .inr ⟨by omega, by
      rw [curF_round hg hl h0 h1] at h3
      rw [farK, if_neg (by omega)] at h3 ⊢
      split at h3
      · rw [if_pos ‹_›]
      · exact absurd rfl h3⟩⟩, fun ⟨h1, h2⟩ => by
      rcases h2 with h2 | h2
      · omega
      · have hz : farK n L g k b = 0 := Classical.byContradiction fun hn => by
          rw [farK_stay hn] at h2
          have := farK_le (n := n) (L := L) (g := g) k b
          omega
        exact ⟨h1, hz, by rw [curF_round hg hl h0 h1]; omega⟩⟩⟩
/-- Below a distance every level has a work. -/
theorem lev_all : ∀ {d a : Nat}, farK n L g d a = d → d ≠ 0 → a < n → ∀ j, 1 ≤ j → j ≤ d → ∃ b, b < n ∧ farK n L g j b = j
  | 0, _, _, h, _ => absurd rfl h
  | d + 1, a, h, _, ha => fun j h1 h2 => by
    by_cases e : j = d + 1
    · subst e; exact ⟨a, ha, h⟩
    · obtain ⟨b, hb, _, h3⟩ := farK_hop h
      rcases h3 with h3 | h3
      · omega
      · exact lev_all h3.2.2 h3.1 hb j h1 (by omega)
/-- Where the search may stop, what is shown of g is what n rounds show. -/
theorem back_done (hg : g < n) {most : Nat} (hs : most ≤ k + 1 ∨ (lev = [] ∧ k ≠ 0) ∨ farK n L g k g ≠ 0) (hl : LevIs n L g k lev) (hk : k + 1 ≤ most ∨ k = 0) :
    (farK n L g k g ≠ 0 → farK n L g n g = farK n L g k g ∧ farK n L g k g < most) ∧ (farK n L g k g = 0 → ¬ (farK n L g n g ≠ 0 ∧ farK n L g n g < most)) := by
  refine ⟨fun h => ?_, fun h => ?_⟩
  · have h1 := farK_n hg h
    have h2 := farK_le (n := n) (L := L) (g := g) k g
    refine ⟨h1.1, ?_⟩
    rcases hk with hk | hk
    · omega
    · subst hk; exact absurd rfl h
  · rintro ⟨h1, h2⟩
    obtain ⟨d, hd⟩ : ∃ d, farK n L g n g = d := ⟨_, rfl⟩
    rw [hd] at h1 h2
    have h3 := farK_at hd h1
    have hkd : k < d := Nat.lt_of_not_le fun hle => by
      have := farK_eq (j := k) h1 hle hd
      omega
    rcases hs with hs | ⟨rfl, hk0⟩ | hs
    · omega
    · obtain ⟨b, hb, h4⟩ := lev_all h3 h1 hg k (by omega) (by omega)
      have := (hl.2 b).2 ⟨hb, .inr ⟨hk0, h4⟩⟩
      cases this
    · exact hs h
end
end Go.Proofs.YtlpfecjkkgccgaaDoor
/- What comes directly before what, by a sheet and wishes: plain. -/
namespace Go.Proofs.YtlpfecjkkgccgaaDoor

/-- A set of the numbers below n, by what is asked. -/
def bitF (p : Nat → Bool) : Nat → Nat
  | 0 => 0
  | k + 1 => if p k = true then bitF p k ||| 2 ^ k else bitF p k
theorem bitF_bit (p : Nat → Bool) (j : Nat) : ∀ n, (bitF p n).testBit j = (decide (j < n) && p j)
  | 0 => by simp [bitF]
  | n + 1 => by
    have ih := bitF_bit p j n
    rw [bitF]
    by_cases hj : j = n
    · subst hj
      cases hp : p j with
      | true => simp
      | false => simp [ih]
    · have : decide (j < n + 1) = decide (j < n) := by rw [decide_eq_decide]; omega
      rw [this]
      split
      · rw [testBit_set, ih, decide_eq_false (Ne.symm hj), Bool.or_false]
      · exact ih
theorem bitF_lt (p : Nat → Bool) : ∀ n, bitF p n < 2 ^ n
  | 0 => by simp [bitF]
  | n + 1 => by
    have h := bitF_lt p n
    have h2 : bitF p n < 2 ^ (n + 1) := Nat.lt_trans h (Nat.pow_lt_pow_right (by decide) (by omega))
    rw [bitF]
    split
    · exact Nat.or_lt_two_pow h2 (Nat.pow_lt_pow_right (by decide) (by omega))
    · exact h2
/-- The work k. -/
def plO (ws : List GW) (k : Nat) : Int := (ws.getD k ⟨0, 0, ByteArray.empty⟩).pl
def tcO (ws : List GW) (a b : Nat) : Bool := touchB (plO ws a) (plO ws b)
/-- Is it wished that a comes before b? -/
def wisB (wl : List (Int × Int)) (a b : Nat) : Bool := wl.any fun x => decide (x.1 = (a : Int)) && decide (x.2 = (b : Int))
/-- Does a come directly before b? -/
def dirB (ws : List GW) (wl : List (Int × Int)) (a b : Nat) : Bool := (decide (a < b) && tcO ws a b) || wisB wl a b
/-- All that comes directly before b, as bits. -/
def LO (ws : List GW) (wl : List (Int × Int)) (b : Nat) : Nat := bitF (fun a => dirB ws wl a b) ws.length
/-- A wish that is not one. -/
def badO (n : Nat) (x : Int × Int) : Bool := decide (x.1 < 0 ∨ x.2 < 0 ∨ (n : Int) ≤ x.1 ∨ (n : Int) ≤ x.2 ∨ x.1 = x.2)
/-- The error of a sheet and wishes. -/
def errO (p : Int) (ws : List GW) (wl : List (Int × Int)) : Int := if errSheet p ws = 0 then (if 200 < wl.length then 3 else if wl.any (badO ws.length) = true then 2 else 0) else errSheet p ws
section
variable {ws : List GW} {wl : List (Int × Int)}
theorem LO_bit (a b : Nat) : (LO ws wl b).testBit a = (decide (a < ws.length) && dirB ws wl a b) := bitF_bit _ _ _
theorem LO_lt (b : Nat) : LO ws wl b < 2 ^ ws.length := bitF_lt _ _
theorem LO_in {a b : Nat} (h : (LO ws wl b).testBit a = true) : a < ws.length := by
  rw [LO_bit, Bool.and_eq_true, decide_eq_true_eq] at h; exact h.1
theorem errO_zero {p : Int} (h : errO p ws wl = 0) : errSheet p ws = 0 ∧ wl.length ≤ 200 ∧ ∀ x ∈ wl, 0 ≤ x.1 ∧ 0 ≤ x.2 ∧ x.1 < ws.length ∧ x.2 < ws.length ∧ x.1 ≠ x.2 := by
  unfold errO at h
  split at h
  · rename_i h1
    split at h
    · omega
    · split at h
      · omega
      · rename_i h2 h3
        refine ⟨h1, by omega, fun x hx => ?_⟩
        have : ¬ badO ws.length x = true := fun e => h3 (List.any_eq_true.2 ⟨x, hx, e⟩)
        unfold badO at this
        rw [decide_eq_true_eq] at this
        omega
  · exact absurd h ‹_›
theorem wis_snoc (wl : List (Int × Int)) (x : Int × Int) (a b : Nat) : wisB (wl ++ [x]) a b = (wisB wl a b || (decide (x.1 = (a : Int)) && decide (x.2 = (b : Int)))) := by
  unfold wisB; simp
/-- One wish more. -/
theorem LO_more (x : Int × Int) (b a : Nat) (h : (LO ws wl b).testBit a = true) : (LO ws (wl ++ [x]) b).testBit a = true := by
  rw [LO_bit] at h ⊢
  unfold dirB at h ⊢
  rw [wis_snoc]
  rw [Bool.and_eq_true] at h ⊢
  refine ⟨h.1, ?_⟩
  cases hw : wisB wl a b with
  | true => simp
  | false =>
    have := h.2
    rw [hw, Bool.or_false] at this
    rw [this]; rfl
end
end Go.Proofs.YtlpfecjkkgccgaaDoor
/- An order with the fewest steps aside: plain. tc a b: do works a and b touch? -/
namespace Go.Proofs.YtlpfecjkkgccgaaDoor

/-- A step aside: 1 if the work does not touch the last one. -/
def stp (tc : Nat → Nat → Bool) (last : Int) (b : Nat) : Nat := if last < 0 then 0 else if tc last.toNat b = true then 0 else 1
/-- The least value over the works below k that may come, and the first work that has it. -/
def bstB (tc : Nat → Nat → Bool) (L : Nat → Nat) (g : Nat → Nat → Nat) (S : Nat) (last : Int) : Nat → Option (Nat × Nat)
  | 0 => none
  | k + 1 => if freeB L S k = true then
      (match bstB tc L g S last k with
      | none => some (stp tc last k + g (S ||| 2 ^ k) k, k)
      | some (v, b) => if stp tc last k + g (S ||| 2 ^ k) k < v then some (stp tc last k + g (S ||| 2 ^ k) k, k) else some (v, b))
    else bstB tc L g S last k
def valO (x : Option (Nat × Nat)) : Nat := match x with | none => 0 | some (v, _) => v
def rsF (n : Nat) (tc : Nat → Nat → Bool) (L : Nat → Nat) : Nat → Nat → Int → Nat
  | 0, _, _ => 0
  | f + 1, S, last => valO (bstB tc L (fun T b => rsF n tc L f T b) S last n)
/-- The fewest steps aside that are still to come. -/
def rsU (n : Nat) (tc : Nat → Nat → Bool) (L : Nat → Nat) (S : Nat) (last : Int) : Nat := rsF n tc L (n + 1) S last
/-- The order that is found. -/
def pthR (n : Nat) (tc : Nat → Nat → Bool) (L : Nat → Nat) : Nat → Nat → Int → List Int
  | 0, _, _ => []
  | f + 1, S, last => match bstB tc L (fun T b => rsU n tc L T b) S last n with
    | none => []
    | some (_, b) => (b : Int) :: pthR n tc L f (S ||| 2 ^ b) b
/-- The steps aside of a list behind a work. -/
def asdF (tc : Nat → Nat → Bool) : Int → List Int → Nat
  | _, [] => 0
  | last, x :: l => stp tc last x.toNat + asdF tc x l
section
variable {n : Nat} {L : Nat → Nat} {tc : Nat → Nat → Bool}
theorem bstB_congr {g g' : Nat → Nat → Nat} {S : Nat} {last : Int} : ∀ k, (∀ j, j < k → freeB L S j = true → g (S ||| 2 ^ j) j = g' (S ||| 2 ^ j) j) → bstB tc L g S last k = bstB tc L g' S last k
  | 0, _ => rfl
  | k + 1, h => by
    have ih := bstB_congr (g := g) (g' := g') (S := S) (last := last) k fun j hj => h j (by omega)
    rw [bstB, bstB, ih]
    split
    · rename_i c
      rw [h k (by omega) c]
    · rfl
theorem rsF_stable : ∀ f f' S last, miss n S < f → miss n S < f' → rsF n tc L f S last = rsF n tc L f' S last
  | 0, _, _, _, h, _ => absurd h (by omega)
  | _ + 1, 0, _, _, _, h => absurd h (by omega)
  | f + 1, f' + 1, S, last, h, h' => by
    unfold rsF
    rw [bstB_congr n fun k hk hf => ?_]
    have := miss_set hk (freeB_bit hf)
    exact rsF_stable f f' _ _ (by omega) (by omega)
theorem rsU_step (S : Nat) (last : Int) : rsU n tc L S last = valO (bstB tc L (fun T b => rsU n tc L T b) S last n) := by
  unfold rsU
  rw [rsF, bstB_congr n fun k hk hf => ?_]
  have := miss_set hk (freeB_bit hf)
  have := miss_le n S
  exact rsF_stable _ _ _ _ (by omega) (by omega)
/-- What is found is one of those that may come, with the least value; none before it has it. -/
theorem bstB_spec {g : Nat → Nat → Nat} {S : Nat} {last : Int} : ∀ k, (bstB tc L g S last k = none ↔ ∀ j, j < k → freeB L S j = false) ∧
    ∀ v b, bstB tc L g S last k = some (v, b) → b < k ∧ freeB L S b = true ∧ v = stp tc last b + g (S ||| 2 ^ b) b ∧ (∀ j, j < k → freeB L S j = true → v ≤ stp tc last j + g (S ||| 2 ^ j) j) ∧ ∀ j, j < b → freeB L S j = true → v < stp tc last j + g (S ||| 2 ^ j) j
  | 0 => ⟨by simp [bstB], fun v b h => by cases h⟩
  | k + 1 => by
    obtain ⟨ih1, ih2⟩ := bstB_spec (g := g) (S := S) (last := last) k
    rw [bstB]
    by_cases c : freeB L S k = true
    · rw [if_pos c]
      cases hb : bstB tc L g S last k with
      | none =>
        refine ⟨⟨(fun h => by cases h), fun h => by rw [h k (by omega)] at c; cases c⟩, fun v b h => ?_⟩
        have hn := ih1.1 hb
        simp only [Option.some.injEq, Prod.mk.injEq] at h
        obtain ⟨rfl, rfl⟩ := h
        refine ⟨by omega, c, rfl, fun j hj hf => ?_, fun j hj hf => ?_⟩
        · by_cases e : j = k
          · subst e; exact Nat.le_refl _
          · rw [hn j (by omega)] at hf; cases hf
        · rw [hn j hj] at hf; cases hf
      | some x =>
        obtain ⟨u, a⟩ := x
        obtain ⟨h1, h2, h3, h4, h5⟩ := ih2 u a hb
        simp only
        refine ⟨⟨fun h => ?_, fun h => by rw [h k (by omega)] at c; cases c⟩, fun v b h => ?_⟩
        · split at h <;> cases h
        · split at h
          · rename_i hlt
            simp only [Option.some.injEq, Prod.mk.injEq] at h
            obtain ⟨rfl, rfl⟩ := h
            refine ⟨by omega, c, rfl, fun j hj hf => ?_, fun j hj hf => ?_⟩
            · by_cases e : j = k
              · subst e; exact Nat.le_refl _
              · have := h4 j (by omega) hf; omega
            · have := h4 j hj hf; omega
          · rename_i hge
            simp only [Option.some.injEq, Prod.mk.injEq] at h
            obtain ⟨rfl, rfl⟩ := h
            refine ⟨by omega, h2, h3, fun j hj hf => ?_, h5⟩
            by_cases e : j = k
            · subst e; omega
            · exact h4 j (by omega) hf
    · rw [if_neg c]
      refine ⟨ih1.trans ⟨fun h j hj => ?_, fun h j hj => h j (by omega)⟩, fun v b h => ?_⟩
      · by_cases e : j = k
        · subst e; simpa using c
        · exact h j (by omega)
      · obtain ⟨h1, h2, h3, h4, h5⟩ := ih2 v b h
        refine ⟨by omega, h2, h3, fun j hj hf => ?_, h5⟩
        by_cases e : j = k
        · subst e; exact absurd hf c
        · exact h4 j (by omega) hf
theorem bst_none {g : Nat → Nat → Nat} {S : Nat} {last : Int} {k : Nat} (h : bstB tc L g S last k = none) : ∀ j, j < k → freeB L S j = false := (bstB_spec k).1.1 h
/-- No order of the rest has fewer steps aside. -/
theorem rs_le : ∀ {l : List Int} {S : Nat} {last : Int}, (pRun n L S l).isSome = true → rsU n tc L S last ≤ asdF tc last l ∨ l.length < miss n S
  | [], S, last, _ => by
    rcases Nat.eq_zero_or_pos (miss n S) with h0 | h0
    · left
      rw [rsU_step]
      cases hb : bstB tc L (fun T b => rsU n tc L T b) S last n with
      | none => exact Nat.zero_le _
      | some x =>
        obtain ⟨v, b⟩ := x
        obtain ⟨h1, h2, _⟩ := (bstB_spec n).2 v b hb
        have := miss_set h1 (freeB_bit h2)
        omega
    · right; exact h0
  | x :: l, S, last, h => by
    obtain ⟨k, rfl, hk, hf, hr⟩ := pRun_cons h
    have hm := miss_step' (freeB_bit hf) n hk
    rcases rs_le (last := (k : Int)) hr with h1 | h1
    · left
      rw [rsU_step, asdF]
      simp only [Int.toNat_natCast]
      cases hb : bstB tc L (fun T b => rsU n tc L T b) S last n with
      | none => rw [bst_none hb k hk] at hf; cases hf
      | some y =>
        obtain ⟨v, b⟩ := y
        have := ((bstB_spec n).2 v b hb).2.2.2.1 k hk hf
        simp only [valO]
        omega
    · right
      simp only [List.length_cons]
      omega
/-- The order that is found: where the rest can be done, it does it, with the fewest steps aside. -/
theorem pth_spec : ∀ {f S : Nat} {last : Int} {l : List Int}, miss n S = f → l.length = f → (pRun n L S l).isSome = true →
    (pthR n tc L f S last).length = f ∧ (pRun n L S (pthR n tc L f S last)).isSome = true ∧ asdF tc last (pthR n tc L f S last) = rsU n tc L S last
  | 0, S, last, l, hm, hl, hr => by
    refine ⟨rfl, rfl, ?_⟩
    have := rs_le (tc := tc) (last := last) (show (pRun n L S []).isSome = true from rfl)
    rcases this with h | h
    · show 0 = _
      have h2 : asdF tc last [] = 0 := rfl
      omega
    · simp at h; omega
  | f + 1, S, last, l, hm, hl, hr => by
    obtain ⟨T, hT⟩ := Option.isSome_iff_exists.1 hr
    rw [pthR]
    cases hb : bstB tc L (fun T b => rsU n tc L T b) S last n with
    | none =>
      cases l with
      | nil => simp at hl
      | cons x m =>
        obtain ⟨k, rfl, hk, hf, _⟩ := pRun_cons hr
        rw [bst_none hb k hk] at hf; cases hf
    | some y =>
      obtain ⟨v, b⟩ := y
      obtain ⟨h1, h2, h3, _⟩ := (bstB_spec n).2 v b hb
      have hmem := mem_run hT (by omega) h1 (freeB_bit h2)
      have hfi := pRun_first hT hmem
      have hms := miss_step' (freeB_bit h2) n h1
      obtain ⟨g1, g2, g3⟩ := pth_spec (last := (b : Int)) (l := l.erase (b : Int)) (show miss n (S ||| 2 ^ b) = f by omega) (by rw [List.length_erase_of_mem hmem]; omega) (by rw [hfi]; rfl)
      simp only
      refine ⟨by simp [g1], by rw [pRun_nat h1 h2]; exact g2, ?_⟩
      rw [asdF, g3, rsU_step S last, hb]
      simp only [valO, Int.toNat_natCast]
      omega
/-- The first work whose value is the least one. -/
theorem bst_first {g : Nat → Nat → Nat} {S : Nat} {last : Int} {v b : Nat} (h : bstB tc L g S last n = some (v, b)) : fstF (fun k => freeB L S k && decide (stp tc last k + g (S ||| 2 ^ k) k = v)) n = b := by
  obtain ⟨h1, h2, h3, h4, h5⟩ := (bstB_spec n).2 v b h
  refine fstF_eq h1 (by simp [h2, h3]) fun j hj => ?_
  cases hf : freeB L S j with
  | false => rfl
  | true =>
    have := h5 j hj hf
    simp only [Bool.true_and, decide_eq_false_iff_not]
    omega
theorem stp_le (last : Int) (b : Nat) : stp tc last b ≤ 1 := by unfold stp; split; omega; split <;> omega
theorem rsU_le : ∀ m S last, miss n S = m → rsU n tc L S last ≤ m := by
  intro m
  induction m with
  | zero =>
    intro S last hm
    rcases rs_le (tc := tc) (last := last) (show (pRun n L S []).isSome = true from rfl) with h | h
    · exact h
    · simp at h; omega
  | succ m ih =>
    intro S last hm
    rw [rsU_step]
    cases hb : bstB tc L (fun T b => rsU n tc L T b) S last n with
    | none => exact Nat.zero_le _
    | some y =>
      obtain ⟨v, b⟩ := y
      obtain ⟨h1, h2, h3, _⟩ := (bstB_spec n).2 v b hb
      have := ih (S ||| 2 ^ b) (b : Int) (by have := miss_step' (freeB_bit h2) n h1; omega)
      have := stp_le (tc := tc) last b
      simp only [valO]
      omega
end
end Go.Proofs.YtlpfecjkkgccgaaDoor
/- Package pairs in plain Lean: from when to when a place is in use, how many pairs hang. -/
namespace Go.Proofs.YtlpfecjkkgccgaaDoor

/-- A work at place a takes place p. -/
def tkB (a p : Nat) : Bool := p == a || p == a + 1
/-- The first and the last of n works that take a place (work k lies at place q k); -1: none. -/
def fsI (q : Nat → Nat) : Nat → Nat → Int
  | 0, _ => -1
  | n + 1, p => if tkB (q n) p = true ∧ fsI q n p < 0 then (n : Int) else fsI q n p
def laI (q : Nat → Nat) : Nat → Nat → Int
  | 0, _ => -1
  | n + 1, p => if tkB (q n) p = true then (n : Int) else laI q n p
theorem fsI_lt (q : Nat → Nat) (p : Nat) : ∀ n, -1 ≤ fsI q n p ∧ fsI q n p < n
  | 0 => by unfold fsI; omega
  | n + 1 => by
    have := fsI_lt q p n
    unfold fsI
    split <;> omega
theorem laI_lt (q : Nat → Nat) (p : Nat) : ∀ n, -1 ≤ laI q n p ∧ laI q n p < n
  | 0 => by unfold laI; omega
  | n + 1 => by
    have := laI_lt q p n
    unfold laI
    split <;> omega
theorem fsI_neg (q : Nat → Nat) (p : Nat) : ∀ n, fsI q n p < 0 ↔ ∀ i, i < n → tkB (q i) p = false
  | 0 => by unfold fsI; simp
  | n + 1 => by
    have ih := fsI_neg q p n
    unfold fsI
    constructor
    · intro h
      split at h
      · omega
      · rename_i hc
        have h2 := ih.1 h
        intro i hi
        rcases Nat.lt_succ_iff_lt_or_eq.1 hi with hi | rfl
        · exact h2 i hi
        · cases ht : tkB (q i) p with
          | false => rfl
          | true => exact absurd ⟨ht, h⟩ hc
    · intro h
      have h2 := ih.2 fun i hi => h i (by omega)
      rw [if_neg (fun hc => by rw [h n (by omega)] at hc; exact absurd hc.1 (by decide))]
      exact h2
theorem fsI_le (q : Nat → Nat) (p k : Nat) : ∀ n, (0 ≤ fsI q n p ∧ fsI q n p ≤ k) ↔ ∃ i, i < n ∧ i ≤ k ∧ tkB (q i) p = true
  | 0 => by
    unfold fsI
    constructor
    · intro h; omega
    · rintro ⟨i, hi, _⟩; omega
  | n + 1 => by
    have ih := fsI_le q p k n
    have hn := fsI_neg q p n
    unfold fsI
    by_cases hc : tkB (q n) p = true ∧ fsI q n p < 0
    · rw [if_pos hc]
      constructor
      · intro h; exact ⟨n, by omega, by omega, hc.1⟩
      · rintro ⟨i, hi, hk, ht⟩
        rcases Nat.lt_succ_iff_lt_or_eq.1 hi with hi | rfl
        · rw [hn.1 hc.2 i hi] at ht; cases ht
        · omega
    · rw [if_neg hc, ih]
      constructor
      · rintro ⟨i, hi, hk, ht⟩; exact ⟨i, by omega, hk, ht⟩
      · rintro ⟨i, hi, hk, ht⟩
        rcases Nat.lt_succ_iff_lt_or_eq.1 hi with hi | rfl
        · exact ⟨i, hi, hk, ht⟩
        · have h0 : ¬ fsI q i p < 0 := fun h => hc ⟨ht, h⟩
          have hl := fsI_lt q p i
          exact ih.1 ⟨by omega, by omega⟩
theorem laI_le (q : Nat → Nat) (p k : Nat) : ∀ n, (k : Int) ≤ laI q n p ↔ ∃ i, i < n ∧ k ≤ i ∧ tkB (q i) p = true
  | 0 => by
    unfold laI
    constructor
    · intro h; omega
    · rintro ⟨i, hi, _⟩; omega
  | n + 1 => by
    have ih := laI_le q p k n
    have hl := laI_lt q p n
    unfold laI
    by_cases hc : tkB (q n) p = true
    · rw [if_pos hc]
      constructor
      · intro h; exact ⟨n, by omega, by omega, hc⟩
      · rintro ⟨i, hi, hk, _⟩; omega
    · rw [if_neg hc, ih]
      constructor
      · rintro ⟨i, hi, hk, ht⟩; exact ⟨i, by omega, hk, ht⟩
      · rintro ⟨i, hi, hk, ht⟩
        rcases Nat.lt_succ_iff_lt_or_eq.1 hi with hi | rfl
        · exact ⟨i, hi, hk, ht⟩
        · exact absurd ht hc
/-- While work k of n is made, does a pair hang in place p? -/
def hgQ (q : Nat → Nat) (n k p : Nat) : Bool := decide (0 ≤ fsI q n p ∧ fsI q n p ≤ k ∧ (k : Int) ≤ laI q n p)
theorem hgQ_iff (q : Nat → Nat) (n k p : Nat) : hgQ q n k p = true ↔ (∃ i, i < n ∧ i ≤ k ∧ tkB (q i) p = true) ∧ ∃ i, i < n ∧ k ≤ i ∧ tkB (q i) p = true := by
  unfold hgQ
  rw [decide_eq_true_eq, ← fsI_le q p k n, ← laI_le q p k n, and_assoc]
/-- How many numbers below m are such. -/
def cntP (f : Nat → Bool) : Nat → Nat
  | 0 => 0
  | m + 1 => cntP f m + if f m = true then 1 else 0
theorem cntP_le (f : Nat → Bool) : ∀ m, cntP f m ≤ m
  | 0 => Nat.le_refl _
  | m + 1 => by
    have := cntP_le f m
    unfold cntP
    split <;> omega
theorem cntP_congr {f g : Nat → Bool} : ∀ m, (∀ p, p < m → f p = g p) → cntP f m = cntP g m
  | 0, _ => rfl
  | m + 1, h => by
    unfold cntP
    rw [cntP_congr m fun p hp => h p (by omega), h m (by omega)]
theorem cntP_more {f : Nat → Bool} {m : Nat} : ∀ d, (∀ p, m ≤ p → p < m + d → f p = false) → cntP f (m + d) = cntP f m
  | 0, _ => rfl
  | d + 1, h => by
    have e : cntP f (m + (d + 1)) = cntP f (m + d) + if f (m + d) = true then 1 else 0 := rfl
    rw [e, cntP_more d fun p h1 h2 => h p h1 (by omega), h (m + d) (by omega) (by omega)]
    simp
/-- How many pairs hang while work k of n is made (24 places), and the need. -/
def hngN (q : Nat → Nat) (n k : Nat) : Nat := cntP (hgQ q n k) 24
def needQ (q : Nat → Nat) (n : Nat) : Nat → Nat
  | 0 => 0
  | m + 1 => max (needQ q n m) (hngN q n m)
theorem hngN_le (q : Nat → Nat) (n k : Nat) : hngN q n k ≤ 24 := cntP_le _ _
theorem needQ_le (q : Nat → Nat) (n : Nat) : ∀ m, needQ q n m ≤ 24
  | 0 => by unfold needQ; omega
  | m + 1 => by
    have := needQ_le q n m
    have := hngN_le q n m
    unfold needQ; omega
theorem needQ_ge (q : Nat → Nat) (n : Nat) : ∀ m k, k < m → hngN q n k ≤ needQ q n m
  | m + 1, k, h => by
    unfold needQ
    rcases Nat.lt_succ_iff_lt_or_eq.1 h with h | rfl
    · have := needQ_ge q n m k h; omega
    · omega
theorem needQ_least (q : Nat → Nat) (n v : Nat) : ∀ m, (∀ k, k < m → hngN q n k ≤ v) → needQ q n m ≤ v
  | 0, _ => Nat.zero_le _
  | m + 1, h => by
    have h1 := needQ_least q n v m fun k hk => h k (by omega)
    have h2 := h m (by omega)
    unfold needQ; omega
def hangsL (q : Nat → Nat) (n m : Nat) : List Int := (List.range m).map fun k => (hngN q n k : Int)
theorem hangsL_length (q : Nat → Nat) (n m : Nat) : (hangsL q n m).length = m := by unfold hangsL; simp
theorem hangsL_succ (q : Nat → Nat) (n m : Nat) : hangsL q n (m + 1) = hangsL q n m ++ [(hngN q n m : Int)] := by unfold hangsL; simp [List.range_succ]
end Go.Proofs.YtlpfecjkkgccgaaDoor
/- Fewest of package pairs in plain Lean: the need of what is not done. -/
namespace Go.Proofs.YtlpfecjkkgccgaaDoor

/-- The works below n that take a place, as bits. -/
def tkS (q : Nat → Nat) : Nat → Nat → Nat
  | 0, _ => 0
  | i + 1, p => if tkB (q i) p = true then tkS q i p ||| 2 ^ i else tkS q i p
theorem tkS_bit (q : Nat → Nat) (p j : Nat) : ∀ n, (tkS q n p).testBit j = (decide (j < n) && tkB (q j) p)
  | 0 => by unfold tkS; simp
  | n + 1 => by
    have ih := tkS_bit q p j n
    unfold tkS
    by_cases hc : tkB (q n) p = true
    · rw [if_pos hc, testBit_set, ih]
      by_cases h : n = j
      · subst h; simp [hc]
      · have e : decide (j < n + 1) = decide (j < n) := by simp; omega
        rw [e, decide_eq_false h, Bool.or_false]
    · rw [if_neg hc, ih]
      by_cases h : n = j
      · subst h
        have : tkB (q n) p = false := by simpa using hc
        simp [this]
      · have e : decide (j < n + 1) = decide (j < n) := by simp; omega
        rw [e]
theorem tkS_lt (q : Nat → Nat) (p : Nat) : ∀ n, tkS q n p < 2 ^ n
  | 0 => by unfold tkS; decide
  | n + 1 => by
    have := tkS_lt q p n
    have h2 : 2 ^ n < 2 ^ (n + 1) := Nat.pow_lt_pow_right (by decide) (by omega)
    unfold tkS
    split
    · exact Nat.or_lt_two_pow (by omega) h2
    · omega
/-- The works directly before a work, as bits. -/
def befT (q : Nat → Nat) (i : Nat) : Nat := tkS q i (q i) ||| tkS q i (q i + 1)
theorem befT_lt (q : Nat → Nat) (i : Nat) : befT q i < 2 ^ i := Nat.or_lt_two_pow (tkS_lt q _ i) (tkS_lt q _ i)
theorem befT_bit (q : Nat → Nat) (i a : Nat) : (befT q i).testBit a = (decide (a < i) && (tkB (q a) (q i) || tkB (q a) (q i + 1))) := by
  unfold befT
  rw [Nat.testBit_or, tkS_bit, tkS_bit, Bool.and_or_distrib_left]
/-- A pair hangs in a place while a work is made, some being done; how many. -/
def hgS (q : Nat → Nat) (n S w p : Nat) : Bool := !decide (tkS q n p &&& (S ||| 2 ^ w) = 0) && !decide (tkS q n p &&& S = tkS q n p)
def hngS (q : Nat → Nat) (n S w : Nat) : Nat := cntP (hgS q n S w) 24
theorem hngS_le (q : Nat → Nat) (n S w : Nat) : hngS q n S w ≤ 24 := cntP_le _ _
/-- The need of what is not done. -/
def minF (g : Nat → Nat) (h : Nat → Nat → Nat) (bef : Nat → Nat) (S : Nat) : Nat → Nat
  | 0 => 25
  | k + 1 => if freeB bef S k = true then min (minF g h bef S k) (max (h S k) (g (S ||| 2 ^ k))) else minF g h bef S k
def ndF (n : Nat) (bef : Nat → Nat) (h : Nat → Nat → Nat) : Nat → Nat → Nat
  | 0, _ => 0
  | f + 1, S => if S = 2 ^ n - 1 then 0 else minF (ndF n bef h f) h bef S n
def ndN (n : Nat) (bef : Nat → Nat) (h : Nat → Nat → Nat) (S : Nat) : Nat := ndF n bef h (n + 1) S
theorem minF_congr {g g' : Nat → Nat} {h : Nat → Nat → Nat} {bef : Nat → Nat} {S : Nat} : ∀ n, (∀ k, k < n → freeB bef S k = true → g (S ||| 2 ^ k) = g' (S ||| 2 ^ k)) → minF g h bef S n = minF g' h bef S n
  | 0, _ => rfl
  | k + 1, hh => by
    have := minF_congr (g := g) (g' := g') (h := h) (bef := bef) (S := S) k (fun j hj => hh j (by omega))
    unfold minF
    split
    · rename_i hf; rw [this, hh k (by omega) hf]
    · exact this
theorem ndF_stable (n : Nat) (bef : Nat → Nat) (h : Nat → Nat → Nat) : ∀ f f' s, miss n s < f → miss n s < f' → ndF n bef h f s = ndF n bef h f' s
  | 0, _, _, hh, _ => absurd hh (by omega)
  | _ + 1, 0, _, _, hh => absurd hh (by omega)
  | f + 1, f' + 1, s, hh, hh' => by
    unfold ndF
    split
    · rfl
    · refine minF_congr n fun k hk hf => ?_
      have := miss_set hk (freeB_bit hf)
      exact ndF_stable n bef h f f' _ (by omega) (by omega)
theorem ndN_full (n : Nat) (bef : Nat → Nat) (h : Nat → Nat → Nat) : ndN n bef h (2 ^ n - 1) = 0 := by unfold ndN ndF; rw [if_pos rfl]
theorem ndN_step (n : Nat) (bef : Nat → Nat) (h : Nat → Nat → Nat) (S : Nat) (hS : S ≠ 2 ^ n - 1) : ndN n bef h S = minF (ndN n bef h) h bef S n := by
  unfold ndN
  rw [ndF, if_neg hS]
  refine minF_congr n fun k hk hf => ?_
  have := miss_set hk (freeB_bit hf)
  have := miss_le n S
  exact ndF_stable n bef h _ _ _ (by omega) (by omega)
theorem minF_le (g : Nat → Nat) (h : Nat → Nat → Nat) (bef : Nat → Nat) (S : Nat) : ∀ n, minF g h bef S n ≤ 25
  | 0 => Nat.le_refl _
  | k + 1 => by
    have := minF_le g h bef S k
    unfold minF
    split <;> omega
theorem ndN_le (n : Nat) (bef : Nat → Nat) (h : Nat → Nat → Nat) (S : Nat) : ndN n bef h S ≤ 25 := by
  unfold ndN ndF
  split
  · omega
  · exact minF_le _ _ _ _ _
theorem minF_skip {g : Nat → Nat} {h : Nat → Nat → Nat} {bef : Nat → Nat} {S k : Nat} : ∀ d, (∀ i, k ≤ i → i < k + d → S.testBit i = true) → minF g h bef S (k + d) = minF g h bef S k
  | 0, _ => rfl
  | d + 1, hh => by
    have ih := minF_skip (g := g) (h := h) (bef := bef) (S := S) (k := k) d fun i h1 h2 => hh i h1 (by omega)
    have hf : freeB bef S (k + d) = false := by unfold freeB; rw [hh (k + d) (by omega) (by omega)]; rfl
    have e : minF g h bef S (k + (d + 1)) = if freeB bef S (k + d) = true then min (minF g h bef S (k + d)) (max (h S (k + d)) (g (S ||| 2 ^ (k + d)))) else minF g h bef S (k + d) := rfl
    rw [e, hf, if_neg (by decide), ih]
theorem minF_succ (g : Nat → Nat) (h : Nat → Nat → Nat) (bef : Nat → Nat) (S k : Nat) : minF g h bef S (k + 1) = if freeB bef S k = true then min (minF g h bef S k) (max (h S k) (g (S ||| 2 ^ k))) else minF g h bef S k := rfl
/-- Those from k on that are not done. -/
def LeftIs (n S k x : Nat) : Prop := ∀ i, x.testBit i = (decide (k ≤ i) && decide (i < n) && !S.testBit i)
theorem LeftIs.lt {n S k x : Nat} (h : LeftIs n S k x) : x < 2 ^ n := by
  apply Nat.lt_pow_two_of_testBit
  intro i hi
  rw [h i, decide_eq_false (show ¬ i < n by omega)]
  simp
theorem LeftIs.zero {n S k x : Nat} (h : LeftIs n S k x) (hx : x = 0) : ∀ i, k ≤ i → i < n → S.testBit i = true := fun i h1 h2 => by
  have := h i
  rw [hx, decide_eq_true h1, decide_eq_true h2] at this
  simpa using this
/-- A number without its least bit. -/
theorem low_bit {x : Nat} (hx : x ≠ 0) : ∃ w, x.testBit w = true ∧ (∀ j, j < w → x.testBit j = false) ∧ ∀ i, (x &&& (x - 1)).testBit i = (x.testBit i && !decide (i = w)) := by
  have h1 : ∃ w, x.testBit w = true := by
    refine Classical.byContradiction fun hn => hx (Nat.eq_of_testBit_eq fun i => ?_)
    rw [Nat.zero_testBit]
    cases h : x.testBit i with
    | false => rfl
    | true => exact absurd ⟨i, h⟩ hn
  obtain ⟨w0, hw0⟩ := h1
  have h2 : ∀ m, x.testBit m = true → ∃ w, x.testBit w = true ∧ ∀ j, j < w → x.testBit j = false := by
    intro m
    induction m using Nat.strongRecOn with
    | _ m ih =>
      intro hm
      by_cases hj : ∃ j, j < m ∧ x.testBit j = true
      · obtain ⟨j, hj, hb⟩ := hj; exact ih j hj hb
      · refine ⟨m, hm, fun j hj2 => ?_⟩
        cases h : x.testBit j with
        | false => rfl
        | true => exact absurd ⟨j, hj2, h⟩ hj
  obtain ⟨w, hw, hl⟩ := h2 w0 hw0
  refine ⟨w, hw, hl, fun i => ?_⟩
  have hmod : x % 2 ^ (w + 1) = 2 ^ w := by
    apply Nat.eq_of_testBit_eq
    intro j
    rw [Nat.testBit_mod_two_pow, Nat.testBit_two_pow]
    by_cases hj : j < w
    · rw [hl j hj]; simp; omega
    · by_cases hjw : j = w
      · subst hjw; rw [hw]; simp
      · rw [decide_eq_false (by omega), decide_eq_false (fun e => hjw e.symm)]; rfl
  have hx2 : x = 2 ^ (w + 1) * (x / 2 ^ (w + 1)) + 2 ^ w := by
    have := Nat.div_add_mod x (2 ^ (w + 1))
    rw [hmod] at this
    exact this.symm
  have hp := Nat.two_pow_pos w
  have hlt : 2 ^ w - 1 < 2 ^ (w + 1) := by rw [Nat.pow_succ]; omega
  have hx3 : x - 1 = 2 ^ (w + 1) * (x / 2 ^ (w + 1)) + (2 ^ w - 1) := by omega
  have hlt2 : 2 ^ w < 2 ^ (w + 1) := by rw [Nat.pow_succ]; omega
  rw [Nat.testBit_and, hx3, Nat.testBit_two_pow_mul_add _ hlt]
  by_cases hi : i < w + 1
  · rw [if_pos hi, Nat.testBit_two_pow_sub_one]
    by_cases hiw : i = w
    · subst hiw; simp
    · rw [hl i (by omega)]; rfl
  · rw [if_neg hi, decide_eq_false (show ¬ i = w by omega)]
    have : x.testBit i = (x / 2 ^ (w + 1)).testBit (i - (w + 1)) := by
      rw [Nat.testBit_div_two_pow]; congr 1; omega
    rw [← this]
    simp
theorem LeftIs.next {n S k x w : Nat} (h : LeftIs n S k x) (hw : x.testBit w = true) (hl : ∀ j, j < w → x.testBit j = false) (hn : ∀ i, (x &&& (x - 1)).testBit i = (x.testBit i && !decide (i = w))) :
    k ≤ w ∧ w < n ∧ S.testBit w = false ∧ (∀ i, k ≤ i → i < w → S.testBit i = true) ∧ LeftIs n S (w + 1) (x &&& (x - 1)) := by
  have h1 := h w
  rw [hw] at h1
  simp only [Bool.true_eq, Bool.and_eq_true, decide_eq_true_eq, Bool.not_eq_true'] at h1
  refine ⟨h1.1.1, h1.1.2, h1.2, fun i hi hiw => ?_, fun i => ?_⟩
  · have h2 := h i
    rw [hl i hiw, decide_eq_true hi, decide_eq_true (show i < n by omega)] at h2
    simpa using h2
  · rw [hn i]
    by_cases hiw : i < w
    · rw [hl i hiw, decide_eq_false (show ¬ w + 1 ≤ i by omega)]; rfl
    · by_cases he : i = w
      · subst he; rw [decide_eq_false (show ¬ i + 1 ≤ i by omega)]; simp
      · rw [h i, decide_eq_true (show k ≤ i by omega), decide_eq_true (show w + 1 ≤ i by omega), decide_eq_false he]; simp
end Go.Proofs.YtlpfecjkkgccgaaDoor
