/- Texts of this claim, laid together: Base, Bits, Grb, Own, EdPure, EdF, SetW, Spec, Cnt, Ok, PrPure, PrFew, PrOnes. -/
import Derived.BigQuiet
import Derived.Deep.AppendLies
import Derived.Deep.QuietTactic
import Derived.Lib.Hide
import Derived.WalkKit
import Derived.WalkLawsBesides
import Derived.WalkSpells
/- Words for memory, over any program: what a slice of ints or of works reads as, regions that draw their order over worlds that only grow. No program is named here. -/
namespace Go.Proofs.YtnplcephmidjbaaDoor
open Go.RowKit

theorem ret_bool {a b : Bool} (h : a = b) : Ending.returned (.bool a) = .returned (.bool b) := by rw [h]
theorem ret_int {k : IntKind} {a b : Int} (h : a = b) : Ending.returned (.int k a) = .returned (.int k b) := by rw [h]

theorem block_of_add (a : Addr) (n : Nat) : (a.add n).block = a.block := by unfold Addr.add; split <;> rfl
theorem add_of_add (a : Addr) (i j : Nat) : (a.add i).add j = a.add (i + j) := by
  unfold Addr.add
  by_cases hi : i = 0 <;> by_cases hj : j = 0 <;> simp [hi, hj, Nat.add_assoc]

/-- A world that is as W was below B. -/
structure Bel (B : Nat) (W : World) where
  wd : World
  h : Below B W wd

theorem wp_region_bel {P : Program} (B : Nat) {id : Nat} {Q : Exit → Act → World → Prop} {a : Act} {w : World} {l : List Oper} (hm : P.follows .mixedOrders = true) (hB : Region.lexB .any l.toArray = true)
    (h : wpQuiet P l.toArray (fun w' => ∃ u : Bel B w, w' = u.wd) (fun a' => ∀ w', (∃ u : Bel B w, w' = u.wd) → Q .normal a' w') l a) : (Code.region id l.toArray true).wp P Q a w :=
  wp_region_quiet (C := fun w' => ∃ u : Bel B w, w' = u.wd) hm hB ⟨⟨w.drew, (Below.refl B w).drew⟩, rfl⟩ (by simpa using h)

theorem quiet_bel {P : Program} {f : FuncId} {args : Array Value} {B : Nat} {w : World} {u : Bel B w} {v : Value} (hB : B ≤ w.heap.size)
    (h : Calls P f args u.wd fun e w' => e = .returned v ∧ Below u.wd.heap.size u.wd w') : Calls P f args u.wd fun e w'' => e = .returned v ∧ ∃ u' : Bel B w, w'' = u'.wd :=
  h.mono fun _ w' ⟨he, hb⟩ => ⟨he, ⟨w', u.h.trans (hb.mono (Nat.le_trans hB u.h.size))⟩, rfl⟩
theorem quiet_bel_same {P : Program} {f : FuncId} {args : Array Value} {B : Nat} {w : World} {u : Bel B w} {v : Value}
    (h : Calls P f args u.wd fun e w' => e = .returned v ∧ u.wd = w') : Calls P f args u.wd fun e w'' => e = .returned v ∧ ∃ u' : Bel B w, w'' = u'.wd :=
  h.mono fun _ _ ⟨he, hb⟩ => ⟨he, u, hb.symm⟩

/-- What holds of the cells at w holds at every later world. -/
theorem below_at {B : Nat} {w w' : World} (h : Below B w w') (hB : w.heap.size ≤ B) {a : Addr} {v : Value} (hc : w.cell? a = some v) : w'.cell? a = some v :=
  (h.cell (Nat.lt_of_lt_of_le (World.block_lt_of_cell? w a hc) hB)).trans hc
theorem below_drewN {B : Nat} {a w : World} (h : Below B a w) (n : Nat) : Below B a (w.drewN n) := ⟨h.os, h.tape, h.output, h.size, h.block⟩

/-- The slice at A holds these cells, `size` of them for each element. -/
def Rd (w : World) (A : Option Addr) (size n : Nat) (f : Nat → Value) : Prop :=
  0 < n * size → ∃ b off, A = some ⟨b, off, none⟩ ∧ b < w.heap.size ∧ ∀ j, j < n * size → w.cell? ⟨b, off + j, none⟩ = some (f j)
theorem Rd.later {w w' : World} {B : Nat} {A : Option Addr} {size n : Nat} {f : Nat → Value} (h : Rd w A size n f) (hb : Below B w w') (hB : w.heap.size ≤ B) : Rd w' A size n f := fun h0 => by
  obtain ⟨b, off, e, hlt, hc⟩ := h h0
  exact ⟨b, off, e, Nat.lt_of_lt_of_le hlt hb.size, fun j hj => below_at hb hB (hc j hj)⟩
theorem Rd.ofAddr {w : World} {A : Option Addr} {size n : Nat} {f : Nat → Value} (h : 0 < n * size → ∃ ad, A = some ad ∧ ∀ j, j < n * size → w.cell? (ad.add j) = some (f j)) : Rd w A size n f := fun h0 => by
  obtain ⟨ad, e, hc⟩ := h h0
  have h1 := hc 0 h0
  have hlt := World.block_lt_of_cell? w _ h1
  obtain ⟨b, off, spot⟩ := ad
  have hs : spot = none := by
    simp only [Addr.add, if_true] at h1
    unfold World.cell? at h1
    split at h1
    · split at h1
      · cases h1
      · rename_i hs; cases spot with
        | none => rfl
        | some x => simp at hs
    · cases h1
  subst hs
  refine ⟨b, off, e, by simpa [Addr.add] using hlt, fun j hj => ?_⟩
  have := hc j hj
  unfold Addr.add at this
  by_cases hj0 : j = 0
  · subst hj0; simpa using this
  · simpa [hj0] using this
theorem Rd.congr {w : World} {A : Option Addr} {size n : Nat} {f g : Nat → Value} (h : Rd w A size n f) (he : ∀ j, j < n * size → f j = g j) : Rd w A size n g := fun h0 => by
  obtain ⟨b, off, e, hlt, hc⟩ := h h0
  exact ⟨b, off, e, hlt, fun j hj => by rw [hc j hj, he j hj]⟩

/-- The slice at A holds these ints. -/
def RdI (w : World) (A : Option Addr) (xs : List Int) : Prop :=
  xs.length ≤ 281474976710656 ∧ Rd w A 1 xs.length fun j => .int .i64 (xs.getD j 0)

theorem RdI.at_ {w : World} {A : Option Addr} {xs : List Int} (h : RdI w A xs) {k : Nat} (hk : k < xs.length) :
    ∃ b off, A = some ⟨b, off, none⟩ ∧ b < w.heap.size ∧ w.cell? ⟨b, off + k, none⟩ = some (.int .i64 xs[k]) := by
  obtain ⟨b, off, e, hlt, hc⟩ := h.2 (by omega)
  exact ⟨b, off, e, hlt, by rw [hc k (by omega)]; simp [List.getD_eq_getElem?_getD, hk]⟩
theorem RdI.later {w w' : World} {B : Nat} {A : Option Addr} {xs : List Int} (h : RdI w A xs) (hb : Below B w w') (hB : w.heap.size ≤ B) : RdI w' A xs := ⟨h.1, h.2.later hb hB⟩

/-- A work: a struct of three cells. -/
structure GW where
  kind : Int
  pl : Int
  word : ByteArray
deriving DecidableEq
def GW.val (x : GW) : Value := .agg #[.int .i64 x.kind, .int .i64 x.pl, .string x.word]
/-- Its numbers fit, and its word is no longer than a string can be. -/
def GW.fits (x : GW) : Prop := (-9223372036854775808 ≤ x.kind ∧ x.kind ≤ 9223372036854775807) ∧ (-9223372036854775808 ≤ x.pl ∧ x.pl ≤ 9223372036854775807) ∧ x.word.size ≤ 9223372036854775807

/-- The cells of works. -/
def cellsW (ws : List GW) (j : Nat) : Value :=
  let x := ws.getD (j / 3) ⟨0, 0, ByteArray.empty⟩
  match j % 3 with
  | 0 => .int .i64 x.kind
  | 1 => .int .i64 x.pl
  | _ => .string x.word
/-- The slice at A holds these works. -/
def RdW (w : World) (A : Option Addr) (ws : List GW) : Prop :=
  ws.length ≤ 281474976710656 ∧ (∀ x ∈ ws, x.fits) ∧ Rd w A 3 ws.length (cellsW ws)
theorem RdW.at_ {w : World} {A : Option Addr} {ws : List GW} (h : RdW w A ws) {k : Nat} (hk : k < ws.length) :
    ∃ b off, A = some ⟨b, off, none⟩ ∧ b < w.heap.size ∧ w.cell? ⟨b, off + k * 3, none⟩ = some (.int .i64 ws[k].kind) ∧ w.cell? ⟨b, off + k * 3 + 1, none⟩ = some (.int .i64 ws[k].pl) ∧
      w.cell? ⟨b, off + k * 3 + 2, none⟩ = some (.string ws[k].word) := by
  obtain ⟨b, off, e, hlt, hc⟩ := h.2.2 (by omega)
  have e0 := hc (k * 3) (by omega)
  have e1 := hc (k * 3 + 1) (by omega)
  have e2 := hc (k * 3 + 2) (by omega)
  have hx : ws.getD k ⟨0, 0, ByteArray.empty⟩ = ws[k] := by simp [List.getD_eq_getElem?_getD, hk]
  refine ⟨b, off, e, hlt, ?_, ?_, ?_⟩
  · rw [e0]; unfold cellsW; rw [show k * 3 / 3 = k by omega, show k * 3 % 3 = 0 by omega, hx]; rfl
  · rw [Nat.add_assoc, e1]; unfold cellsW; rw [show (k * 3 + 1) / 3 = k by omega, show (k * 3 + 1) % 3 = 1 by omega, hx]; rfl
  · rw [Nat.add_assoc, e2]; unfold cellsW; rw [show (k * 3 + 2) / 3 = k by omega, show (k * 3 + 2) % 3 = 2 by omega, hx]; rfl
theorem RdW.later {w w' : World} {B : Nat} {A : Option Addr} {ws : List GW} (h : RdW w A ws) (hb : Below B w w') (hB : w.heap.size ≤ B) : RdW w' A ws := ⟨h.1, h.2.1, h.2.2.later hb hB⟩

/-- A block that was made, in a later world. -/
theorem box_cell {w wr : World} {cs : Array Value} {T : TypeId} (hb : Below (w.heap.size + 1) (w.alloc (.cells cs T)) wr) (j : Nat) : wr.cell? ⟨w.heap.size, j, none⟩ = cs[j]? := by
  rw [hb.cell (p := ⟨w.heap.size, j, none⟩) (by simp)]; simp
theorem below_of_box {w wr : World} {o : Obj} (hb : Below (w.heap.size + 1) (w.alloc o) wr) : Below w.heap.size w wr :=
  ((Below.refl _ _).alloc (Nat.le_refl _) o).trans (hb.mono (by omega))

theorem any_take_succ {α : Type} (l : List α) (p : α → Bool) (k : Nat) (hk : k < l.length) : (l.take (k + 1)).any p = ((l.take k).any p || p l[k]) := by
  rw [List.take_succ_eq_append_getElem hk, List.any_append]; simp
theorem any_hit {α : Type} {l : List α} {p : α → Bool} {k : Nat} (hk : k < l.length) (h : p l[k] = true) : l.any p = true :=
  List.any_eq_true.2 ⟨_, List.getElem_mem hk, h⟩
theorem any_end {α : Type} {l : List α} {p : α → Bool} {k : Nat} (hk : ¬ k < l.length) (h : (l.take k).any p = false) : l.any p = false := by
  rw [List.take_of_length_le (by omega)] at h; exact h
end Go.Proofs.YtnplcephmidjbaaDoor
/- Bits of whole numbers, as the walk spells them. Over any program. -/
namespace Go.Proofs.YtnplcephmidjbaaDoor
open Go.RowKit

theorem wraps_u32 (n : Int) (h₀ : 0 ≤ n) (h₁ : n < 2 ^ 31) : IntKind.u32.wrap n = n := by
  simp [IntKind.wrap, IntKind.bits, IntKind.signed]; omega
theorem wraps_u64 (n : Int) (h₀ : 0 ≤ n) (h₁ : n < 2 ^ 31) : IntKind.u64.wrap n = n := by
  simp [IntKind.wrap, IntKind.bits, IntKind.signed]; omega
theorem wraps_i64 (n : Int) (h₀ : 0 ≤ n) (h₁ : n < 2 ^ 31) : IntKind.i64.wrap n = n := IntWalk.i64_in _ (by omega)

theorem bits_andnot (k : IntKind) (j : Nat) (hj : j ≤ k.bits) (hk : ∀ n : Int, 0 ≤ n → n < 2 ^ j → k.wrap n = n) (a b : Nat) (ha : a < 2 ^ j) (hb : b < 2 ^ j) :
    (bits .andNot k a b == 0) = decide (a &&& b = a) := by
  have hp : 2 ^ j ≤ 2 ^ k.bits := Nat.pow_le_pow_right (by decide) hj
  have ha' : a % 2 ^ k.bits = a := Nat.mod_eq_of_lt (Nat.lt_of_lt_of_le ha hp)
  have hb' : b % 2 ^ k.bits = b := Nat.mod_eq_of_lt (Nat.lt_of_lt_of_le hb hp)
  have cast : ∀ n : Nat, n < 2 ^ j → ((n : Nat) : Int) < 2 ^ j := fun n h => by exact_mod_cast h
  simp only [bits, BitVec.ofInt_natCast]
  have hle : (BitVec.ofNat k.bits a &&& ~~~BitVec.ofNat k.bits b).toNat < 2 ^ j := by
    rw [BitVec.toNat_and, BitVec.toNat_ofNat, ha']
    exact Nat.lt_of_le_of_lt Nat.and_le_left ha
  rw [hk _ (Int.natCast_nonneg _) (cast _ hle), Bool.eq_iff_iff]
  simp only [beq_iff_eq, decide_eq_true_eq]
  have e1 : ((BitVec.ofNat k.bits a &&& ~~~BitVec.ofNat k.bits b).toNat : Int) = 0 ↔ BitVec.ofNat k.bits a &&& ~~~BitVec.ofNat k.bits b = 0#k.bits := by
    constructor
    · intro h; apply BitVec.eq_of_toNat_eq; simp only [BitVec.toNat_zero]; omega
    · intro h; rw [h]; simp
  have e2 : a &&& b = a ↔ BitVec.ofNat k.bits a &&& BitVec.ofNat k.bits b = BitVec.ofNat k.bits a := by
    constructor
    · intro h; apply BitVec.eq_of_toNat_eq; simp only [BitVec.toNat_and, BitVec.toNat_ofNat, ha', hb', h]
    · intro h; have := congrArg BitVec.toNat h; simpa only [BitVec.toNat_and, BitVec.toNat_ofNat, ha', hb'] using this
  rw [e1, e2]
  constructor
  · intro h
    apply BitVec.eq_of_getLsbD_eq
    intro i hi
    have := congrArg (fun z => BitVec.getLsbD z i) h
    simp only [BitVec.getLsbD_and, BitVec.getLsbD_not, BitVec.getLsbD_zero, hi, decide_true, Bool.true_and] at this ⊢
    cases h1 : BitVec.getLsbD (BitVec.ofNat k.bits a) i <;> cases h2 : BitVec.getLsbD (BitVec.ofNat k.bits b) i <;> simp_all
  · intro h
    apply BitVec.eq_of_getLsbD_eq
    intro i hi
    have := congrArg (fun z => BitVec.getLsbD z i) h
    simp only [BitVec.getLsbD_and, BitVec.getLsbD_not, BitVec.getLsbD_zero, hi, decide_true, Bool.true_and] at this ⊢
    cases h1 : BitVec.getLsbD (BitVec.ofNat k.bits a) i <;> cases h2 : BitVec.getLsbD (BitVec.ofNat k.bits b) i <;> simp_all

theorem bit_at (k : IntKind) (j : Nat) (hj : j ≤ k.bits) (hj1 : 1 ≤ j) (hk : ∀ n : Int, 0 ≤ n → n < 2 ^ j → k.wrap n = n) (a i : Nat) (ha : a < 2 ^ j) :
    (bits .and k ((a : Int) / 2 ^ i) 1 == 0) = !a.testBit i := by
  have e : ((a : Int) / 2 ^ i) = ((a / 2 ^ i : Nat) : Int) := by simp
  have h1 : (1 : Nat) < 2 ^ j := Nat.one_lt_two_pow (by omega)
  have hd : a / 2 ^ i < 2 ^ j := Nat.lt_of_le_of_lt (Nat.div_le_self _ _) ha
  rw [e, show (1 : Int) = ((1 : Nat) : Int) from rfl, (bits_nat k j hj hk _ 1 hd h1).1, Nat.testBit, Nat.shiftRight_eq_div_pow, Nat.and_comm]
  rw [Bool.eq_iff_iff]
  simp only [beq_iff_eq, Bool.not_eq_true', bne_eq_false_iff_eq]
  omega
theorem bit_set (k : IntKind) (j : Nat) (hj : j ≤ k.bits) (hk : ∀ n : Int, 0 ≤ n → n < 2 ^ j → k.wrap n = n) (a i : Nat) (ha : a < 2 ^ j) (hi : i < j) :
    bits .or k (a : Int) (2 ^ i) = ((a ||| 2 ^ i : Nat) : Int) := by
  have e : (2 : Int) ^ i = ((2 ^ i : Nat) : Int) := by simp
  rw [e]
  exact (bits_nat k j hj hk a _ ha (Nat.pow_lt_pow_right (by decide) hi)).2
end Go.Proofs.YtnplcephmidjbaaDoor
/- A region that draws its order and holds calls, over worlds of which something is known all along. Over any program. -/
namespace Go.Proofs.YtnplcephmidjbaaDoor
open Go.RowKit

structure GrB (C : World → Prop) where
  wd : World
  h : C wd
theorem wp_region_grb {P : Program} (C : World → Prop) {id : Nat} {Q : Exit → Act → World → Prop} {a : Act} {w : World} {l : List Oper} (hC : C w.drew) (hm : P.follows .mixedOrders = true) (hB : Region.lexB .any l.toArray = true)
    (h : wpQuiet P l.toArray (fun w' => ∃ u : GrB C, w' = u.wd) (fun a' => ∀ w', (∃ u : GrB C, w' = u.wd) → Q .normal a' w') l a) : (Code.region id l.toArray true).wp P Q a w :=
  wp_region_quiet (C := fun w' => ∃ u : GrB C, w' = u.wd) hm hB ⟨⟨w.drew, hC⟩, rfl⟩ (by simpa using h)
theorem quiet_grb {P : Program} {f : FuncId} {args : Array Value} {C : World → Prop} {w : World} {v : Value}
    (h : Calls P f args w fun e w' => e = .returned v ∧ C w') : Calls P f args w fun e w'' => e = .returned v ∧ ∃ u' : GrB C, w'' = u'.wd :=
  h.mono fun _ w' ⟨he, hb⟩ => ⟨he, ⟨w', hb⟩, rfl⟩
end Go.Proofs.YtnplcephmidjbaaDoor
/- A block of rows: cells that hold slices of ints, each of the call's own. Over any program. -/
namespace Go.Proofs.YtnplcephmidjbaaDoor
open Go.RowKit

/-- The ints' cells. -/
def ints (xs : List Int) : List Value := xs.map (Value.int .i64)
theorem ints_length (xs : List Int) : (ints xs).length = xs.length := by simp [ints]
theorem ints_one (xs : List Int) : ∀ u ∈ ints xs, u.oneCell' = true := by
  intro u hu; simp only [ints, List.mem_map] at hu; obtain ⟨x, _, rfl⟩ := hu; rfl

/-- An owned row of ints reads as those ints. -/
theorem own_rd {w : World} {base e n c : Nat} {A : Option Addr} {xs : List Int} (h : w.ownsRow base e 1 (.slice A n c) n (ints xs)) : Rd w A 1 xs.length fun j => .int .i64 (xs.getD j 0) := fun h0 => by
  have hl : n = xs.length := by have := h.1; rw [ints_length] at this; omega
  obtain ⟨g, cap, hv, _, hlt⟩ := h.form (by omega)
  injection hv with hA
  subst hA
  refine ⟨g, 0, rfl, hlt, fun j hj => ?_⟩
  have := h.cells (g := g) rfl j (.int .i64 (xs.getD j 0)) (by simp [ints, List.getD_eq_getElem?_getD, List.getElem?_eq_getElem (show j < xs.length by omega)])
  unfold Addr.add at this
  by_cases hj0 : j = 0
  · subst hj0; simpa using this
  · simpa [hj0] using this

theorem own_drewN {w : World} {base e size n : Nat} {v : Value} {xs : List Value} (h : w.ownsRow base e size v n xs) (k : Nat) : (w.drewN k).ownsRow base e size v n xs := h
/-- An owned row lies in no block of another element type. -/
theorem own_ne_type {w : World} {base e size n t g : Nat} {v : Value} {xs : List Value} {cs : Array Value} {fr : Nat × Nat} (h : w.ownsRow base e size v n xs) (hg : w.heap[g]? = some (.cells cs t fr)) (hne : e ≠ t) : some g ≠ v.ownBlock := by
  rcases h.2 with ⟨rfl, _⟩ | ⟨g', cap, cur, rfl, _, hh, _⟩
  · simp [Value.ownBlock]
  · intro he
    have : g = g' := by simpa [Value.ownBlock] using he
    subst this
    rw [hh] at hg
    injection hg with hg
    injection hg with _ ht
    exact hne ht

/-- Block R holds `m` slices of ints, each a row of its own above R. -/
def Rws (w : World) (R T e m : Nat) (f : Nat → List Int) : Prop :=
  ∃ cs : Array Value, w.heap[R]? = some (.cells cs T (0, 0)) ∧ cs.size = m ∧ (∀ p (h : p < cs.size), w.ownsRow (R + 1) e 1 cs[p] (f p).length (ints (f p))) ∧
    (∀ p q (hp : p < cs.size) (hq : q < cs.size), p ≠ q → cs[p].ownBlock = none ∨ cs[p].ownBlock ≠ cs[q].ownBlock)

section
variable {w w1 : World} {R T e m : Nat} {f : Nat → List Int}
theorem Rws.lt (h : Rws w R T e m f) : R < w.heap.size := by
  obtain ⟨cs, h1, _⟩ := h
  exact lt_of_block h1
theorem Rws.kept (h : Rws w R T e m f) {row : Option Nat} (hg : w.grownBy w1 row) (hr : ∀ k, row = some k → w.heap.size ≤ k) : Rws w1 R T e m f := by
  have hlt := h.lt
  obtain ⟨cs, h1, h2, h3, h4⟩ := h
  have far : ∀ k, k < w.heap.size → some k ≠ row := fun k hk hc => by have := hr k hc.symm; omega
  refine ⟨cs, ?_, h2, fun p hp => (h3 p hp).kept hg ?_, h4⟩
  · rw [hg.block R hlt (far R hlt)]; exact h1
  · cases hb : cs[p].ownBlock with
    | none => exact .inl rfl
    | some k => exact .inr (far k ((h3 p hp).lt k hb).2)
theorem Rws.alloc (h : Rws w R T e m f) (o : Obj) : Rws (w.alloc o) R T e m f := h.kept (World.grownBy_alloc w o none) (fun k hk => by cases hk)
theorem Rws.drew (h : Rws w R T e m f) : Rws w.drew R T e m f := h
theorem Rws.drewN (h : Rws w R T e m f) (n : Nat) : Rws (w.drewN n) R T e m f := h
/-- The slice in a cell. -/
theorem Rws.at_ (h : Rws w R T e m f) {p : Nat} (hp : p < m) :
    ∃ v, w.cell? ⟨R, p, none⟩ = some v ∧ w.frozen? ⟨R, p, none⟩ = false ∧ w.ownsRow (R + 1) e 1 v (f p).length (ints (f p)) := by
  obtain ⟨cs, h1, h2, h3, h4⟩ := h
  refine ⟨cs[p]'(by omega), ?_, frozen_of_row w R p cs T h1, h3 p (by omega)⟩
  rw [cell_of_row w R p cs T _ h1, Array.getElem?_eq_getElem (by omega)]
/-- One row has grown by an append, and its slice is stored. -/
theorem Rws.grow (h : Rws w R T e m f) {p : Nat} (hp : p < m) {v v' : Value} {xs : List Int} {g n cap : Nat} (hv : w.cell? ⟨R, p, none⟩ = some v) (hown : w1.ownsRow (R + 1) e 1 v' xs.length (ints xs))
    (hv' : v' = .slice (some ⟨g, 0, none⟩) n cap) (hgrow : w.grownBy w1 v.ownBlock) (hat : v.ownBlock = some g ∨ g = w.heap.size) : Rws (w1.setCell ⟨R, p, none⟩ v') R T e m (fun q => if q = p then xs else f q) := by
  have hlt := h.lt
  obtain ⟨cs, h1, h2, h3, h4⟩ := h
  have hpc : p < cs.size := by omega
  have hvp : v = cs[p] := by
    rw [cell_of_row w R p cs T _ h1, Array.getElem?_eq_getElem hpc] at hv
    exact (Option.some.inj hv).symm
  subst hvp
  have hb : ∀ k, cs[p].ownBlock = some k → R + 1 ≤ k ∧ k < w.heap.size := (h3 p hpc).lt
  have hR : w1.heap[R]? = some (.cells cs T (0, 0)) := by
    rw [hgrow.block R hlt (fun hc => by have := hb R hc.symm; omega)]; exact h1
  have hgR : R + 1 ≤ g := by
    rcases hat with hat | hat
    · exact (hb g hat).1
    · omega
  refine ⟨cs.setIfInBounds p v', heap_setCell_same w1 R p cs T v' hR, by simpa using h2, fun q hq => ?_, fun q r hq hr hqr => ?_⟩
  · have hqc : q < cs.size := by simpa using hq
    by_cases hqp : q = p
    · subst hqp
      simp only [Array.getElem_setIfInBounds_self, if_true]
      exact ownsRow_setCell_below hown (by show R < R + 1; omega) _
    · simp only [Array.getElem_setIfInBounds_ne hqc (Ne.symm hqp), if_neg hqp]
      refine ownsRow_setCell_below ((h3 q hqc).kept hgrow ?_) (by show R < R + 1; omega) _
      exact h4 q p hqc hpc hqp
  · have hqc : q < cs.size := by simpa using hq
    have hrc : r < cs.size := by simpa using hr
    by_cases hqp : q = p
    · subst hqp
      have hrp : r ≠ q := Ne.symm hqr
      simp only [Array.getElem_setIfInBounds_self, Array.getElem_setIfInBounds_ne hrc (Ne.symm hrp)]
      refine .inr fun he => ?_
      have he' : cs[r].ownBlock = some g := by rw [← he, hv']; rfl
      rcases hat with hat | hat
      · rcases h4 q r hqc hrc hqr with h | h
        · rw [h] at hat; cases hat
        · exact h (by rw [hat, he'])
      · have := ((h3 r hrc).lt g he').2; omega
    · by_cases hrp : r = p
      · subst hrp
        simp only [Array.getElem_setIfInBounds_self, Array.getElem_setIfInBounds_ne hqc (Ne.symm hqp)]
        cases hbq : cs[q].ownBlock with
        | none => exact .inl rfl
        | some k =>
          refine .inr fun he => ?_
          have he' : k = g := by rw [hv'] at he; exact Option.some.inj he
          subst he'
          rcases hat with hat | hat
          · rcases h4 q r hqc hpc hqp with h | h
            · rw [hbq] at h; cases h
            · exact h (by rw [hat, hbq])
          · have := ((h3 q hqc).lt k hbq).2; omega
      · simp only [Array.getElem_setIfInBounds_ne hqc (Ne.symm hqp), Array.getElem_setIfInBounds_ne hrc (Ne.symm hrp)]
        exact h4 q r hqc hrc hqr
theorem Rws.congr {f' : Nat → List Int} (h : Rws w R T e m f) (he : ∀ p, p < m → f p = f' p) : Rws w R T e m f' := by
  obtain ⟨cs, h1, h2, h3, h4⟩ := h
  exact ⟨cs, h1, h2, fun p hp => by rw [← he p (by omega)]; exact h3 p hp, h4⟩
/-- A new block of nil slices. -/
theorem Rws.made (w : World) (cs : Array Value) (hm : cs.size = m) (hc : ∀ p (h : p < cs.size), cs[p] = .slice none 0 0) : Rws (w.alloc (.cells cs T)) w.heap.size T e m (fun _ => []) :=
  ⟨cs, heap_alloc_new w _, hm, fun p hp => by rw [hc p hp]; exact World.ownsRow_nil _ _ _ _, fun p q hp _ _ => .inl (by rw [hc p hp]; rfl)⟩
end

section
variable {a w w1 : World} {row : Option Nat} {R : Nat}
theorem GB.drew (h : a.grownBy w row) : a.grownBy w.drew row := ⟨h.os, h.tape, h.output, h.size, h.block⟩
theorem GB.drewN (h : a.grownBy w row) (n : Nat) : a.grownBy (w.drewN n) row := ⟨h.os, h.tape, h.output, h.size, h.block⟩
theorem GB.alloc (h : a.grownBy w row) (o : Obj) : a.grownBy (w.alloc o) row :=
  ⟨h.os, h.tape, h.output, Nat.le_trans h.size (by simp), fun i hi hne => (Below.heap_alloc w o i (Nat.lt_of_lt_of_le hi h.size)).trans (h.block i hi hne)⟩
theorem GB.setCell (h : a.grownBy w (some R)) {p : Addr} (hp : p.block = R ∨ a.heap.size ≤ p.block) (u : Value) : a.grownBy (w.setCell p u) (some R) :=
  ⟨h.os, h.tape, h.output, by simpa [World.setCell] using h.size, fun i hi hne => (Below.heap_setCell w p u i (by
    rintro rfl
    rcases hp with hp | hp
    · exact hne (by rw [hp])
    · omega)).trans (h.block i hi hne)⟩
theorem GB.grown (h : a.grownBy w row) {row' : Option Nat} (hg : w.grownBy w1 row') (hr : ∀ k, row' = some k → a.heap.size ≤ k) : a.grownBy w1 row :=
  ⟨hg.os.trans h.os, hg.tape.trans h.tape, hg.output.trans h.output, Nat.le_trans h.size hg.size, fun i hi hne =>
    (hg.block i (Nat.lt_of_lt_of_le hi h.size) (fun e => by have := hr i e.symm; omega)).trans (h.block i hi hne)⟩
theorem GB.below {B : Nat} (h : a.grownBy w (some R)) (hB : B ≤ R) (hs : B ≤ a.heap.size) : Below B a w :=
  ⟨h.os, h.tape, h.output, h.size, fun k hk => h.block k (by omega) (by simp; omega)⟩
theorem GB.cell (h : a.grownBy w (some R)) {p : Addr} {v : Value} (hc : a.cell? p = some v) (hne : p.block ≠ R) : w.cell? p = some v :=
  h.cell hc (by simpa using hne)
end

/-- Block R holds m slices of ints; what they hold lies in other blocks of W0, and of those nothing has changed but block R. -/
structure Views (W0 w : World) (R T m : Nat) (f : Nat → List Int) : Prop where
  grown : W0.grownBy w (some R)
  cells : ∃ cs : Array Value, w.heap[R]? = some (.cells cs T (0, 0)) ∧ cs.size = m ∧ ∀ p (h : p < cs.size), ∃ A c, cs[p] = .slice A (f p).length c ∧ (f p).length ≤ c ∧ c ≤ maxLen ∧
    (0 < (f p).length → ∃ b off, A = some ⟨b, off, none⟩ ∧ b ≠ R ∧ b < W0.heap.size ∧ ∀ j (hj : j < (f p).length), W0.cell? ⟨b, off + j, none⟩ = some (.int .i64 (f p)[j]))

section
variable {W0 w w1 : World} {R T m : Nat} {f : Nat → List Int}
theorem Views.of_rws {e : Nat} (h : Rws W0 R T e m f) : Views W0 W0 R T m f := by
  refine ⟨World.grownBy.refl W0 _, ?_⟩
  obtain ⟨cs, h1, h2, h3, h4⟩ := h
  refine ⟨cs, h1, h2, fun p hp => ?_⟩
  have ho := h3 p hp
  rcases ho.2 with ⟨hv, h0⟩ | ⟨g, cap, cur, hv, hb, hh, hnc, hcap, _⟩
  · exact ⟨none, 0, by rw [hv, h0], by omega, by unfold maxLen; omega, fun hl => absurd hl (by omega)⟩
  · refine ⟨some ⟨g, 0, none⟩, cap, hv, hnc, hcap, fun hl => ⟨g, 0, rfl, by omega, lt_of_block hh, fun j hj => ?_⟩⟩
    rw [hv] at ho
    obtain ⟨b, off, e, _, hc⟩ := own_rd ho (by omega)
    injection e with e
    injection e with e1 e2
    subst e1; subst e2
    rw [hc j (by omega)]
    simp [List.getD_eq_getElem?_getD, hj]
theorem Views.kept (h : Views W0 w R T m f) (hg : W0.grownBy w1 (some R)) (hR : w1.heap[R]? = w.heap[R]?) : Views W0 w1 R T m f := by
  obtain ⟨_, cs, h1, h2, h3⟩ := h
  exact ⟨hg, cs, hR.trans h1, h2, h3⟩
theorem Views.lt (h : Views W0 w R T m f) : R < w.heap.size := by
  obtain ⟨_, cs, h1, _⟩ := h
  exact lt_of_block h1
theorem Views.alloc (h : Views W0 w R T m f) (o : Obj) : Views W0 (w.alloc o) R T m f := h.kept (GB.alloc h.grown o) (Below.heap_alloc w o R h.lt)
theorem Views.drew (h : Views W0 w R T m f) : Views W0 w.drew R T m f := h.kept (GB.drew h.grown) rfl
theorem Views.drewN (h : Views W0 w R T m f) (n : Nat) : Views W0 (w.drewN n) R T m f := h.kept (GB.drewN h.grown n) rfl
theorem Views.after (h : Views W0 w R T m f) {row : Option Nat} (hg : w.grownBy w1 row) (hr : ∀ k, row = some k → W0.heap.size ≤ k) (hR : R < W0.heap.size) : Views W0 w1 R T m f :=
  h.kept (GB.grown h.grown hg hr) (hg.block R h.lt (fun e => by have := hr R e.symm; omega))
theorem Views.at_ (h : Views W0 w R T m f) {p : Nat} (hp : p < m) : ∃ A c, w.cell? ⟨R, p, none⟩ = some (.slice A (f p).length c) ∧ w.frozen? ⟨R, p, none⟩ = false ∧ (f p).length ≤ c ∧ c ≤ maxLen ∧
    (0 < (f p).length → ∃ b off, A = some ⟨b, off, none⟩ ∧ b ≠ R ∧ b < W0.heap.size ∧ ∀ j (hj : j < (f p).length), W0.cell? ⟨b, off + j, none⟩ = some (.int .i64 (f p)[j])) := by
  obtain ⟨_, cs, h1, h2, h3⟩ := h
  obtain ⟨A, c, hv, h4, h5, h6⟩ := h3 p (by omega)
  exact ⟨A, c, by rw [cell_of_row w R p cs T _ h1, Array.getElem?_eq_getElem (by omega), hv], frozen_of_row w R p cs T h1, h4, h5, h6⟩
theorem Views.store (h : Views W0 w R T m f) {p : Nat} {xs : List Int} {A : Option Addr} {c : Nat} (h4 : xs.length ≤ c) (h5 : c ≤ maxLen)
    (h6 : 0 < xs.length → ∃ b off, A = some ⟨b, off, none⟩ ∧ b ≠ R ∧ b < W0.heap.size ∧ ∀ j (hj : j < xs.length), W0.cell? ⟨b, off + j, none⟩ = some (.int .i64 xs[j])) :
    Views W0 (w.setCell ⟨R, p, none⟩ (.slice A xs.length c)) R T m (fun q => if q = p then xs else f q) := by
  obtain ⟨hg, cs, h1, h2, h3⟩ := h
  refine ⟨GB.setCell hg (.inl rfl) _, cs.setIfInBounds p (.slice A xs.length c), heap_setCell_same w R p cs T _ h1, by simpa using h2, fun q hq => ?_⟩
  have hqc : q < cs.size := by simpa using hq
  by_cases hqp : q = p
  · subst hqp
    simp only [Array.getElem_setIfInBounds_self, if_true]
    exact ⟨A, c, rfl, h4, h5, h6⟩
  · simp only [Array.getElem_setIfInBounds_ne hqc (Ne.symm hqp), if_neg hqp]
    exact h3 q hqc
end

/-- A slice value that reads as these ints. -/
def RdV (w : World) (v : Value) (xs : List Int) : Prop := ∃ A c, v = .slice A xs.length c ∧ RdI w A xs
theorem RdV.nil (w : World) : RdV w (.slice none 0 0) [] := ⟨none, 0, rfl, by simp, fun h => absurd h (by simp)⟩
theorem RdV.later {w w' : World} {B : Nat} {v : Value} {xs : List Int} (h : RdV w v xs) (hb : Below B w w') (hB : w.heap.size ≤ B) : RdV w' v xs := by
  obtain ⟨A, c, h1, h2⟩ := h
  exact ⟨A, c, h1, h2.later hb hB⟩
theorem RdV.of_own {w : World} {base e : Nat} {v : Value} {xs : List Int} (h : w.ownsRow base e 1 v xs.length (ints xs)) (hl : xs.length ≤ 281474976710656) : RdV w v xs := by
  rcases h.2 with ⟨rfl, h0⟩ | ⟨g, cap, cur, rfl, _⟩
  · have : xs = [] := List.eq_nil_of_length_eq_zero h0
    subst this; exact RdV.nil w
  · exact ⟨_, cap, rfl, hl, own_rd h⟩
end Go.Proofs.YtnplcephmidjbaaDoor
/- The edges of a sheet in the order in which they end: plain, and the cells that hold them. -/
namespace Go.Proofs.YtnplcephmidjbaaDoor
open Go.RowKit

def updF {α : Type} (f : Nat → α) (i : Nat) (v : α) : Nat → α := fun q => if q = i then v else f q
/-- An edge: its number, where it begins and where it ends. -/
structure El where
  idx : Int
  fr : Int
  out : Int
  to : Int
  inn : Int
/-- The line: for each place the edge that lies there. -/
structure Ln where
  fr : Nat → Int
  out : Nat → Int
  idx : Nat → Int
def ln0 : Ln := ⟨fun _ => -1, fun p => p, fun p => p⟩
def Ln.el (s : Ln) (p : Nat) (to inn : Int) : El := ⟨s.idx p, s.fr p, s.out p, to, inn⟩
def Ln.put (s : Ln) (p : Nat) (fr out idx : Int) : Ln := ⟨updF s.fr p fr, updF s.out p out, updF s.idx p idx⟩
/-- The place q gets the edge that leaves the work k at that side. -/
def eStep (P : Nat) (s : Ln) (k q side : Nat) : Ln := s.put q k side (P + 2 * k + side)
/-- One work: its left side, then its right side. -/
def sdS (P q k : Nat) (s : Ln) : Nat → Ln
  | 0 => s
  | sd + 1 => eStep P (sdS P q k s sd) k (q + sd) sd
def sdL (P q k : Nat) (s : Ln) (L : List El) : Nat → List El
  | 0 => L
  | sd + 1 => sdL P q k s L sd ++ [(sdS P q k s sd).el (q + sd) k sd]
def eWork (P : Nat) (pls : Nat → Nat) : Nat → Ln
  | 0 => ln0
  | k + 1 => sdS P (pls k) k (eWork P pls k) 2
/-- What has come before the work k. -/
def eList (P : Nat) (pls : Nat → Nat) : Nat → List El
  | 0 => []
  | k + 1 => sdL P (pls k) k (eWork P pls k) (eList P pls k) 2
theorem sdL_le (P q k : Nat) (s : Ln) (L : List El) : ∀ {a b : Nat}, a ≤ b → sdL P q k s L a <+: sdL P q k s L b := by
  intro a b h
  induction b with
  | zero => obtain rfl : a = 0 := by omega
            exact List.prefix_refl _
  | succ b ih =>
    rcases Nat.lt_or_ge a (b + 1) with h1 | h1
    · exact (ih (by omega)).trans (List.prefix_append _ _)
    · obtain rfl : a = b + 1 := by omega
      exact List.prefix_refl _
/-- The ends at the bottom, of the first j places. -/
def eEnds (s : Ln) (j : Nat) : List El := (List.range j).map fun p => s.el p (-1) p
def eAll (P : Nat) (pls : Nat → Nat) (n : Nat) : List El := eList P pls n ++ eEnds (eWork P pls n) P
theorem eEnds_succ (s : Ln) (j : Nat) : eEnds s (j + 1) = eEnds s j ++ [s.el j (-1) j] := by simp [eEnds, List.range_succ]
theorem eList_le (P : Nat) (pls : Nat → Nat) : ∀ {k n : Nat}, k ≤ n → eList P pls k <+: eList P pls n := by
  intro k n h
  induction n with
  | zero => obtain rfl : k = 0 := by omega
            exact List.prefix_refl _
  | succ n ih =>
    rcases Nat.lt_or_ge k (n + 1) with h1 | h1
    · exact (ih (by omega)).trans (sdL_le P (pls n) n _ (eList P pls n) (show 0 ≤ 2 by omega))
    · obtain rfl : k = n + 1 := by omega
      exact List.prefix_refl _
theorem eAll_side (P : Nat) (pls : Nat → Nat) {k n sd : Nat} (h : k < n) (hs : sd < 2) :
    sdL P (pls k) k (eWork P pls k) (eList P pls k) sd ++ [(sdS P (pls k) k (eWork P pls k) sd).el (pls k + sd) k sd] <+: eAll P pls n := by
  have h1 : sdL P (pls k) k (eWork P pls k) (eList P pls k) (sd + 1) <+: eList P pls (k + 1) := sdL_le _ _ _ _ _ (by omega)
  exact (h1.trans (eList_le P pls (show k + 1 ≤ n by omega))).trans (List.prefix_append _ _)
theorem eEnds_le (s : Ln) {j P : Nat} (h : j ≤ P) : eEnds s j <+: eEnds s P := by
  induction P with
  | zero => obtain rfl : j = 0 := by omega
            exact List.prefix_refl _
  | succ P ih =>
    rcases Nat.lt_or_ge j (P + 1) with h1 | h1
    · rw [eEnds_succ]; exact (ih (by omega)).trans (List.prefix_append _ _)
    · obtain rfl : j = P + 1 := by omega
      exact List.prefix_refl _
theorem eAll_end (P : Nat) (pls : Nat → Nat) (n : Nat) {j : Nat} (h : j < P) : (eList P pls n ++ eEnds (eWork P pls n) j) ++ [(eWork P pls n).el j (-1) j] <+: eAll P pls n := by
  rw [List.append_assoc, ← eEnds_succ]
  exact (List.prefix_append_right_inj _).2 (eEnds_le _ (by omega))

/-- The cells of edges of which the ends are not known. -/
def eCell (g h : Nat → Int) (j : Nat) : Value := if j % 4 = 0 then .int .i64 (g (j / 4)) else if j % 4 = 1 then .int .i64 (h (j / 4)) else .int .i64 0
def eCells (m : Nat) (g h : Nat → Int) : Array Value := ((List.range (m * 4)).map (eCell g h)).toArray
/-- Block R holds m edges. -/
def EdB (w : World) (R m : Nat) (g h : Nat → Int) : Prop := w.heap[R]? = some (.cells (eCells m g h) 107 (0, 0))
section
variable {w w' : World} {R m : Nat} {g h : Nat → Int}
theorem EdB.lt (e : EdB w R m g h) : R < w.heap.size := lt_of_block e
theorem EdB.free (e : EdB w R m g h) (j : Nat) : w.frozen? ⟨R, j, none⟩ = false := frozen_of_row _ _ j _ _ e
theorem EdB.at_ (e : EdB w R m g h) {p : Nat} (hp : p < m) : w.cell? ⟨R, p * 4, none⟩ = some (.int .i64 (g p)) ∧ w.cell? ⟨R, p * 4 + 1, none⟩ = some (.int .i64 (h p)) ∧ w.cell? ⟨R, p * 4 + 2, none⟩ = some (.int .i64 0) ∧ w.cell? ⟨R, p * 4 + 3, none⟩ = some (.int .i64 0) := by
  have key : ∀ j, j < m * 4 → w.cell? ⟨R, j, none⟩ = some (eCell g h j) := fun j hj => by
    rw [cell_of_row w R j _ _ _ e]; simp [eCells, hj]
  refine ⟨?_, ?_, ?_, ?_⟩
  · rw [key _ (by omega)]; unfold eCell; rw [if_pos (by omega), show p * 4 / 4 = p by omega]
  · rw [key _ (by omega)]; unfold eCell; rw [if_neg (by omega), if_pos (by omega), show (p * 4 + 1) / 4 = p by omega]
  · rw [key _ (by omega)]; unfold eCell; rw [if_neg (by omega), if_neg (by omega)]
  · rw [key _ (by omega)]; unfold eCell; rw [if_neg (by omega), if_neg (by omega)]
theorem EdB.put (e : EdB w R m g h) (p : Nat) (a b : Int) : EdB ((((w.setCell ⟨R, p * 4, none⟩ (.int .i64 a)).setCell ⟨R, p * 4 + 1, none⟩ (.int .i64 b)).setCell ⟨R, p * 4 + 2, none⟩ (.int .i64 0)).setCell ⟨R, p * 4 + 3, none⟩ (.int .i64 0)) R m (updF g p a) (updF h p b) := by
  have h1 := heap_setCell_same w R (p * 4) _ _ (.int .i64 a) e
  have h2 := heap_setCell_same _ R (p * 4 + 1) _ _ (.int .i64 b) h1
  have h3 := heap_setCell_same _ R (p * 4 + 2) _ _ (.int .i64 0) h2
  have h4 := heap_setCell_same _ R (p * 4 + 3) _ _ (.int .i64 0) h3
  refine Eq.trans h4 ?_
  clear h1 h2 h3 h4 e
  congr 2
  apply Array.ext'
  simp only [eCells, Array.toList_setIfInBounds]
  apply List.ext_getElem
  · simp
  · intro j h1 h2
    rw [List.getElem_set, List.getElem_set, List.getElem_set, List.getElem_set]
    simp only [List.getElem_map, List.getElem_range]
    unfold eCell updF
    by_cases c3 : p * 4 + 3 = j
    · subst c3; rw [if_pos rfl, if_neg (by omega), if_neg (by omega)]
    · rw [if_neg c3]
      by_cases c2 : p * 4 + 2 = j
      · subst c2; rw [if_pos rfl, if_neg (by omega), if_neg (by omega)]
      · rw [if_neg c2]
        by_cases c1 : p * 4 + 1 = j
        · subst c1; rw [if_pos rfl, if_neg (by omega), if_pos (by omega), if_pos (by omega)]
        · rw [if_neg c1]
          by_cases c0 : p * 4 = j
          · subst c0; rw [if_pos rfl, if_pos (by omega), if_pos (by omega)]
          · rw [if_neg c0]
            by_cases d0 : j % 4 = 0
            · rw [if_pos d0, if_pos d0, if_neg (by omega)]
            · rw [if_neg d0, if_neg d0]
              by_cases d1 : j % 4 = 1
              · rw [if_pos d1, if_pos d1, if_neg (by omega)]
              · rw [if_neg d1, if_neg d1]
theorem eCells_zero (m : Nat) : madeCells #[Value.int .i64 0, .int .i64 0, .int .i64 0, .int .i64 0] (m * 4) = eCells m (fun _ => 0) (fun _ => 0) := by
  apply Array.ext'
  apply List.ext_getElem
  · simp [madeCells, eCells]
  · intro j h1 h2
    have e : ∀ q, q < 4 → (#[Value.int .i64 0, .int .i64 0, .int .i64 0, .int .i64 0] : Array Value)[q]! = .int .i64 0 := fun q hq => by
      obtain rfl | rfl | rfl | rfl : q = 0 ∨ q = 1 ∨ q = 2 ∨ q = 3 := by omega
      all_goals rfl
    simp only [madeCells, eCells, Array.toList_map, Array.toList_range, List.getElem_map, List.getElem_range]
    unfold eCell
    rw [show (#[Value.int .i64 0, .int .i64 0, .int .i64 0, .int .i64 0] : Array Value).size = 4 from rfl, e (j % 4) (by omega)]
    split
    · rfl
    · split <;> rfl
end
end Go.Proofs.YtnplcephmidjbaaDoor
/- Edges laid at their numbers. -/
namespace Go.Proofs.YtnplcephmidjbaaDoor
open Go.RowKit

structure E4 where
  fr : Int
  out : Int
  to : Int
  inn : Int
deriving DecidableEq
def El.e4 (x : El) : E4 := ⟨x.fr, x.out, x.to, x.inn⟩
def e40 : E4 := ⟨0, 0, 0, 0⟩
/-- Each edge at its number. -/
def outF (l : List El) : Nat → E4 := l.foldl (fun g x => updF g x.idx.toNat x.e4) (fun _ => e40)
theorem outF_snoc (l : List El) (x : El) : outF (l ++ [x]) = updF (outF l) x.idx.toNat x.e4 := by unfold outF; rw [List.foldl_append]; rfl
def fCell (g : Nat → E4) (j : Nat) : Value := if j % 4 = 0 then .int .i64 (g (j / 4)).fr else if j % 4 = 1 then .int .i64 (g (j / 4)).out else if j % 4 = 2 then .int .i64 (g (j / 4)).to else .int .i64 (g (j / 4)).inn
def fCells (m : Nat) (g : Nat → E4) : Array Value := ((List.range (m * 4)).map (fCell g)).toArray
/-- Block R holds m edges, with their ends. -/
def FB (w : World) (R m : Nat) (g : Nat → E4) : Prop := w.heap[R]? = some (.cells (fCells m g) 107 (0, 0))
section
variable {w w' : World} {R m : Nat} {g : Nat → E4}
theorem FB.lt (e : FB w R m g) : R < w.heap.size := lt_of_block e
theorem FB.free (e : FB w R m g) (j : Nat) : w.frozen? ⟨R, j, none⟩ = false := frozen_of_row _ _ j _ _ e
theorem FB.at_ (e : FB w R m g) {p : Nat} (hp : p < m) : w.cell? ⟨R, p * 4, none⟩ = some (.int .i64 (g p).fr) ∧ w.cell? ⟨R, p * 4 + 1, none⟩ = some (.int .i64 (g p).out) ∧ w.cell? ⟨R, p * 4 + 2, none⟩ = some (.int .i64 (g p).to) ∧ w.cell? ⟨R, p * 4 + 3, none⟩ = some (.int .i64 (g p).inn) := by
  have key : ∀ j, j < m * 4 → w.cell? ⟨R, j, none⟩ = some (fCell g j) := fun j hj => by
    rw [cell_of_row w R j _ _ _ e]; simp [fCells, hj]
  refine ⟨?_, ?_, ?_, ?_⟩
  · rw [key _ (by omega)]; unfold fCell; rw [if_pos (by omega), show p * 4 / 4 = p by omega]
  · rw [key _ (by omega)]; unfold fCell; rw [if_neg (by omega), if_pos (by omega), show (p * 4 + 1) / 4 = p by omega]
  · rw [key _ (by omega)]; unfold fCell; rw [if_neg (by omega), if_neg (by omega), if_pos (by omega), show (p * 4 + 2) / 4 = p by omega]
  · rw [key _ (by omega)]; unfold fCell; rw [if_neg (by omega), if_neg (by omega), if_neg (by omega), show (p * 4 + 3) / 4 = p by omega]
theorem FB.put (e : FB w R m g) (p : Nat) (x : E4) : FB ((((w.setCell ⟨R, p * 4, none⟩ (.int .i64 x.fr)).setCell ⟨R, p * 4 + 1, none⟩ (.int .i64 x.out)).setCell ⟨R, p * 4 + 2, none⟩ (.int .i64 x.to)).setCell ⟨R, p * 4 + 3, none⟩ (.int .i64 x.inn)) R m (updF g p x) := by
  have h1 := heap_setCell_same w R (p * 4) _ _ (.int .i64 x.fr) e
  have h2 := heap_setCell_same _ R (p * 4 + 1) _ _ (.int .i64 x.out) h1
  have h3 := heap_setCell_same _ R (p * 4 + 2) _ _ (.int .i64 x.to) h2
  have h4 := heap_setCell_same _ R (p * 4 + 3) _ _ (.int .i64 x.inn) h3
  refine Eq.trans h4 ?_
  clear h1 h2 h3 h4 e
  congr 2
  apply Array.ext'
  simp only [fCells, Array.toList_setIfInBounds]
  apply List.ext_getElem
  · simp
  · intro j h1 h2
    rw [List.getElem_set, List.getElem_set, List.getElem_set, List.getElem_set]
    simp only [List.getElem_map, List.getElem_range]
    unfold fCell updF
    by_cases c3 : p * 4 + 3 = j
    · subst c3; rw [if_pos rfl, if_neg (by omega), if_neg (by omega), if_neg (by omega), if_pos (by omega)]
    · rw [if_neg c3]
      by_cases c2 : p * 4 + 2 = j
      · subst c2; rw [if_pos rfl, if_neg (by omega), if_neg (by omega), if_pos (by omega), if_pos (by omega)]
      · rw [if_neg c2]
        by_cases c1 : p * 4 + 1 = j
        · subst c1; rw [if_pos rfl, if_neg (by omega), if_pos (by omega), if_pos (by omega)]
        · rw [if_neg c1]
          by_cases c0 : p * 4 = j
          · subst c0; rw [if_pos rfl, if_pos (by omega), if_pos (by omega)]
          · rw [if_neg c0, if_neg (show ¬ j / 4 = p by omega)]
theorem fCells_zero (m : Nat) : madeCells #[Value.int .i64 0, .int .i64 0, .int .i64 0, .int .i64 0] (m * 4) = fCells m (fun _ => e40) := by
  rw [eCells_zero]
  unfold eCells fCells
  refine congrArg List.toArray (List.map_congr_left fun j _ => ?_)
  unfold eCell fCell e40
  simp only
  split
  · rfl
  · split
    · rfl
    · split <;> rfl
end
/-- The numbers of the edges in the line. -/
def IdxB (P N : Nat) (s : Ln) : Prop := ∀ p, p < P → 0 ≤ s.idx p ∧ s.idx p < N
theorem IdxB.step {P N : Nat} {s : Ln} (h : IdxB P N s) (k q side : Nat) (hk : P + 2 * k + side < N) : IdxB P N (eStep P s k q side) := fun p hp => by
  unfold eStep Ln.put updF
  simp only
  split
  · omega
  · exact h p hp
theorem idx_work {P n N : Nat} (pls : Nat → Nat) (hN : P + 2 * n ≤ N) : ∀ k, k ≤ n → IdxB P N (eWork P pls k)
  | 0, _ => fun p hp => by unfold eWork ln0; simp only; omega
  | k + 1, hk => by
    have ih := idx_work pls hN k (by omega)
    exact (ih.step k _ 0 (by omega)).step k _ 1 (by omega)
theorem idx_all {P n : Nat} (pls : Nat → Nat) (hpl : ∀ k, k < n → pls k + 2 ≤ P) : ∀ x ∈ eAll P pls n, 0 ≤ x.idx ∧ x.idx < (P + 2 * n : Nat) := by
  have hl : ∀ k, k ≤ n → ∀ x ∈ eList P pls k, 0 ≤ x.idx ∧ x.idx < (P + 2 * n : Nat) := by
    intro k
    induction k with
    | zero => intro _ x hx; cases hx
    | succ k ih =>
      intro hk x hx
      have h1 := idx_work pls (show P + 2 * n ≤ P + 2 * n by omega) k (by omega)
      have h2 := h1.step k (pls k + 0) 0 (by omega)
      have hp := hpl k (by omega)
      rw [eList, sdL, sdL, sdL] at hx
      rcases List.mem_append.1 hx with hx | hx
      · rcases List.mem_append.1 hx with hx | hx
        · exact ih (by omega) x hx
        · rw [List.mem_singleton.1 hx]
          exact h1 (pls k + 0) (by omega)
      · rw [List.mem_singleton.1 hx]
        exact h2 (pls k + 1) (by omega)
  intro x hx
  rcases List.mem_append.1 hx with hx | hx
  · exact hl n (Nat.le_refl _) x hx
  · obtain ⟨p, hp, rfl⟩ := List.mem_map.1 hx
    exact idx_work pls (Nat.le_refl _) n (Nat.le_refl _) p (List.mem_range.1 hp)
end Go.Proofs.YtnplcephmidjbaaDoor
/- Sets of works as seven words: plain. -/
namespace Go.Proofs.YtnplcephmidjbaaDoor
open Go.RowKit

/-- The word k of a set. -/
def wd (S k : Nat) : Nat := S / 2 ^ (64 * k) % 2 ^ 64
theorem wd_lt (S k : Nat) : wd S k < 2 ^ 64 := Nat.mod_lt _ (Nat.two_pow_pos _)
theorem wd_bit (S k j : Nat) : (wd S k).testBit j = (decide (j < 64) && S.testBit (64 * k + j)) := by
  unfold wd
  rw [Nat.testBit_mod_two_pow, Nat.testBit_div_two_pow, Nat.add_comm]
theorem wd_or (S T k : Nat) : wd (S ||| T) k = wd S k ||| wd T k := by
  apply Nat.eq_of_testBit_eq
  intro j
  rw [Nat.testBit_or, wd_bit, wd_bit, wd_bit, Nat.testBit_or]
  cases decide (j < 64) <;> simp
theorem wd_put (S i : Nat) : wd (S ||| 2 ^ i) (i / 64) = wd S (i / 64) ||| 2 ^ (i % 64) := by
  apply Nat.eq_of_testBit_eq
  intro j
  rw [Nat.testBit_or, wd_bit, wd_bit, Nat.testBit_or, Nat.testBit_two_pow, Nat.testBit_two_pow]
  by_cases h : j < 64
  · have e : (i = 64 * (i / 64) + j) = (i % 64 = j) := by apply propext; omega
    simp [h, e]
  · have : ¬ i % 64 = j := by omega
    simp [h, this]
theorem wd_put_ne (S i k : Nat) (h : k ≠ i / 64) : wd (S ||| 2 ^ i) k = wd S k := by
  apply Nat.eq_of_testBit_eq
  intro j
  rw [wd_bit, wd_bit, Nat.testBit_or, Nat.testBit_two_pow]
  by_cases hj : j < 64
  · have : ¬ i = 64 * k + j := by omega
    simp [this]
  · simp [hj]
/-- Is the word k of one set in that of another one? -/
def winW (S T k : Nat) : Bool := decide (wd S k &&& wd T k = wd S k)
theorem winW_iff (S T k : Nat) : winW S T k = true ↔ ∀ j, j < 64 → S.testBit (64 * k + j) = true → T.testBit (64 * k + j) = true := by
  unfold winW
  rw [decide_eq_true_eq]
  constructor
  · intro h j hj hs
    have := congrArg (fun z => Nat.testBit z j) h
    simp only [Nat.testBit_and, wd_bit, hj, decide_true, Bool.true_and, hs] at this
    simpa using this
  · intro h
    apply Nat.eq_of_testBit_eq
    intro j
    rw [Nat.testBit_and, wd_bit, wd_bit]
    by_cases hj : j < 64
    · have := h j hj
      cases h1 : S.testBit (64 * k + j) <;> simp_all
    · simp [hj]
/-- Of the first n words. -/
def winN (S T : Nat) : Nat → Bool
  | 0 => true
  | n + 1 => winN S T n && winW S T n
theorem winN_iff (S T : Nat) : ∀ n, winN S T n = true ↔ ∀ i, i < 64 * n → S.testBit i = true → T.testBit i = true
  | 0 => by simp [winN]
  | n + 1 => by
    rw [winN, Bool.and_eq_true, winN_iff S T n, winW_iff]
    constructor
    · rintro ⟨h1, h2⟩ i hi hs
      rcases Nat.lt_or_ge i (64 * n) with h | h
      · exact h1 i h hs
      · have := h2 (i - 64 * n) (by omega)
        rw [show 64 * n + (i - 64 * n) = i by omega] at this
        exact this hs
    · intro h
      exact ⟨fun i hi => h i (by omega), fun j hj => h _ (by omega)⟩
theorem winN_mono (S T : Nat) : ∀ n k, k ≤ n → winN S T k = false → winN S T n = false
  | 0, k, h, hf => by obtain rfl : k = 0 := by omega
                      exact hf
  | n + 1, k, h, hf => by
    rcases Nat.lt_or_ge n k with h1 | h1
    · obtain rfl : k = n + 1 := by omega
      exact hf
    · rw [winN, winN_mono S T n k h1 hf]; rfl
theorem wraps64 : ∀ n : Int, 0 ≤ n → n < 2 ^ 64 → IntKind.u64.wrap n = n := fun n h0 h1 => by
  simp [IntKind.wrap, IntKind.bits, IntKind.signed]; omega
/-- The cells of a set. -/
def SetAt (w : World) (R off S : Nat) : Prop := ∀ k, k < 7 → w.cell? ⟨R, off + k, none⟩ = some (.int .u64 (wd S k : Nat)) ∧ w.frozen? ⟨R, off + k, none⟩ = false
end Go.Proofs.YtnplcephmidjbaaDoor
/- What the checks of a sheet say, as plain functions. -/
namespace Go.Proofs.YtnplcephmidjbaaDoor
def touchB (a b : Int) : Bool := decide (a - b ≤ 1 ∧ b - a ≤ 1)
def letterB (c : UInt8) : Bool := [67, 84, 76, 82, 80, 99, 116, 108, 114].contains c
/-- The word has a letter that is none. -/
def formW (s : ByteArray) : Bool := s.data.toList.any fun c => !letterB c
def errWord (s : ByteArray) : Int := if 16 < s.size then 3 else if formW s = true then 6 else 0
def longW (x : GW) : Bool := decide (16 < x.word.size)
def badW (p : Int) (x : GW) : Bool := decide ((x.kind ≠ 1 ∧ x.kind ≠ 2) ∨ x.pl < 0 ∨ p - 2 < x.pl ∨ (x.kind = 2 ∧ (!x.word.toList.isEmpty) = true))
def errSheet (p : Int) (ws : List GW) : Int :=
  if 24 < p ∨ 400 < ws.length ∨ ws.any longW = true then 3 else if p < 2 then 2 else if ws.any (badW p) = true then 2 else if ws.any (fun x => formW x.word) = true then 6 else 0
end Go.Proofs.YtnplcephmidjbaaDoor
/- How many orders there are: counted over sets of works, with a limit. Plain functions. -/
namespace Go.Proofs.YtnplcephmidjbaaDoor

def freeB (bef : Nat → Nat) (s i : Nat) : Bool := !s.testBit i && decide (bef i &&& s = bef i)
def accF (g : Nat → Int) (bef : Nat → Nat) (s : Nat) : Nat → Int
  | 0 => 0
  | k + 1 => if freeB bef s k = true then min (accF g bef s k + g (s ||| 2 ^ k)) 1000000001 else accF g bef s k
def cntF (n : Nat) (bef : Nat → Nat) : Nat → Nat → Int
  | 0, _ => 0
  | f + 1, s => if s = 2 ^ n - 1 then 1 else accF (cntF n bef f) bef s n
/-- How many orders of the rest there are, at most one more than the limit. -/
def cntN (n : Nat) (bef : Nat → Nat) (s : Nat) : Int := cntF n bef (n + 1) s
/-- The works that are not done. -/
def miss (n s : Nat) : Nat := (List.range n).countP fun i => !s.testBit i

theorem testBit_set (s k i : Nat) : (s ||| 2 ^ k).testBit i = (s.testBit i || decide (k = i)) := by
  rw [Nat.testBit_or, Nat.testBit_two_pow]
theorem miss_le (n s : Nat) : miss n s ≤ n := by
  unfold miss; have := List.countP_le_length (p := fun i => !s.testBit i) (l := List.range n); simpa using this
theorem countP_lt {l : List Nat} {p q : Nat → Bool} {k : Nat} (hk : k ∈ l) (hpq : ∀ i, q i = true → p i = true) (h1 : p k = true) (h2 : q k = false) : l.countP q < l.countP p := by
  induction l with
  | nil => cases hk
  | cons a l ih =>
    have hle : l.countP q ≤ l.countP p := List.countP_mono_left fun i _ h => hpq i h
    rw [List.countP_cons, List.countP_cons]
    rcases List.mem_cons.1 hk with rfl | hk
    · rw [h1, h2]; simp; omega
    · have := ih hk
      by_cases hq : q a = true
      · rw [hq, hpq a hq]; simp; omega
      · have hq' : q a = false := by simpa using hq
        rw [hq']; simp; split <;> omega
theorem miss_set {n s k : Nat} (hk : k < n) (h : s.testBit k = false) : miss n (s ||| 2 ^ k) < miss n s := by
  unfold miss
  refine countP_lt (k := k) (by simpa using hk) (fun i hi => ?_) (by simp [h]) (by simp)
  simp only [testBit_set, Bool.not_or, Bool.and_eq_true] at hi
  exact hi.1
theorem freeB_bit {bef : Nat → Nat} {s k : Nat} (h : freeB bef s k = true) : s.testBit k = false := by
  unfold freeB at h; simp at h; exact h.1
theorem accF_congr {g g' : Nat → Int} {bef : Nat → Nat} {s : Nat} : ∀ n, (∀ k, k < n → freeB bef s k = true → g (s ||| 2 ^ k) = g' (s ||| 2 ^ k)) → accF g bef s n = accF g' bef s n
  | 0, _ => rfl
  | k + 1, h => by
    have := accF_congr (g := g) (g' := g') (bef := bef) (s := s) k (fun j hj => h j (by omega))
    unfold accF
    split
    · rename_i hf; rw [this, h k (by omega) hf]
    · exact this
theorem cntF_stable (n : Nat) (bef : Nat → Nat) : ∀ f f' s, miss n s < f → miss n s < f' → cntF n bef f s = cntF n bef f' s
  | 0, _, _, h, _ => absurd h (by omega)
  | _ + 1, 0, _, _, h => absurd h (by omega)
  | f + 1, f' + 1, s, h, h' => by
    unfold cntF
    split
    · rfl
    · refine accF_congr n fun k hk hf => ?_
      have := miss_set hk (freeB_bit hf)
      exact cntF_stable n bef f f' _ (by omega) (by omega)
theorem cntN_full (n : Nat) (bef : Nat → Nat) : cntN n bef (2 ^ n - 1) = 1 := by unfold cntN cntF; rw [if_pos rfl]
theorem cntN_step (n : Nat) (bef : Nat → Nat) (s : Nat) (h : s ≠ 2 ^ n - 1) : cntN n bef s = accF (cntN n bef) bef s n := by
  unfold cntN
  rw [cntF, if_neg h]
  refine accF_congr n fun k hk hf => ?_
  have := miss_set hk (freeB_bit hf)
  have := miss_le n s
  exact cntF_stable n bef _ _ _ (by omega) (by omega)
theorem accF_bounds {g : Nat → Int} {bef : Nat → Nat} {s : Nat} (hg : ∀ t, 0 ≤ g t) : ∀ n, 0 ≤ accF g bef s n ∧ accF g bef s n ≤ 1000000001
  | 0 => by unfold accF; omega
  | k + 1 => by
    have := accF_bounds (bef := bef) (s := s) hg k
    have := hg (s ||| 2 ^ k)
    unfold accF
    split <;> omega
theorem cntF_bounds (n : Nat) (bef : Nat → Nat) : ∀ f s, 0 ≤ cntF n bef f s ∧ cntF n bef f s ≤ 1000000001
  | 0, _ => by unfold cntF; omega
  | f + 1, s => by
    unfold cntF
    split
    · omega
    · exact accF_bounds (fun t => (cntF_bounds n bef f t).1) n
theorem cntN_bounds (n : Nat) (bef : Nat → Nat) (s : Nat) : 0 ≤ cntN n bef s ∧ cntN n bef s ≤ 1000000001 := cntF_bounds n bef _ s
end Go.Proofs.YtnplcephmidjbaaDoor
/- A valid sheet, part by part. -/
namespace Go.Proofs.YtnplcephmidjbaaDoor
open Go.RowKit

theorem okAll {p : Int} {ws : List GW} (h : errSheet p ws = 0) : 2 ≤ p ∧ p ≤ 24 ∧ ws.length ≤ 400 ∧ ∀ x ∈ ws, x.word.size ≤ 16 ∧ 0 ≤ x.pl ∧ x.pl ≤ p - 2 ∧ formW x.word = false := by
  unfold errSheet at h
  split at h
  · omega
  · rename_i h1
    split at h
    · omega
    · rename_i h2
      split at h
      · omega
      · rename_i h3
        split at h
        · omega
        · rename_i h4
          refine ⟨by omega, by omega, by omega, fun x hx => ?_⟩
          have e1 := List.any_eq_false.1 (by simpa using (show ¬ ws.any longW = true from fun h => h1 (.inr (.inr h)))) x hx
          have e3 := List.any_eq_false.1 (by simpa using h3) x hx
          have e4 := List.any_eq_false.1 (by simpa using h4) x hx
          unfold longW at e1
          unfold badW at e3
          simp only [decide_eq_true_eq, not_or] at e1 e3
          exact ⟨by omega, by omega, by omega, by simpa using e4⟩
theorem rdW_lt {w : World} {A : Option Addr} {ws : List GW} (h : RdW w A ws) (h0 : 0 < ws.length) (b off : Nat) (e : A = some ⟨b, off, none⟩) : b < w.heap.size := by
  obtain ⟨b', off', e', hlt, _⟩ := h.2.2 (by omega)
  rw [e] at e'
  have := congrArg Addr.block (Option.some.inj e')
  simp at this
  omega
def Box1 (w w1 : World) (p : Int) (A : Option Addr) (c n : Nat) : Prop :=
  w1.cell? ⟨w.heap.size, 0, none⟩ = some (.int .i64 p) ∧ w1.cell? ⟨w.heap.size, 1, none⟩ = some (.slice A n c) ∧ w.heap.size < w1.heap.size
theorem Box1.later {w w1 w2 : World} {p : Int} {A : Option Addr} {c n : Nat} (h : Box1 w w1 p A c n) (hb : Below w1.heap.size w1 w2) : Box1 w w2 p A c n :=
  ⟨below_at hb (Nat.le_refl _) h.1, below_at hb (Nat.le_refl _) h.2.1, Nat.lt_of_lt_of_le h.2.2 hb.size⟩
theorem Box1.made (w : World) (p : Int) (A : Option Addr) (c n T : Nat) : Box1 w (w.alloc (.cells #[.int .i64 p, .slice A n c] T)) p A c n :=
  ⟨by go_simp, by go_simp, by simp⟩
end Go.Proofs.YtnplcephmidjbaaDoor
/- Package pairs in plain Lean: from when to when a place is in use, how many pairs hang. -/
namespace Go.Proofs.YtnplcephmidjbaaDoor

/-- A work at place a takes place p. -/
def tkB (a p : Nat) : Bool := p == a || p == a + 1
/-- The first and the last of n works that take a place (work k lies at place q k); -1: none. -/
def fsI (q : Nat → Nat) : Nat → Nat → Int
  | 0, _ => -1
  | n + 1, p => if tkB (q n) p = true ∧ fsI q n p < 0 then (n : Int) else fsI q n p
def laI (q : Nat → Nat) : Nat → Nat → Int
  | 0, _ => -1
  | n + 1, p => if tkB (q n) p = true then (n : Int) else laI q n p
theorem fsI_lt (q : Nat → Nat) (p : Nat) : ∀ n, -1 ≤ fsI q n p ∧ fsI q n p < n
  | 0 => by unfold fsI; omega
  | n + 1 => by
    have := fsI_lt q p n
    unfold fsI
    split <;> omega
theorem laI_lt (q : Nat → Nat) (p : Nat) : ∀ n, -1 ≤ laI q n p ∧ laI q n p < n
  | 0 => by unfold laI; omega
  | n + 1 => by
    have := laI_lt q p n
    unfold laI
    split <;> omega
theorem fsI_neg (q : Nat → Nat) (p : Nat) : ∀ n, fsI q n p < 0 ↔ ∀ i, i < n → tkB (q i) p = false
  | 0 => by unfold fsI; simp
  | n + 1 => by
    have ih := fsI_neg q p n
    unfold fsI
    constructor
    · intro h
      split at h
      · omega
      · rename_i hc
        have h2 := ih.1 h
        intro i hi
        rcases Nat.lt_succ_iff_lt_or_eq.1 hi with hi | rfl
        · exact h2 i hi
        · cases ht : tkB (q i) p with
          | false => rfl
          | true => exact absurd ⟨ht, h⟩ hc
    · intro h
      have h2 := ih.2 fun i hi => h i (by omega)
      rw [if_neg (fun hc => by rw [h n (by omega)] at hc; exact absurd hc.1 (by decide))]
      exact h2
theorem fsI_le (q : Nat → Nat) (p k : Nat) : ∀ n, (0 ≤ fsI q n p ∧ fsI q n p ≤ k) ↔ ∃ i, i < n ∧ i ≤ k ∧ tkB (q i) p = true
  | 0 => by
    unfold fsI
    constructor
    · intro h; omega
    · rintro ⟨i, hi, _⟩; omega
  | n + 1 => by
    have ih := fsI_le q p k n
    have hn := fsI_neg q p n
    unfold fsI
    by_cases hc : tkB (q n) p = true ∧ fsI q n p < 0
    · rw [if_pos hc]
      constructor
      · intro h; exact ⟨n, by omega, by omega, hc.1⟩
      · rintro ⟨i, hi, hk, ht⟩
        rcases Nat.lt_succ_iff_lt_or_eq.1 hi with hi | rfl
        · rw [hn.1 hc.2 i hi] at ht; cases ht
        · omega
    · rw [if_neg hc, ih]
      constructor
      · rintro ⟨i, hi, hk, ht⟩; exact ⟨i, by omega, hk, ht⟩
      · rintro ⟨i, hi, hk, ht⟩
        rcases Nat.lt_succ_iff_lt_or_eq.1 hi with hi | rfl
        · exact ⟨i, hi, hk, ht⟩
        · have h0 : ¬ fsI q i p < 0 := fun h => hc ⟨ht, h⟩
          have hl := fsI_lt q p i
          exact ih.1 ⟨by omega, by omega⟩
theorem laI_le (q : Nat → Nat) (p k : Nat) : ∀ n, (k : Int) ≤ laI q n p ↔ ∃ i, i < n ∧ k ≤ i ∧ tkB (q i) p = true
  | 0 => by
    unfold laI
    constructor
    · intro h; omega
    · rintro ⟨i, hi, _⟩; omega
  | n + 1 => by
    have ih := laI_le q p k n
    have hl := laI_lt q p n
    unfold laI
    by_cases hc : tkB (q n) p = true
    · rw [if_pos hc]
      constructor
      · intro h; exact ⟨n, by omega, by omega, hc⟩
      · rintro ⟨i, hi, hk, _⟩; omega
    · rw [if_neg hc, ih]
      constructor
      · rintro ⟨i, hi, hk, ht⟩; exact ⟨i, by omega, hk, ht⟩
      · rintro ⟨i, hi, hk, ht⟩
        rcases Nat.lt_succ_iff_lt_or_eq.1 hi with hi | rfl
        · exact ⟨i, hi, hk, ht⟩
        · exact absurd ht hc
/-- While work k of n is made, does a pair hang in place p? -/
def hgQ (q : Nat → Nat) (n k p : Nat) : Bool := decide (0 ≤ fsI q n p ∧ fsI q n p ≤ k ∧ (k : Int) ≤ laI q n p)
theorem hgQ_iff (q : Nat → Nat) (n k p : Nat) : hgQ q n k p = true ↔ (∃ i, i < n ∧ i ≤ k ∧ tkB (q i) p = true) ∧ ∃ i, i < n ∧ k ≤ i ∧ tkB (q i) p = true := by
  unfold hgQ
  rw [decide_eq_true_eq, ← fsI_le q p k n, ← laI_le q p k n, and_assoc]
/-- How many numbers below m are such. -/
def cntP (f : Nat → Bool) : Nat → Nat
  | 0 => 0
  | m + 1 => cntP f m + if f m = true then 1 else 0
theorem cntP_le (f : Nat → Bool) : ∀ m, cntP f m ≤ m
  | 0 => Nat.le_refl _
  | m + 1 => by
    have := cntP_le f m
    unfold cntP
    split <;> omega
theorem cntP_congr {f g : Nat → Bool} : ∀ m, (∀ p, p < m → f p = g p) → cntP f m = cntP g m
  | 0, _ => rfl
  | m + 1, h => by
    unfold cntP
    rw [cntP_congr m fun p hp => h p (by omega), h m (by omega)]
theorem cntP_more {f : Nat → Bool} {m : Nat} : ∀ d, (∀ p, m ≤ p → p < m + d → f p = false) → cntP f (m + d) = cntP f m
  | 0, _ => rfl
  | d + 1, h => by
    have e : cntP f (m + (d + 1)) = cntP f (m + d) + if f (m + d) = true then 1 else 0 := rfl
    rw [e, cntP_more d fun p h1 h2 => h p h1 (by omega), h (m + d) (by omega) (by omega)]
    simp
/-- How many pairs hang while work k of n is made (24 places), and the need. -/
def hngN (q : Nat → Nat) (n k : Nat) : Nat := cntP (hgQ q n k) 24
def needQ (q : Nat → Nat) (n : Nat) : Nat → Nat
  | 0 => 0
  | m + 1 => max (needQ q n m) (hngN q n m)
theorem hngN_le (q : Nat → Nat) (n k : Nat) : hngN q n k ≤ 24 := cntP_le _ _
theorem needQ_le (q : Nat → Nat) (n : Nat) : ∀ m, needQ q n m ≤ 24
  | 0 => by unfold needQ; omega
  | m + 1 => by
    have := needQ_le q n m
    have := hngN_le q n m
    unfold needQ; omega
theorem needQ_ge (q : Nat → Nat) (n : Nat) : ∀ m k, k < m → hngN q n k ≤ needQ q n m
  | m + 1, k, h => by
    unfold needQ
    rcases Nat.lt_succ_iff_lt_or_eq.1 h with h | rfl
    · have := needQ_ge q n m k h; omega
    · omega
theorem needQ_least (q : Nat → Nat) (n v : Nat) : ∀ m, (∀ k, k < m → hngN q n k ≤ v) → needQ q n m ≤ v
  | 0, _ => Nat.zero_le _
  | m + 1, h => by
    have h1 := needQ_least q n v m fun k hk => h k (by omega)
    have h2 := h m (by omega)
    unfold needQ; omega
def hangsL (q : Nat → Nat) (n m : Nat) : List Int := (List.range m).map fun k => (hngN q n k : Int)
theorem hangsL_length (q : Nat → Nat) (n m : Nat) : (hangsL q n m).length = m := by unfold hangsL; simp
theorem hangsL_succ (q : Nat → Nat) (n m : Nat) : hangsL q n (m + 1) = hangsL q n m ++ [(hngN q n m : Int)] := by unfold hangsL; simp [List.range_succ]
end Go.Proofs.YtnplcephmidjbaaDoor
/- Fewest of package pairs in plain Lean: the need of what is not done. -/
namespace Go.Proofs.YtnplcephmidjbaaDoor

/-- The works below n that take a place, as bits. -/
def tkS (q : Nat → Nat) : Nat → Nat → Nat
  | 0, _ => 0
  | i + 1, p => if tkB (q i) p = true then tkS q i p ||| 2 ^ i else tkS q i p
theorem tkS_bit (q : Nat → Nat) (p j : Nat) : ∀ n, (tkS q n p).testBit j = (decide (j < n) && tkB (q j) p)
  | 0 => by unfold tkS; simp
  | n + 1 => by
    have ih := tkS_bit q p j n
    unfold tkS
    by_cases hc : tkB (q n) p = true
    · rw [if_pos hc, testBit_set, ih]
      by_cases h : n = j
      · subst h; simp [hc]
      · have e : decide (j < n + 1) = decide (j < n) := by simp; omega
        rw [e, decide_eq_false h, Bool.or_false]
    · rw [if_neg hc, ih]
      by_cases h : n = j
      · subst h
        have : tkB (q n) p = false := by simpa using hc
        simp [this]
      · have e : decide (j < n + 1) = decide (j < n) := by simp; omega
        rw [e]
theorem tkS_lt (q : Nat → Nat) (p : Nat) : ∀ n, tkS q n p < 2 ^ n
  | 0 => by unfold tkS; decide
  | n + 1 => by
    have := tkS_lt q p n
    have h2 : 2 ^ n < 2 ^ (n + 1) := Nat.pow_lt_pow_right (by decide) (by omega)
    unfold tkS
    split
    · exact Nat.or_lt_two_pow (by omega) h2
    · omega
/-- The works directly before a work, as bits. -/
def befT (q : Nat → Nat) (i : Nat) : Nat := tkS q i (q i) ||| tkS q i (q i + 1)
theorem befT_lt (q : Nat → Nat) (i : Nat) : befT q i < 2 ^ i := Nat.or_lt_two_pow (tkS_lt q _ i) (tkS_lt q _ i)
theorem befT_bit (q : Nat → Nat) (i a : Nat) : (befT q i).testBit a = (decide (a < i) && (tkB (q a) (q i) || tkB (q a) (q i + 1))) := by
  unfold befT
  rw [Nat.testBit_or, tkS_bit, tkS_bit, Bool.and_or_distrib_left]
/-- A pair hangs in a place while a work is made, some being done; how many. -/
def hgS (q : Nat → Nat) (n S w p : Nat) : Bool := !decide (tkS q n p &&& (S ||| 2 ^ w) = 0) && !decide (tkS q n p &&& S = tkS q n p)
def hngS (q : Nat → Nat) (n S w : Nat) : Nat := cntP (hgS q n S w) 24
theorem hngS_le (q : Nat → Nat) (n S w : Nat) : hngS q n S w ≤ 24 := cntP_le _ _
/-- The need of what is not done. -/
def minF (g : Nat → Nat) (h : Nat → Nat → Nat) (bef : Nat → Nat) (S : Nat) : Nat → Nat
  | 0 => 25
  | k + 1 => if freeB bef S k = true then min (minF g h bef S k) (max (h S k) (g (S ||| 2 ^ k))) else minF g h bef S k
def ndF (n : Nat) (bef : Nat → Nat) (h : Nat → Nat → Nat) : Nat → Nat → Nat
  | 0, _ => 0
  | f + 1, S => if S = 2 ^ n - 1 then 0 else minF (ndF n bef h f) h bef S n
def ndN (n : Nat) (bef : Nat → Nat) (h : Nat → Nat → Nat) (S : Nat) : Nat := ndF n bef h (n + 1) S
theorem minF_congr {g g' : Nat → Nat} {h : Nat → Nat → Nat} {bef : Nat → Nat} {S : Nat} : ∀ n, (∀ k, k < n → freeB bef S k = true → g (S ||| 2 ^ k) = g' (S ||| 2 ^ k)) → minF g h bef S n = minF g' h bef S n
  | 0, _ => rfl
  | k + 1, hh => by
    have := minF_congr (g := g) (g' := g') (h := h) (bef := bef) (S := S) k (fun j hj => hh j (by omega))
    unfold minF
    split
    · rename_i hf; rw [this, hh k (by omega) hf]
    · exact this
theorem ndF_stable (n : Nat) (bef : Nat → Nat) (h : Nat → Nat → Nat) : ∀ f f' s, miss n s < f → miss n s < f' → ndF n bef h f s = ndF n bef h f' s
  | 0, _, _, hh, _ => absurd hh (by omega)
  | _ + 1, 0, _, _, hh => absurd hh (by omega)
  | f + 1, f' + 1, s, hh, hh' => by
    unfold ndF
    split
    · rfl
    · refine minF_congr n fun k hk hf => ?_
      have := miss_set hk (freeB_bit hf)
      exact ndF_stable n bef h f f' _ (by omega) (by omega)
theorem ndN_full (n : Nat) (bef : Nat → Nat) (h : Nat → Nat → Nat) : ndN n bef h (2 ^ n - 1) = 0 := by unfold ndN ndF; rw [if_pos rfl]
theorem ndN_step (n : Nat) (bef : Nat → Nat) (h : Nat → Nat → Nat) (S : Nat) (hS : S ≠ 2 ^ n - 1) : ndN n bef h S = minF (ndN n bef h) h bef S n := by
  unfold ndN
  rw [ndF, if_neg hS]
  refine minF_congr n fun k hk hf => ?_
  have := miss_set hk (freeB_bit hf)
  have := miss_le n S
  exact ndF_stable n bef h _ _ _ (by omega) (by omega)
theorem minF_le (g : Nat → Nat) (h : Nat → Nat → Nat) (bef : Nat → Nat) (S : Nat) : ∀ n, minF g h bef S n ≤ 25
  | 0 => Nat.le_refl _
  | k + 1 => by
    have := minF_le g h bef S k
    unfold minF
    split <;> omega
theorem ndN_le (n : Nat) (bef : Nat → Nat) (h : Nat → Nat → Nat) (S : Nat) : ndN n bef h S ≤ 25 := by
  unfold ndN ndF
  split
  · omega
  · exact minF_le _ _ _ _ _
theorem minF_skip {g : Nat → Nat} {h : Nat → Nat → Nat} {bef : Nat → Nat} {S k : Nat} : ∀ d, (∀ i, k ≤ i → i < k + d → S.testBit i = true) → minF g h bef S (k + d) = minF g h bef S k
  | 0, _ => rfl
  | d + 1, hh => by
    have ih := minF_skip (g := g) (h := h) (bef := bef) (S := S) (k := k) d fun i h1 h2 => hh i h1 (by omega)
    have hf : freeB bef S (k + d) = false := by unfold freeB; rw [hh (k + d) (by omega) (by omega)]; rfl
    have e : minF g h bef S (k + (d + 1)) = if freeB bef S (k + d) = true then min (minF g h bef S (k + d)) (max (h S (k + d)) (g (S ||| 2 ^ (k + d)))) else minF g h bef S (k + d) := rfl
    rw [e, hf, if_neg (by decide), ih]
theorem minF_succ (g : Nat → Nat) (h : Nat → Nat → Nat) (bef : Nat → Nat) (S k : Nat) : minF g h bef S (k + 1) = if freeB bef S k = true then min (minF g h bef S k) (max (h S k) (g (S ||| 2 ^ k))) else minF g h bef S k := rfl
/-- Those from k on that are not done. -/
def LeftIs (n S k x : Nat) : Prop := ∀ i, x.testBit i = (decide (k ≤ i) && decide (i < n) && !S.testBit i)
theorem LeftIs.lt {n S k x : Nat} (h : LeftIs n S k x) : x < 2 ^ n := by
  apply Nat.lt_pow_two_of_testBit
  intro i hi
  rw [h i, decide_eq_false (show ¬ i < n by omega)]
  simp
theorem LeftIs.zero {n S k x : Nat} (h : LeftIs n S k x) (hx : x = 0) : ∀ i, k ≤ i → i < n → S.testBit i = true := fun i h1 h2 => by
  have := h i
  rw [hx, decide_eq_true h1, decide_eq_true h2] at this
  simpa using this
/-- A number without its least bit. -/
theorem low_bit {x : Nat} (hx : x ≠ 0) : ∃ w, x.testBit w = true ∧ (∀ j, j < w → x.testBit j = false) ∧ ∀ i, (x &&& (x - 1)).testBit i = (x.testBit i && !decide (i = w)) := by
  have h1 : ∃ w, x.testBit w = true := by
    refine Classical.byContradiction fun hn => hx (Nat.eq_of_testBit_eq fun i => ?_)
    rw [Nat.zero_testBit]
    cases h : x.testBit i with
    | false => rfl
    | true => exact absurd ⟨i, h⟩ hn
  obtain ⟨w0, hw0⟩ := h1
  have h2 : ∀ m, x.testBit m = true → ∃ w, x.testBit w = true ∧ ∀ j, j < w → x.testBit j = false := by
    intro m
    induction m using Nat.strongRecOn with
    | _ m ih =>
      intro hm
      by_cases hj : ∃ j, j < m ∧ x.testBit j = true
      · obtain ⟨j, hj, hb⟩ := hj; exact ih j hj hb
      · refine ⟨m, hm, fun j hj2 => ?_⟩
        cases h : x.testBit j with
        | false => rfl
        | true => exact absurd ⟨j, hj2, h⟩ hj
  obtain ⟨w, hw, hl⟩ := h2 w0 hw0
  refine ⟨w, hw, hl, fun i => ?_⟩
  have hmod : x % 2 ^ (w + 1) = 2 ^ w := by
    apply Nat.eq_of_testBit_eq
    intro j
    rw [Nat.testBit_mod_two_pow, Nat.testBit_two_pow]
    by_cases hj : j < w
    · rw [hl j hj]; simp; omega
    · by_cases hjw : j = w
      · subst hjw; rw [hw]; simp
      · rw [decide_eq_false (by omega), decide_eq_false (fun e => hjw e.symm)]; rfl
  have hx2 : x = 2 ^ (w + 1) * (x / 2 ^ (w + 1)) + 2 ^ w := by
    have := Nat.div_add_mod x (2 ^ (w + 1))
    rw [hmod] at this
    exact this.symm
  have hp := Nat.two_pow_pos w
  have hlt : 2 ^ w - 1 < 2 ^ (w + 1) := by rw [Nat.pow_succ]; omega
  have hx3 : x - 1 = 2 ^ (w + 1) * (x / 2 ^ (w + 1)) + (2 ^ w - 1) := by omega
  have hlt2 : 2 ^ w < 2 ^ (w + 1) := by rw [Nat.pow_succ]; omega
  rw [Nat.testBit_and, hx3, Nat.testBit_two_pow_mul_add _ hlt]
  by_cases hi : i < w + 1
  · rw [if_pos hi, Nat.testBit_two_pow_sub_one]
    by_cases hiw : i = w
    · subst hiw; simp
    · rw [hl i (by omega)]; rfl
  · rw [if_neg hi, decide_eq_false (show ¬ i = w by omega)]
    have : x.testBit i = (x / 2 ^ (w + 1)).testBit (i - (w + 1)) := by
      rw [Nat.testBit_div_two_pow]; congr 1; omega
    rw [← this]
    simp
theorem LeftIs.next {n S k x w : Nat} (h : LeftIs n S k x) (hw : x.testBit w = true) (hl : ∀ j, j < w → x.testBit j = false) (hn : ∀ i, (x &&& (x - 1)).testBit i = (x.testBit i && !decide (i = w))) :
    k ≤ w ∧ w < n ∧ S.testBit w = false ∧ (∀ i, k ≤ i → i < w → S.testBit i = true) ∧ LeftIs n S (w + 1) (x &&& (x - 1)) := by
  have h1 := h w
  rw [hw] at h1
  simp only [Bool.true_eq, Bool.and_eq_true, decide_eq_true_eq, Bool.not_eq_true'] at h1
  refine ⟨h1.1.1, h1.1.2, h1.2, fun i hi hiw => ?_, fun i => ?_⟩
  · have h2 := h i
    rw [hl i hiw, decide_eq_true hi, decide_eq_true (show i < n by omega)] at h2
    simpa using h2
  · rw [hn i]
    by_cases hiw : i < w
    · rw [hl i hiw, decide_eq_false (show ¬ w + 1 ≤ i by omega)]; rfl
    · by_cases he : i = w
      · subst he; rw [decide_eq_false (show ¬ i + 1 ≤ i by omega)]; simp
      · rw [h i, decide_eq_true (show k ≤ i by omega), decide_eq_true (show w + 1 ≤ i by omega), decide_eq_false he]; simp
end Go.Proofs.YtnplcephmidjbaaDoor
/- The library's OnesCount at numbers below 2^24: how many bits there are. -/
namespace Go.Proofs.YtnplcephmidjbaaDoor
open Go.RowKit

theorem and_byte (n M m : Nat) (hm : m < 256) : n &&& (256 * M + m) = 256 * ((n / 256) &&& M) + ((n % 256) &&& m) := by
  have h1 : (n % 256 &&& m) < 2 ^ 8 := Nat.lt_of_le_of_lt Nat.and_le_right hm
  have hm2 : m < 2 ^ 8 := hm
  apply Nat.eq_of_testBit_eq
  intro i
  rw [show (256 : Nat) = 2 ^ 8 from rfl] at *
  rw [Nat.testBit_and, Nat.testBit_two_pow_mul_add _ hm2, Nat.testBit_two_pow_mul_add _ h1]
  by_cases hi : i < 8
  · rw [if_pos hi, if_pos hi, Nat.testBit_and, Nat.testBit_mod_two_pow, decide_eq_true hi, Bool.true_and]
  · rw [if_neg hi, if_neg hi, Nat.testBit_and, Nat.testBit_div_two_pow, show i - 8 + 8 = i by omega]
theorem and_24 (a b c M m : Nat) (ha : a < 256) (hb : b < 256) (hc : c < 256) (hm : m < 256) :
    (a + 256 * b + 65536 * c) &&& (16777216 * M + 65536 * m + 256 * m + m) = (a &&& m) + 256 * (b &&& m) + 65536 * (c &&& m) := by
  rw [show 16777216 * M + 65536 * m + 256 * m + m = 256 * (65536 * M + 256 * m + m) + m by omega, and_byte _ _ _ hm,
    show (a + 256 * b + 65536 * c) / 256 = b + 256 * c by omega, show (a + 256 * b + 65536 * c) % 256 = a by omega,
    show 65536 * M + 256 * m + m = 256 * (256 * M + m) + m by omega, and_byte _ _ _ hm,
    show (b + 256 * c) / 256 = c by omega, show (b + 256 * c) % 256 = b by omega, and_byte _ _ _ hm,
    show c / 256 = 0 by omega, show c % 256 = c by omega, Nat.zero_and]
  omega
/-- The steps on one byte. -/
def oc1 (b : Nat) : Nat := (b / 2 &&& 85) + (b &&& 85)
def oc2 (b : Nat) : Nat := (b / 4 &&& 51) + (b &&& 51)
def oc3 (b : Nat) : Nat := oc2 (oc1 b) % 16 + oc2 (oc1 b) / 16
theorem oc_facts : ∀ b : Fin 256, oc1 b.val < 256 ∧ oc2 (oc1 b.val) < 256 ∧ oc2 (oc1 b.val) % 16 ≤ 4 ∧ oc2 (oc1 b.val) / 16 ≤ 4 ∧ oc3 b.val = cntP (fun i => b.val.testBit i) 8 := by decide +kernel
theorem oc_sh1 : ∀ (b : Fin 256) (c : Fin 2), (b.val / 2 + 128 * c.val) &&& 85 = b.val / 2 &&& 85 := by decide +kernel
theorem oc_sh2 : ∀ (b : Fin 256) (c : Fin 4), (b.val / 4 + 64 * c.val) &&& 51 = b.val / 4 &&& 51 := by decide +kernel
theorem cntP_add (f : Nat → Bool) (m : Nat) : ∀ k, cntP f (m + k) = cntP f m + cntP (fun i => f (m + i)) k
  | 0 => rfl
  | k + 1 => by
    have e1 : cntP f (m + (k + 1)) = cntP f (m + k) + if f (m + k) = true then 1 else 0 := rfl
    have e2 : cntP (fun i => f (m + i)) (k + 1) = cntP (fun i => f (m + i)) k + if f (m + k) = true then 1 else 0 := rfl
    rw [e1, e2, cntP_add f m k]
    omega
theorem tb_byte (a b : Nat) (ha : a < 256) (i : Nat) : (a + 256 * b).testBit i = if i < 8 then a.testBit i else b.testBit (i - 8) := by
  rw [Nat.add_comm, show (256 : Nat) = 2 ^ 8 from rfl, Nat.testBit_two_pow_mul_add _ (show a < 2 ^ 8 from ha)]
theorem cnt_24 (a b c : Nat) (ha : a < 256) (hb : b < 256) (hc : c < 256) : cntP (fun i => (a + 256 * b + 65536 * c).testBit i) 24 = oc3 a + oc3 b + oc3 c := by
  have e : ∀ x, x < 256 → oc3 x = cntP (fun i => x.testBit i) 8 := fun x hx => (oc_facts ⟨x, hx⟩).2.2.2.2
  rw [show (24 : Nat) = 8 + (8 + 8) from rfl, cntP_add, cntP_add, e a ha, e b hb, e c hc, ← Nat.add_assoc]
  have s : a + 256 * b + 65536 * c = a + 256 * (b + 256 * c) := by omega
  congr 1
  · congr 1
    · refine cntP_congr 8 fun p hp => ?_
      rw [s, tb_byte _ _ ha, if_pos hp]
    · refine cntP_congr 8 fun p hp => ?_
      rw [s, tb_byte _ _ ha, if_neg (by omega), show 8 + p - 8 = p by omega, tb_byte _ _ hb, if_pos hp]
  · refine cntP_congr 8 fun p hp => ?_
    rw [s, tb_byte _ _ ha, if_neg (by omega), show 8 + (8 + p) - 8 = 8 + p by omega, tb_byte _ _ hb, if_neg (by omega), show 8 + p - 8 = p by omega]
/-- What OnesCount64 computes, step by step. -/
def ocA (x : Nat) : Nat := (x / 2 &&& 6148914691236517205) + (x &&& 6148914691236517205)
def ocB (x : Nat) : Nat := (x / 4 &&& 3689348814741910323) + (x &&& 3689348814741910323)
def ocC (x : Nat) : Nat := (x / 16 + x) &&& 1085102592571150095
theorem oc_is (x : Nat) (hx : x < 16777216) : ocA x < 16777216 ∧ ocB (ocA x) < 16777216 ∧ ocC (ocB (ocA x)) < 16777216 ∧
    ∃ p q r, ocC (ocB (ocA x)) = p + 256 * q + 65536 * r ∧ p ≤ 8 ∧ q ≤ 8 ∧ r ≤ 8 ∧ cntP (fun i => x.testBit i) 24 = p + q + r := by
  obtain ⟨a, b, c, ha, hb, hc, rfl⟩ : ∃ a b c, a < 256 ∧ b < 256 ∧ c < 256 ∧ x = a + 256 * b + 65536 * c := ⟨x % 256, x / 256 % 256, x / 65536, by omega, by omega, by omega, by omega⟩
  have hcnt := cnt_24 a b c ha hb hc
  obtain ⟨fa1, fa2, fa3, fa4, _⟩ := oc_facts ⟨a, ha⟩
  obtain ⟨fb1, fb2, fb3, fb4, _⟩ := oc_facts ⟨b, hb⟩
  obtain ⟨fc1, fc2, fc3, fc4, _⟩ := oc_facts ⟨c, hc⟩
  simp only at fa1 fa2 fa3 fa4 fb1 fb2 fb3 fb4 fc1 fc2 fc3 fc4
  have hA : ocA (a + 256 * b + 65536 * c) = oc1 a + 256 * oc1 b + 65536 * oc1 c := by
    unfold ocA
    rw [show (6148914691236517205 : Nat) = 16777216 * 366503875925 + 65536 * 85 + 256 * 85 + 85 from rfl, and_24 _ _ _ _ _ ha hb hc (by decide),
      show (a + 256 * b + 65536 * c) / 2 = (a / 2 + 128 * (b % 2)) + 256 * (b / 2 + 128 * (c % 2)) + 65536 * (c / 2) by omega,
      and_24 _ _ _ _ _ (by omega) (by omega) (by omega) (by decide),
      show (a / 2 + 128 * (b % 2)) &&& 85 = a / 2 &&& 85 from oc_sh1 ⟨a, ha⟩ ⟨b % 2, by omega⟩, show (b / 2 + 128 * (c % 2)) &&& 85 = b / 2 &&& 85 from oc_sh1 ⟨b, hb⟩ ⟨c % 2, by omega⟩]
    unfold oc1
    omega
  have hB : ∀ a b c, a < 256 → b < 256 → c < 256 → ocB (a + 256 * b + 65536 * c) = oc2 a + 256 * oc2 b + 65536 * oc2 c := fun a b c ha hb hc => by
    unfold ocB
    rw [show (3689348814741910323 : Nat) = 16777216 * 219902325555 + 65536 * 51 + 256 * 51 + 51 from rfl, and_24 _ _ _ _ _ ha hb hc (by decide),
      show (a + 256 * b + 65536 * c) / 4 = (a / 4 + 64 * (b % 4)) + 256 * (b / 4 + 64 * (c % 4)) + 65536 * (c / 4) by omega,
      and_24 _ _ _ _ _ (by omega) (by omega) (by omega) (by decide),
      show (a / 4 + 64 * (b % 4)) &&& 51 = a / 4 &&& 51 from oc_sh2 ⟨a, ha⟩ ⟨b % 4, by omega⟩, show (b / 4 + 64 * (c % 4)) &&& 51 = b / 4 &&& 51 from oc_sh2 ⟨b, hb⟩ ⟨c % 4, by omega⟩]
    unfold oc2
    omega
  rw [hA, hB _ _ _ fa1 fb1 fc1]
  have hC : ocC (oc2 (oc1 a) + 256 * oc2 (oc1 b) + 65536 * oc2 (oc1 c)) = oc3 a + 256 * oc3 b + 65536 * oc3 c := by
    unfold ocC oc3
    generalize oc2 (oc1 a) = u at *
    generalize oc2 (oc1 b) = v at *
    generalize oc2 (oc1 c) = z at *
    have e15 : ∀ y, y &&& 15 = y % 16 := fun y => Nat.and_two_pow_sub_one_eq_mod y 4
    rw [show (1085102592571150095 : Nat) = 16777216 * 64677154575 + 65536 * 15 + 256 * 15 + 15 from rfl,
      show (u + 256 * v + 65536 * z) / 16 + (u + 256 * v + 65536 * z) = ((u % 16 + u / 16) + 16 * (u / 16 + v % 16)) + 256 * ((v % 16 + v / 16) + 16 * (v / 16 + z % 16)) + 65536 * ((z % 16 + z / 16) + 16 * (z / 16)) by omega,
      and_24 _ _ _ _ _ (by omega) (by omega) (by omega) (by decide), e15, e15, e15,
      show (u % 16 + u / 16 + 16 * (u / 16 + v % 16)) % 16 = u % 16 + u / 16 by omega, show (v % 16 + v / 16 + 16 * (v / 16 + z % 16)) % 16 = v % 16 + v / 16 by omega,
      show (z % 16 + z / 16 + 16 * (z / 16)) % 16 = z % 16 + z / 16 by omega]
  rw [hC]
  unfold oc3 at *
  generalize oc1 a = a1 at *
  generalize oc1 b = b1 at *
  generalize oc1 c = c1 at *
  generalize oc2 a1 = u at *
  generalize oc2 b1 = v at *
  generalize oc2 c1 = z at *
  exact ⟨by omega, by omega, by omega, u % 16 + u / 16, v % 16 + v / 16, z % 16 + z / 16, rfl, by omega, by omega, by omega, hcnt⟩
end Go.Proofs.YtnplcephmidjbaaDoor
