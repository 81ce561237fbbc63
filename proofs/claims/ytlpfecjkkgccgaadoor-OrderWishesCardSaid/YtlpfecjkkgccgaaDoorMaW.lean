/- Texts of this claim, laid together: OrRs0, OrNrV, OrNrB, OrNear1, OrNearL, OrR3, OrR4, OrFr, OrFr2, OrRC. -/
import Derived.Test.YtlpfecjkkgccgaaDoorMaA
import Derived.Test.YtlpfecjkkgccgaaDoorMaF
import Derived.Test.YtlpfecjkkgccgaaDoorMaJ
import Derived.Test.YtlpfecjkkgccgaaDoorMaQ
import Derived.Test.YtlpfecjkkgccgaaDoorMaR
import Derived.Test.YtlpfecjkkgccgaaDoorMaU
import Derived.Test.YtlpfecjkkgccgaaDoorMaV
/- What Near's closure leans on: plain, and its world. -/
namespace Go.Proofs.YtlpfecjkkgccgaaDoor
open Go.RowKit

section
variable {tc : Nat → Nat → Bool} {L : Nat → Nat} {g : Nat → Nat → Nat} {S : Nat} {last : Int}
/-- One more work looked at. -/
def bS (tc : Nat → Nat → Bool) (g : Nat → Nat → Nat) (S : Nat) (last : Int) (o : Option (Nat × Nat)) (k : Nat) : Option (Nat × Nat) := match o with
  | none => some (stp tc last k + g (S ||| 2 ^ k) k, k)
  | some (v, b) => if stp tc last k + g (S ||| 2 ^ k) k < v then some (stp tc last k + g (S ||| 2 ^ k) k, k) else some (v, b)
/-- The works of a list looked at. -/
def bL (tc : Nat → Nat → Bool) (g : Nat → Nat → Nat) (S : Nat) (last : Int) (l : List Nat) : Option (Nat × Nat) := l.foldl (bS tc g S last) none
theorem bL_snoc (l : List Nat) (k : Nat) : bL tc g S last (l ++ [k]) = bS tc g S last (bL tc g S last l) k := by unfold bL; rw [List.foldl_append]; rfl
theorem bL_wys : ∀ k, bL tc g S last (wysL L S k) = bstB tc L g S last k
  | 0 => rfl
  | k + 1 => by
    have ih := bL_wys k
    rw [wysL_succ, bstB]
    by_cases h : freeB L S k = true
    · rw [if_pos h, if_pos h, bL_snoc, ih]
      cases hb : bstB tc L g S last k with
      | none => rfl
      | some x => rfl
    · rw [if_neg h, if_neg h, List.append_nil, ih]
def nxI (o : Option (Nat × Nat)) : Int := match o with | none => -1 | some (_, b) => b
end
/-- The work that is next. -/
def nxU (n : Nat) (tc : Nat → Nat → Bool) (L : Nat → Nat) (S : Nat) (last : Int) : Int := nxI (bstB tc L (fun T b => rsU n tc L T b) S last n)
/-- Its world: the boxes that it has caught, the sheet, what comes before what, and what is known. -/
structure NCx (w0 : World) (p : Int) (A : Option Addr) (c : Nat) (ws : List GW) (L : Nat → Nat) (n Lb Mb Fb Sb mb R : Nat) (w : World) : Prop where
  bel : Below w0.heap.size w0 w
  sh : ShIn w0 p A ws
  lbox : w.heap[Lb]? = some (.cells #[.slice (some ⟨R, 0, none⟩) n n] 52 (0, 0))
  mbox : w.heap[Mb]? = some (.cells #[.map (some mb)] 88 (0, 0))
  fbox : w.heap[Fb]? = some (.cells #[.func (.func 46) #[] #[.pointer (some ⟨Lb, 0, none⟩), .pointer (some ⟨Mb, 0, none⟩), .pointer (some ⟨Fb, 0, none⟩), .pointer (some ⟨Sb, 0, none⟩)]] 89 (0, 0))
  sbox : w.heap[Sb]? = some (.cells #[.int .i64 p, .slice A ws.length c] 24 (0, 0))
  rows : SBo w R n L
  map : MapSt w mb (fun S z => rsU n (tcO ws) L S z)
  lo : w0.heap.size ≤ mb
section
variable {w0 w w' : World} {p : Int} {A : Option Addr} {c : Nat} {ws : List GW} {L : Nat → Nat} {n Lb Mb Fb Sb mb R : Nat}
theorem NCx.ne (h : NCx w0 p A c ws L n Lb Mb Fb Sb mb R w) : Lb ≠ mb ∧ Mb ≠ mb ∧ Fb ≠ mb ∧ Sb ≠ mb ∧ R ≠ mb := by
  obtain ⟨es, ck, hm, _⟩ := h.map
  refine ⟨?_, ?_, ?_, ?_, ?_⟩
  · rintro rfl; rw [h.lbox] at hm; cases hm
  · rintro rfl; rw [h.mbox] at hm; cases hm
  · rintro rfl; rw [h.fbox] at hm; cases hm
  · rintro rfl; rw [h.sbox] at hm; cases hm
  · rintro rfl
    have h2 : w.heap[R]? = _ := h.rows
    rw [h2] at hm; cases hm
theorem NCx.keep (h : NCx w0 p A c ws L n Lb Mb Fb Sb mb R w) (hb : Below w0.heap.size w0 w') (hs : ∀ i, i < w.heap.size → i ≠ mb → w'.heap[i]? = w.heap[i]?) (hm : MapSt w' mb (fun S z => rsU n (tcO ws) L S z)) : NCx w0 p A c ws L n Lb Mb Fb Sb mb R w' := by
  obtain ⟨n1, n2, n3, n4, n5⟩ := h.ne
  exact ⟨hb, h.sh, (hs _ (lt_of_block h.lbox) n1).trans h.lbox, (hs _ (lt_of_block h.mbox) n2).trans h.mbox, (hs _ (lt_of_block h.fbox) n3).trans h.fbox, (hs _ (lt_of_block h.sbox) n4).trans h.sbox, (hs _ h.rows.lt n5).trans h.rows, hm, h.lo⟩
theorem NCx.kp (h : NCx w0 p A c ws L n Lb Mb Fb Sb mb R w) (hk : Kp (fun i => i = mb) w w') (hm : MapSt w' mb (fun S z => rsU n (tcO ws) L S z)) : NCx w0 p A c ws L n Lb Mb Fb Sb mb R w' :=
  h.keep (hk.under h.bel fun i hi => by subst hi; exact h.lo) (fun i hi hne => hk.same i hi hne) hm
theorem NCx.later (h : NCx w0 p A c ws L n Lb Mb Fb Sb mb R w) (hb : Below w.heap.size w w') : NCx w0 p A c ws L n Lb Mb Fb Sb mb R w' :=
  h.kp (Kp.of_below _ hb) (h.map.at_ (hb.block _ h.map.lt))
/-- What the closure returns. -/
def RsPost (n : Nat) (tc : Nat → Nat → Bool) (L : Nat → Nat) (mb : Nat) (S : Nat) (z : Int) (w : World) (e : Ending) (w' : World) : Prop :=
  e = .returned (.tuple #[.int .i64 ((rsU n tc L S z : Nat) : Int), .int .i64 (nxU n tc L S z)]) ∧ Kp (fun i => i = mb) w w' ∧ MapSt w' mb (fun S z => rsU n tc L S z)
end
end Go.Proofs.YtlpfecjkkgccgaaDoor
/- The end of a round of Near's closure. -/
namespace Go.Proofs.YtlpfecjkkgccgaaDoor
open Go Go.RowKit
attribute [local go_sem] Oper.semAt_some

def FNC (Sb B5 P8 P9 b N : Nat) (a : Act) : Prop := a.tmps.size = 76 ∧ a.defers = [] ∧ a.tmps.getD 4 undef = .pointer (some ⟨Sb, 0, none⟩) ∧ a.tmps.getD 5 undef = .pointer (some ⟨B5, 0, none⟩) ∧ a.tmps.getD 8 undef = .pointer (some ⟨P8, 0, none⟩) ∧ a.tmps.getD 9 undef = .pointer (some ⟨P9, 0, none⟩) ∧ a.tmps.getD 11 undef = .int .i64 (b : Int) ∧ a.tmps.getD 13 undef = .int .i64 (N : Int)
theorem FNC.opn {Sb B5 P8 P9 b N : Nat} {a : Act} (h : FNC Sb B5 P8 P9 b N a) : ∃ f : Nat → Value, a = { tmps := #[f 0, f 1, f 2, f 3, .pointer (some ⟨Sb, 0, none⟩), .pointer (some ⟨B5, 0, none⟩), f 6, f 7, .pointer (some ⟨P8, 0, none⟩), .pointer (some ⟨P9, 0, none⟩), f 10, .int .i64 (b : Int), f 12, .int .i64 (N : Int), f 14, f 15, f 16, f 17, f 18, f 19, f 20, f 21, f 22, f 23, f 24, f 25, f 26, f 27, f 28, f 29, f 30, f 31, f 32, f 33, f 34, f 35, f 36, f 37, f 38, f 39, f 40, f 41, f 42, f 43, f 44, f 45, f 46, f 47, f 48, f 49, f 50, f 51, f 52, f 53, f 54, f 55, f 56, f 57, f 58, f 59, f 60, f 61, f 62, f 63, f 64, f 65, f 66, f 67, f 68, f 69, f 70, f 71, f 72, f 73, f 74, f 75], defers := [] } := by
  obtain ⟨hs, hd, g4, g5, g8, g9, g11, g13⟩ := h
  obtain ⟨t, d⟩ := a
  dsimp only at *
  have e := arr_range t 76 hs
  generalize hf : (fun i => t.getD i undef) = f at e
  have k : ∀ i, t.getD i undef = f i := fun i => congrFun hf i
  rw [k] at g4 g5 g8 g9 g11 g13
  refine ⟨f, ?_⟩
  rw [hd, e]
  congr 1
  show #[f 0, f 1, f 2, f 3, f 4, f 5, f 6, f 7, f 8, f 9, f 10, f 11, f 12, f 13, f 14, f 15, f 16, f 17, f 18, f 19, f 20, f 21, f 22, f 23, f 24, f 25, f 26, f 27, f 28, f 29, f 30, f 31, f 32, f 33, f 34, f 35, f 36, f 37, f 38, f 39, f 40, f 41, f 42, f 43, f 44, f 45, f 46, f 47, f 48, f 49, f 50, f 51, f 52, f 53, f 54, f 55, f 56, f 57, f 58, f 59, f 60, f 61, f 62, f 63, f 64, f 65, f 66, f 67, f 68, f 69, f 70, f 71, f 72, f 73, f 74, f 75] = _
  rw [g4, g5, g8, g9, g11, g13]

/-- The better one. -/
def bT (N b : Nat) (o : Option (Nat × Nat)) : Option (Nat × Nat) := match o with
  | none => some (N, b)
  | some (v, b0) => if N < v then some (N, b) else some (v, b0)
theorem bS_bT (tc : Nat → Nat → Bool) (g : Nat → Nat → Nat) (S : Nat) (last : Int) (o : Option (Nat × Nat)) (k : Nat) : bS tc g S last o k = bT (stp tc last k + g (S ||| 2 ^ k) k) k o := by cases o <;> rfl
/-- What comes behind the first two statements of a block, and behind a third one. -/
def tl3 : Code → Option Code
  | .block _ (.seq _ (.seq _ (.seq _ c))) => some c
  | _ => none
/-- The second half: is it better? -/
def tl1 : Code → Option Code
  | .seq _ c => some c
  | _ => none
theorem box8_put {w : World} {P8 P9 : Nat} {u v : Int} (h8 : w.heap[P8]? = some (.cells #[.int .i64 u] 3 (0, 0))) (h9 : w.heap[P9]? = some (.cells #[.int .i64 v] 3 (0, 0))) (hne : P8 ≠ P9) (u' v' : Int) :
    w.frozen? ⟨P8, 0, none⟩ = false ∧ (w.setCell ⟨P8, 0, none⟩ (.int .i64 u')).cell? ⟨P9, 0, none⟩ = some (.int .i64 v) ∧ (w.setCell ⟨P8, 0, none⟩ (.int .i64 u')).frozen? ⟨P9, 0, none⟩ = false ∧
    ((w.setCell ⟨P8, 0, none⟩ (.int .i64 u')).setCell ⟨P9, 0, none⟩ (.int .i64 v')).heap[P8]? = some (.cells #[.int .i64 u'] 3 (0, 0)) ∧ ((w.setCell ⟨P8, 0, none⟩ (.int .i64 u')).setCell ⟨P9, 0, none⟩ (.int .i64 v')).heap[P9]? = some (.cells #[.int .i64 v'] 3 (0, 0)) ∧
    Kp (fun i => i = P8 ∨ i = P9) w ((w.setCell ⟨P8, 0, none⟩ (.int .i64 u')).setCell ⟨P9, 0, none⟩ (.int .i64 v')) := by
  have k9 : (w.setCell ⟨P8, 0, none⟩ (.int .i64 u')).heap[P9]? = some (.cells #[.int .i64 v] 3 (0, 0)) := (heap_setCell_other w _ _ _ (by show P9 ≠ P8; omega)).trans h9
  exact ⟨frozen_of_row w _ 0 _ _ h8, cell_of_row _ _ 0 _ _ _ k9, frozen_of_row _ _ 0 _ _ k9, (heap_setCell_other _ _ _ _ (by show P8 ≠ P9; omega)).trans (one_setCell h8), one_setCell k9,
    ((Kp.refl (fun i => i = P8 ∨ i = P9) w).setCell (p := ⟨P8, 0, none⟩) (.inl (.inl rfl)) _).setCell (p := ⟨P9, 0, none⟩) (.inl (.inr rfl)) _⟩
set_option maxRecDepth 100000 in
set_option maxHeartbeats 8000000 in
/-- Is it better than the best one? -/
theorem nearV_ (cd : Code) (hcd : ((Tryd.f46.body.bind rfBody).bind tl3).bind tl1 = some cd) (Sb B5 P8 P9 b N l' : Nat) (o o' : Option (Nat × Nat)) (a : Act) (W : World) (Q : Exit → Act → World → Prop) (ha : FNC Sb B5 P8 P9 b N a) (hne : P8 ≠ P9)
    (h8 : W.heap[P8]? = some (.cells #[.int .i64 ((valO o : Nat) : Int)] 3 (0, 0))) (h9 : W.heap[P9]? = some (.cells #[.int .i64 (nxI o)] 3 (0, 0)))
    (ho : o' = bT N b o)
    (hI : ∀ a' W', Kp (fun i => i = P8 ∨ i = P9) W W' → W'.heap[P8]? = some (.cells #[.int .i64 ((valO o' : Nat) : Int)] 3 (0, 0)) → W'.heap[P9]? = some (.cells #[.int .i64 (nxI o')] 3 (0, 0)) → Q .normal a' W') :
    cd.wpIn (Fence.wide.inRound l') 1 Tryd.prog Q a W := by
  obtain rfl := Option.some.inj (hcd.symm.trans (rfl : _ = some _))
  clear hcd
  obtain ⟨f, rfl⟩ := ha.opn
  clear ha
  have c8 := cell_of_row W P8 0 _ _ _ h8
  have c9 := cell_of_row W P9 0 _ _ _ h9
  obtain ⟨z1, z2, z3, z4, z5, z6⟩ := box8_put h8 h9 hne (N : Int) (b : Int)
  cases o with
  | none =>
    subst ho
    have hfin := fun a' => hI a' _ z6 z4 z5
    have d1 : decide ((-1 : Int) < 0) = true := rfl
    have d2 : (-1 : Int) < 0 := by omega
    replace c8 : W.cell? ⟨P8, 0, none⟩ = some (.int .i64 0) := c8
    replace c9 : W.cell? ⟨P9, 0, none⟩ = some (.int .i64 (-1)) := c9
    have HFIN := Lib.hid hfin; have Z4 := Lib.hid z4; have Z5 := Lib.hid z5; have Z6 := Lib.hid z6; have HI := Lib.hid hI; have H8 := Lib.hid h8; have H9 := Lib.hid h9; clear hfin z4 z5 z6 hI h8 h9
    gi_wp2
    exact HFIN.out _
  | some x =>
    obtain ⟨v, b0⟩ := x
    replace c8 : W.cell? ⟨P8, 0, none⟩ = some (.int .i64 (v : Int)) := c8
    replace c9 : W.cell? ⟨P9, 0, none⟩ = some (.int .i64 (b0 : Int)) := c9
    have d2 : ¬ (b0 : Int) < 0 := by omega
    have d1 : decide ((b0 : Int) < 0) = false := by simp
    replace ho : o' = if N < v then some (N, b) else some (v, b0) := ho
    by_cases hlt : N < v
    · rw [if_pos hlt] at ho
      subst ho
      have hfin := fun a' => hI a' _ z6 z4 z5
      have d3 : decide ((N : Int) < (v : Int)) = true := by simp; omega
      have d4 : (N : Int) < (v : Int) := by omega
      have HFIN := Lib.hid hfin; have Z4 := Lib.hid z4; have Z5 := Lib.hid z5; have Z6 := Lib.hid z6; have HI := Lib.hid hI; have H8 := Lib.hid h8; have H9 := Lib.hid h9; clear hfin z4 z5 z6 hI h8 h9
      gi_wp2
      exact HFIN.out _
    · rw [if_neg hlt] at ho
      subst ho
      have hfin := fun a' => hI a' W (Kp.refl _ W) h8 h9
      have d3 : decide ((N : Int) < (v : Int)) = false := by simp; omega
      have d4 : ¬ (N : Int) < (v : Int) := by omega
      clear z1 z2 z3 z4 z5 z6
      have HFIN := Lib.hid hfin; have HI := Lib.hid hI; have H8 := Lib.hid h8; have H9 := Lib.hid h9; clear hfin hI h8 h9
      gi_wp2
      exact HFIN.out _
set_option maxRecDepth 100000 in
set_option maxHeartbeats 8000000 in
/-- Is it a step aside? -/
theorem nearT_ (cd : Code) (hcd : (Tryd.f46.body.bind rfBody).bind tl3 = some cd) (Sb B5 P8 P9 b N S c l' : Nat) (p z : Int) (A : Option Addr) (ws : List GW) (o : Option (Nat × Nat)) (a : Act) (W : World) (Q : Exit → Act → World → Prop) (ha : FNC Sb B5 P8 P9 b N a) (hne : P8 ≠ P9)
    (h4 : W.heap[Sb]? = some (.cells #[.int .i64 p, .slice A ws.length c] 24 (0, 0))) (h5 : W.heap[B5]? = some (.cells #[.int .u64 (S : Nat), .int .i64 z] 91 (0, 0)))
    (h8 : W.heap[P8]? = some (.cells #[.int .i64 ((valO o : Nat) : Int)] 3 (0, 0))) (h9 : W.heap[P9]? = some (.cells #[.int .i64 (nxI o)] 3 (0, 0)))
    (hrd : RdW W A ws) (hpl : ∀ x ∈ ws, 0 ≤ x.pl ∧ x.pl ≤ 22) (hb : b < ws.length) (hz : -1 ≤ z ∧ z < ws.length) (hN : N < 1000) (hL : ¬ LetsOut Q)
    (hI : ∀ a' W', Kp (fun i => i = P8 ∨ i = P9) W W' → W'.heap[P8]? = some (.cells #[.int .i64 ((valO (bT (stp (tcO ws) z b + N) b o) : Nat) : Int)] 3 (0, 0)) → W'.heap[P9]? = some (.cells #[.int .i64 (nxI (bT (stp (tcO ws) z b + N) b o))] 3 (0, 0)) → Q .normal a' W') :
    cd.wpIn (Fence.wide.inRound l') 1 Tryd.prog Q a W := by
  obtain rfl := Option.some.inj (hcd.symm.trans (rfl : _ = some _))
  clear hcd
  obtain ⟨f, rfl⟩ := ha.opn
  clear ha
  dsimp only
  have hmx : Tryd.prog.follows .mixedOrders = true := by kernel_rfl
  have e40 := cell_of_row W Sb 0 _ _ _ h4
  have e41 := cell_of_row W Sb 1 _ _ _ h4
  have e50 := cell_of_row W B5 0 _ _ _ h5
  have e51 := cell_of_row W B5 1 _ _ _ h5
  have l4 := lt_of_block h4
  have l5 := lt_of_block h5
  have l8 := lt_of_block h8
  have l9 := lt_of_block h9
  refine wpIn_seq_k fun K hK => ?_
  have HK := Lib.hid hK; clear hK
  refine wpIn_seq ?_
  by_cases hz0 : z < 0
  · have hst : stp (tcO ws) z b = 0 := by unfold stp; rw [if_pos hz0]
    rw [hst, Nat.zero_add] at hI
    have g1 : decide (0 ≤ z) = false := by simp; omega
    have g2 : ¬ 0 ≤ z := by omega
    have HI := Lib.hid hI; have HRD := Lib.hid hrd; have HPL := Lib.hid hpl; have H4 := Lib.hid h4; have H5 := Lib.hid h5; have H8 := Lib.hid h8; have H9 := Lib.hid h9; clear hI hrd hpl h4 h5 h8 h9
    have hbelc : ∀ (u : Bel W.heap.size W) b o, b < W.heap.size → u.wd.cell? ⟨b, o, none⟩ = W.cell? ⟨b, o, none⟩ := fun u b o h => u.h.cell (p := ⟨b, o, none⟩) h
    have hbeln : Nonempty (Bel W.heap.size W) := ⟨⟨W, Below.refl _ _⟩⟩
    refine wpIn_region_bel W.heap.size (by kernel_rfl) (by kernel_rfl) (by kernel_rfl) (by rintro ⟨a, w, h⟩; first | exact h | exact hL ⟨a, w, h⟩) ?_
    repeat (go_big_quiet_step ((fail)))
    refine wpQuiet_nil ?_
    intro wB hB0; obtain ⟨uB, hu⟩ := hB0; have hbB0 := uB.h; rw [← hu] at hbB0; clear hu uB hbelc hbeln
    obtain ⟨hbB, hcB, hsB⟩ := bcell2 hbB0; clear hbB0
    show Code.wpIn _ _ _ (Code.cond _ _ _) _ _ _
    refine wpIn_cond_false rfl ?_
    have HBB := Lib.hid hbB; have HCB := Lib.hid hcB; clear hbB hcB
    gi_wp2
    have hb9 := HBB.out
    exact HK.out _ _ (nearV_ _ rfl Sb B5 P8 P9 b (N) l' o _ _ wB Q ⟨rfl, rfl, rfl, rfl, rfl, rfl, rfl, rfl⟩ hne ((hb9.block _ l8).trans H8.out) ((hb9.block _ l9).trans H9.out) rfl fun a' W' hk => HI.out a' W' ((Kp.of_below _ hb9).trans hk))
  · obtain ⟨y, rfl⟩ := Int.eq_ofNat_of_zero_le (show 0 ≤ z by omega)
    have hy : y < ws.length := by omega
    have g1 : decide (0 ≤ (y : Int)) = true := by simp
    have g2 : 0 ≤ (y : Int) := by omega
    have g3 : (y : Int) < (ws.length : Int) := by omega
    have g4 : 0 ≤ (b : Int) := by omega
    have g5 : (b : Int) < (ws.length : Int) := by omega
    obtain ⟨bb, off, rfl, hbL, k1, k2, k3⟩ := hrd.at_ hy
    obtain ⟨b', off', hAe, _, j1, j2, j3⟩ := hrd.at_ hb
    injection hAe with hAe; injection hAe with hA1 hA2; subst hA1; subst hA2
    have p1 := hpl _ (List.getElem_mem hy)
    have p2 := hpl _ (List.getElem_mem hb)
    have htc : tcO ws y b = touchB ws[y].pl ws[b].pl := by unfold tcO plO; simp [List.getD_eq_getElem?_getD, hy, hb]
    have hst : stp (tcO ws) (y : Int) b = if tcO ws y b = true then 0 else 1 := by unfold stp; rw [if_neg (by omega), Int.toNat_natCast]
    generalize ws[b].kind = yk at *
    generalize ws[b].pl = yp at *
    generalize ws[b].word = yw at *
    generalize ws[y].kind = zk at *
    generalize ws[y].pl = zp at *
    generalize ws[y].word = zw at *
    have hcall := fun W => owTouch_is zk zp yk yp zw yw W (by omega) (by omega) (by omega) (by omega) htc.symm
    cases hb2 : tcO ws y b with
    | true =>
      rw [hb2] at hcall hst
      rw [hst, if_pos rfl, Nat.zero_add] at hI
      clear hrd hst htc
      have HI := Lib.hid hI; have HPL := Lib.hid hpl; have H4 := Lib.hid h4; have H5 := Lib.hid h5; have H8 := Lib.hid h8; have H9 := Lib.hid h9; have HCALL := Lib.hid hcall; have HB2 := Lib.hid hb2; clear hI hpl h4 h5 h8 h9 hcall hb2
      have hbelc : ∀ (u : Bel W.heap.size W) b o, b < W.heap.size → u.wd.cell? ⟨b, o, none⟩ = W.cell? ⟨b, o, none⟩ := fun u b o h => u.h.cell (p := ⟨b, o, none⟩) h
      have hbeln : Nonempty (Bel W.heap.size W) := ⟨⟨W, Below.refl _ _⟩⟩
      refine wpIn_region_bel W.heap.size (by kernel_rfl) (by kernel_rfl) (by kernel_rfl) (by rintro ⟨a, w, h⟩; first | exact h | exact hL ⟨a, w, h⟩) ?_
      repeat (go_big_quiet_step ((go_at_call 47; exact quiet_bel (Nat.le_refl _) (HCALL.out _))))
      refine wpQuiet_nil ?_
      intro wB hB0; obtain ⟨uB, hu⟩ := hB0; have hbB0 := uB.h; rw [← hu] at hbB0; clear hu uB hbelc hbeln
      obtain ⟨hbB, hcB, hsB⟩ := bcell2 hbB0; clear hbB0
      show Code.wpIn _ _ _ (Code.cond _ _ _) _ _ _
      refine wpIn_cond_false rfl ?_
      have HBB := Lib.hid hbB; have HCB := Lib.hid hcB; clear hbB hcB
      gi_wp2
      have hb9 := HBB.out
      exact HK.out _ _ (nearV_ _ rfl Sb B5 P8 P9 b (N) l' o _ _ wB Q ⟨rfl, rfl, rfl, rfl, rfl, rfl, rfl, rfl⟩ hne ((hb9.block _ l8).trans H8.out) ((hb9.block _ l9).trans H9.out) rfl fun a' W' hk => HI.out a' W' ((Kp.of_below _ hb9).trans hk))
    | false =>
      rw [hb2] at hcall hst
      rw [hst, if_neg (by simp)] at hI
      clear hrd hst htc
      have HI := Lib.hid hI; have HPL := Lib.hid hpl; have H4 := Lib.hid h4; have H5 := Lib.hid h5; have H8 := Lib.hid h8; have H9 := Lib.hid h9; have HCALL := Lib.hid hcall; have HB2 := Lib.hid hb2; clear hI hpl h4 h5 h8 h9 hcall hb2
      have hbelc : ∀ (u : Bel W.heap.size W) b o, b < W.heap.size → u.wd.cell? ⟨b, o, none⟩ = W.cell? ⟨b, o, none⟩ := fun u b o h => u.h.cell (p := ⟨b, o, none⟩) h
      have hbeln : Nonempty (Bel W.heap.size W) := ⟨⟨W, Below.refl _ _⟩⟩
      refine wpIn_region_bel W.heap.size (by kernel_rfl) (by kernel_rfl) (by kernel_rfl) (by rintro ⟨a, w, h⟩; first | exact h | exact hL ⟨a, w, h⟩) ?_
      repeat (go_big_quiet_step ((go_at_call 47; exact quiet_bel (Nat.le_refl _) (HCALL.out _))))
      refine wpQuiet_nil ?_
      intro wB hB0; obtain ⟨uB, hu⟩ := hB0; have hbB0 := uB.h; rw [← hu] at hbB0; clear hu uB hbelc hbeln
      obtain ⟨hbB, hcB, hsB⟩ := bcell2 hbB0; clear hbB0
      have q1 : IntKind.i64.wrap ((N : Int) + 1) = (N : Int) + 1 := IntWalk.i64_in _ (by omega)
      show Code.wpIn _ _ _ (Code.cond _ _ _) _ _ _
      refine wpIn_cond_true rfl ?_
      have HBB := Lib.hid hbB; have HCB := Lib.hid hcB; clear hbB hcB
      gi_wp2
      have hb9 := HBB.out
      exact HK.out _ _ (nearV_ _ rfl Sb B5 P8 P9 b (1 + N) l' o _ _ wB Q ⟨rfl, rfl, rfl, rfl, rfl, rfl, rfl, (by show Value.int .i64 ((N : Int) + 1) = _; congr 1; omega)⟩ hne ((hb9.block _ l8).trans H8.out) ((hb9.block _ l9).trans H9.out) rfl fun a' W' hk => HI.out a' W' ((Kp.of_below _ hb9).trans hk))
end Go.Proofs.YtlpfecjkkgccgaaDoor
/- A round of Near's closure. -/
namespace Go.Proofs.YtlpfecjkkgccgaaDoor
open Go.RowKit
attribute [local go_sem] Oper.semAt_some

def FNB (Mb Fb Sb B5 P8 P9 b : Nat) (a : Act) : Prop := a.tmps.size = 76 ∧ a.defers = [] ∧ a.tmps.getD 2 undef = .pointer (some ⟨Mb, 0, none⟩) ∧ a.tmps.getD 3 undef = .pointer (some ⟨Fb, 0, none⟩) ∧ a.tmps.getD 4 undef = .pointer (some ⟨Sb, 0, none⟩) ∧ a.tmps.getD 5 undef = .pointer (some ⟨B5, 0, none⟩) ∧ a.tmps.getD 8 undef = .pointer (some ⟨P8, 0, none⟩) ∧ a.tmps.getD 9 undef = .pointer (some ⟨P9, 0, none⟩) ∧ a.tmps.getD 11 undef = .int .i64 (b : Int)
theorem FNB.opn {Mb Fb Sb B5 P8 P9 b : Nat} {a : Act} (h : FNB Mb Fb Sb B5 P8 P9 b a) : ∃ f : Nat → Value, a = { tmps := #[f 0, f 1, .pointer (some ⟨Mb, 0, none⟩), .pointer (some ⟨Fb, 0, none⟩), .pointer (some ⟨Sb, 0, none⟩), .pointer (some ⟨B5, 0, none⟩), f 6, f 7, .pointer (some ⟨P8, 0, none⟩), .pointer (some ⟨P9, 0, none⟩), f 10, .int .i64 (b : Int), f 12, f 13, f 14, f 15, f 16, f 17, f 18, f 19, f 20, f 21, f 22, f 23, f 24, f 25, f 26, f 27, f 28, f 29, f 30, f 31, f 32, f 33, f 34, f 35, f 36, f 37, f 38, f 39, f 40, f 41, f 42, f 43, f 44, f 45, f 46, f 47, f 48, f 49, f 50, f 51, f 52, f 53, f 54, f 55, f 56, f 57, f 58, f 59, f 60, f 61, f 62, f 63, f 64, f 65, f 66, f 67, f 68, f 69, f 70, f 71, f 72, f 73, f 74, f 75], defers := [] } := by
  obtain ⟨hs, hd, g2, g3, g4, g5, g8, g9, g11⟩ := h
  obtain ⟨t, d⟩ := a
  dsimp only at *
  have e := arr_range t 76 hs
  generalize hf : (fun i => t.getD i undef) = f at e
  have k : ∀ i, t.getD i undef = f i := fun i => congrFun hf i
  rw [k] at g2 g3 g4 g5 g8 g9 g11
  refine ⟨f, ?_⟩
  rw [hd, e]
  congr 1
  show #[f 0, f 1, f 2, f 3, f 4, f 5, f 6, f 7, f 8, f 9, f 10, f 11, f 12, f 13, f 14, f 15, f 16, f 17, f 18, f 19, f 20, f 21, f 22, f 23, f 24, f 25, f 26, f 27, f 28, f 29, f 30, f 31, f 32, f 33, f 34, f 35, f 36, f 37, f 38, f 39, f 40, f 41, f 42, f 43, f 44, f 45, f 46, f 47, f 48, f 49, f 50, f 51, f 52, f 53, f 54, f 55, f 56, f 57, f 58, f 59, f 60, f 61, f 62, f 63, f 64, f 65, f 66, f 67, f 68, f 69, f 70, f 71, f 72, f 73, f 74, f 75] = _
  rw [g2, g3, g4, g5, g8, g9, g11]
def FNA (Mb Fb Sb B5 P8 P9 b : Nat) (a : Act) : Prop := a.tmps.size = 76 ∧ a.defers = [] ∧ a.tmps.getD 2 undef = .pointer (some ⟨Mb, 0, none⟩) ∧ a.tmps.getD 3 undef = .pointer (some ⟨Fb, 0, none⟩) ∧ a.tmps.getD 4 undef = .pointer (some ⟨Sb, 0, none⟩) ∧ a.tmps.getD 5 undef = .pointer (some ⟨B5, 0, none⟩) ∧ a.tmps.getD 8 undef = .pointer (some ⟨P8, 0, none⟩) ∧ a.tmps.getD 9 undef = .pointer (some ⟨P9, 0, none⟩) ∧ a.tmps.getD 20 undef = .int .i64 (b : Int)
theorem FNA.opn {Mb Fb Sb B5 P8 P9 b : Nat} {a : Act} (h : FNA Mb Fb Sb B5 P8 P9 b a) : ∃ f : Nat → Value, a = { tmps := #[f 0, f 1, .pointer (some ⟨Mb, 0, none⟩), .pointer (some ⟨Fb, 0, none⟩), .pointer (some ⟨Sb, 0, none⟩), .pointer (some ⟨B5, 0, none⟩), f 6, f 7, .pointer (some ⟨P8, 0, none⟩), .pointer (some ⟨P9, 0, none⟩), f 10, f 11, f 12, f 13, f 14, f 15, f 16, f 17, f 18, f 19, .int .i64 (b : Int), f 21, f 22, f 23, f 24, f 25, f 26, f 27, f 28, f 29, f 30, f 31, f 32, f 33, f 34, f 35, f 36, f 37, f 38, f 39, f 40, f 41, f 42, f 43, f 44, f 45, f 46, f 47, f 48, f 49, f 50, f 51, f 52, f 53, f 54, f 55, f 56, f 57, f 58, f 59, f 60, f 61, f 62, f 63, f 64, f 65, f 66, f 67, f 68, f 69, f 70, f 71, f 72, f 73, f 74, f 75], defers := [] } := by
  obtain ⟨hs, hd, g2, g3, g4, g5, g8, g9, g20⟩ := h
  obtain ⟨t, d⟩ := a
  dsimp only at *
  have e := arr_range t 76 hs
  generalize hf : (fun i => t.getD i undef) = f at e
  have k : ∀ i, t.getD i undef = f i := fun i => congrFun hf i
  rw [k] at g2 g3 g4 g5 g8 g9 g20
  refine ⟨f, ?_⟩
  rw [hd, e]
  congr 1
  show #[f 0, f 1, f 2, f 3, f 4, f 5, f 6, f 7, f 8, f 9, f 10, f 11, f 12, f 13, f 14, f 15, f 16, f 17, f 18, f 19, f 20, f 21, f 22, f 23, f 24, f 25, f 26, f 27, f 28, f 29, f 30, f 31, f 32, f 33, f 34, f 35, f 36, f 37, f 38, f 39, f 40, f 41, f 42, f 43, f 44, f 45, f 46, f 47, f 48, f 49, f 50, f 51, f 52, f 53, f 54, f 55, f 56, f 57, f 58, f 59, f 60, f 61, f 62, f 63, f 64, f 65, f 66, f 67, f 68, f 69, f 70, f 71, f 72, f 73, f 74, f 75] = _
  rw [g2, g3, g4, g5, g8, g9, g20]

set_option maxRecDepth 100000 in
set_option maxHeartbeats 8000000 in
theorem nearB_ (cd : Code) (hcd : Tryd.f46.body.bind rfBody = some cd) (w0 : World) (p z : Int) (A : Option Addr) (c : Nat) (ws : List GW) (L : Nat → Nat) (n Lb Mb Fb Sb mb R B5 P8 P9 S b l' : Nat) (o : Option (Nat × Nat)) (f : Nat → Value) (W : World) (I : World → Prop) (Ix : Code → World → Prop)
    (hC : NCx w0 p A c ws L n Lb Mb Fb Sb mb R W) (h5 : W.heap[B5]? = some (.cells #[.int .u64 (S : Nat), .int .i64 z] 91 (0, 0)))
    (h8 : W.heap[P8]? = some (.cells #[.int .i64 ((valO o : Nat) : Int)] 3 (0, 0))) (h9 : W.heap[P9]? = some (.cells #[.int .i64 (nxI o)] 3 (0, 0)))
    (hne : P8 ≠ P9) (hx8 : mb ≠ P8 ∧ mb ≠ P9 ∧ B5 ≠ mb) (hpl : ∀ x ∈ ws, 0 ≤ x.pl ∧ x.pl ≤ 22) (hn : n ≤ 12) (hnl : n = ws.length) (hS : S < 2 ^ n) (hb : b < n) (hz : -1 ≤ z ∧ z < n)
    (IH : ∀ W1, NCx w0 p A c ws L n Lb Mb Fb Sb mb R W1 → Calls Tryd.prog 46 #[.agg #[.int .u64 ((S ||| 2 ^ b : Nat) : Int), .int .i64 (b : Int)], .pointer (some ⟨Lb, 0, none⟩), .pointer (some ⟨Mb, 0, none⟩), .pointer (some ⟨Fb, 0, none⟩), .pointer (some ⟨Sb, 0, none⟩)] W1 (RsPost n (tcO ws) L mb (S ||| 2 ^ b) b W1))
    (hI : ∀ W', Kp (fun i => i = mb ∨ i = P8 ∨ i = P9) W W' → MapSt W' mb (fun S z => rsU n (tcO ws) L S z) → W'.heap[P8]? = some (.cells #[.int .i64 ((valO (bS (tcO ws) (fun T b => rsU n (tcO ws) L T b) S z o b) : Nat) : Int)] 3 (0, 0)) → W'.heap[P9]? = some (.cells #[.int .i64 (nxI (bS (tcO ws) (fun T b => rsU n (tcO ws) L T b) S z o b))] 3 (0, 0)) → I W') :
    cd.wpIn (Fence.wide.inRound l') 1 Tryd.prog (iterPostS (fun i => i = mb ∨ i = P8 ∨ i = P9) I Ix (fun _ _ => False) W) { tmps := #[f 0, f 1, .pointer (some ⟨Mb, 0, none⟩), .pointer (some ⟨Fb, 0, none⟩), .pointer (some ⟨Sb, 0, none⟩), .pointer (some ⟨B5, 0, none⟩), f 6, f 7, .pointer (some ⟨P8, 0, none⟩), .pointer (some ⟨P9, 0, none⟩), f 10, .int .i64 (b : Int), f 12, f 13, f 14, f 15, f 16, f 17, f 18, f 19, f 20, f 21, f 22, f 23, f 24, f 25, f 26, f 27, f 28, f 29, f 30, f 31, f 32, f 33, f 34, f 35, f 36, f 37, f 38, f 39, f 40, f 41, f 42, f 43, f 44, f 45, f 46, f 47, f 48, f 49, f 50, f 51, f 52, f 53, f 54, f 55, f 56, f 57, f 58, f 59, f 60, f 61, f 62, f 63, f 64, f 65, f 66, f 67, f 68, f 69, f 70, f 71, f 72, f 73, f 74, f 75], defers := [] } W := by
  obtain rfl := Option.some.inj (hcd.symm.trans (rfl : _ = some _))
  clear hcd
  have hmx : Tryd.prog.follows .mixedOrders = true := by kernel_rfl
  refine wpIn_block (wpIn_seq ?_)
  have e1 := cell_of_row W B5 0 _ _ _ h5
  have hl5 := lt_of_block h5
  refine wpIn_region_held (S := fun W' => W'.cell? ⟨B5, 0, none⟩ = some (.int .u64 (S : Nat))) (by kernel_rfl) (by kernel_rfl) ?_ e1 (fun hHeld => ?_)
  · rintro ⟨a, w, h⟩
    exact h
  refine takeH (i := 0) (v := ?nav0) rfl rfl (by kernel_rfl) (by kernel_rfl) (by kernel_rfl) (fun _ _ _ _ => ⟨fun h _ => h, fun h => h #[]⟩) (by rfl) hHeld ?nay0 ?nar0
  case nay0 =>
    intro W' s1
    go_simp
    try with_reducible rfl
  simp only [List.setIfInBounds_toArray, List.set_cons_zero, List.set_cons_succ]
  refine takeH (i := 1) (v := ?nav1) rfl rfl (by kernel_rfl) (by kernel_rfl) (by kernel_rfl) (fun _ _ _ _ => ⟨fun h _ => h, fun h => h #[]⟩) (by rfl) hHeld ?nay1 ?nar1
  case nay1 =>
    intro W' s1
    go_simp
    try with_reducible rfl
  simp only [List.setIfInBounds_toArray, List.set_cons_zero, List.set_cons_succ]
  refine takeH (i := 2) (v := ?nav2) rfl rfl (by kernel_rfl) (by kernel_rfl) (by kernel_rfl) (fun _ _ _ _ => ⟨fun h _ => h, fun h => h #[]⟩) (by rfl) hHeld ?nay2 ?nar2
  case nay2 =>
    intro W' s1
    go_simp
    try with_reducible rfl
  simp only [List.setIfInBounds_toArray, List.set_cons_zero, List.set_cons_succ]
  refine takeH (i := 3) (v := ?nav3) rfl rfl (by kernel_rfl) (by kernel_rfl) (by kernel_rfl) (fun _ _ _ _ => ⟨fun h _ => h, fun h => h #[]⟩) (by rfl) hHeld ?nay3 ?nar3
  case nay3 =>
    intro W' s1
    go_simp
    try with_reducible rfl
  simp only [List.setIfInBounds_toArray, List.set_cons_zero, List.set_cons_succ]
  refine takeH (i := 4) (v := ?nav4) rfl rfl (by kernel_rfl) (by kernel_rfl) (by kernel_rfl) (fun _ _ _ _ => ⟨fun h _ => h, fun h => h #[]⟩) (by rfl) hHeld ?nay4 ?nar4
  case nay4 =>
    intro W' s1
    go_simp
    try with_reducible rfl
  simp only [List.setIfInBounds_toArray, List.set_cons_zero, List.set_cons_succ]
  refine takeH (i := 5) (v := ?nav5) rfl rfl (by kernel_rfl) (by kernel_rfl) (by kernel_rfl) (fun _ _ _ _ => ⟨fun h _ => h, fun h => h #[]⟩) (by rfl) hHeld ?nay5 ?nar5
  case nay5 =>
    intro W' s1
    go_simp
    try with_reducible rfl
  simp only [List.setIfInBounds_toArray, List.set_cons_zero, List.set_cons_succ]
  refine takeH (i := 6) (v := ?nav6) rfl rfl (by kernel_rfl) (by kernel_rfl) (by kernel_rfl) (fun _ _ _ _ => ⟨fun h _ => h, fun h => h #[]⟩) (by rfl) hHeld ?nay6 ?nar6
  case nay6 =>
    intro W' s1
    go_simp
    try with_reducible rfl
  simp only [List.setIfInBounds_toArray, List.set_cons_zero, List.set_cons_succ]
  have hT1 : S ||| 2 ^ b < 65536 := by
    have h1 : 2 ^ b < 2 ^ n := Nat.pow_lt_pow_right (by decide) hb
    have h2 := Nat.or_lt_two_pow hS h1
    have h3 : 2 ^ n ≤ 2 ^ 12 := Nat.pow_le_pow_right (by decide) hn
    omega
  have hor : bits BinOp.or IntKind.u64 (S : Int) (IntKind.u64.wrap ((2 : Int) ^ b)) = ((S ||| 2 ^ b : Nat) : Int) := by
    have h3 : 2 ^ n ≤ 2 ^ 12 := Nat.pow_le_pow_right (by decide) hn
    have h1 : 2 ^ b < 2 ^ n := Nat.pow_lt_pow_right (by decide) hb
    have h4 : IntKind.u64.wrap ((2 : Int) ^ b) = (2 : Int) ^ b := by
      have e : ((2 : Int) ^ b) = ((2 ^ b : Nat) : Int) := by push_cast; rfl
      have h5 : 2 ^ b < 65536 := by omega
      rw [e]
      clear e
      generalize 2 ^ b = y at *
      exact wraps64 _ (by omega) (by omega)
    rw [h4]
    exact bit_set .u64 64 (by decide) wraps64 S b (by omega) (by omega)
  rw [hor]
  have hrs := rsU_le (n := n) (tc := tcO ws) (L := L) _ (S ||| 2 ^ b) (b : Int) rfl
  have hms := miss_le n (S ||| 2 ^ b)
  obtain ⟨T, hT⟩ : ∃ T, S ||| 2 ^ b = T := ⟨_, rfl⟩
  have hstep := bS_bT (tcO ws) (fun T b => rsU n (tcO ws) L T b) S z o b
  rw [hstep] at hI
  rw [hT] at IH hI hrs hms hT1 ⊢
  clear hor hstep
  have HI := Lib.hid hI; have HT := Lib.hid hT; clear hI hT
  refine wpAnyH_ready (rs := [7]) (by kernel_rfl) (by simp) ?_
  refine AllReadyH.cons rfl (fun K hK => ?_) AllReadyH.nil
  go_simp
  refine hK.out _ _ ?_ (fun hHeld => ?_)
  · exact ((((Below.refl W.heap.size W).alloc (Nat.le_refl _) _).drew).cell (p := ⟨B5, 0, none⟩) hl5).trans e1
  clear hK K
  refine wpAnyH_ready (rs := [8]) (by kernel_rfl) (by simp) ?_
  refine AllReadyH.cons rfl (fun K hK => ?_) AllReadyH.nil
  go_simp
  have hb5 : Below W.heap.size W (W.alloc (.cells #[.int .u64 (T : Int), .int .i64 (b : Int)] 91)).drew := (((Below.refl W.heap.size W).alloc (Nat.le_refl _) _).drew)
  refine hK.out _ _ ?_ (fun hHeld => ?_)
  · exact (hb5.cell (p := ⟨B5, 0, none⟩) hl5).trans e1
  clear hK K hHeld
  refine wpAnyH_done (by kernel_rfl) ?_ _
  have h12 : (W.alloc (.cells #[.int .u64 (T : Int), .int .i64 (b : Int)] 91)).drew.heap[W.heap.size]? = some (.cells #[.int .u64 (T : Int), .int .i64 (b : Int)] 91 (0, 0)) := heap_alloc_new W _
  generalize (W.alloc (.cells #[.int .u64 (T : Int), .int .i64 (b : Int)] 91)).drew = W5 at *
  show Code.wpIn _ _ _ (Code.seq _ _) _ _ _
  refine wpIn_seq_k fun K1 hK1 => ?_
  have hC5 := hC.later hb5
  have e120 := cell_of_row _ _ 0 _ _ _ h12
  have e121 := cell_of_row _ _ 1 _ _ _ h12
  have e2 := cell_of_row _ _ 0 _ _ _ hC5.mbox
  have l8 := lt_of_block h8
  have l9 := lt_of_block h9
  have hlk := hC5.map.lookup_Tryd T (b : Int)
  unfold stV at hlk
  -- the end of the round
  have hend : ∀ (a : Act) (W8 : World), FNC Sb B5 P8 P9 b (rsU n (tcO ws) L T b) a → Kp (fun i => i = mb) W W8 → MapSt W8 mb (fun S z => rsU n (tcO ws) L S z) → ∀ cd, ((Tryd.f46.body.bind rfBody).bind tl3 = some cd) →
      cd.wpIn (Fence.wide.inRound l') 1 Tryd.prog (Exit.inBlock 1 (iterPostS (fun i => i = mb ∨ i = P8 ∨ i = P9) I Ix (fun _ _ => False) W)) a W8 := fun a W8 ha hk hm cd hcd => by
    have hC8 := hC.kp hk hm
    refine nearT_ cd hcd Sb B5 P8 P9 b _ S c l' p z A ws o a W8 _ ha hne hC8.sbox ((hk.same _ hl5 hx8.2.2).trans h5) ((hk.same _ l8 (Ne.symm hx8.1)).trans h8) ((hk.same _ l9 (Ne.symm hx8.2.1)).trans h9) (hC8.sh.rd.later hC8.bel (Nat.le_refl _)) hpl (by omega) (by omega) (by omega) (by rintro ⟨a, w, h⟩; exact h) fun a' W' hk2 g8 g9 => ?_
    have hk3 : Kp (fun i => i = mb ∨ i = P8 ∨ i = P9) W W' := (hk.mono fun i h => .inl h).trans (hk2.mono fun i h => .inr h)
    exact ⟨hk3, HI.out W' hk3 (hm.at_ (hk2.same _ hm.lt (by rintro (h | h); exact hx8.1 h; exact hx8.2.1 h))) g8 g9⟩
  have e3 := cell_of_row _ _ 0 _ _ _ hC5.fbox
  have HEND := Lib.hid hend; have HK1 := Lib.hid hK1; have HC5 := Lib.hid hC5; have H12 := Lib.hid h12; have HB5 := Lib.hid hb5; have HNL := Lib.hid hnl; have HC := Lib.hid hC; have H5 := Lib.hid h5; have H8 := Lib.hid h8; have H9 := Lib.hid h9; have HPL := Lib.hid hpl; have HRS := Lib.hid hrs; have HMS := Lib.hid hms; clear hend hK1 hC5 h12 hb5 hnl hC h5 h8 h9 hpl hrs hms
  rcases hlk with hlk | hlk
  · gi_wp2
    refine HK1.out _ _ (wpIn_seq_k fun K2 hK2 => ?_)
    have HK2 := Lib.hid hK2; clear hK2
    gi_wp2
    exact HK2.out _ _ (HEND.out _ _ ⟨rfl, rfl, rfl, rfl, rfl, rfl, rfl, rfl⟩ (Kp.of_below _ HB5.out) HC5.out.map _ rfl)
  · gi_wp2
    refine HK1.out _ _ (wpIn_seq_k fun K2 hK2 => ?_)
    have HK2 := Lib.hid hK2; clear hK2
    gi_wp2
    refine ⟨trivial, CallsIn.inRound l' (callsIn_wide.2 ((IH W5 HC5.out).mono ?_))⟩
    rintro e W8 ⟨rfl, hk8, hm8⟩
    have hk9 := (Kp.of_below (fun i => i = mb) HB5.out).trans hk8
    have HK8 := Lib.hid hk8; have HM8 := Lib.hid hm8; have HK9 := Lib.hid hk9; clear hk8 hm8 hk9
    gi_wp2
    exact HK2.out _ _ (HEND.out _ _ ⟨rfl, rfl, rfl, rfl, rfl, rfl, rfl, rfl⟩ HK9.out HM8.out _ rfl)
end Go.Proofs.YtlpfecjkkgccgaaDoor
/- Near's closure. -/
namespace Go.Proofs.YtlpfecjkkgccgaaDoor
open Go Go.RowKit
attribute [local go_sem] Oper.semAt_some

set_option maxRecDepth 100000 in
set_option maxHeartbeats 8000000 in
theorem oNear1_ (w0 : World) (p : Int) (A : Option Addr) (c : Nat) (ws : List GW) (L : Nat → Nat) (n Lb Mb Fb Sb mb R : Nat) (hpl : ∀ x ∈ ws, 0 ≤ x.pl ∧ x.pl ≤ 22) (hn : n ≤ 12) (hnl : n = ws.length) (hLn : ∀ b, b < n → ∀ a, (L b).testBit a = true → a < n) :
    ∀ (m S : Nat) (z : Int) (w : World), miss n S = m → S < 2 ^ n → (-1 ≤ z ∧ z < n) → NCx w0 p A c ws L n Lb Mb Fb Sb mb R w →
      Calls Tryd.prog 46 #[.agg #[.int .u64 (S : Int), .int .i64 z], .pointer (some ⟨Lb, 0, none⟩), .pointer (some ⟨Mb, 0, none⟩), .pointer (some ⟨Fb, 0, none⟩), .pointer (some ⟨Sb, 0, none⟩)] w (RsPost n (tcO ws) L mb S z w) := by
  intro m
  induction m using Nat.strongRecOn with
  | _ m ih =>
    intro S z w hm hS hz hC
    have hS64 : S < 65536 := by
      have h3 : 2 ^ n ≤ 2 ^ 12 := Nat.pow_le_pow_right (by decide) hn
      omega
    have IH := Lib.hid ih; have HM := Lib.hid hm; have HS := Lib.hid hS; have HZ := Lib.hid hz; have HPL := Lib.hid hpl; have HNL := Lib.hid hnl; have HLN := Lib.hid hLn; clear ih hm hS hz hpl hnl hLn
    have hlb := cell_of_row w Lb 0 _ _ _ hC.lbox
    have llb := lt_of_block hC.lbox
    have hset := setAt_one ((((w.alloc (.cells #[.int .u64 (S : Int), .int .i64 z] 91)).alloc (.cells #[.int .i64 0] 3)).alloc (.cells #[.int .i64 (-1)] 3))) (S := S) (by omega) 68
    have HC := Lib.hid hC; have HSET := Lib.hid hset; clear hC hset
    refine (callsIn_wide (n := 3)).1 ?_
    refine callsIn_of_wp_marks Tryd.func46 rfl trivial ?_ rfl
    simp only [Tryd.ntmps46, List.size_toArray, List.length_cons, List.length_nil, Nat.reduceAdd, Nat.reduceSub, Array.replicate_succ, Array.replicate_zero, List.push_toArray, List.append_toArray, List.nil_append, List.cons_append]
    refine wpIn_wide.2 ?_
    refine wp_seq_k fun K0 hK0 => ?_
    have HK0 := Lib.hid hK0; clear hK0
    go_wp2_with fail
    refine HK0.out _ _ (wp_seq_k fun K1 hK1 => ?_)
    have HK1 := Lib.hid hK1; clear hK1
    go_wp2_with fail
    refine HK1.out _ _ (wp_seq_k fun K2 hK2 => ?_)
    have HK2 := Lib.hid hK2; clear hK2
    go_wp2_with fail
    refine HK2.out _ _ (wp_seq_k fun K3 hK3 => ?_)
    obtain ⟨w4, hw4⟩ : ∃ w4, w4 = ((((w.alloc (.cells #[.int .u64 (S : Int), .int .i64 z] 91)).alloc (.cells #[.int .i64 0] 3)).alloc (.cells #[.int .i64 (-1)] 3))).alloc (.cells #[.int .u64 (S : Nat), .int .u64 0, .int .u64 0, .int .u64 0, .int .u64 0, .int .u64 0, .int .u64 0] 68) := ⟨_, rfl⟩
    rw [← hw4]
    have hb4 : Below w.heap.size w w4 := by rw [hw4]; exact ((((Below.refl w.heap.size w).alloc (Nat.le_refl _) _).alloc (by simp) _).alloc (by first | (simp; done) | (simp; omega)) _).alloc (by first | (simp; done) | (simp; omega)) _
    have h50 : w4.heap[w.heap.size]? = some (.cells #[.int .u64 (S : Int), .int .i64 z] 91 (0, 0)) := by
      rw [hw4, Below.heap_alloc _ _ _ (by first | (simp; done) | (simp; omega)), Below.heap_alloc _ _ _ (by first | (simp; done) | (simp; omega)), Below.heap_alloc _ _ _ (by simp)]
      exact heap_alloc_new _ _
    have h80 : w4.heap[w.heap.size + 1]? = some (.cells #[.int .i64 0] 3 (0, 0)) := by
      rw [hw4, Below.heap_alloc _ _ _ (by first | (simp; done) | (simp; omega)), Below.heap_alloc _ _ _ (by simp)]
      exact heap_alloc2_new _ _ _
    have h90 : w4.heap[w.heap.size + 1 + 1]? = some (.cells #[.int .i64 (-1)] 3 (0, 0)) := by
      rw [hw4, Below.heap_alloc _ _ _ (by simp)]
      have := heap_alloc_new ((w.alloc (.cells #[.int .u64 (S : Int), .int .i64 z] 91)).alloc (.cells #[.int .i64 0] 3)) (.cells #[.int .i64 (-1)] 3)
      rwa [World.size_alloc, World.size_alloc] at this
    have hA4 : SetAt w4 (w.heap.size + 1 + 1 + 1) 0 S := by
      have := HSET.out
      rw [World.size_alloc, World.size_alloc, World.size_alloc] at this
      rw [hw4]; exact this
    have hs4 : w.heap.size + 4 ≤ w4.heap.size := by have := hA4.lt; omega
    have hC4 := HC.out.later hb4
    have e1 := cell_of_row _ _ 0 _ _ _ hC4.lbox
    clear hw4 hlb HSET
    have HB4 := Lib.hid hb4; have H50 := Lib.hid h50; have H80 := Lib.hid h80; have H90 := Lib.hid h90; have HA4 := Lib.hid hA4; have HC4 := Lib.hid hC4; have HK3 := Lib.hid hK3; clear hb4 h50 h80 h90 hA4 hC4 hK3
    go_wp2_with (go_at_call 37; refine (ways_ _ _ _ _ _).mono ?_; rintro e w6 ⟨rfl, rfl⟩)
    clear e1
    obtain ⟨w6, hw6⟩ : ∃ w6, w6 = (w4.alloc (.cells #[.slice (some ⟨R, 0, none⟩) n n] 52)).alloc (.cells #[.pointer (some ⟨w.heap.size + 1 + 1 + 1, 0, none⟩)] 74) := ⟨_, rfl⟩
    rw [← hw6]
    have hb46 : Below w4.heap.size w4 w6 := by rw [hw6]; exact ((Below.refl _ _).alloc (Nat.le_refl _) _).alloc (by simp) _
    have hs6 : w4.heap.size + 2 ≤ w6.heap.size := by rw [hw6]; simp
    have h16 : w6.heap[w4.heap.size]? = some (.cells #[.slice (some ⟨R, 0, none⟩) n n] 52 (0, 0)) := by
      rw [hw6, Below.heap_alloc _ _ _ (by simp)]; exact heap_alloc_new _ _
    have h26 : w6.heap[w4.heap.size + 1]? = some (.cells #[.pointer (some ⟨w.heap.size + 1 + 1 + 1, 0, none⟩)] 74 (0, 0)) := by
      rw [hw6]; exact heap_alloc2_new _ _ _
    clear hw6
    have hmb := HC.out.map.lt
    have hRl := HC.out.rows.lt
    have hRne := HC.out.ne.2.2.2.2
    have hb6 : Below w.heap.size w w6 := HB4.out.trans (hb46.mono (by omega))
    have hC6 := HC.out.later hb6
    have h56 : w6.heap[w.heap.size]? = _ := (hb46.block _ (by omega)).trans H50.out
    have h86 : w6.heap[w.heap.size + 1]? = _ := (hb46.block _ (by omega)).trans H80.out
    have h96 : w6.heap[w.heap.size + 1 + 1]? = _ := (hb46.block _ (by omega)).trans H90.out
    have hA6 := HA4.out.kept (hb46.block _ (by omega))
    have hseq := ways1_ w4.heap.size (w4.heap.size + 1) R n (w.heap.size + 1 + 1 + 1) 0 n S L w6 (fun i => i = mb ∨ i = w.heap.size + 1 ∨ i = w.heap.size + 1 + 1) (by omega) HLN.out h16 h26 hC6.rows hA6 (fun i h => by omega)
    have hsame : ∀ W, Kp (fun i => i = mb ∨ i = w.heap.size + 1 ∨ i = w.heap.size + 1 + 1) w6 W → ∀ i, i < w.heap.size → i ≠ mb → W.heap[i]? = w.heap[i]? := fun W hk i hi hne =>
      (hk.same i (by omega) (by omega)).trans (hb6.block i hi)
    have hkW : ∀ W, Kp (fun i => i = mb ∨ i = w.heap.size + 1 ∨ i = w.heap.size + 1 + 1) w6 W → Kp (fun i => i = mb) w W := fun W hk =>
      ⟨hk.os.trans hb6.os, hk.tape.trans hb6.tape, hk.output.trans hb6.output, Nat.le_trans hb6.size hk.size, fun i hi hne => hsame W hk i hi hne⟩
    have hkp0 := Kp.refl (fun i => i = mb ∨ i = w.heap.size + 1 ∨ i = w.heap.size + 1 + 1) w6
    have HB46 := Lib.hid hb46; have H16 := Lib.hid h16; have H26 := Lib.hid h26; have HB6 := Lib.hid hb6; have HC6 := Lib.hid hC6; have H56 := Lib.hid h56; have H86 := Lib.hid h86; have H96 := Lib.hid h96; have HA6 := Lib.hid hA6; have HSAME := Lib.hid hsame; have HKW := Lib.hid hkW; have HKP0 := Lib.hid hkp0; clear hb46 h16 h26 hb6 hC6 h56 h86 h96 hA6 hsame hkW hkp0
    refine (wpIn_wide (n := 3)).1 ?_
    refine wp_iterS (α := Nat) (gf := 55) (lb := #[.pointer (some ⟨w4.heap.size, 0, none⟩), .pointer (some ⟨w4.heap.size + 1, 0, none⟩)]) rfl (enters_of Tryd.func55 (by kernel_rfl) rfl) (encs := fun b : Nat => #[.int .i64 (b : Int)]) (wysL L S n) (fun i => i = mb ∨ i = w.heap.size + 1 ∨ i = w.heap.size + 1 + 1) (fun i h => by omega) (fun _ => rfl) hseq
      (fun pre W => Kp (fun i => i = mb ∨ i = w.heap.size + 1 ∨ i = w.heap.size + 1 + 1) w6 W ∧ MapSt W mb (fun S z => rsU n (tcO ws) L S z) ∧ W.heap[w.heap.size + 1]? = some (.cells #[.int .i64 ((valO (bL (tcO ws) (fun T b => rsU n (tcO ws) L T b) S z pre) : Nat) : Int)] 3 (0, 0)) ∧ W.heap[w.heap.size + 1 + 1]? = some (.cells #[.int .i64 (nxI (bL (tcO ws) (fun T b => rsU n (tcO ws) L T b) S z pre))] 3 (0, 0)))
      (fun _ _ _ => False)
      (fun pre A' B' hi hs hb => ⟨hi.1.below hb, hi.2.1.at_ (hb.block _ (by omega)), (hb.block _ (by omega)).trans hi.2.2.1, (hb.block _ (by omega)).trans hi.2.2.2⟩)
      (fun _ _ _ _ h _ _ => h)
      ⟨HKP0.out, HC6.out.map, H86.out, H96.out⟩
      (fun x a' _ => FNB Mb Fb Sb w.heap.size (w.heap.size + 1) (w.heap.size + 1 + 1) x a')
      (fun x a' W W' l r hx hl hs hs2 => hx) ?nrasg ?nrbody ?nrdone (fun _ _ _ _ _ h _ _ => h.elim)
    case nrasg =>
      intro l' pre x W K hp hi hs hK
      dsimp only
      clear hseq
      gi_wp2
      exact hK _ _ ⟨rfl, rfl, rfl, rfl, rfl, rfl, rfl, rfl, rfl⟩ (Below.refl _ _)
    case nrbody =>
      rintro l' pre x a' W hp ⟨hk, hmp, hx8, hx9⟩ ha hs
      obtain ⟨f, rfl⟩ := ha.opn
      obtain ⟨hxn, hxf⟩ := wysL_mem (hp.subset (List.mem_append_right _ (List.mem_singleton.2 rfl)) : x ∈ _)
      have hms := miss_step' (freeB_bit hxf) n hxn
      have hST : S ||| 2 ^ x < 2 ^ n := Nat.or_lt_two_pow HS.out (Nat.pow_lt_pow_right (by decide) hxn)
      have hCW := HC.out.kp (HKW.out W hk) hmp
      have hx5 : W.heap[w.heap.size]? = some (.cells #[.int .u64 (S : Int), .int .i64 z] 91 (0, 0)) := (hk.same _ (by omega) (by omega)).trans H56.out
      refine nearB_ _ rfl w0 p z A c ws L n Lb Mb Fb Sb mb R w.heap.size (w.heap.size + 1) (w.heap.size + 1 + 1) S x l' _ f W _ _ hCW hx5 hx8 hx9 (by omega) (by omega) HPL.out hn HNL.out HS.out hxn HZ.out (fun W1 hC1 => IH.out _ (by have := HM.out; omega) (S ||| 2 ^ x) (x : Int) W1 rfl hST (by omega) hC1) fun W' hk2 hm2 h82 h92 => ?_
      rw [bL_snoc]
      exact ⟨hk.trans hk2, hm2, h82, h92⟩
    case nrdone =>
      rintro W ⟨hk, hmp, hx8, hx9⟩ hd hlt6
      rw [bL_wys] at hx8 hx9
      rw [← rsU_step] at hx8
      replace hx9 : W.heap[w.heap.size + 1 + 1]? = some (.cells #[.int .i64 (nxU n (tcO ws) L S z)] 3 (0, 0)) := hx9
      have hCW := HC.out.kp (HKW.out W hk) hmp
      have hx5 : W.heap[w.heap.size]? = some (.cells #[.int .u64 (S : Int), .int .i64 z] 91 (0, 0)) := (hk.same _ (by omega) (by omega)).trans H56.out
      obtain ⟨w7, hr7, hm7, hg7, hs7⟩ := hmp.update_Tryd S z
      unfold stV at hr7
      have c2 := cell_of_row _ _ 0 _ _ _ hCW.mbox
      have c50 := cell_of_row _ _ 0 _ _ _ hx5
      have c51 := cell_of_row _ _ 1 _ _ _ hx5
      have c8 := cell_of_row _ _ 0 _ _ _ hx8
      have hx87 : w7.heap[w.heap.size + 1]? = _ := (hg7.block _ (lt_of_block hx8) (by intro h; injection h with h; omega)).trans hx8
      have hx97 : w7.heap[w.heap.size + 1 + 1]? = _ := (hg7.block _ (lt_of_block hx9) (by intro h; injection h with h; omega)).trans hx9
      have hd7 : w7.heap[w6.heap.size]? = _ := (hg7.block _ hlt6 (by intro h; injection h with h; omega)).trans hd
      have hk7 : Kp (fun i => i = mb) w w7 := (HKW.out W hk).trans ⟨hg7.os, hg7.tape, hg7.output, by omega, fun i hi hne => hg7.block i hi (by intro h; injection h with h; exact hne h)⟩
      have hl7 := hk7.size
      clear hseq hg7 hs7
      generalize hU : rsU n (tcO ws) L S z = U at *
      generalize hV : nxU n (tcO ws) L S z = V at *
      have HK := Lib.hid hk; have HMP := Lib.hid hmp; have HX8 := Lib.hid hx8; have HX9 := Lib.hid hx9; have HD := Lib.hid hd; have HCW := Lib.hid hCW; have HX5 := Lib.hid hx5; have HM7 := Lib.hid hm7; have HX87 := Lib.hid hx87; have HX97 := Lib.hid hx97; have HD7 := Lib.hid hd7; have HK7 := Lib.hid hk7; have HU := Lib.hid hU; have HV := Lib.hid hV; clear hk hmp hx8 hx9 hd hCW hx5 hm7 hx87 hx97 hd7 hk7 hU hV
      refine HK3.out _ _ ?_
      refine wp_seq_k fun K4 hK4 => ?_
      have HK4 := Lib.hid hK4; clear hK4
      go_wp2
      clear c2 c50 c51 c8 hr7
      refine HK4.out _ _ (wp_seq_k fun K5 hK5 => ?_)
      have c8 := cell_of_row _ _ 0 _ _ _ HX87.out
      have c9 := cell_of_row _ _ 0 _ _ _ HX97.out
      have l8 := lt_of_block HX87.out
      have l9 := lt_of_block HX97.out
      have HK5 := Lib.hid hK5; clear hK5
      have hbelc : ∀ (u : Bel w7.heap.size w7) b o, b < w7.heap.size → u.wd.cell? ⟨b, o, none⟩ = w7.cell? ⟨b, o, none⟩ := fun u b o h => u.h.cell (p := ⟨b, o, none⟩) h
      have hbeln : Nonempty (Bel w7.heap.size w7) := ⟨⟨w7, Below.refl _ _⟩⟩
      refine wp_region_bel w7.heap.size (by kernel_rfl) (by kernel_rfl) ?_
      repeat (go_big_quiet_step ((fail)))
      refine wpQuiet_nil ?_
      intro wB hB0; obtain ⟨uB, hu⟩ := hB0; have hbB0 := uB.h; rw [← hu] at hbB0; clear hu uB hbelc hbeln
      obtain ⟨hbB, hcB, hsB⟩ := bcell2 hbB0; clear hbB0
      refine HK5.out _ _ ?_
      have hM : Marks w.heap.size wB [{ target := .collected w6.heap.size, args := #[] }] := ⟨⟨_, rfl, by omega, (hbB.block _ (lt_of_block HD7.out)).trans HD7.out, by simp⟩, trivial⟩
      have HM := Lib.hid hM; have HBB := Lib.hid hbB; clear hM hbB
      go_wp2
      refine leaves_marks (B := w.heap.size) HM.out fun w' hs => ⟨_, by simp [results, Tryd.results46]; rfl, ?_⟩
      have hsz := hs.size
      have hkB := HK7.out.trans (Kp.of_below _ HBB.out)
      exact ⟨by rw [HU.out, HV.out], ⟨hs.os.trans hkB.os, hs.tape.trans hkB.tape, hs.output.trans hkB.output, by have := hkB.size; omega, fun i hi hne => (hs.same i (.inl hi)).trans (hkB.same i hi hne)⟩, (HM7.out.at_ (HBB.out.block _ HM7.out.lt)).at_ (hs.same mb (.inl hmb))⟩
end Go.Proofs.YtlpfecjkkgccgaaDoor
/- The loop of Near: the order is read off. -/
namespace Go.Proofs.YtlpfecjkkgccgaaDoor
open Go Go.RowKit
attribute [local go_sem] Oper.semAt_some

def FNL (Fb B13 : Nat) (bs nv ov : Value) (a : Act) : Prop := a.tmps.size = 66 ∧ a.defers = [] ∧ a.tmps.getD 12 undef = .pointer (some ⟨Fb, 0, none⟩) ∧ a.tmps.getD 13 undef = .pointer (some ⟨B13, 0, none⟩) ∧ a.tmps.getD 14 undef = bs ∧ a.tmps.getD 15 undef = nv ∧ a.tmps.getD 16 undef = ov
theorem FNL.opn {Fb B13 : Nat} {bs nv ov : Value} {a : Act} (h : FNL Fb B13 bs nv ov a) : ∃ f : Nat → Value, a = { tmps := #[f 0, f 1, f 2, f 3, f 4, f 5, f 6, f 7, f 8, f 9, f 10, f 11, .pointer (some ⟨Fb, 0, none⟩), .pointer (some ⟨B13, 0, none⟩), bs, nv, ov, f 17, f 18, f 19, f 20, f 21, f 22, f 23, f 24, f 25, f 26, f 27, f 28, f 29, f 30, f 31, f 32, f 33, f 34, f 35, f 36, f 37, f 38, f 39, f 40, f 41, f 42, f 43, f 44, f 45, f 46, f 47, f 48, f 49, f 50, f 51, f 52, f 53, f 54, f 55, f 56, f 57, f 58, f 59, f 60, f 61, f 62, f 63, f 64, f 65], defers := [] } := by
  obtain ⟨hs, hd, g12, g13, g14, g15, g16⟩ := h
  obtain ⟨t, d⟩ := a
  dsimp only at *
  have e := arr_range t 66 hs
  generalize hf : (fun i => t.getD i undef) = f at e
  have k : ∀ i, t.getD i undef = f i := fun i => congrFun hf i
  rw [k] at g12 g13 g14 g15 g16
  refine ⟨f, ?_⟩
  rw [hd, e]
  congr 1
  show #[f 0, f 1, f 2, f 3, f 4, f 5, f 6, f 7, f 8, f 9, f 10, f 11, f 12, f 13, f 14, f 15, f 16, f 17, f 18, f 19, f 20, f 21, f 22, f 23, f 24, f 25, f 26, f 27, f 28, f 29, f 30, f 31, f 32, f 33, f 34, f 35, f 36, f 37, f 38, f 39, f 40, f 41, f 42, f 43, f 44, f 45, f 46, f 47, f 48, f 49, f 50, f 51, f 52, f 53, f 54, f 55, f 56, f 57, f 58, f 59, f 60, f 61, f 62, f 63, f 64, f 65] = _
  rw [g12, g13, g14, g15, g16]

/-- The body of the first loop. -/
def lpBody : Code → Option Code
  | .loop c => some c
  | .block _ c => lpBody c
  | .scope c => lpBody c
  | .seq a b => match lpBody a with
    | some c => some c
    | none => lpBody b
  | .cond _ a b => match lpBody a with
    | some c => some c
    | none => lpBody b
  | _ => none
theorem own_kp {C : Nat → Prop} {w w' : World} {base e n size : Nat} {v : Value} {xs : List Value} (h : w.ownsRow base e size v n xs) (hk : Kp C w w') (hC : ∀ i, C i → i < base) : w'.ownsRow base e size v n xs := by
  refine ⟨h.1, ?_⟩
  rcases h.2 with h2 | ⟨g, cap, cur, h1, h2, h3, h4⟩
  · exact .inl h2
  · exact .inr ⟨g, cap, cur, h1, h2, (hk.same g (lt_of_block h3) (fun hc => by have := hC g hc; omega)).trans h3, h4⟩
theorem NCx.low {w0 w w' : World} {p : Int} {A : Option Addr} {c : Nat} {ws : List GW} {L : Nat → Nat} {n Lb Mb Fb Sb mb R : Nat} (h : NCx w0 p A c ws L n Lb Mb Fb Sb mb R w) (B : Nat) (hB : Lb < B ∧ Mb < B ∧ Fb < B ∧ Sb < B ∧ R < B ∧ mb < B) (hb : Below w0.heap.size w0 w') (hs : ∀ i, i < B → w'.heap[i]? = w.heap[i]?) : NCx w0 p A c ws L n Lb Mb Fb Sb mb R w' :=
  ⟨hb, h.sh, (hs _ hB.1).trans h.lbox, (hs _ hB.2.1).trans h.mbox, (hs _ hB.2.2.1).trans h.fbox, (hs _ hB.2.2.2.1).trans h.sbox, (hs _ hB.2.2.2.2.1).trans h.rows, h.map.at_ (hs _ hB.2.2.2.2.2), h.lo⟩
/-- Two cells of a state are stored. -/
theorem st_put {w : World} {B : Nat} {u1 u2 : Value} (h : w.heap[B]? = some (.cells #[u1, u2] 91 (0, 0))) (v1 v2 : Value) :
    w.frozen? ⟨B, 0, none⟩ = false ∧ (w.setCell ⟨B, 0, none⟩ v1).cell? ⟨B, 1, none⟩ = some u2 ∧ (w.setCell ⟨B, 0, none⟩ v1).frozen? ⟨B, 1, none⟩ = false ∧
    ((w.setCell ⟨B, 0, none⟩ v1).setCell ⟨B, 1, none⟩ v2).heap[B]? = some (.cells #[v1, v2] 91 (0, 0)) ∧ Kp (fun i => i = B) w ((w.setCell ⟨B, 0, none⟩ v1).setCell ⟨B, 1, none⟩ v2) := by
  have h1 : (w.setCell ⟨B, 0, none⟩ v1).heap[B]? = some (.cells #[v1, u2] 91 (0, 0)) := heap_setCell_same w _ 0 _ _ _ h
  have h2 : ((w.setCell ⟨B, 0, none⟩ v1).setCell ⟨B, 1, none⟩ v2).heap[B]? = some (.cells #[v1, v2] 91 (0, 0)) := heap_setCell_same _ _ 1 _ _ _ h1
  exact ⟨frozen_of_row w _ 0 _ _ h, cell_of_row _ _ 1 _ _ _ h1, frozen_of_row _ _ 1 _ _ h1, h2, ((Kp.refl (fun i => i = B) w).setCell (p := ⟨B, 0, none⟩) (.inl rfl) _).setCell (p := ⟨B, 1, none⟩) (.inl rfl) _⟩
set_option maxRecDepth 100000 in
set_option maxHeartbeats 8000000 in
/-- A round. -/
theorem nearL_ (cd : Code) (hcd : Tryd.f24.body.bind lpBody = some cd) (w0 : World) (p z : Int) (A : Option Addr) (c : Nat) (ws : List GW) (L : Nat → Nat) (n Lb Mb Fb Sb mb R B13 S base : Nat) (acc : List Int) (ov bs : Value) (a : Act) (W : World) (Q : Exit → Act → World → Prop)
    (hpl : ∀ x ∈ ws, 0 ≤ x.pl ∧ x.pl ≤ 22) (hn : n ≤ 12) (hnl : n = ws.length) (hLn : ∀ b, b < n → ∀ a, (L b).testBit a = true → a < n)
    (ha : FNL Fb B13 bs (.int .i64 (nxU n (tcO ws) L S z)) ov a) (hC : NCx w0 p A c ws L n Lb Mb Fb Sb mb R W) (h13 : W.heap[B13]? = some (.cells #[.int .u64 (S : Nat), .int .i64 z] 91 (0, 0)))
    (hB : mb < base ∧ B13 < base ∧ mb < B13 ∧ w0.heap.size ≤ B13 ∧ Lb < B13 ∧ Mb < B13 ∧ Fb < B13 ∧ Sb < B13 ∧ R < B13 ∧ base ≤ W.heap.size) (hown : W.ownsRow base 3 1 ov acc.length (ints acc)) (hS : S < 2 ^ n) (hacc : acc.length ≤ 100)
    (hP : ∀ ch t ds w, Q (.panic ch) { tmps := t, defers := ds } w ↔ ∀ t', Q (.panic ch) { tmps := t', defers := ds } w)
    (hexit : nxU n (tcO ws) L S z = -1 → ∀ a', FNL Fb B13 bs (.int .i64 (-1)) ov a' → Q (.exit 0) a' W)
    (hgo : ∀ (b : Nat) (a' : Act) (W' : World) (ov' : Value), nxU n (tcO ws) L S z = b → b < n → FNL Fb B13 bs (.int .i64 (nxU n (tcO ws) L (S ||| 2 ^ b) b)) ov' a' → NCx w0 p A c ws L n Lb Mb Fb Sb mb R W' → W'.heap[B13]? = some (.cells #[.int .u64 ((S ||| 2 ^ b : Nat) : Int), .int .i64 (b : Int)] 91 (0, 0)) →
      W.heap.size ≤ W'.heap.size → W'.ownsRow base 3 1 ov' (acc ++ [(b : Int)]).length (ints (acc ++ [(b : Int)])) → Q .normal a' W') :
    cd.wp Tryd.prog Q a W := by
  obtain rfl := Option.some.inj (hcd.symm.trans (rfl : _ = some _))
  clear hcd
  obtain ⟨f, rfl⟩ := ha.opn
  clear ha
  dsimp only
  have HPN := Lib.hid hP
  clear hP
  obtain ⟨VA, VC, rfl⟩ := own_slice1 hown
  have hspec := (bstB_spec (tc := tcO ws) (L := L) (g := fun T b => rsU n (tcO ws) L T b) (S := S) (last := z) n).2
  refine wp_seq_k fun K1 hK1 => ?_
  cases hb : bstB (tcO ws) L (fun T b => rsU n (tcO ws) L T b) S z n with
  | none =>
    have hnx : nxU n (tcO ws) L S z = -1 := by unfold nxU; rw [hb]; rfl
    have hexit := hexit hnx
    rw [hnx]
    have HK1 := Lib.hid hK1; have HEXIT := Lib.hid hexit; have HGO := Lib.hid hgo; have HC := Lib.hid hC; have H13 := Lib.hid h13; have HOWN := Lib.hid hown; have HNX := Lib.hid hnx; have HSPEC := Lib.hid hspec; have HNL := Lib.hid hnl; clear hK1 hexit hgo hC h13 hown hnx hspec hnl
    go_wp2
    exact HEXIT.out _ ⟨rfl, rfl, rfl, rfl, rfl, rfl, rfl⟩
  | some y =>
    obtain ⟨v, b⟩ := y
    obtain ⟨hbn, hbf, _⟩ := hspec v b hb
    have hnx : nxU n (tcO ws) L S z = b := by unfold nxU; rw [hb]; rfl
    have hg1 := hgo b
    rw [hnx] at hg1 ⊢
    have g1 : decide (0 ≤ (b : Int)) = true := by simp
    have g2 : 0 ≤ (b : Int) := by omega
    have hST : S ||| 2 ^ b < 2 ^ n := Nat.or_lt_two_pow hS (Nat.pow_lt_pow_right (by decide) hbn)
    clear hexit hgo
    have HK1 := Lib.hid hK1; have HG1 := Lib.hid hg1; have HC := Lib.hid hC; have H13 := Lib.hid h13; have HOWN := Lib.hid hown; have HNX := Lib.hid hnx; have HSPEC := Lib.hid hspec; have HB := Lib.hid hb; have HNL := Lib.hid hnl; have HST := Lib.hid hST; have HBF := Lib.hid hbf; clear hK1 hg1 hC h13 hown hnx hspec hb hnl hST hbf
    go_wp2
    refine HK1.out _ _ ?_
    clear HK1 g1 g2
    refine wp_block (wp_seq_k fun K2 hK2 => ?_)
    have HK2 := Lib.hid hK2; clear hK2
    go_wp2_with (at_builtin; go_must (refine wpList_app1_Tryd rfl _ _ rfl base (.slice VA acc.length VC) acc rfl (HOWN.out.alloc _) W.heap.size (b : Int) rfl (heap_alloc_new _ _) (by omega) (by simp; omega) ?_); intro g cap w6 hown6 hgrow hat6 hlt6)
    refine HK2.out _ _ ?_
    clear HK2
    have hvl := HOWN.out.lt
    have hgb : ∀ i, i < base → w6.heap[i]? = W.heap[i]? := fun i hi => (hgrow.block i (by simp; omega) (fun h => by have := (hvl _ h.symm).1; omega)).trans (Below.heap_alloc W _ i (by omega))
    have hb6 : Below w0.heap.size w0 w6 := (HC.out.bel.alloc HC.out.bel.size _).grown hgrow (by have := HC.out.bel.size; simp; omega) (fun k hk => by have := (hvl k hk).1; omega)
    have hC6 := HC.out.low B13 (by omega) hb6 fun i hi => hgb i (by omega)
    have h136 := (hgb B13 (by omega)).trans H13.out
    have hl6 : W.heap.size ≤ w6.heap.size := by have := hgrow.size; simp at this; omega
    obtain ⟨z1, z2, z3, z4, z5⟩ := st_put h136 (.int .u64 ((S ||| 2 ^ b : Nat) : Int)) (.int .i64 (b : Int))
    have e1 := cell_of_row _ _ 0 _ _ _ h136
    have l13 := lt_of_block h136
    have hor : bits BinOp.or IntKind.u64 (S : Int) (IntKind.u64.wrap ((2 : Int) ^ b)) = ((S ||| 2 ^ b : Nat) : Int) := by
      have h3 : 2 ^ n ≤ 2 ^ 12 := Nat.pow_le_pow_right (by decide) hn
      have h1 : 2 ^ b < 2 ^ n := Nat.pow_lt_pow_right (by decide) hbn
      have h4 : IntKind.u64.wrap ((2 : Int) ^ b) = (2 : Int) ^ b := by
        have e : ((2 : Int) ^ b) = ((2 ^ b : Nat) : Int) := by push_cast; rfl
        have h5 : 2 ^ b < 65536 := by omega
        rw [e]
        clear e
        generalize 2 ^ b = y at *
        exact wraps64 _ (by omega) (by omega)
      rw [h4]
      exact bit_set .u64 64 (by decide) wraps64 S b (by omega) (by omega)
    clear hgb hgrow hat6 hvl HC HOWN H13
    have HOWN6 := Lib.hid hown6; have HC6 := Lib.hid hC6; have H136 := Lib.hid h136; have HB6 := Lib.hid hb6; have Z4 := Lib.hid z4; have Z5 := Lib.hid z5; clear hown6 hC6 h136 hb6 z4 z5
    refine wp_seq_k fun K2 hK2 => ?_
    have HK2 := Lib.hid hK2; clear hK2
    refine wp_region_held_drew (S := fun _ => True) (by kernel_rfl) trivial (fun hHeld => ?_)
    refine takeH (i := 0) (v := ?nav0) rfl rfl (by kernel_rfl) (by kernel_rfl) (by kernel_rfl) HPN.out (by rfl) hHeld ?nay0 ?nar0
    case nay0 =>
      intro W' s1
      go_simp
      try with_reducible rfl
    simp only [List.setIfInBounds_toArray, List.set_cons_zero, List.set_cons_succ]
    refine takeH (i := 2) (v := ?nav2) rfl rfl (by kernel_rfl) (by kernel_rfl) (by kernel_rfl) HPN.out (by rfl) hHeld ?nay2 ?nar2
    case nay2 =>
      intro W' s1
      go_simp
      try with_reducible rfl
    simp only [List.setIfInBounds_toArray, List.set_cons_zero, List.set_cons_succ]
    refine takeH (i := 3) (v := ?nav3) rfl rfl (by kernel_rfl) (by kernel_rfl) (by kernel_rfl) HPN.out (by rfl) hHeld ?nay3 ?nar3
    case nay3 =>
      intro W' s1
      go_simp
      try with_reducible rfl
    simp only [List.setIfInBounds_toArray, List.set_cons_zero, List.set_cons_succ]
    refine takeH (i := 5) (v := ?nav5) rfl rfl (by kernel_rfl) (by kernel_rfl) (by kernel_rfl) HPN.out (by rfl) hHeld ?nay5 ?nar5
    case nay5 =>
      intro W' s1
      go_simp
      try with_reducible rfl
    simp only [List.setIfInBounds_toArray, List.set_cons_zero, List.set_cons_succ]
    refine wpAnyH_ready (rs := [1]) (by kernel_rfl) (by simp) ?_
    refine AllReadyH.cons rfl (fun K hK => ?_) AllReadyH.nil
    go_simp
    refine hK.out _ _ trivial (fun hHeld => ?_)
    clear hK K
    refine takeH (i := 4) (v := ?nbv4) rfl rfl (by kernel_rfl) (by kernel_rfl) (by kernel_rfl) HPN.out (by rfl) hHeld ?nby4 ?nbr4
    case nby4 =>
      intro W' s1
      go_simp
      try with_reducible rfl
    simp only [List.setIfInBounds_toArray, List.set_cons_zero, List.set_cons_succ]
    refine takeH (i := 6) (v := ?nbv6) rfl rfl (by kernel_rfl) (by kernel_rfl) (by kernel_rfl) HPN.out (by rfl) hHeld ?nby6 ?nbr6
    case nby6 =>
      intro W' s1
      go_simp
      try with_reducible rfl
    simp only [List.setIfInBounds_toArray, List.set_cons_zero, List.set_cons_succ]
    refine wpAnyH_ready (rs := [7]) (by kernel_rfl) (by simp) ?_
    refine AllReadyH.cons rfl (fun K hK => ?_) AllReadyH.nil
    clear hHeld hor
    generalize S ||| 2 ^ b = T at *
    go_simp
    refine hK.out _ _ trivial (fun hHeld => ?_)
    clear hK K hHeld
    refine wpAnyH_done (by kernel_rfl) ?_ _
    refine HK2.out _ _ ?_
    clear HK2 z1 z2 z3 e1
    have h137 : ((w6.setCell ⟨B13, 0, none⟩ (.int .u64 (T : Int))).setCell ⟨B13, 1, none⟩ (.int .i64 (b : Int))).drew.heap[B13]? = _ := Z4.out
    have hk7 := Z5.out.drew
    have hb7 : Below w0.heap.size w0 ((w6.setCell ⟨B13, 0, none⟩ (.int .u64 (T : Int))).setCell ⟨B13, 1, none⟩ (.int .i64 (b : Int))).drew := ((HB6.out.setCell (p := ⟨B13, 0, none⟩) (by show w0.heap.size ≤ B13; omega) _).setCell (p := ⟨B13, 1, none⟩) (by show w0.heap.size ≤ B13; omega) _).drew
    generalize ((w6.setCell ⟨B13, 0, none⟩ (.int .u64 (T : Int))).setCell ⟨B13, 1, none⟩ (.int .i64 (b : Int))).drew = w7 at *
    have hl7 := hk7.size
    have hC7 := HC6.out.low B13 (by omega) hb7 fun i hi => hk7.same i (by omega) (by omega)
    have hown7 := own_kp HOWN6.out hk7 (fun i hi => by subst hi; omega)
    have e1 := cell_of_row _ _ 0 _ _ _ h137
    have e2 := cell_of_row _ _ 1 _ _ _ h137
    have e3 := cell_of_row _ _ 0 _ _ _ hC7.fbox
    have hcall := oNear1_ w0 p A c ws L n Lb Mb Fb Sb mb R hpl hn HNL.out hLn _ T (b : Int) w7 rfl HST.out (by omega) hC7
    have H137 := Lib.hid h137; have HK7 := Lib.hid hk7; have HB7 := Lib.hid hb7; have HC7 := Lib.hid hC7; have HOWN7 := Lib.hid hown7; have HCALL := Lib.hid hcall; clear h137 hk7 hb7 hC7 hown7 hcall
    go_wp2_with fail
    refine HCALL.out.mono ?_
    rintro e w8 ⟨rfl, hk8, hm8⟩
    have hC8 := HC7.out.kp hk8 hm8
    have hl8 := hk8.size
    clear e1 e2 e3
    have HK8 := Lib.hid hk8; have HM8 := Lib.hid hm8; have HC8 := Lib.hid hC8; clear hk8 hm8 hC8
    go_wp2
    exact HG1.out _ _ _ trivial hbn ⟨rfl, rfl, rfl, rfl, rfl, rfl, rfl⟩ HC8.out ((HK8.out.same _ (by have := lt_of_block H137.out; omega) (by omega)).trans H137.out) (by omega) (own_kp HOWN7.out HK8.out (fun i hi => by subst hi; omega))
end Go.Proofs.YtlpfecjkkgccgaaDoor
/- The reference's free, goOn, Least, Respects. -/
namespace Go.Proofs.YtlpfecjkkgccgaaDoor
open Go.RowKit

theorem free_tbl {L : Nat → Nat} {M : Nat → Nat → Bool} {n S b : Nat} (hL : ∀ a, (L b).testBit a = (decide (a < n) && M b a)) : freeB L S b = true ↔ S.testBit b = false ∧ ∀ a, a < n → M b a = true → S.testBit a = true := by
  unfold freeB
  rw [Bool.and_eq_true, Bool.not_eq_true', decide_eq_true_eq]
  refine and_congr_right fun _ => ?_
  constructor
  · intro h a ha hm
    have := congrArg (fun z => z.testBit a) h
    simp only [Nat.testBit_and, hL a, decide_eq_true ha, hm, Bool.true_and] at this
    exact this
  · intro h
    apply Nat.eq_of_testBit_eq
    intro a
    rw [Nat.testBit_and, hL a]
    by_cases ha : a < n
    · rw [decide_eq_true ha, Bool.true_and]
      cases hm : M b a with
      | false => rfl
      | true => rw [h a ha hm]; rfl
    · rw [decide_eq_false ha]; rfl
/-- The table that the reference makes, and what comes before what. -/
theorem LO_tbl (ws : List GW) (wl : List (Int × Int)) (b a : Nat) : (LO ws wl b).testBit a = (decide (a < ws.length) && tblM ws wl b a) := LO_bit a b
set_option maxRecDepth 100000 in
set_option maxHeartbeats 4000000 in
theorem rfree_ (TA : Option Addr) (tc D dc n b S : Nat) (L : Nat → Nat) (M : Nat → Nat → Bool) (w : World) (hn : n ≤ 400) (hL : ∀ a, (L b).testBit a = (decide (a < n) && M b a)) (hM : MatB w TA n M) (hD : BoB w D n fun a => S.testBit a) (hb : b < n) :
    Calls Tryd.prog 43 #[.slice TA n tc, .slice (some ⟨D, 0, none⟩) n dc, .int .i64 (b : Int)] w fun e w' => e = .returned (.bool (freeB L S b)) ∧ w = w' := by
  have d1 := hD.at_ hb
  have x1 : (0 : Int) ≤ (b : Int) := by omega
  have x2 : (b : Int) < (n : Int) := by omega
  have hf := free_tbl (S := S) hL
  obtain ⟨g, o, R, rfl, hg, m1, hR, m2⟩ := hM b hb
  clear hM
  go_enter Tryd.func43, Tryd.ntmps43
  cases hSb : S.testBit b with
  | true =>
    have hr : freeB L S b = false := by
      rw [Bool.eq_false_iff]; intro h
      have := (hf.1 h).1
      rw [hSb] at this; cases this
    rw [hSb] at d1
    have HRR := Lib.hid hr; clear hr
    have HF := Lib.hid hf; have HD := Lib.hid hD; have M2 := Lib.hid m2; have HL := Lib.hid hL; clear hf hD m2 hL
    go_wp2
    go_ret
    exact ⟨by rw [HRR.out]; rfl, rfl⟩
  | false =>
    rw [hSb] at d1
    have HF := Lib.hid hf; have HD := Lib.hid hD; have M2 := Lib.hid m2; have HL := Lib.hid hL; clear hf hD m2 hL
    go_wp2
    go_loopw [7] (fun iv wr => ∃ a : Nat, iv = .int .i64 a ∧ a ≤ n ∧ (∀ x, x < a → M b x = true → S.testBit x = true) ∧ wr = w) (fun iv _ => n - (intOf iv).toNat)
    case atStart => exact ⟨0, rfl, Nat.zero_le _, (fun x h => absurd h (by omega)), rfl⟩
    case round =>
      obtain ⟨a, rfl, ha, hall, rfl⟩ := hrel
      by_cases hal : a < n
      · have y1 : (0 : Int) ≤ (a : Int) := by omega
        have y2 : (a : Int) < (n : Int) := by omega
        have e1 := M2.out a hal
        have e2 := HD.out.at_ hal
        cases hm : M b a with
        | false =>
          have hall2 : ∀ x, x < a + 1 → M b x = true → S.testBit x = true := fun x hx hmx => by
            by_cases h : x = a
            · subst h; rw [hm] at hmx; cases hmx
            · exact hall x (by omega) hmx
          rw [hm] at e1
          have HALL := Lib.hid hall; have HALL2 := Lib.hid hall2; have HM := Lib.hid hm; clear hall hall2 hm
          go_wp2
          go_roundw
          case rel => exact ⟨a + 1, by go_num, by omega, HALL2.out, trivial⟩
          case measure => simp [intOf]; omega
        | true =>
          rw [hm] at e1
          cases hs : S.testBit a with
          | true =>
            have hall2 : ∀ x, x < a + 1 → M b x = true → S.testBit x = true := fun x hx hmx => by
              by_cases h : x = a
              · subst h; exact hs
              · exact hall x (by omega) hmx
            rw [hs] at e2
            have HALL := Lib.hid hall; have HALL2 := Lib.hid hall2; have HM := Lib.hid hm; have HS := Lib.hid hs; clear hall hall2 hm hs
            go_wp2
            go_roundw
            case rel => exact ⟨a + 1, by go_num, by omega, HALL2.out, trivial⟩
            case measure => simp [intOf]; omega
          | false =>
            have hr : freeB L S b = false := by
              rw [Bool.eq_false_iff]; intro h
              have := (HF.out.1 h).2 a hal hm
              rw [hs] at this; cases this
            rw [hs] at e2
            have HRR := Lib.hid hr; clear hr
            have HALL := Lib.hid hall; have HM := Lib.hid hm; have HS := Lib.hid hs; clear hall hm hs
            go_wp2
            go_ret
            exact ⟨by rw [HRR.out]; rfl, rfl⟩
      · obtain rfl : a = n := by omega
        have hr : freeB L S b = true := HF.out.2 ⟨hSb, hall⟩
        have HRR := Lib.hid hr; clear hr
        have HALL := Lib.hid hall; clear hall
        go_wp2
        go_ret
        exact ⟨by rw [HRR.out]; rfl, rfl⟩
set_option maxRecDepth 100000 in
set_option maxHeartbeats 8000000 in
theorem rGoOn_ (TA B : Option Addr) (tc n lc : Nat) (L : Nat → Nat) (M : Nat → Nat → Bool) (l : List Int) (w : World) (hn : n ≤ 400) (hL : ∀ b a, (L b).testBit a = (decide (a < n) && M b a)) (hM : MatB w TA n M) (hl : RdI w B l) (hll : l.length ≤ n) (hin : ∀ x ∈ l, 0 ≤ x ∧ x < (n : Int)) :
    Calls Tryd.prog 31 #[.slice TA n tc, .slice B l.length lc] w (GoPost ((goO n L (n - l.length) (setL l)).map (l ++ ·)) w) := by
  have hmk := run_make_row' (P := Tryd.prog) 84 4 (.bool false) 1 Tryd.underlying84 infoB_Tryd rfl .i64 .i64 n (by omega) (by omega)
  have hm0 := BoB.made w n
  have hb0 : Below w.heap.size w (w.alloc (.cells (madeCells #[.bool false] n) 4)) := (Below.refl _ _).alloc (Nat.le_refl _) _
  have HRL := Lib.hid hl; clear hl
  have HL := Lib.hid hL; have HM := Lib.hid hM; have HIN := Lib.hid hin; have HM0 := Lib.hid hm0; have HB0 := Lib.hid hb0; clear hL hM hin hm0 hb0
  go_enter Tryd.func31, Tryd.ntmps31
  refine wp_seq_k fun K1 hK1 => ?_
  have HK1 := Lib.hid hK1; clear hK1
  go_wp2
  refine HK1.out _ _ (wp_seq_k fun K2 hK2 => ?_)
  clear HK1
  have HK2 := Lib.hid hK2; clear hK2
  go_wp2
  refine HK2.out _ _ (wp_seq_k fun K1 hK1 => ?_)
  clear HK2 hmk
  generalize w.alloc (.cells (madeCells #[.bool false] n) 4) = w1 at *
  have HK1 := Lib.hid hK1; clear hK1
  have hm0s := HM0.out.lt
  have hown0 : (w1.alloc (.cells #[] 3)).ownsRow (w.heap.size + 1) 3 1 (.slice (some ⟨w1.heap.size, 0, none⟩) 0 0) ([] : List Int).length (ints []) := ⟨rfl, .inr ⟨w1.heap.size, 0, #[], rfl, by omega, heap_alloc_new _ _, Nat.le_refl _, by decide, rfl, rfl⟩⟩
  go_wp2_with (at_builtin; go_must (refine wpList_appI_Tryd rfl _ _ rfl (w.heap.size + 1) (.slice (some ⟨w1.heap.size, 0, none⟩) 0 0) [] rfl hown0 B lc l rfl ((HRL.out.later HB0.out (Nat.le_refl _)).later ((Below.refl _ _).alloc (Nat.le_refl _) _) (Nat.le_refl _)) (by simp; omega) (by simp; omega) ?_); intro v2 w2 hown2 hgrow2 hat2)
  refine HK1.out _ _ ?_
  clear HK1
  rw [List.nil_append] at hown2
  have hb2 : Below w.heap.size w w2 := (HB0.out.alloc HB0.out.size _).grown hgrow2 (by have := HB0.out.size; simp; omega) (fun k hk => by simp [Value.ownBlock] at hk; omega)
  have hD2 : BoB w2 w.heap.size n fun _ => false := ((hgrow2.block _ (by simp; omega) (by simp [Value.ownBlock]; omega)).trans (Below.heap_alloc _ _ _ hm0s)).trans HM0.out
  clear hown0 hgrow2 hat2 HM0
  obtain ⟨VA, VC, rfl⟩ := own_slice1 hown2
  have hRd2 := HRL.out.later hb2 (Nat.le_refl _)
  have hs2 := hD2.lt
  have hK0 := Kp.refl (fun i => i = w.heap.size) w2
  clear HB0
  have HOWN2 := Lib.hid hown2; have HB2 := Lib.hid hb2; have HRD2 := Lib.hid hRd2; have HD2 := Lib.hid hD2; have HK0 := Lib.hid hK0; clear hown2 hb2 hRd2 hD2 hK0
  refine wp_seq_k fun K1 hK1 => ?_
  have HK1 := Lib.hid hK1; clear hK1
  go_wp2
  go_loopw [8] (fun iv wr => ∃ i : Nat, iv = .int .i64 i ∧ i ≤ l.length ∧ BoB wr w.heap.size n (fun a => (setL (l.take i)).testBit a) ∧ Kp (fun i => i = w.heap.size) w2 wr) (fun iv _ => l.length - (intOf iv).toNat)
  case atStart => exact ⟨0, rfl, Nat.zero_le _, HD2.out.congr fun a _ => by simp [setL], HK0.out⟩
  case round =>
    obtain ⟨i, rfl, hi, hD, hk⟩ := hrel
    by_cases hlt : i < l.length
    · have hb := hk.under HB2.out (fun i hi => by omega)
      obtain ⟨bl, ol, rfl, hbl, l1⟩ := (HRL.out.later hb (Nat.le_refl _)).at_ hlt
      have hst := setL_take hlt
      obtain ⟨hx0, hx1⟩ := HIN.out _ (List.getElem_mem hlt)
      generalize l[i] = x at *
      obtain ⟨y, rfl⟩ := Int.eq_ofNat_of_zero_le hx0
      rw [Int.toNat_natCast] at hst
      have hyn : y < n := by omega
      have x1 : (0 : Int) ≤ (i : Int) := by omega
      have x2 : (i : Int) < (l.length : Int) := by omega
      have e1 := hD.at_ hyn
      have e2 := hD.free y
      have q1 : BoB (wr.setCell ⟨w.heap.size, y, none⟩ (.bool true)) w.heap.size n (fun a => (setL (l.take (i + 1))).testBit a) := (hD.put y true).congr fun a _ => by
        rw [hst, testBit_set]
        by_cases h : a = y
        · subst h; simp
        · simp [h, Ne.symm h]
      have q2 : Kp (fun i => i = w.heap.size) w2 (wr.setCell ⟨w.heap.size, y, none⟩ (.bool true)) := hk.setCell (p := ⟨w.heap.size, y, none⟩) (.inl rfl) _
      generalize (setL (l.take i)).testBit y = bb at *
      have HD := Lib.hid hD; have HK := Lib.hid hk; have HB := Lib.hid hb; have HST := Lib.hid hst; have Q1 := Lib.hid q1; have Q2 := Lib.hid q2; clear hD hk hb hst q1 q2
      go_wp2
      go_roundw
      case rel => exact ⟨i + 1, by go_num, by omega, Q1.out, Q2.out⟩
      case measure => simp [intOf]; omega
    · obtain rfl : i = l.length := by omega
      rw [List.take_length] at hD
      have hown3 := own_kp HOWN2.out hk (fun i hi => by omega)
      have hb3 := hk.under HB2.out (fun i hi => by omega)
      clear HOWN2 HD2 HK0
      have HD := Lib.hid hD; have HK := Lib.hid hk; have HOWN3 := Lib.hid hown3; have HB3 := Lib.hid hb3; clear hD hk hown3 hb3
      go_wp2
      refine HK1.out _ _ ?_
      clear HK1
      go_wp2
      go_loopw [7, 9, 10] (fun ov _ _ wr => ∃ (acc : List Int) (S f : Nat), acc.length + f = n ∧ (goO n L (n - l.length) (setL l)).map (l ++ ·) = (goO n L f S).map (acc ++ ·) ∧ BoB wr w.heap.size n (fun a => S.testBit a) ∧ wr.ownsRow (w.heap.size + 1) 3 1 ov acc.length (ints acc) ∧ Below w.heap.size w wr) (fun ov _ _ _ => n - slLen ov)
      case atStart => exact ⟨l, setL l, n - l.length, by omega, rfl, HD.out, HOWN3.out, HB3.out⟩
      case round =>
        clear HD HK HOWN3 HB3
        obtain ⟨acc, S, f, hf, hres, hD, hown, hb⟩ := hrel
        obtain ⟨OA, OC, rfl⟩ := own_slice1 hown
        obtain ⟨wq, rfl⟩ : ∃ wq : World, wq = wr := ⟨_, rfl⟩
        by_cases hlt : acc.length < n
        · have hKq := Below.refl wq.heap.size wq
          have HRES := Lib.hid hres; have HD := Lib.hid hD; have HOWN := Lib.hid hown; have HB := Lib.hid hb; have HKQ := Lib.hid hKq; clear hres hD hown hb hKq
          go_wp2
          go_loopw [9, 10] (fun nv bv wr => (∃ b : Nat, b ≤ n ∧ nv = .int .i64 (-1) ∧ bv = .int .i64 b ∧ (∀ x, x < b → freeB L S x = false) ∧ wr = wq) ∨ ∃ x : Nat, x < n ∧ nv = .int .i64 x ∧ bv = .int .i64 ((x : Int) + 1) ∧ freeB L S x = true ∧ (∀ y, y < x → freeB L S y = false) ∧ wr = wq) (fun _ bv _ => n - (intOf bv).toNat)
          case atStart => exact .inl ⟨0, Nat.zero_le _, rfl, rfl, (fun x h => absurd h (by omega)), rfl⟩
          case round =>
            rcases hrel with ⟨b, hbn, rfl, rfl, hno, rfl⟩ | ⟨x, hxn, rfl, rfl, hx, hno, rfl⟩
            · by_cases hbl : b < n
              · have y1 : (0 : Int) ≤ (b : Int) := by omega
                have y2 : (b : Int) < (n : Int) := by omega
                have hcall := rfree_ TA tc w.heap.size n n b S L M wr hn (HL.out b) (HM.out.later HB.out) HD.out hbl
                have z1 : decide ((b : Int) < (n : Int)) = true := by simp; omega
                cases hfr : freeB L S b with
                | true =>
                  rw [hfr] at hcall
                  have HNO := Lib.hid hno; have HCALL := Lib.hid hcall; have HFR := Lib.hid hfr; clear hno hcall hfr
                  go_wp2_with fail
                  refine HCALL.out.mono ?_
                  rintro e w5 ⟨rfl, rfl⟩
                  go_wp2
                  go_roundw
                  case rel => exact .inr ⟨b, hbl, rfl, rfl, HFR.out, HNO.out, trivial⟩
                  case measure => simp [intOf]; omega
                | false =>
                  rw [hfr] at hcall
                  have hno2 : ∀ x, x < b + 1 → freeB L S x = false := fun x hx => by
                    by_cases h : x = b
                    · subst h; exact hfr
                    · exact hno x (by omega)
                  have HNO := Lib.hid hno; have HCALL := Lib.hid hcall; have HFR := Lib.hid hfr; have HNO2 := Lib.hid hno2; clear hno hcall hfr hno2
                  go_wp2_with fail
                  refine HCALL.out.mono ?_
                  rintro e w5 ⟨rfl, rfl⟩
                  go_wp2
                  go_roundw
                  case rel => exact .inl ⟨b + 1, by omega, rfl, by go_num, HNO2.out, trivial⟩
                  case measure => simp [intOf]; omega
              · obtain rfl : b = n := by omega
                have hnone : (goO b L (b - l.length) (setL l)).map (l ++ ·) = none := by
                  rw [HRES.out]
                  obtain ⟨f', rfl⟩ : ∃ f', f = f' + 1 := ⟨f - 1, by omega⟩
                  have : fstF (freeB L S) b = b := (fstF_none _ _).2 hno
                  rw [goO, if_neg (by omega)]; rfl
                have HNO := Lib.hid hno; have HNONE := Lib.hid hnone; clear hno hnone
                go_wp2
                go_ret2
                exact ⟨(fun l2 h2 => by rw [HNONE.out] at h2; cases h2), fun _ => rfl, HB.out⟩
            · have y1 : (0 : Int) ≤ (x : Int) := by omega
              have y2 : (x : Int) < (n : Int) := by omega
              have y3 : ¬ (x : Int) < 0 := by omega
              have y4 : decide ((x : Int) < 0) = false := by simp
              have hstep : (goO n L (n - l.length) (setL l)).map (l ++ ·) = (goO n L (f - 1) (S ||| 2 ^ x)).map ((acc ++ [(x : Int)]) ++ ·) := by
                rw [HRES.out]
                obtain ⟨f', rfl⟩ : ∃ f', f = f' + 1 := ⟨f - 1, by omega⟩
                have hfx : fstF (freeB L S) n = x := fstF_eq hxn hx hno
                rw [goO, if_pos (by omega), hfx, Option.map_map]
                congr 1
                funext m
                simp
              by_cases hx1 : x + 1 < n
              · have z1 : decide ((x : Int) + 1 < (n : Int)) = true := by simp; omega
                have HX := Lib.hid hx; have HNO := Lib.hid hno; have HSTEP := Lib.hid hstep; clear hx hno hstep
                go_upto_region 17 with (at_builtin; go_must (refine wpList_app1_Tryd rfl _ _ rfl (w.heap.size + 1) (.slice OA acc.length OC) acc rfl (HOWN.out.alloc _) wr.heap.size (x : Int) rfl (heap_alloc_new _ _) (by omega) (by have := HD.out.lt; simp; omega) ?_); intro g cap w6 hown6 hgrow hat6 hlt6)
                have hvl := HOWN.out.lt
                have hD6 : BoB w6 w.heap.size n fun a => S.testBit a := (hgrow.block _ (by have := HD.out.lt; simp; omega) (fun h => by have := (hvl _ h.symm).1; omega)).trans ((Below.heap_alloc _ _ _ HD.out.lt).trans HD.out)
                have hb6 : Below w.heap.size w w6 := (HB.out.alloc HB.out.size _).grown hgrow (by have := HB.out.size; simp; omega) (fun k hk => by have := (hvl k hk).1; omega)
                have e1 := hD6.at_ hxn
                have e2 := hD6.free x
                have q1 : BoB (w6.setCell ⟨w.heap.size, x, none⟩ (.bool true)) w.heap.size n (fun a => (S ||| 2 ^ x).testBit a) := (hD6.put x true).congr fun a _ => by
                  rw [testBit_set]
                  by_cases h : a = x
                  · subst h; simp
                  · simp [h, Ne.symm h]
                have q2 : Below w.heap.size w (w6.setCell ⟨w.heap.size, x, none⟩ (.bool true)) := hb6.setCell (p := ⟨w.heap.size, x, none⟩) (Nat.le_refl _) _
                have q3 : (w6.setCell ⟨w.heap.size, x, none⟩ (.bool true)).ownsRow (w.heap.size + 1) 3 1 (.slice (some ⟨g, 0, none⟩) (acc.length + 1) cap) (acc ++ [(x : Int)]).length (ints (acc ++ [(x : Int)])) := ownsRow_setCell_below hown6 (by show w.heap.size < w.heap.size + 1; omega) _
                clear hvl hgrow hat6 hown6
                generalize S.testBit x = bb at *
                have HD6 := Lib.hid hD6; have HB6 := Lib.hid hb6; have Q1 := Lib.hid q1; have Q2 := Lib.hid q2; have Q3 := Lib.hid q3; clear hD6 hb6 q1 q2 q3
                go_wp2
                go_roundw
                case rel => exact ⟨acc ++ [(x : Int)], S ||| 2 ^ x, f - 1, by simp; omega, HSTEP.out, Q1.out, Q3.out, Q2.out⟩
                case measure => simp [slLen]; omega
              · have z1 : decide ((x : Int) + 1 < (n : Int)) = false := by simp; omega
                have HX := Lib.hid hx; have HNO := Lib.hid hno; have HSTEP := Lib.hid hstep; clear hx hno hstep
                go_upto_region 17 with (at_builtin; go_must (refine wpList_app1_Tryd rfl _ _ rfl (w.heap.size + 1) (.slice OA acc.length OC) acc rfl (HOWN.out.alloc _) wr.heap.size (x : Int) rfl (heap_alloc_new _ _) (by omega) (by have := HD.out.lt; simp; omega) ?_); intro g cap w6 hown6 hgrow hat6 hlt6)
                have hvl := HOWN.out.lt
                have hD6 : BoB w6 w.heap.size n fun a => S.testBit a := (hgrow.block _ (by have := HD.out.lt; simp; omega) (fun h => by have := (hvl _ h.symm).1; omega)).trans ((Below.heap_alloc _ _ _ HD.out.lt).trans HD.out)
                have hb6 : Below w.heap.size w w6 := (HB.out.alloc HB.out.size _).grown hgrow (by have := HB.out.size; simp; omega) (fun k hk => by have := (hvl k hk).1; omega)
                have e1 := hD6.at_ hxn
                have e2 := hD6.free x
                have q1 : BoB (w6.setCell ⟨w.heap.size, x, none⟩ (.bool true)) w.heap.size n (fun a => (S ||| 2 ^ x).testBit a) := (hD6.put x true).congr fun a _ => by
                  rw [testBit_set]
                  by_cases h : a = x
                  · subst h; simp
                  · simp [h, Ne.symm h]
                have q2 : Below w.heap.size w (w6.setCell ⟨w.heap.size, x, none⟩ (.bool true)) := hb6.setCell (p := ⟨w.heap.size, x, none⟩) (Nat.le_refl _) _
                have q3 : (w6.setCell ⟨w.heap.size, x, none⟩ (.bool true)).ownsRow (w.heap.size + 1) 3 1 (.slice (some ⟨g, 0, none⟩) (acc.length + 1) cap) (acc ++ [(x : Int)]).length (ints (acc ++ [(x : Int)])) := ownsRow_setCell_below hown6 (by show w.heap.size < w.heap.size + 1; omega) _
                clear hvl hgrow hat6 hown6
                generalize S.testBit x = bb at *
                have HD6 := Lib.hid hD6; have HB6 := Lib.hid hb6; have Q1 := Lib.hid q1; have Q2 := Lib.hid q2; have Q3 := Lib.hid q3; clear hD6 hb6 q1 q2 q3
                go_wp2
                go_roundw
                case rel => exact ⟨acc ++ [(x : Int)], S ||| 2 ^ x, f - 1, by simp; omega, HSTEP.out, Q1.out, Q3.out, Q2.out⟩
                case measure => simp [slLen]; omega
        · obtain rfl : f = 0 := by omega
          have hfin : (goO n L (n - l.length) (setL l)).map (l ++ ·) = some acc := by rw [hres]; show some (acc ++ []) = _; rw [List.append_nil]
          have hown2 := hown
          have HRES := Lib.hid hres; have HD := Lib.hid hD; have HOWN := Lib.hid hown; have HB := Lib.hid hb; have HFIN := Lib.hid hfin; have HOWN2 := Lib.hid hown2; clear hres hD hown hb hfin hown2
          go_wp2
          go_ret2
          exact ⟨(fun l2 h2 => by rw [HFIN.out] at h2; cases h2; exact ⟨.slice OA acc.length OC, rfl, ⟨OA, OC, rfl, by omega, own_rd HOWN2.out⟩, capOk_own HOWN2.out⟩), (fun h => by rw [HFIN.out] at h; cases h), HB.out⟩
end Go.Proofs.YtlpfecjkkgccgaaDoor
/- The reference's Least, Respects. -/
namespace Go.Proofs.YtlpfecjkkgccgaaDoor
open Go.RowKit

set_option maxRecDepth 100000 in
set_option maxHeartbeats 4000000 in
theorem rLeast13_ (p : Int) (A Wa : Option Addr) (c wc : Nat) (ws : List GW) (wl : List (Int × Int)) (w : World) (ha : ShIn w p A ws) (hl : RdP w Wa wl) :
    Calls Tryd.prog 12 #[.agg #[.int .i64 p, .slice A ws.length c], .slice Wa wl.length wc] w (ListPostC (lstL p ws wl) (lstX p ws wl) w) := by
  have hb2 : Below w.heap.size w (w.alloc (.cells #[.int .i64 p, .slice A ws.length c] 24)) := (Below.refl _ _).alloc (Nat.le_refl _) _
  have Y0 := Lib.hid hb2; clear hb2
  have X0 := Lib.hid (Box1.made w p A c ws.length 24)
  have HA := Lib.hid ha; have HL := Lib.hid hl; clear ha hl
  go_enter Tryd.func12, Tryd.ntmps12
  go_wp2_with fail
  refine (rWishes_ p A Wa c wc ws wl _ (HA.out.later Y0.out (Nat.le_refl _)) (HL.out.later Y0.out (Nat.le_refl _))).mono ?_
  rintro e w1 ⟨rfl, hb1⟩
  have X1 := Lib.hid (X0.out.later hb1); have Y1 := Lib.hid (Y0.out.trans (hb1.mono Y0.out.size)); clear hb1; obtain ⟨c1, c2, s1⟩ := X1.out
  by_cases he : errO p ws wl = 0
  rotate_left
  · have hx : lstX p ws wl = errO p ws wl := by unfold lstX; rw [if_neg he]
    have hv : lstL p ws wl = [] := by unfold lstL; rw [if_neg he]
    have heb : (errO p ws wl != 0) = true := by simpa using he
    generalize errO p ws wl = E at *
    have HE := Lib.hid he; have HX := Lib.hid hx; have HV := Lib.hid hv; clear he hx hv
    go_wp2
    go_ret2
    exact ⟨.slice none 0 0, by rw [HX.out]; rfl, by rw [HV.out]; exact RdV.nil _, (Nat.le_refl 0 : capOk (.slice none 0 0)), Y1.out⟩
  have hx : lstX p ws wl = if (lstO ws wl).isSome = true then 0 else 130 := by unfold lstX; rw [if_pos he]
  have hv : lstL p ws wl = (lstO ws wl).getD [] := by unfold lstL; rw [if_pos he]
  have hn4 : ws.length ≤ 400 := by have := (okAll (errO_zero he).1).2.2.1; omega
  have hpl : ∀ x ∈ ws, 0 ≤ x.pl ∧ x.pl ≤ 22 := fun x hx => by
    obtain ⟨_, hp, _, hall⟩ := okAll (errO_zero he).1
    have := hall x hx
    omega
  rw [he]
  have HE := Lib.hid he; have HX := Lib.hid hx; have HV := Lib.hid hv; have HPL := Lib.hid hpl; clear he hx hv hpl
  go_wp2_with fail
  refine (rTable_ p A Wa c wc ws wl w1 (HA.out.rd.later Y1.out (Nat.le_refl _)) HPL.out (HL.out.later Y1.out (Nat.le_refl _)) hn4).mono ?_
  rintro e w2 ⟨TA, tc, rfl, hM, hb12⟩
  have Y2 := Lib.hid (Y1.out.trans (hb12.mono Y1.out.size))
  clear c1 c2 s1 hb12
  have HM := Lib.hid hM; clear hM
  go_wp2_with fail
  refine (rGoOn_ TA none tc ws.length 0 (LO ws wl) (tblM ws wl) [] w2 hn4 (LO_tbl ws wl) HM.out (rdI_nil _) (Nat.zero_le _) (fun x hx => by cases hx)).mono ?_
  rw [opt_nil]
  show ∀ e w, GoPost (lstO ws wl) w2 e w → _
  rintro e w3 ⟨h1, h2, hb1⟩
  cases hr2 : lstO ws wl with
  | none =>
    obtain rfl := h2 hr2
    clear h1 h2
    have Y3 := Lib.hid (Y2.out.trans (hb1.mono Y2.out.size)); clear hb1
    have HR2 := Lib.hid hr2; clear hr2
    go_wp2
    go_ret2
    refine ⟨.slice none 0 0, ?_, by rw [HV.out, HR2.out]; exact RdV.nil _, (Nat.le_refl 0 : capOk (.slice none 0 0)), Y3.out⟩
    rw [HX.out, HR2.out]; rfl
  | some l =>
    obtain ⟨v, rfl, hw⟩ := h1 l hr2
    clear h1 h2
    have Y3 := Lib.hid (Y2.out.trans (hb1.mono Y2.out.size)); clear hb1
    have HR2 := Lib.hid hr2; have HW := Lib.hid hw; clear hr2 hw
    go_wp2
    go_ret2
    refine ⟨_, ?_, by rw [HV.out, HR2.out]; exact HW.out.1, HW.out.2, Y3.out⟩
    rw [HX.out, HR2.out]; rfl
set_option maxRecDepth 100000 in
set_option maxHeartbeats 4000000 in
theorem rRespects_ (p : Int) (A Wa B : Option Addr) (c wc lc : Nat) (ws : List GW) (wl : List (Int × Int)) (l : List Int) (w : World) (hrd : RdW w A ws) (hpl : ∀ x ∈ ws, 0 ≤ x.pl ∧ x.pl ≤ 22) (hn : ws.length ≤ 400) (hl : RdP w Wa wl) (ho : RdI w B l) :
    Calls Tryd.prog 21 #[.agg #[.int .i64 p, .slice A ws.length c], .slice Wa wl.length wc, .slice B l.length lc] w fun e w' => e = .returned (.bool (ordB ws.length (LO ws wl) l)) ∧ Below w.heap.size w w' := by
  have hb2 : Below w.heap.size w (w.alloc (.cells #[.int .i64 p, .slice A ws.length c] 24)) := (Below.refl _ _).alloc (Nat.le_refl _) _
  have Y0 := Lib.hid hb2; clear hb2
  have X0 := Lib.hid (Box1.made w p A c ws.length 24)
  have hln := ho.1
  have hwn := hl.1
  have HRD := Lib.hid hrd; have HL := Lib.hid hl; have HO := Lib.hid ho; have HPL := Lib.hid hpl; clear hrd hl ho hpl
  go_enter Tryd.func21, Tryd.ntmps21
  obtain ⟨c1, c2, s1⟩ := X0.out
  by_cases hlen : l.length = ws.length
  rotate_left
  · have hr : ordB ws.length (LO ws wl) l = false := by unfold ordB; simp [hlen]
    have z1 : ((l.length : Int) != (ws.length : Int)) = true := by simp; omega
    have HR := Lib.hid hr; clear hr
    go_wp2
    go_ret
    exact ⟨by rw [HR.out]; rfl, Y0.out⟩
  have z1 : ((l.length : Int) != (ws.length : Int)) = false := by simp [hlen]
  have hlen2 : l.length ≤ ws.length ∧ ws.length ≤ l.length := by omega
  have HLEN := Lib.hid hlen; clear hlen
  go_wp2_with fail
  have hlr := HRD.out.later Y0.out (Nat.le_refl _)
  have hlw := HL.out.later Y0.out (Nat.le_refl _)
  generalize w.alloc (.cells #[.int .i64 p, .slice A ws.length c] 24) = w1 at *
  refine (rTable_ p A Wa c wc ws wl w1 hlr HPL.out hlw hn).mono ?_
  rintro e w2 ⟨TA, tc, rfl, hM, hb12⟩
  have Y2 := Lib.hid (Y0.out.trans (hb12.mono Y0.out.size))
  have hmk := run_make_row' (P := Tryd.prog) 84 4 (.bool false) 1 Tryd.underlying84 infoB_Tryd rfl .i64 .i64 l.length (by omega) (by omega)
  have hm0 := BoB.made w2 l.length
  have hb2 : Below w2.heap.size w2 (w2.alloc (.cells (madeCells #[.bool false] l.length) 4)) := (Below.refl _ _).alloc (Nat.le_refl _) _
  clear c1 c2 s1 hb12 z1 hlr hlw
  have HM := Lib.hid hM; have HM0 := Lib.hid hm0; have HB2 := Lib.hid hb2; clear hM hm0 hb2
  go_wp2
  clear hmk
  generalize w2.alloc (.cells (madeCells #[.bool false] l.length) 4) = w3 at *
  go_loopw [9] (fun iv wr => ∃ (i S : Nat), iv = .int .i64 i ∧ i ≤ l.length ∧ pRun ws.length (LO ws wl) 0 (l.take i) = some S ∧ BoB wr w2.heap.size l.length (fun a => S.testBit a) ∧ Below w2.heap.size w2 wr) (fun iv _ => l.length - (intOf iv).toNat)
  case atStart => exact ⟨0, 0, rfl, Nat.zero_le _, rfl, HM0.out.congr fun a _ => by simp, HB2.out⟩
  case round =>
    clear HM0 HB2
    obtain ⟨i, S, rfl, hi, hrun, hD, hb⟩ := hrel
    have hbW := Y2.out.trans (hb.mono Y2.out.size)
    by_cases hlt : i < l.length
    · obtain ⟨bl, ol, rfl, hbl, l1⟩ := (HO.out.later hbW (Nat.le_refl _)).at_ hlt
      have x1 : (0 : Int) ≤ (i : Int) := by omega
      have x2 : (i : Int) < (l.length : Int) := by omega
      have hbad : pStep ws.length (LO ws wl) S l[i] = none → ordB ws.length (LO ws wl) l = false := fun h => by
        unfold ordB
        rw [run_stop hlt hrun h, Bool.and_false]
      have hgood := fun T => run_on (T := T) hlt hrun
      generalize l[i] = x at *
      by_cases n1 : x < 0
      · have hr := hbad (by unfold pStep; rw [if_neg (by omega)])
        have f1 : decide (x < 0) = true := by simpa using n1
        clear hbad hgood
        have HRUN := Lib.hid hrun; have HD := Lib.hid hD; have HB := Lib.hid hb; have HBW := Lib.hid hbW; have HR := Lib.hid hr; clear hrun hD hb hbW hr
        go_wp2
        go_ret
        exact ⟨by rw [HR.out]; rfl, HBW.out⟩
      have f1 : decide (x < 0) = false := by simpa using n1
      by_cases n2 : (l.length : Int) ≤ x
      · have hr := hbad (by unfold pStep; rw [if_neg (by omega)])
        have f2 : decide ((l.length : Int) ≤ x) = true := by simpa using n2
        clear hbad hgood
        have HRUN := Lib.hid hrun; have HD := Lib.hid hD; have HB := Lib.hid hb; have HBW := Lib.hid hbW; have HR := Lib.hid hr; clear hrun hD hb hbW hr
        go_wp2
        go_ret
        exact ⟨by rw [HR.out]; rfl, HBW.out⟩
      obtain ⟨y, rfl⟩ := Int.eq_ofNat_of_zero_le (show 0 ≤ x by omega)
      have hyn : y < ws.length := by omega
      have hyl : y < l.length := by omega
      have f2 : decide ((l.length : Int) ≤ (y : Int)) = false := by simp; omega
      have f3 : decide (l.length ≤ y) = false := by simp; omega
      have hcall := rfree_ TA tc w2.heap.size l.length ws.length y S (LO ws wl) (tblM ws wl) wr hn (LO_tbl ws wl y) (HM.out.later hb) (by have := HLEN.out; rw [← this]; exact hD) hyn
      rw [show (Value.slice (some ⟨w2.heap.size, 0, none⟩) ws.length l.length) = Value.slice (some ⟨w2.heap.size, 0, none⟩) l.length l.length by rw [HLEN.out]] at hcall
      cases hfr : freeB (LO ws wl) S y with
      | false =>
        have hr := hbad (by unfold pStep; rw [if_neg]; rintro ⟨_, _, h⟩; rw [Int.toNat_natCast, hfr] at h; cases h)
        rw [hfr] at hcall
        clear hbad hgood
        have HRUN := Lib.hid hrun; have HD := Lib.hid hD; have HB := Lib.hid hb; have HBW := Lib.hid hbW; have HR := Lib.hid hr; have HFR := Lib.hid hfr; have HCALL := Lib.hid hcall; clear hrun hD hb hbW hr hfr hcall
        go_wp2_with fail
        refine HCALL.out.mono ?_
        rintro e w5 ⟨rfl, rfl⟩
        go_wp2
        go_ret
        exact ⟨by rw [HR.out]; rfl, HBW.out⟩
      | true =>
        have hrun2 := hgood _ (pStep_nat hyn hfr)
        rw [hfr] at hcall
        clear hbad hgood
        have HRUN := Lib.hid hrun; have HD := Lib.hid hD; have HB := Lib.hid hb; have HBW := Lib.hid hbW; have HFR := Lib.hid hfr; have HCALL := Lib.hid hcall; have HRUN2 := Lib.hid hrun2; clear hrun hD hb hbW hfr hcall hrun2
        go_wp2_with fail
        refine HCALL.out.mono ?_
        rintro e w5 ⟨rfl, rfl⟩
        have e1 := HD.out.at_ hyl
        have e2 := HD.out.free y
        have q1 : BoB (wr.setCell ⟨w2.heap.size, y, none⟩ (.bool true)) w2.heap.size l.length (fun a => (S ||| 2 ^ y).testBit a) := (HD.out.put y true).congr fun a _ => by
          rw [testBit_set]
          by_cases h : a = y
          · subst h; simp
          · simp [h, Ne.symm h]
        have q2 : Below w2.heap.size w2 (wr.setCell ⟨w2.heap.size, y, none⟩ (.bool true)) := HB.out.setCell (p := ⟨w2.heap.size, y, none⟩) (Nat.le_refl _) _
        generalize S.testBit y = bb at *
        have Q1 := Lib.hid q1; have Q2 := Lib.hid q2; clear q1 q2
        go_wp2
        go_roundw
        case rel => exact ⟨i + 1, _, by go_num, by omega, HRUN2.out, Q1.out, Q2.out⟩
        case measure => simp [intOf]; omega
    · obtain rfl : i = l.length := by omega
      rw [List.take_length] at hrun
      have hr : ordB ws.length (LO ws wl) l = true := by unfold ordB; rw [hrun, decide_eq_true HLEN.out]; rfl
      have HRUN := Lib.hid hrun; have HD := Lib.hid hD; have HB := Lib.hid hb; have HBW := Lib.hid hbW; have HR := Lib.hid hr; clear hrun hD hb hbW hr
      go_wp2
      go_ret
      exact ⟨by rw [HR.out]; rfl, HBW.out⟩
end Go.Proofs.YtlpfecjkkgccgaaDoor
/- The reference's from: how far the works are from one. -/
namespace Go.Proofs.YtlpfecjkkgccgaaDoor
open Go.RowKit

/-- In round k + 1, before work a. -/
def curK (n : Nat) (L : Nat → Nat) (g k a x : Nat) : Nat := if x < a then farK n L g (k + 1) x else farK n L g k x
theorem curK_hop {n : Nat} {L : Nat → Nat} {g k a x : Nat} (hk : k ≠ 0) : curK n L g k a x = k ↔ farK n L g k x = k := by
  unfold curK
  split
  · rw [farK]
    split
    · exact Iff.rfl
    · rename_i h
      have h0 : farK n L g k x = 0 := by omega
      rw [h0]
      split <;> omega
  · exact Iff.rfl
/-- What the way back is, of a matrix. -/
theorem hop_mat {n : Nat} {L : Nat → Nat} {M : Nat → Nat → Bool} {g k a b : Nat} {F : Nat → Nat} (hL : ∀ b a, (L b).testBit a = (decide (a < n) && M b a)) (ha : a < n) : hopB L g k F a b = (M b a && (if k = 0 then decide (b = g) else decide (b ≠ g ∧ F b = k))) := by
  unfold hopB
  rw [hL b a, decide_eq_true ha, Bool.true_and]
theorem farK_next {n : Nat} {L : Nat → Nat} {g k a : Nat} (h0 : farK n L g k a = 0) : (∀ x, x < n → hopB L g k (farK n L g k) a x = false) → farK n L g (k + 1) a = 0 := fun h => by
  rw [farK, if_neg (by omega), if_neg]
  rw [(fstF_none _ _).2 h]; omega
theorem farK_next1 {n : Nat} {L : Nat → Nat} {g k a b : Nat} (h0 : farK n L g k a = 0) (hb : b < n) (h : hopB L g k (farK n L g k) a b = true) : farK n L g (k + 1) a = k + 1 := by
  rw [farK, if_neg (by omega), if_pos (fstF_some hb h).1]
def FFR (TA : Option Addr) (n tc g D : Nat) (a : Act) : Prop := a.tmps.size = 131 ∧ a.defers = [] ∧ a.tmps.getD 0 undef = .slice TA n tc ∧ a.tmps.getD 1 undef = .int .i64 (g : Int) ∧ a.tmps.getD 5 undef = .slice (some ⟨D, 0, none⟩) n n
theorem FFR.opn {TA : Option Addr} {n tc g D : Nat} {a : Act} (h : FFR TA n tc g D a) : ∃ f : Nat → Value, a = { tmps := #[.slice TA n tc, .int .i64 (g : Int), f 2, f 3, f 4, .slice (some ⟨D, 0, none⟩) n n, f 6, f 7, f 8, f 9, f 10, f 11, f 12, f 13, f 14, f 15, f 16, f 17, f 18, f 19, f 20, f 21, f 22, f 23, f 24, f 25, f 26, f 27, f 28, f 29, f 30, f 31, f 32, f 33, f 34, f 35, f 36, f 37, f 38, f 39, f 40, f 41, f 42, f 43, f 44, f 45, f 46, f 47, f 48, f 49, f 50, f 51, f 52, f 53, f 54, f 55, f 56, f 57, f 58, f 59, f 60, f 61, f 62, f 63, f 64, f 65, f 66, f 67, f 68, f 69, f 70, f 71, f 72, f 73, f 74, f 75, f 76, f 77, f 78, f 79, f 80, f 81, f 82, f 83, f 84, f 85, f 86, f 87, f 88, f 89, f 90, f 91, f 92, f 93, f 94, f 95, f 96, f 97, f 98, f 99, f 100, f 101, f 102, f 103, f 104, f 105, f 106, f 107, f 108, f 109, f 110, f 111, f 112, f 113, f 114, f 115, f 116, f 117, f 118, f 119, f 120, f 121, f 122, f 123, f 124, f 125, f 126, f 127, f 128, f 129, f 130], defers := [] } := by
  obtain ⟨hs, hd, g0, g1, g5⟩ := h
  obtain ⟨t, d⟩ := a
  dsimp only at *
  have e := arr_range t 131 hs
  generalize hf : (fun i => t.getD i undef) = f at e
  have k : ∀ i, t.getD i undef = f i := fun i => congrFun hf i
  rw [k] at g0 g1 g5
  refine ⟨f, ?_⟩
  rw [hd, e]
  congr 1
  show #[f 0, f 1, f 2, f 3, f 4, f 5, f 6, f 7, f 8, f 9, f 10, f 11, f 12, f 13, f 14, f 15, f 16, f 17, f 18, f 19, f 20, f 21, f 22, f 23, f 24, f 25, f 26, f 27, f 28, f 29, f 30, f 31, f 32, f 33, f 34, f 35, f 36, f 37, f 38, f 39, f 40, f 41, f 42, f 43, f 44, f 45, f 46, f 47, f 48, f 49, f 50, f 51, f 52, f 53, f 54, f 55, f 56, f 57, f 58, f 59, f 60, f 61, f 62, f 63, f 64, f 65, f 66, f 67, f 68, f 69, f 70, f 71, f 72, f 73, f 74, f 75, f 76, f 77, f 78, f 79, f 80, f 81, f 82, f 83, f 84, f 85, f 86, f 87, f 88, f 89, f 90, f 91, f 92, f 93, f 94, f 95, f 96, f 97, f 98, f 99, f 100, f 101, f 102, f 103, f 104, f 105, f 106, f 107, f 108, f 109, f 110, f 111, f 112, f 113, f 114, f 115, f 116, f 117, f 118, f 119, f 120, f 121, f 122, f 123, f 124, f 125, f 126, f 127, f 128, f 129, f 130] = _
  rw [g0, g1, g5]
def FFN (TA : Option Addr) (n tc g D k : Nat) (a : Act) : Prop := a.tmps.size = 131 ∧ a.defers = [] ∧ a.tmps.getD 0 undef = .slice TA n tc ∧ a.tmps.getD 1 undef = .int .i64 (g : Int) ∧ a.tmps.getD 5 undef = .slice (some ⟨D, 0, none⟩) n n ∧ a.tmps.getD 6 undef = .int .i64 ((k : Int) + 1)
theorem FFN.opn {TA : Option Addr} {n tc g D k : Nat} {a : Act} (h : FFN TA n tc g D k a) : ∃ f : Nat → Value, a = { tmps := #[.slice TA n tc, .int .i64 (g : Int), f 2, f 3, f 4, .slice (some ⟨D, 0, none⟩) n n, .int .i64 ((k : Int) + 1), f 7, f 8, f 9, f 10, f 11, f 12, f 13, f 14, f 15, f 16, f 17, f 18, f 19, f 20, f 21, f 22, f 23, f 24, f 25, f 26, f 27, f 28, f 29, f 30, f 31, f 32, f 33, f 34, f 35, f 36, f 37, f 38, f 39, f 40, f 41, f 42, f 43, f 44, f 45, f 46, f 47, f 48, f 49, f 50, f 51, f 52, f 53, f 54, f 55, f 56, f 57, f 58, f 59, f 60, f 61, f 62, f 63, f 64, f 65, f 66, f 67, f 68, f 69, f 70, f 71, f 72, f 73, f 74, f 75, f 76, f 77, f 78, f 79, f 80, f 81, f 82, f 83, f 84, f 85, f 86, f 87, f 88, f 89, f 90, f 91, f 92, f 93, f 94, f 95, f 96, f 97, f 98, f 99, f 100, f 101, f 102, f 103, f 104, f 105, f 106, f 107, f 108, f 109, f 110, f 111, f 112, f 113, f 114, f 115, f 116, f 117, f 118, f 119, f 120, f 121, f 122, f 123, f 124, f 125, f 126, f 127, f 128, f 129, f 130], defers := [] } := by
  obtain ⟨hs, hd, g0, g1, g5, g6⟩ := h
  obtain ⟨t, d⟩ := a
  dsimp only at *
  have e := arr_range t 131 hs
  generalize hf : (fun i => t.getD i undef) = f at e
  have k : ∀ i, t.getD i undef = f i := fun i => congrFun hf i
  rw [k] at g0 g1 g5 g6
  refine ⟨f, ?_⟩
  rw [hd, e]
  congr 1
  show #[f 0, f 1, f 2, f 3, f 4, f 5, f 6, f 7, f 8, f 9, f 10, f 11, f 12, f 13, f 14, f 15, f 16, f 17, f 18, f 19, f 20, f 21, f 22, f 23, f 24, f 25, f 26, f 27, f 28, f 29, f 30, f 31, f 32, f 33, f 34, f 35, f 36, f 37, f 38, f 39, f 40, f 41, f 42, f 43, f 44, f 45, f 46, f 47, f 48, f 49, f 50, f 51, f 52, f 53, f 54, f 55, f 56, f 57, f 58, f 59, f 60, f 61, f 62, f 63, f 64, f 65, f 66, f 67, f 68, f 69, f 70, f 71, f 72, f 73, f 74, f 75, f 76, f 77, f 78, f 79, f 80, f 81, f 82, f 83, f 84, f 85, f 86, f 87, f 88, f 89, f 90, f 91, f 92, f 93, f 94, f 95, f 96, f 97, f 98, f 99, f 100, f 101, f 102, f 103, f 104, f 105, f 106, f 107, f 108, f 109, f 110, f 111, f 112, f 113, f 114, f 115, f 116, f 117, f 118, f 119, f 120, f 121, f 122, f 123, f 124, f 125, f 126, f 127, f 128, f 129, f 130] = _
  rw [g0, g1, g5, g6]
def FFA (TA : Option Addr) (n tc g D k x : Nat) (a : Act) : Prop := a.tmps.size = 131 ∧ a.defers = [] ∧ a.tmps.getD 0 undef = .slice TA n tc ∧ a.tmps.getD 1 undef = .int .i64 (g : Int) ∧ a.tmps.getD 5 undef = .slice (some ⟨D, 0, none⟩) n n ∧ a.tmps.getD 6 undef = .int .i64 ((k : Int) + 1) ∧ a.tmps.getD 7 undef = .int .i64 (x : Int)
theorem FFA.opn {TA : Option Addr} {n tc g D k x : Nat} {a : Act} (h : FFA TA n tc g D k x a) : ∃ f : Nat → Value, a = { tmps := #[.slice TA n tc, .int .i64 (g : Int), f 2, f 3, f 4, .slice (some ⟨D, 0, none⟩) n n, .int .i64 ((k : Int) + 1), .int .i64 (x : Int), f 8, f 9, f 10, f 11, f 12, f 13, f 14, f 15, f 16, f 17, f 18, f 19, f 20, f 21, f 22, f 23, f 24, f 25, f 26, f 27, f 28, f 29, f 30, f 31, f 32, f 33, f 34, f 35, f 36, f 37, f 38, f 39, f 40, f 41, f 42, f 43, f 44, f 45, f 46, f 47, f 48, f 49, f 50, f 51, f 52, f 53, f 54, f 55, f 56, f 57, f 58, f 59, f 60, f 61, f 62, f 63, f 64, f 65, f 66, f 67, f 68, f 69, f 70, f 71, f 72, f 73, f 74, f 75, f 76, f 77, f 78, f 79, f 80, f 81, f 82, f 83, f 84, f 85, f 86, f 87, f 88, f 89, f 90, f 91, f 92, f 93, f 94, f 95, f 96, f 97, f 98, f 99, f 100, f 101, f 102, f 103, f 104, f 105, f 106, f 107, f 108, f 109, f 110, f 111, f 112, f 113, f 114, f 115, f 116, f 117, f 118, f 119, f 120, f 121, f 122, f 123, f 124, f 125, f 126, f 127, f 128, f 129, f 130], defers := [] } := by
  obtain ⟨hs, hd, g0, g1, g5, g6, g7⟩ := h
  obtain ⟨t, d⟩ := a
  dsimp only at *
  have e := arr_range t 131 hs
  generalize hf : (fun i => t.getD i undef) = f at e
  have k : ∀ i, t.getD i undef = f i := fun i => congrFun hf i
  rw [k] at g0 g1 g5 g6 g7
  refine ⟨f, ?_⟩
  rw [hd, e]
  congr 1
  show #[f 0, f 1, f 2, f 3, f 4, f 5, f 6, f 7, f 8, f 9, f 10, f 11, f 12, f 13, f 14, f 15, f 16, f 17, f 18, f 19, f 20, f 21, f 22, f 23, f 24, f 25, f 26, f 27, f 28, f 29, f 30, f 31, f 32, f 33, f 34, f 35, f 36, f 37, f 38, f 39, f 40, f 41, f 42, f 43, f 44, f 45, f 46, f 47, f 48, f 49, f 50, f 51, f 52, f 53, f 54, f 55, f 56, f 57, f 58, f 59, f 60, f 61, f 62, f 63, f 64, f 65, f 66, f 67, f 68, f 69, f 70, f 71, f 72, f 73, f 74, f 75, f 76, f 77, f 78, f 79, f 80, f 81, f 82, f 83, f 84, f 85, f 86, f 87, f 88, f 89, f 90, f 91, f 92, f 93, f 94, f 95, f 96, f 97, f 98, f 99, f 100, f 101, f 102, f 103, f 104, f 105, f 106, f 107, f 108, f 109, f 110, f 111, f 112, f 113, f 114, f 115, f 116, f 117, f 118, f 119, f 120, f 121, f 122, f 123, f 124, f 125, f 126, f 127, f 128, f 129, f 130] = _
  rw [g0, g1, g5, g6, g7]
def FFB (TA : Option Addr) (n tc g D k x y : Nat) (a : Act) : Prop := a.tmps.size = 131 ∧ a.defers = [] ∧ a.tmps.getD 0 undef = .slice TA n tc ∧ a.tmps.getD 1 undef = .int .i64 (g : Int) ∧ a.tmps.getD 5 undef = .slice (some ⟨D, 0, none⟩) n n ∧ a.tmps.getD 6 undef = .int .i64 ((k : Int) + 1) ∧ a.tmps.getD 7 undef = .int .i64 (x : Int) ∧ a.tmps.getD 8 undef = .int .i64 (y : Int)
theorem FFB.opn {TA : Option Addr} {n tc g D k x y : Nat} {a : Act} (h : FFB TA n tc g D k x y a) : ∃ f : Nat → Value, a = { tmps := #[.slice TA n tc, .int .i64 (g : Int), f 2, f 3, f 4, .slice (some ⟨D, 0, none⟩) n n, .int .i64 ((k : Int) + 1), .int .i64 (x : Int), .int .i64 (y : Int), f 9, f 10, f 11, f 12, f 13, f 14, f 15, f 16, f 17, f 18, f 19, f 20, f 21, f 22, f 23, f 24, f 25, f 26, f 27, f 28, f 29, f 30, f 31, f 32, f 33, f 34, f 35, f 36, f 37, f 38, f 39, f 40, f 41, f 42, f 43, f 44, f 45, f 46, f 47, f 48, f 49, f 50, f 51, f 52, f 53, f 54, f 55, f 56, f 57, f 58, f 59, f 60, f 61, f 62, f 63, f 64, f 65, f 66, f 67, f 68, f 69, f 70, f 71, f 72, f 73, f 74, f 75, f 76, f 77, f 78, f 79, f 80, f 81, f 82, f 83, f 84, f 85, f 86, f 87, f 88, f 89, f 90, f 91, f 92, f 93, f 94, f 95, f 96, f 97, f 98, f 99, f 100, f 101, f 102, f 103, f 104, f 105, f 106, f 107, f 108, f 109, f 110, f 111, f 112, f 113, f 114, f 115, f 116, f 117, f 118, f 119, f 120, f 121, f 122, f 123, f 124, f 125, f 126, f 127, f 128, f 129, f 130], defers := [] } := by
  obtain ⟨hs, hd, g0, g1, g5, g6, g7, g8⟩ := h
  obtain ⟨t, d⟩ := a
  dsimp only at *
  have e := arr_range t 131 hs
  generalize hf : (fun i => t.getD i undef) = f at e
  have k : ∀ i, t.getD i undef = f i := fun i => congrFun hf i
  rw [k] at g0 g1 g5 g6 g7 g8
  refine ⟨f, ?_⟩
  rw [hd, e]
  congr 1
  show #[f 0, f 1, f 2, f 3, f 4, f 5, f 6, f 7, f 8, f 9, f 10, f 11, f 12, f 13, f 14, f 15, f 16, f 17, f 18, f 19, f 20, f 21, f 22, f 23, f 24, f 25, f 26, f 27, f 28, f 29, f 30, f 31, f 32, f 33, f 34, f 35, f 36, f 37, f 38, f 39, f 40, f 41, f 42, f 43, f 44, f 45, f 46, f 47, f 48, f 49, f 50, f 51, f 52, f 53, f 54, f 55, f 56, f 57, f 58, f 59, f 60, f 61, f 62, f 63, f 64, f 65, f 66, f 67, f 68, f 69, f 70, f 71, f 72, f 73, f 74, f 75, f 76, f 77, f 78, f 79, f 80, f 81, f 82, f 83, f 84, f 85, f 86, f 87, f 88, f 89, f 90, f 91, f 92, f 93, f 94, f 95, f 96, f 97, f 98, f 99, f 100, f 101, f 102, f 103, f 104, f 105, f 106, f 107, f 108, f 109, f 110, f 111, f 112, f 113, f 114, f 115, f 116, f 117, f 118, f 119, f 120, f 121, f 122, f 123, f 124, f 125, f 126, f 127, f 128, f 129, f 130] = _
  rw [g0, g1, g5, g6, g7, g8]
/-- The first part, behind the first two statements. -/
def fst3 : Code → Option Code
  | .seq _ (.seq _ (.seq c _)) => some c
  | _ => none
set_option maxRecDepth 100000 in
set_option maxHeartbeats 8000000 in
theorem rFromA_ (cd : Code) (hcd : Tryd.f34.body.bind fst3 = some cd) (TA : Option Addr) (tc n D g : Nat) (L : Nat → Nat) (M : Nat → Nat → Bool) (a' : Act) (w0 w : World) (Q : Exit → Act → World → Prop) (ha : FFR TA n tc g D a') (hn : n ≤ 400) (hg : g < n) (hL : ∀ b a, (L b).testBit a = (decide (a < n) && M b a)) (hM : MatB w0 TA n M) (hw0 : w0.heap.size ≤ D)
    (hD : IdB w D n fun _ => 0) (hbw : Below w0.heap.size w0 w) (hQ : ∀ a' W', FFR TA n tc g D a' → IdB W' D n (fun x => (farK n L g n x : Int)) → Below w0.heap.size w0 W' → Q .normal a' W') : cd.wp Tryd.prog Q a' w := by
  obtain rfl := Option.some.inj (hcd.symm.trans (rfl : _ = some _))
  clear hcd
  obtain ⟨f, rfl⟩ := ha.opn
  clear ha
  dsimp only
  have HM := Lib.hid hM; have HL := Lib.hid hL; have HQ := Lib.hid hQ; have HD := Lib.hid hD; have HBW := Lib.hid hbw; clear hM hL hQ hD hbw
  refine wp_seq_k fun K1 hK1 => ?_
  have HK1 := Lib.hid hK1; clear hK1
  go_wp2
  refine HK1.out _ _ ?_
  clear HK1
  refine wp_block ?_
  refine wp_loop (fun a wr => ∃ (k : Nat), FFN TA n tc g D k a ∧ k ≤ n ∧ IdB wr D n (fun x => (farK n L g k x : Int)) ∧ Below w0.heap.size w0 wr) (fun a _ => n + 1 - (intOf (a.tmps.getD 6 undef)).toNat) ?st1 ?rd1
  case st1 => exact ⟨0, ⟨rfl, rfl, rfl, rfl, rfl, rfl⟩, Nat.zero_le _, HD.out.eqv fun _ _ => rfl, HBW.out⟩
  case rd1 =>
    clear HD HBW
    rintro a wr ⟨k, hA, hk, hD, hbw⟩
    obtain ⟨f, rfl⟩ := hA.opn
    dsimp only
    by_cases hkn : k < n
    · have x1 : decide ((k : Int) + 1 ≤ (n : Int)) = true := by simp; omega
      have x2 : (k : Int) + 1 ≤ (n : Int) := by omega
      clear hA
      have HD := Lib.hid hD; have HBW := Lib.hid hbw; clear hD hbw
      refine wp_seq_k fun K1 hK1 => ?_
      have HK1 := Lib.hid hK1; clear hK1
      go_wp2
      refine HK1.out _ _ ?_
      clear HK1 x1 x2
      refine wp_seq_k fun KR hKR => ?_
      have HKR := Lib.hid hKR; clear hKR
      refine wp_block (wp_seq_k fun K1 hK1 => ?_)
      have HK1 := Lib.hid hK1; clear hK1
      go_wp2
      refine HK1.out _ _ ?_
      clear HK1
      refine wp_block ?_
      refine wp_loop (fun a' wr => ∃ (x : Nat), FFA TA n tc g D k x a' ∧ x ≤ n ∧ IdB wr D n (fun y => (curK n L g k x y : Int)) ∧ Below w0.heap.size w0 wr) (fun a' _ => n + 1 - (intOf (a'.tmps.getD 7 undef)).toNat) ?st2 ?rd2
      case st2 => exact ⟨0, ⟨rfl, rfl, rfl, rfl, rfl, rfl, rfl⟩, Nat.zero_le _, HD.out.eqv fun _ _ => by unfold curK; rw [if_neg (by omega)], HBW.out⟩
      case rd2 =>
        clear HD HBW
        rintro a' wr ⟨x, hA, hx, hD, hbw⟩
        obtain ⟨f, rfl⟩ := hA.opn
        dsimp only
        by_cases hxn : x < n
        · have x1 : decide ((x : Int) < (n : Int)) = true := by simp; omega
          have x2 : (x : Int) < (n : Int) := by omega
          clear hA
          have HD := Lib.hid hD; have HBW := Lib.hid hbw; clear hD hbw
          refine wp_seq_k fun K1 hK1 => ?_
          have HK1 := Lib.hid hK1; clear hK1
          go_wp2
          refine HK1.out _ _ ?_
          clear HK1 x1 x2
          refine wp_seq_k fun KA hKA => ?_
          have HKA := Lib.hid hKA; clear hKA
          refine wp_block (wp_seq_k fun K1 hK1 => ?_)
          have HK1 := Lib.hid hK1; clear hK1
          go_wp2
          refine HK1.out _ _ ?_
          clear HK1
          refine wp_block ?_
          refine wp_loop (fun a' wr => ∃ (y : Nat) (G : Nat → Nat), FFB TA n tc g D k x y a' ∧ y ≤ n ∧ IdB wr D n (fun z => (G z : Int)) ∧ (∀ z, z ≠ x → G z = curK n L g k x z) ∧ ((G x = 0 ∧ farK n L g k x = 0 ∧ ∀ z, z < y → hopB L g k (farK n L g k) x z = false) ∨ (G x ≠ 0 ∧ G x = farK n L g (k + 1) x)) ∧ Below w0.heap.size w0 wr) (fun a' _ => n + 1 - (intOf (a'.tmps.getD 8 undef)).toNat) ?st3 ?rd3
          case st3 =>
            refine ⟨0, curK n L g k x, ⟨rfl, rfl, rfl, rfl, rfl, rfl, rfl, rfl⟩, Nat.zero_le _, HD.out, fun _ _ => rfl, ?_, HBW.out⟩
            unfold curK
            rw [if_neg (by omega)]
            by_cases h : farK n L g k x = 0
            · exact .inl ⟨h, h, fun z hz => absurd hz (by omega)⟩
            · exact .inr ⟨h, (farK_stay h).symm⟩
          case rd3 =>
            clear HD HBW
            rintro a' wr ⟨y, G, hA, hy, hD, hG, hc, hbw⟩
            obtain ⟨f, rfl⟩ := hA.opn
            dsimp only
            have hend : (y = n ∨ G x ≠ 0) → ∀ z, z < n → G z = curK n L g k (x + 1) z := fun he z hz => by
              by_cases hzx : z = x
              · subst hzx
                unfold curK
                rw [if_pos (by omega)]
                rcases hc with ⟨h1, h2, h3⟩ | ⟨h1, h2⟩
                · rcases he with rfl | he
                  · rw [h1, farK_next h2 h3]
                  · exact absurd h1 he
                · exact h2
              · rw [hG z hzx]
                unfold curK
                by_cases h : z < x
                · rw [if_pos h, if_pos (by omega)]
                · rw [if_neg h, if_neg (by omega)]
            have e0 := hD.at_ hxn
            have z1 : (0 : Int) ≤ (x : Int) := by omega
            have z2 : (x : Int) < (n : Int) := by omega
            by_cases hyn : y < n
            · have x1 : decide ((y : Int) < (n : Int)) = true := by simp; omega
              have x2 : (y : Int) < (n : Int) := by omega
              by_cases hGx : G x = 0
              · obtain ⟨h1, h2, h3⟩ : G x = 0 ∧ farK n L g k x = 0 ∧ ∀ z, z < y → hopB L g k (farK n L g k) x z = false := by
                  rcases hc with h | h
                  · exact h
                  · exact absurd hGx h.1
                rw [hGx] at e0
                have hhop := hop_mat (g := g) (k := k) (b := y) (F := farK n L g k) HL.out hxn
                obtain ⟨gb, go, R, hTA, hgl, m1, hRl, m2⟩ := (HM.out.later hbw) y hyn
                have e1 := m2 x hxn
                have e2 := hD.at_ hyn
                have hGy : k ≠ 0 → (G y = k ↔ farK n L g k y = k) := fun hk0 => by
                  by_cases hyx : y = x
                  · subst hyx; rw [h1, h2]
                  · rw [hG y hyx, curK_hop hk0]
                have hno : hopB L g k (farK n L g k) x y = false → ∀ z, z < y + 1 → hopB L g k (farK n L g k) x z = false := fun h z hz => by
                  by_cases hzy : z = y
                  · subst hzy; exact h
                  · exact h3 z (by omega)
                have hyes : hopB L g k (farK n L g k) x y = true → farK n L g (k + 1) x = k + 1 := fun h => farK_next1 h2 hyn h
                have e3 := hD.free x
                have q1 := hD.put x ((k : Int) + 1)
                have q2 := hbw.setCell (p := ⟨D, x, none⟩) hw0 (.int .i64 ((k : Int) + 1))
                subst hTA
                have z3 : (0 : Int) ≤ (y : Int) := by omega
                clear hc m2 hend
                clear hA
                have HD := Lib.hid hD; have HG := Lib.hid hG; have HBW := Lib.hid hbw; have H1 := Lib.hid h1; have H2 := Lib.hid h2; have H3 := Lib.hid h3; have HNO := Lib.hid hno; have HYES := Lib.hid hyes; have Q1 := Lib.hid q1; have Q2 := Lib.hid q2; have HGX := Lib.hid hGx; clear hD hG hbw h1 h2 h3 hno hyes q1 q2 hGx
                refine wp_seq_k fun K1 hK1 => ?_
                have HK1 := Lib.hid hK1; clear hK1
                go_wp2
                refine HK1.out _ _ ?_
                clear HK1 x1
                refine wp_seq_k fun KB hKB => ?_
                have HKB := Lib.hid hKB; clear hKB
                refine wp_block ?_
                cases hm : M y x with
                | false =>
                  rw [hm] at e1 hhop
                  have hh : hopB L g k (farK n L g k) x y = false := by rw [hhop]; rfl
                  clear hhop hGy e2 e3
                  have HMM := Lib.hid hm; clear hm
                  have HH := Lib.hid hh; clear hh
                  go_wp2
                  refine HKB.out _ _ ?_
                  go_wp2
                  exact ⟨⟨y + 1, G, ⟨rfl, rfl, rfl, rfl, rfl, rfl, rfl, rfl⟩, by omega, HD.out, HG.out, .inl ⟨H1.out, H2.out, HNO.out HH.out⟩, HBW.out⟩, by simp [intOf]; omega⟩
                | true =>
                  rw [hm, Bool.true_and] at hhop
                  rw [hm] at e1
                  by_cases hk0 : k = 0
                  · subst hk0
                    rw [if_pos rfl] at hhop
                    by_cases hyg : y = g
                    · have hh : hopB L g 0 (farK n L g 0) x y = true := by rw [hhop]; exact decide_eq_true hyg
                      have g1 : ((y : Int) == (g : Int)) = true := by simp; omega
                      clear hhop hGy hyg
                      have HMM := Lib.hid hm; clear hm
                      have HH := Lib.hid hh; clear hh
                      generalize G y = gy at *
                      go_wp2
                      refine HKB.out _ _ ?_
                      go_wp2
                      exact ⟨⟨y + 1, fun z => if z = x then 0 + 1 else G z, ⟨rfl, rfl, rfl, rfl, rfl, rfl, rfl, rfl⟩, by omega, Q1.out.eqv fun z _ => by unfold updF; dsimp only; by_cases e : z = x <;> simp [e], fun z hz => by show (if z = x then 0 + 1 else G z) = _; rw [if_neg hz]; exact HG.out z hz, .inr ⟨by show (if x = x then 0 + 1 else G x) ≠ 0; rw [if_pos rfl]; omega, by show (if x = x then 0 + 1 else G x) = _; rw [if_pos rfl]; exact (HYES.out HH.out).symm⟩, Q2.out⟩, by simp [intOf]; omega⟩
                    · have hh : hopB L g 0 (farK n L g 0) x y = false := by rw [hhop]; exact decide_eq_false hyg
                      have g1 : ((y : Int) == (g : Int)) = false := by simp; omega
                      clear hhop hGy e2 e3 hyg
                      have HMM := Lib.hid hm; clear hm
                      have HH := Lib.hid hh; clear hh
                      go_wp2
                      refine HKB.out _ _ ?_
                      go_wp2
                      exact ⟨⟨y + 1, G, ⟨rfl, rfl, rfl, rfl, rfl, rfl, rfl, rfl⟩, by omega, HD.out, HG.out, .inl ⟨H1.out, H2.out, HNO.out HH.out⟩, HBW.out⟩, by simp [intOf]; omega⟩
                  · rw [if_neg hk0] at hhop
                    have g2 : ((k : Int) + 1 == 1) = false := by simp; omega
                    have g3 : (1 : Int) < (k : Int) + 1 := by omega
                    have g4 : decide ((1 : Int) < (k : Int) + 1) = true := by simp; omega
                    have g5 : IntKind.i64.wrap ((k : Int) + 1 - 1) = (k : Int) := by rw [show (k : Int) + 1 - 1 = (k : Int) by omega]; exact IntWalk.i64_in _ (by omega)
                    by_cases hyg : y = g
                    · have hh : hopB L g k (farK n L g k) x y = false := by rw [hhop]; exact decide_eq_false (fun h => h.1 hyg)
                      have g1 : ((y : Int) != (g : Int)) = false := by simp; omega
                      clear hhop hGy e2 e3 hyg
                      have HMM := Lib.hid hm; clear hm
                      have HH := Lib.hid hh; clear hh
                      go_wp2
                      refine HKB.out _ _ ?_
                      go_wp2
                      exact ⟨⟨y + 1, G, ⟨rfl, rfl, rfl, rfl, rfl, rfl, rfl, rfl⟩, by omega, HD.out, HG.out, .inl ⟨H1.out, H2.out, HNO.out HH.out⟩, HBW.out⟩, by simp [intOf]; omega⟩
                    · have g1 : ((y : Int) != (g : Int)) = true := by simp; omega
                      by_cases hgk : G y = k
                      · have hh : hopB L g k (farK n L g k) x y = true := by rw [hhop]; exact decide_eq_true ⟨hyg, (hGy hk0).1 hgk⟩
                        rw [hgk] at e2
                        clear hhop hGy
                        have HMM := Lib.hid hm; clear hm
                        have HH := Lib.hid hh; have HGK := Lib.hid hgk; clear hh hgk
                        go_wp2
                        refine HKB.out _ _ ?_
                        go_wp2
                        exact ⟨⟨y + 1, fun z => if z = x then k + 1 else G z, ⟨rfl, rfl, rfl, rfl, rfl, rfl, rfl, rfl⟩, by omega, Q1.out.eqv fun z _ => by unfold updF; dsimp only; by_cases e : z = x <;> simp [e], fun z hz => by show (if z = x then k + 1 else G z) = _; rw [if_neg hz]; exact HG.out z hz, .inr ⟨by show (if x = x then k + 1 else G x) ≠ 0; rw [if_pos rfl]; omega, by show (if x = x then k + 1 else G x) = _; rw [if_pos rfl]; exact (HYES.out HH.out).symm⟩, Q2.out⟩, by simp [intOf]; omega⟩
                      · have hh : hopB L g k (farK n L g k) x y = false := by rw [hhop]; exact decide_eq_false (fun h => hgk ((hGy hk0).2 h.2))
                        have g6 : ((G y : Int) == (k : Int)) = false := by simp; omega
                        clear hhop hGy e3
                        have HMM := Lib.hid hm; clear hm
                        have HH := Lib.hid hh; have HGK := Lib.hid hgk; clear hh hgk
                        generalize G y = gy at *
                        go_wp2
                        refine HKB.out _ _ ?_
                        go_wp2
                        exact ⟨⟨y + 1, G, ⟨rfl, rfl, rfl, rfl, rfl, rfl, rfl, rfl⟩, by omega, HD.out, HG.out, .inl ⟨H1.out, H2.out, HNO.out HH.out⟩, HBW.out⟩, by simp [intOf]; omega⟩
              · have e4 : ((G x : Int) == 0) = false := by simpa using hGx
                have hfin := hend (.inr hGx)
                have hD2 : IdB wr D n (fun z => (curK n L g k (x + 1) z : Int)) := hD.eqv fun z hz => by rw [hfin z hz]
                clear hend hc
                generalize G x = gx at *
                clear hA
                have HD := Lib.hid hD; have HG := Lib.hid hG; have HBW := Lib.hid hbw; have HFIN := Lib.hid hfin; have HD2 := Lib.hid hD2; have HGX := Lib.hid hGx; clear hD hG hbw hfin hD2 hGx
                go_wp2
                refine HKA.out _ _ ?_
                go_wp2
                exact ⟨⟨x + 1, ⟨rfl, rfl, rfl, rfl, rfl, rfl, rfl⟩, by omega, HD2.out, HBW.out⟩, by simp [intOf]; omega⟩
            · obtain rfl : y = n := by omega
              have x1 : decide ((y : Int) < (y : Int)) = false := by simp
              have hfin := hend (.inl rfl)
              have hD2 : IdB wr D y (fun z => (curK y L g k (x + 1) z : Int)) := hD.eqv fun z hz => by rw [hfin z hz]
              clear hend hc
              clear hA
              have HD := Lib.hid hD; have HG := Lib.hid hG; have HBW := Lib.hid hbw; have HFIN := Lib.hid hfin; have HD2 := Lib.hid hD2; clear hD hG hbw hfin hD2
              go_wp2
              refine HKA.out _ _ ?_
              go_wp2
              exact ⟨⟨x + 1, ⟨rfl, rfl, rfl, rfl, rfl, rfl, rfl⟩, by omega, HD2.out, HBW.out⟩, by simp [intOf]; omega⟩
        · obtain rfl : x = n := by omega
          have x1 : decide ((x : Int) < (x : Int)) = false := by simp
          have hD2 : IdB wr D x (fun z => (farK x L g (k + 1) z : Int)) := hD.eqv fun z hz => by unfold curK; rw [if_pos hz]
          have q1 : IntKind.i64.wrap ((k : Int) + 1 + 1) = (k : Int) + 1 + 1 := IntWalk.i64_in _ (by omega)
          clear hA
          have HD := Lib.hid hD; have HBW := Lib.hid hbw; have HD2 := Lib.hid hD2; clear hD hbw hD2
          go_wp2
          refine HKR.out _ _ ?_
          go_wp2
          exact ⟨⟨k + 1, ⟨rfl, rfl, rfl, rfl, rfl, by show Value.int .i64 _ = _; congr 1⟩, by omega, HD2.out, HBW.out⟩, by simp [intOf]; omega⟩
    · obtain rfl : k = n := by omega
      have x1 : decide ((k : Int) + 1 ≤ (k : Int)) = false := by simp; omega
      have x2 : ¬ (k : Int) + 1 ≤ (k : Int) := by omega
      have HD := Lib.hid hD; have HBW := Lib.hid hbw; clear hD hbw
      go_wp2
      exact HQ.out _ _ ⟨rfl, rfl, rfl, rfl, rfl⟩ HD.out HBW.out
end Go.Proofs.YtlpfecjkkgccgaaDoor
/- The reference's from. -/
namespace Go.Proofs.YtlpfecjkkgccgaaDoor
open Go.RowKit

def FromPost (n : Nat) (L : Nat → Nat) (g : Nat) (w : World) (e : Ending) (w' : World) : Prop := ∃ v, e = .returned v ∧ RdV w' v (fromL n L g) ∧ Below w.heap.size w w'
set_option maxRecDepth 100000 in
set_option maxHeartbeats 8000000 in
theorem rFrom_ (TA : Option Addr) (tc n g : Nat) (L : Nat → Nat) (M : Nat → Nat → Bool) (w : World) (hn : n ≤ 400) (hg : g < n) (hL : ∀ b a, (L b).testBit a = (decide (a < n) && M b a)) (hM : MatB w TA n M) :
    Calls Tryd.prog 34 #[.slice TA n tc, .int .i64 (g : Int)] w (FromPost n L g w) := by
  have hmk := run_make_row' (P := Tryd.prog) 26 3 (.int .i64 0) 8 Tryd.underlying26 infoI_Tryd rfl .i64 .i64 n (by omega) (by omega)
  have hF0 : IdB (w.alloc (.cells (madeCells #[.int .i64 0] n) 3)) w.heap.size n (fun _ => 0) := idB_zero w n
  have hb0 : Below w.heap.size w (w.alloc (.cells (madeCells #[.int .i64 0] n) 3)) := (Below.refl _ _).alloc (Nat.le_refl _) _
  have x0 : (0 : Int) ≤ (g : Int) := by omega
  have x1 : (g : Int) < (n : Int) := by omega
  have HM := Lib.hid hM; have HF0 := Lib.hid hF0; have HB0 := Lib.hid hb0; have HL := Lib.hid hL; clear hM hF0 hb0 hL
  go_enter Tryd.func34, Tryd.ntmps34
  refine wp_seq_k fun K1 hK1 => ?_
  have HK1 := Lib.hid hK1; clear hK1
  go_wp2
  refine HK1.out _ _ (wp_seq_k fun K2 hK2 => ?_)
  clear HK1
  have HK2 := Lib.hid hK2; clear hK2
  go_wp2
  refine HK2.out _ _ (wp_seq_k fun K1 hK1 => ?_)
  clear HK2 hmk
  generalize w.alloc (.cells (madeCells #[.int .i64 0] n) 3) = w1 at *
  have HK1 := Lib.hid hK1; clear hK1
  refine rFromA_ _ rfl TA tc n w.heap.size g L M _ w w1 _ ⟨rfl, rfl, rfl, rfl, rfl⟩ hn hg HL.out HM.out (Nat.le_refl _) HF0.out HB0.out fun a' wz hA hF hbw => ?_
  refine HK1.out _ _ ?_
  clear HK1 HF0 HB0
  obtain ⟨f, rfl⟩ := hA.opn
  clear hA
  dsimp only
  have f0 := hF.at_ hg
  have hFl := hF.lt
  by_cases h0 : farK n L g n g = 0
  · have hfn := fromL_nil h0
    rw [h0] at f0
    have HF := Lib.hid hF; have HBW := Lib.hid hbw; have H0 := Lib.hid h0; have HFN := Lib.hid hfn; clear hF hbw h0 hfn
    go_wp2
    go_ret
    exact ⟨.slice none 0 0, rfl, by rw [HFN.out]; exact RdV.nil _, HBW.out⟩
  · obtain ⟨d, hd⟩ : ∃ d, farK n L g n g = d + 1 := ⟨farK n L g n g - 1, by omega⟩
    have hdn : d + 1 ≤ n := by have := farK_le (n := n) (L := L) (g := g) n g; omega
    have hfr : fromL n L g = (g : Int) :: bkP n L g (farK n L g n) d g := by unfold fromL; rw [if_neg (by omega), hd]; rfl
    rw [hd] at f0
    have hd2 : (((d + 1 : Nat) : Int) == 0) = false := by simp; omega
    have hd3 : (((d : Int) + 1) == 0) = false := by simp; omega
    have hwz := hbw.size
    have hF2 : IdB (wz.alloc (.cells #[.int .i64 (g : Int)] 3)) w.heap.size n (fun a => (farK n L g n a : Int)) := hF.same (Below.heap_alloc _ _ _ hFl)
    have hown0 := own_one (z := (g : Int)) (B := wz.heap.size) (w := wz.alloc (.cells #[.int .i64 (g : Int)] 3)) (heap_alloc_new _ _)
    have hb2 : Below wz.heap.size wz (wz.alloc (.cells #[.int .i64 (g : Int)] 3)) := (Below.refl _ _).alloc (Nat.le_refl _) _
    have HF := Lib.hid hF; have HBW := Lib.hid hbw; have H0 := Lib.hid h0; have HFR := Lib.hid hfr; have HF2 := Lib.hid hF2; have HOWN0 := Lib.hid hown0; have HB2 := Lib.hid hb2; have HD := Lib.hid hd; clear hF hbw h0 hfr hF2 hown0 hb2 hd
    go_wp2
    clear f0 hd2 hd3
    go_loopw [9, 10, 11] (fun ov av _ wr => ∃ (e t : Nat) (acc : List Int), av = .int .i64 t ∧ t < n ∧ acc.length + e = d + 1 ∧ fromL n L g = acc ++ bkP n L g (farK n L g n) e t ∧ wr.ownsRow wz.heap.size 3 1 ov acc.length (ints acc) ∧ Below wz.heap.size wz wr) (fun ov _ _ _ => d + 1 - slLen ov)
    case atStart => exact ⟨d, g, [(g : Int)], rfl, hg, by simp; omega, HFR.out, HOWN0.out, HB2.out⟩
    case round =>
      obtain ⟨e, t, acc, rfl, ht, hlen, hfa, hown, hb3⟩ := hrel
      obtain ⟨VA, VC, rfl⟩ := own_slice1 hown
      have hFw : IdB wr w.heap.size n (fun a => (farK n L g n a : Int)) := HF.out.same (hb3.block _ HF.out.lt)
      have f0 := hFw.at_ hg
      simp only [HD.out] at f0
      have hFwl := hFw.lt
      cases e with
      | zero =>
        have hle : acc.length = d + 1 := by omega
        have hfa2 : fromL n L g = acc := by rw [hfa]; simp [bkP]
        have z1 : decide ((acc.length : Int) < (d : Int) + 1) = false := by simp; omega
        have hrd2 : RdI wr VA acc := ⟨by omega, own_rd hown⟩
        have hbw2 := HBW.out.trans (hb3.mono hwz)
        have HLEN := Lib.hid hlen; have HFA := Lib.hid hfa; have HOWN := Lib.hid hown; have HB3 := Lib.hid hb3; have HFW := Lib.hid hFw; have HLE := Lib.hid hle; have HFA2 := Lib.hid hfa2; have HRD2 := Lib.hid hrd2; have HBW2 := Lib.hid hbw2; clear hlen hfa hown hb3 hFw hle hfa2 hrd2 hbw2
        go_wp2
        go_ret
        exact ⟨_, rfl, by rw [HFA2.out]; exact ⟨VA, VC, rfl, HRD2.out⟩, HBW2.out⟩
      | succ e =>
        have z1 : (acc.length : Int) < (d : Int) + 1 := by omega
        have q1 : IntKind.i64.wrap ((d : Int) + 1 - (acc.length : Int)) = (e : Int) + 1 := by
          rw [show (d : Int) + 1 - (acc.length : Int) = (e : Int) + 1 by omega]; exact IntWalk.i64_in _ (by omega)
        have hbk : bkP n L g (farK n L g n) (e + 1) t = (hopN n L g (farK n L g n) (e + 1) t : Int) :: bkP n L g (farK n L g n) e (hopN n L g (farK n L g n) (e + 1) t) := rfl
        have hf2 : fromL n L g = (acc ++ [(hopN n L g (farK n L g n) (e + 1) t : Int)]) ++ bkP n L g (farK n L g n) e (hopN n L g (farK n L g n) (e + 1) t) := by
          rw [hfa, hbk]; simp
        obtain ⟨w5, rfl⟩ : ∃ w5 : World, w5 = wr := ⟨_, rfl⟩
        have hb3z := hb3.size
        -- the end of the round, when the next work is known
        have hfin : ∀ h', h' = hopN n L g (farK n L g n) (e + 1) t → h' < n → ∀ W, Below w5.heap.size w5 W → ∀ gg cap w6, w6.ownsRow wz.heap.size 3 1 (.slice (some ⟨gg, 0, none⟩) (acc.length + 1) cap) (acc ++ [(h' : Int)]).length (ints (acc ++ [(h' : Int)])) → (W.alloc (.cells #[.int .i64 (h' : Int)] 3)).grownBy w6 (Value.slice VA acc.length VC).ownBlock →
            ∃ (e2 t2 : Nat) (acc2 : List Int), Value.int .i64 (h' : Int) = .int .i64 (t2 : Int) ∧ t2 < n ∧ acc2.length + e2 = d + 1 ∧ fromL n L g = acc2 ++ bkP n L g (farK n L g n) e2 t2 ∧ w6.ownsRow wz.heap.size 3 1 (.slice (some ⟨gg, 0, none⟩) (acc.length + 1) cap) acc2.length (ints acc2) ∧ Below wz.heap.size wz w6 := fun h' hh hlt W hbW gg cap w6 ho hg6 => by
          subst hh
          refine ⟨e, _, _, rfl, hlt, by simp; omega, hf2, ho, ?_⟩
          exact ((hb3.trans (hbW.mono hb3z)).alloc (by have := hbW.size; omega) _).grown hg6 (by have := hbW.size; simp; omega) (fun k hk => (hown.lt k hk).1)
        have HLEN := Lib.hid hlen; have HFA := Lib.hid hfa; have HOWN := Lib.hid hown; have HB3 := Lib.hid hb3; have HFW := Lib.hid hFw; have HBK := Lib.hid hbk; have HF2 := Lib.hid hf2; have HFIN := Lib.hid hfin; clear hlen hfa hown hb3 hFw hbk hf2 hfin
        go_wp2
        clear f0
        go_loopw [11, 10] (fun iv av wr => ∃ j : Nat, iv = .int .i64 j ∧ j ≤ n ∧ av = .int .i64 t ∧ (∀ x, x < j → (decide (x ≠ g) && (decide (farK n L g n x = e + 1) && (L x).testBit t)) = false) ∧ Below w5.heap.size w5 wr) (fun iv _ _ => n - (intOf iv).toNat)
        case atStart => exact ⟨0, rfl, Nat.zero_le _, rfl, (fun x h => absurd h (by omega)), Below.refl _ _⟩
        case round =>
          obtain ⟨j, rfl, hj, rfl, hno, hbr⟩ := hrel
          have hbrz := hbr.size
          by_cases hlt : j < n
          · have hFr : IdB wr w.heap.size n (fun a => (farK n L g n a : Int)) := HFW.out.same (hbr.block _ hFwl)
            have f0 := hFr.at_ hg
            have f1 := hFr.at_ hlt
            simp only [HD.out] at f0
            have hFrl := hFr.lt
            have hbM := HBW.out.trans ((HB3.out.trans (hbr.mono hb3z)).mono hwz)
            obtain ⟨gb, go, R, hTA, hgl, m1, hRl, m2⟩ := (HM.out.later hbM) j hlt
            have e1 := m2 t ht
            have hLm := HL.out j t
            rw [decide_eq_true ht, Bool.true_and] at hLm
            subst hTA
            have y1 : (0 : Int) ≤ (j : Int) := by omega
            have y2 : (j : Int) < (n : Int) := by omega
            have y3 : (0 : Int) ≤ (t : Int) := by omega
            have y4 : (t : Int) < (n : Int) := by omega
            have hnext : (decide (j ≠ g) && (decide (farK n L g n j = e + 1) && (L j).testBit t)) = false → ∀ x, x < j + 1 → (decide (x ≠ g) && (decide (farK n L g n x = e + 1) && (L x).testBit t)) = false := fun h x hx => by
              by_cases hxj : x = j
              · subst hxj; exact h
              · exact hno x (by omega)
            cases hm : M j t with
            | false =>
              rw [hm] at hLm e1
              have hno2 := hnext (by rw [hLm]; simp)
              have HMM := Lib.hid hm; clear hm
              clear hLm hnext m2
              have HNO := Lib.hid hno; have HBR := Lib.hid hbr; have HFR := Lib.hid hFr; have HNO2 := Lib.hid hno2; have HBM := Lib.hid hbM; clear hno hbr hFr hno2 hbM
              go_wp2
              have hbelc : ∀ (u : Bel wr.heap.size wr) b o, b < wr.heap.size → u.wd.cell? ⟨b, o, none⟩ = wr.cell? ⟨b, o, none⟩ := fun u b o h => u.h.cell (p := ⟨b, o, none⟩) h
              have hbeln : Nonempty (Bel wr.heap.size wr) := ⟨⟨wr, Below.refl _ _⟩⟩
              refine wp_region_bel wr.heap.size (by kernel_rfl) (by kernel_rfl) ?_
              repeat (go_big_quiet_step ((fail)))
              refine wpQuiet_nil ?_
              intro wB hB0; obtain ⟨uB, hu⟩ := hB0; have hbB0 := uB.h; rw [← hu] at hbB0; clear hu uB hbelc hbeln
              obtain ⟨hbB, hcB, hsB⟩ := bcell2 hbB0; clear hbB0
              go_wp2
              go_roundw
              case rel => exact ⟨j + 1, by go_num, by omega, rfl, HNO2.out, HBR.out.trans (hbB.mono hbrz)⟩
              case measure => simp [intOf]; omega
            | true =>
              rw [hm] at hLm e1
              have HMM := Lib.hid hm; clear hm
              by_cases hjg : j = g
              · have z2 : ((j : Int) != (g : Int)) = false := by subst hjg; simp
                have hno2 := hnext (by subst hjg; simp)
                clear hLm hnext m2 hjg
                have HNO := Lib.hid hno; have HBR := Lib.hid hbr; have HFR := Lib.hid hFr; have HNO2 := Lib.hid hno2; have HBM := Lib.hid hbM; clear hno hbr hFr hno2 hbM
                go_wp2
                have hbelc : ∀ (u : Bel wr.heap.size wr) b o, b < wr.heap.size → u.wd.cell? ⟨b, o, none⟩ = wr.cell? ⟨b, o, none⟩ := fun u b o h => u.h.cell (p := ⟨b, o, none⟩) h
                have hbeln : Nonempty (Bel wr.heap.size wr) := ⟨⟨wr, Below.refl _ _⟩⟩
                refine wp_region_bel wr.heap.size (by kernel_rfl) (by kernel_rfl) ?_
                repeat (go_big_quiet_step ((fail)))
                refine wpQuiet_nil ?_
                intro wB hB0; obtain ⟨uB, hu⟩ := hB0; have hbB0 := uB.h; rw [← hu] at hbB0; clear hu uB hbelc hbeln
                obtain ⟨hbB, hcB, hsB⟩ := bcell2 hbB0; clear hbB0
                go_wp2
                go_roundw
                case rel => exact ⟨j + 1, by go_num, by omega, rfl, HNO2.out, HBR.out.trans (hbB.mono hbrz)⟩
                case measure => simp [intOf]; omega
              · have z2 : ((j : Int) != (g : Int)) = true := by simp; omega
                by_cases hfj : farK n L g n j = e + 1
                · rw [hfj] at f1
                  have hfst : fstF (fun b => decide (b ≠ g) && (decide (farK n L g n b = e + 1) && (L b).testBit t)) n = j := fstF_eq hlt (by simp [hjg, hfj, hLm]) hno
                  have hhop : j = hopN n L g (farK n L g n) (e + 1) t := by unfold hopN; rw [if_pos (by rw [hfst]; exact hlt), hfst]
                  have hhlt := hlt
                  clear hLm hnext m2
                  have HNO := Lib.hid hno; have HBR := Lib.hid hbr; have HFR := Lib.hid hFr; have HFJ := Lib.hid hfj; have HFST := Lib.hid hfst; have HHOP := Lib.hid hhop; have HHLT := Lib.hid hhlt; have HBM := Lib.hid hbM; clear hno hbr hFr hfj hfst hhop hhlt hbM
                  clear hjg
                  go_wp2
                  have hbelc : ∀ (u : Bel wr.heap.size wr) b o, b < wr.heap.size → u.wd.cell? ⟨b, o, none⟩ = wr.cell? ⟨b, o, none⟩ := fun u b o h => u.h.cell (p := ⟨b, o, none⟩) h
                  have hbeln : Nonempty (Bel wr.heap.size wr) := ⟨⟨wr, Below.refl _ _⟩⟩
                  refine wp_region_bel wr.heap.size (by kernel_rfl) (by kernel_rfl) ?_
                  repeat (go_big_quiet_step ((fail)))
                  refine wpQuiet_nil ?_
                  intro wB hB0; obtain ⟨uB, hu⟩ := hB0; have hbB0 := uB.h; rw [← hu] at hbB0; clear hu uB hbelc hbeln
                  obtain ⟨hbB, hcB, hsB⟩ := bcell2 hbB0; clear hbB0
                  have hbc := HBR.out.trans (hbB.mono hbrz)
                  clear hbB hcB
                  have hbcz := hbc.size
                  have HBC := Lib.hid hbc; clear hbc
                  clear f0 f1 m1 e1
                  go_wp2_with (at_builtin; go_must (refine wpList_app1_Tryd rfl _ _ rfl wz.heap.size (.slice VA acc.length VC) acc rfl ((own_below3 HOWN.out HBC.out).alloc _) wB.heap.size (j : Int) rfl (heap_alloc_new _ _) (by have := HLEN.out; omega) (by simp; omega) ?_); intro gg cap w6 hown6 hgrow hat6 hlt6)
                  have hr6 := HFIN.out j HHOP.out HHLT.out wB HBC.out gg cap w6 hown6 hgrow
                  clear hgrow hown6
                  have HR6 := Lib.hid hr6; clear hr6
                  go_roundw
                  case rel => exact HR6.out
                  case measure => show d + 1 - (acc.length + 1) < d + 1 - acc.length; have := HLEN.out; omega
                · have hno2 := hnext (by simp [hfj])
                  have z3 : ((farK n L g n j : Int) == (e : Int) + 1) = false := by simp; omega
                  generalize farK n L g n j = fj at *
                  clear hLm hnext m2
                  have HNO := Lib.hid hno; have HBR := Lib.hid hbr; have HFR := Lib.hid hFr; have HNO2 := Lib.hid hno2; have HFJ := Lib.hid hfj; have HBM := Lib.hid hbM; clear hno hbr hFr hno2 hfj hbM
                  clear hjg
                  go_wp2
                  have hbelc : ∀ (u : Bel wr.heap.size wr) b o, b < wr.heap.size → u.wd.cell? ⟨b, o, none⟩ = wr.cell? ⟨b, o, none⟩ := fun u b o h => u.h.cell (p := ⟨b, o, none⟩) h
                  have hbeln : Nonempty (Bel wr.heap.size wr) := ⟨⟨wr, Below.refl _ _⟩⟩
                  refine wp_region_bel wr.heap.size (by kernel_rfl) (by kernel_rfl) ?_
                  repeat (go_big_quiet_step ((fail)))
                  refine wpQuiet_nil ?_
                  intro wB hB0; obtain ⟨uB, hu⟩ := hB0; have hbB0 := uB.h; rw [← hu] at hbB0; clear hu uB hbelc hbeln
                  obtain ⟨hbB, hcB, hsB⟩ := bcell2 hbB0; clear hbB0
                  go_wp2
                  go_roundw
                  case rel => exact ⟨j + 1, by go_num, by omega, rfl, HNO2.out, HBR.out.trans (hbB.mono hbrz)⟩
                  case measure => simp [intOf]; omega
          · obtain rfl : j = n := by omega
            have hfst : fstF (fun b => decide (b ≠ g) && (decide (farK j L g j b = e + 1) && (L b).testBit t)) j = j := (fstF_none _ j).2 hno
            have hhop : t = hopN j L g (farK j L g j) (e + 1) t := by unfold hopN; rw [if_neg (by rw [hfst]; omega)]
            have hbc := hbr
            have hbcz := hbc.size
            have hhlt := ht
            have HNO := Lib.hid hno; have HBR := Lib.hid hbr; have HFST := Lib.hid hfst; have HHOP := Lib.hid hhop; have HHLT := Lib.hid hhlt; have HBC := Lib.hid hbc; clear hno hbr hfst hhop hhlt hbc
            go_wp2_with (at_builtin; go_must (refine wpList_app1_Tryd rfl _ _ rfl wz.heap.size (.slice VA acc.length VC) acc rfl ((own_below3 HOWN.out HBC.out).alloc _) wr.heap.size (t : Int) rfl (heap_alloc_new _ _) (by have := HLEN.out; omega) (by simp; omega) ?_); intro gg cap w6 hown6 hgrow hat6 hlt6)
            have hr6 := HFIN.out t HHOP.out HHLT.out wr HBC.out gg cap w6 hown6 hgrow
            clear hgrow hown6
            have HR6 := Lib.hid hr6; clear hr6
            go_roundw
            case rel => exact HR6.out
            case measure => show d + 1 - (acc.length + 1) < d + 1 - acc.length; have := HLEN.out; omega
end Go.Proofs.YtlpfecjkkgccgaaDoor
/- The reference's Cycle. -/
namespace Go.Proofs.YtlpfecjkkgccgaaDoor
open Go.RowKit

theorem lst_cyc (ws : List GW) (wl : List (Int × Int)) : (lstO ws wl).isSome = true ↔ cycO ws wl = [] := by
  unfold lstO cycO
  constructor
  · intro h
    obtain ⟨l, hl⟩ := Option.isSome_iff_exists.1 h
    have h1 : OrdL ws.length (LO ws wl) l := goO_run hl
    exact ord_no_cycle h1
  · intro h
    cases hg : goO ws.length (LO ws wl) ws.length 0 with
    | none => exact absurd h (no_ord_cycle (fun b a h => LO_in h) hg)
    | some l => rfl
set_option maxRecDepth 100000 in
set_option maxHeartbeats 4000000 in
theorem rCycle_ (p : Int) (A Wa : Option Addr) (c wc : Nat) (ws : List GW) (wl : List (Int × Int)) (w : World) (ha : ShIn w p A ws) (hl : RdP w Wa wl) :
    Calls Tryd.prog 14 #[.agg #[.int .i64 p, .slice A ws.length c], .slice Wa wl.length wc] w (ListPost (cycV p ws wl) (cycX p ws wl) w) := by
  have hb2 : Below w.heap.size w (w.alloc (.cells #[.int .i64 p, .slice A ws.length c] 24)) := (Below.refl _ _).alloc (Nat.le_refl _) _
  have Y0 := Lib.hid hb2; clear hb2
  have X0 := Lib.hid (Box1.made w p A c ws.length 24)
  have HA := Lib.hid ha; have HL := Lib.hid hl; clear ha hl
  go_enter Tryd.func14, Tryd.ntmps14
  go_wp2_with fail
  refine (rWishes_ p A Wa c wc ws wl _ (HA.out.later Y0.out (Nat.le_refl _)) (HL.out.later Y0.out (Nat.le_refl _))).mono ?_
  rintro e w1 ⟨rfl, hb1⟩
  have X1 := Lib.hid (X0.out.later hb1); have Y1 := Lib.hid (Y0.out.trans (hb1.mono Y0.out.size)); clear hb1; obtain ⟨c1, c2, s1⟩ := X1.out
  by_cases he : errO p ws wl = 0
  rotate_left
  · have hx : cycX p ws wl = errO p ws wl := by unfold cycX; rw [if_neg he]
    have hv : cycV p ws wl = [] := by unfold cycV; rw [if_neg he]
    have heb : (errO p ws wl != 0) = true := by simpa using he
    generalize errO p ws wl = E at *
    have HE := Lib.hid he; have HX := Lib.hid hx; have HV := Lib.hid hv; clear he hx hv
    go_wp2
    go_ret2
    exact ⟨.slice none 0 0, by rw [HX.out]; rfl, by rw [HV.out]; exact RdV.nil _, Y1.out⟩
  have hx : cycX p ws wl = if (lstO ws wl).isSome = true then 4 else 0 := by unfold cycX; rw [if_pos he]
  have hv : cycV p ws wl = if (lstO ws wl).isSome = true then [] else cycO ws wl := by unfold cycV; rw [if_pos he]
  have hn4 : ws.length ≤ 400 := by have := (okAll (errO_zero he).1).2.2.1; omega
  have hpl : ∀ x ∈ ws, 0 ≤ x.pl ∧ x.pl ≤ 22 := fun x hx => by
    obtain ⟨_, hp, _, hall⟩ := okAll (errO_zero he).1
    have := hall x hx
    omega
  rw [he]
  have HE := Lib.hid he; have HX := Lib.hid hx; have HV := Lib.hid hv; have HPL := Lib.hid hpl; clear he hx hv hpl
  go_wp2_with fail
  refine (rTable_ p A Wa c wc ws wl w1 (HA.out.rd.later Y1.out (Nat.le_refl _)) HPL.out (HL.out.later Y1.out (Nat.le_refl _)) hn4).mono ?_
  rintro e w2 ⟨TA, tc, rfl, hM, hb12⟩
  have Y2 := Lib.hid (Y1.out.trans (hb12.mono Y1.out.size))
  clear c1 c2 s1 hb12
  have hb0 := Below.refl w2.heap.size w2
  have HM := Lib.hid hM; have HB0 := Lib.hid hb0; clear hM hb0
  go_wp2
  go_loopw [8, 9, 10] (fun bv av _ wr => ∃ a : Nat, av = .int .i64 a ∧ a ≤ ws.length ∧ RdV wr bv (cycL ws.length (LO ws wl) a) ∧ Below w2.heap.size w2 wr) (fun _ av _ _ => ws.length - (intOf av).toNat)
  case atStart => exact ⟨0, rfl, Nat.zero_le _, RdV.nil _, HB0.out⟩
  case round =>
    clear HB0
    obtain ⟨a, rfl, ha, hbv, hb⟩ := hrel
    obtain ⟨BA, bc, rfl, hrb⟩ := hbv
    have hlen := cycL_len (n := ws.length) (L := LO ws wl) a ha
    by_cases hlt : a < ws.length
    · have x1 : (0 : Int) ≤ (a : Int) := by omega
      have x2 : (a : Int) < (ws.length : Int) := by omega
      have hcall := rFrom_ TA tc ws.length a (LO ws wl) (tblM ws wl) wr hn4 hlt (LO_tbl ws wl) (HM.out.later hb)
      have hcy : cycL ws.length (LO ws wl) (a + 1) = if fromL ws.length (LO ws wl) a ≠ [] ∧ (cycL ws.length (LO ws wl) a = [] ∨ (fromL ws.length (LO ws wl) a).length < (cycL ws.length (LO ws wl) a).length) then fromL ws.length (LO ws wl) a else cycL ws.length (LO ws wl) a := rfl
      have HRB := Lib.hid hrb; have HB := Lib.hid hb; have HCALL := Lib.hid hcall; have HCY := Lib.hid hcy; clear hrb hb hcall hcy
      go_wp2_with fail
      refine HCALL.out.mono ?_
      rintro e w3 ⟨v, rfl, ⟨FA, fc, rfl, hrf⟩, hb3⟩
      have hrb3 := HRB.out.later hb3 (Nat.le_refl _)
      have hb4 := HB.out.trans (hb3.mono HB.out.size)
      have hcy2 := HCY.out
      generalize hC2 : cycL ws.length (LO ws wl) (a + 1) = C2 at *
      have HC2 := Lib.hid hC2; clear hC2
      clear HRB HCY HCALL
      generalize fromL ws.length (LO ws wl) a = fl at *
      generalize cycL ws.length (LO ws wl) a = cl at *
      have hfl := hrf.1
      by_cases c1 : fl = []
      · subst c1
        rw [if_neg (fun h => h.1 rfl)] at hcy2
        subst hcy2
        have HRB3 := Lib.hid hrb3; have HB4 := Lib.hid hb4; have HB3 := Lib.hid hb3; have HRF := Lib.hid hrf; clear hrb3 hb4 hb3 hrf
        go_wp2
        go_roundw
        case rel => exact ⟨a + 1, by go_num, by omega, by rw [HC2.out]; exact ⟨BA, bc, rfl, HRB3.out⟩, HB4.out⟩
        case measure => simp [intOf]; omega
      · have p1 : 0 < fl.length := List.length_pos_iff.2 c1
        have p2 : decide (0 < (fl.length : Int)) = true := by simp; omega
        have p2' : (0 : Int) < (fl.length : Int) := by omega
        have p2n : decide (0 < fl.length) = true := by simpa using p1
        by_cases c2 : cl = []
        · subst c2
          rw [if_pos ⟨c1, .inl rfl⟩] at hcy2
          subst hcy2
          clear c1
          have HRB3 := Lib.hid hrb3; have HB4 := Lib.hid hb4; have HB3 := Lib.hid hb3; have HRF := Lib.hid hrf; clear hrb3 hb4 hb3 hrf
          go_wp2
          go_roundw
          case rel => exact ⟨a + 1, by go_num, by omega, by rw [HC2.out]; exact ⟨FA, fc, rfl, HRF.out⟩, HB4.out⟩
          case measure => simp [intOf]; omega
        · have p3 : ((cl.length : Int) == 0) = false := by have := List.length_pos_iff.2 c2; simp; omega
          by_cases c3 : fl.length < cl.length
          · rw [if_pos ⟨c1, .inr c3⟩] at hcy2
            have p4 : decide ((fl.length : Int) < (cl.length : Int)) = true := by simp; omega
            subst hcy2
            clear c1 c2
            have HRB3 := Lib.hid hrb3; have HB4 := Lib.hid hb4; have HB3 := Lib.hid hb3; have HRF := Lib.hid hrf; clear hrb3 hb4 hb3 hrf
            go_wp2
            go_roundw
            case rel => exact ⟨a + 1, by go_num, by omega, by rw [HC2.out]; exact ⟨FA, fc, rfl, HRF.out⟩, HB4.out⟩
            case measure => simp [intOf]; omega
          · rw [if_neg (fun h => by rcases h.2 with h | h; exact c2 h; exact c3 h)] at hcy2
            have p4 : decide ((fl.length : Int) < (cl.length : Int)) = false := by simp; omega
            subst hcy2
            clear c1 c2
            have HRB3 := Lib.hid hrb3; have HB4 := Lib.hid hb4; have HB3 := Lib.hid hb3; have HRF := Lib.hid hrf; clear hrb3 hb4 hb3 hrf
            go_wp2
            go_roundw
            case rel => exact ⟨a + 1, by go_num, by omega, by rw [HC2.out]; exact ⟨BA, bc, rfl, HRB3.out⟩, HB4.out⟩
            case measure => simp [intOf]; omega
    · obtain rfl : a = ws.length := by omega
      have hlc := lst_cyc ws wl
      have hbw := Y2.out.trans (hb.mono Y2.out.size)
      have hco : cycO ws wl = cycL ws.length (LO ws wl) ws.length := rfl
      rw [← hco] at hrb hlen ⊢
      by_cases c1 : cycO ws wl = []
      · have hs := hlc.2 c1
        have hx2 : cycX p ws wl = 4 := by rw [HX.out, if_pos hs]
        have hv2 : cycV p ws wl = [] := by rw [HV.out, if_pos hs]
        rw [c1] at hrb ⊢
        have HRB := Lib.hid hrb; have HB := Lib.hid hb; have HLC := Lib.hid hlc; have HBW := Lib.hid hbw; have HCO := Lib.hid hco; have HS := Lib.hid hs; have HX2 := Lib.hid hx2; have HV2 := Lib.hid hv2; clear hrb hb hlc hbw hco hs hx2 hv2
        clear c1
        go_wp2
        go_ret2
        exact ⟨.slice none 0 0, by rw [HX2.out]; rfl, by rw [HV2.out]; exact RdV.nil _, HBW.out⟩
      · have hs : ¬ (lstO ws wl).isSome = true := fun h => c1 (hlc.1 h)
        have hx2 : cycX p ws wl = 0 := by rw [HX.out, if_neg hs]
        have hv2 : cycV p ws wl = cycO ws wl := by rw [HV.out, if_neg hs]
        have p3 : (((cycO ws wl).length : Int) == 0) = false := by have := List.length_pos_iff.2 c1; simp; omega
        clear c1
        generalize cycO ws wl = cl at *
        have HRB := Lib.hid hrb; have HB := Lib.hid hb; have HLC := Lib.hid hlc; have HBW := Lib.hid hbw; have HCO := Lib.hid hco; have HS := Lib.hid hs; have HX2 := Lib.hid hx2; have HV2 := Lib.hid hv2; clear hrb hb hlc hbw hco hs hx2 hv2
        go_wp2
        go_ret2
        exact ⟨.slice BA cl.length bc, by rw [HX2.out]; rfl, by rw [HV2.out]; exact ⟨BA, bc, rfl, HRB.out⟩, HBW.out⟩
end Go.Proofs.YtlpfecjkkgccgaaDoor
