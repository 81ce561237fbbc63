/- Texts of this claim, laid together: OrRNrK, OrRNr, OrLNear. -/
import Derived.Test.YtlpfecjkkgccgaaDoorMaW
import Derived.Test.YtlpfecjkkgccgaaDoorMaX
import Derived.Test.YtlpfecjkkgccgaaDoorMaAC
import Derived.Test.YtlpfecjkkgccgaaDoorMaAD
/- The reference's rows of what is known, as they are made. -/
namespace Go.Proofs.YtlpfecjkkgccgaaDoor
open Go.RowKit

theorem infoIs_Tryd : (Tryd.prog.info? 26).map (fun i => (i.zero, i.size, i.bytes)) = some (some (Value.slice none 0 0), 1, 24) := by kernel_rfl
/-- One row is put behind the others. -/
theorem wpList_appI2_Tryd {ops : Array Oper} {rest : List Oper} {o : Oper} {a : Act} {Q : Exit → Act → World → Prop} {w : World} (hgd : o.guard = none) (s x : Operand)
    (ho : o.op = .call { callee := .builtin .append, args := #[s, x], argTypes := #[77, 77] })
    (base : Nat) (v : Value) (xs : List Value) (hs : a.eval s = v) (hown : w.ownsRow base 26 1 v xs.length xs) (b : Nat) (A : Option Addr) (n c : Nat) (hx : a.eval x = .slice (some ⟨b, 0, none⟩) 1 1)
    (hb : w.heap[b]? = some (.cells #[Value.slice A n c] 26 (0, 0))) (hn : xs.length ≤ 1000000) (hbase : base ≤ w.heap.size)
    (h : ∀ g cap w', w'.ownsRow base 26 1 (.slice (some ⟨g, 0, none⟩) (xs.length + 1) cap) (xs ++ [Value.slice A n c]).length (xs ++ [Value.slice A n c]) → w.grownBy w' v.ownBlock → (v.ownBlock = some g ∨ g = w.heap.size) → g < w'.heap.size →
      wpList Tryd.prog ops Q rest (a.put o.dst (.slice (some ⟨g, 0, none⟩) (xs.length + 1) cap)) w') : wpList Tryd.prog ops Q (o :: rest) a w := by
  obtain ⟨i0, hi, hz0, hz1, hz2⟩ := info_parts infoIs_Tryd
  refine wpList_append_lies w hgd s x 77 ho base 26 i0 _ 1 24 Tryd.underlying77 hi hz0 hz1 hz2 rfl (by omega) v xs.length xs hs hown ⟨b, 0, none⟩ 1 1 [Value.slice A n c] hx rfl
    (World.news_of_block hb) (fun u hu => by simp at hu; subst hu; rfl) (by omega) (by unfold maxLen; omega) (by omega) hbase w.heap.size rfl fun g cap w' h2 h3 h4 h5 => h g cap w' ?_ h3 h4 h5
  rw [List.length_append]
  exact h2
/-- The rows that are made so far: i of them, each of m unknown numbers. -/
structure KnC (w2 w : World) (X n m i : Nat) (R : Nat → Nat) (v : Value) (p : Int) (A : Option Addr) (c : Nat) (TA : Option Addr) (tc : Nat) : Prop where
  bl : Below X w2 w
  bx : w.heap[X]? = some (.cells #[.int .i64 p, .slice A n c, .slice TA n tc, v] 79 (0, 0))
  own : w.ownsRow (X + 1) 26 1 v (rowV R m i).length (rowV R m i)
  rows : ∀ b, b < i → X < R b ∧ IdB w (R b) m (fun _ => -1)
  inj : ∀ b b', b < i → b' < i → R b = R b' → b = b'
section
variable {w2 w w' : World} {X n m i : Nat} {R : Nat → Nat} {v : Value} {p : Int} {A : Option Addr} {c : Nat} {TA : Option Addr} {tc : Nat}
theorem KnC.lt (h : KnC w2 w X n m i R v p A c TA tc) : X < w.heap.size := lt_of_block h.bx
theorem KnC.later (h : KnC w2 w X n m i R v p A c TA tc) (hb : Below w.heap.size w w') : KnC w2 w' X n m i R v p A c TA tc :=
  ⟨h.bl.trans (hb.mono (Nat.le_of_lt h.lt)), (hb.block _ h.lt).trans h.bx, own_below3 h.own hb, fun b hbi => ⟨(h.rows b hbi).1, (hb.block _ (lt_of_block (h.rows b hbi).2)).trans (h.rows b hbi).2⟩, h.inj⟩
theorem KnC.ne (h : KnC w2 w X n m i R v p A c TA tc) {b : Nat} (hb : b < i) : some (R b) ≠ v.ownBlock := own_ne_type h.own (h.rows b hb).2 (by decide)
theorem KnC.neX (h : KnC w2 w X n m i R v p A c TA tc) : some X ≠ v.ownBlock := fun e => by have := (h.own.lt X e.symm).1; omega
/-- One more row: appended in a world wa, where v6 is the list, and stored. -/
theorem KnC.put (h : KnC w2 w X n m i R v p A c TA tc) {q : Nat} (hq : IdB w q m (fun _ => -1)) (hX : X < q) (hne : ∀ b, b < i → R b ≠ q) {w6 : World} {v6 : Value} (hg : w.grownBy w6 v.ownBlock) {l : Nat}
    (ho : w6.ownsRow (X + 1) 26 1 v6 l (rowV R m i ++ [Value.slice (some ⟨q, 0, none⟩) m m])) (hl : l = (rowV R m i ++ [Value.slice (some ⟨q, 0, none⟩) m m]).length) :
    KnC w2 (w6.setCell ⟨X, 3, none⟩ v6) X n m (i + 1) (updF R i q) v6 p A c TA tc := by
  have hqn : some q ≠ v.ownBlock := own_ne_type h.own hq (by decide)
  have hb6 : w6.heap[X]? = _ := (hg.block X h.lt h.neX).trans h.bx
  subst hl
  rw [← rowV_put] at ho
  refine ⟨((h.bl).grown hg (Nat.le_of_lt h.lt) (fun j hj => by have := (h.own.lt j hj).1; omega)).setCell (p := ⟨X, 3, none⟩) (Nat.le_refl _) _, heap_setCell_same w6 X 3 _ _ _ hb6, ownsRow_setCell_below (a := ⟨X, 3, none⟩) ho (by show X < X + 1; omega) _, fun b hb => ?_, fun b b' hb hb' e => ?_⟩
  · by_cases e : b = i
    · subst e
      rw [updF_same]
      exact ⟨hX, (heap_setCell_other w6 _ _ _ (by show q ≠ X; omega)).trans ((hg.block _ (lt_of_block hq) hqn).trans hq)⟩
    · rw [updF_other _ _ (fun e' => e e'.symm)]
      obtain ⟨h1, h2⟩ := h.rows b (by omega)
      exact ⟨h1, (heap_setCell_other w6 _ _ _ (by show R b ≠ X; omega)).trans ((hg.block _ (lt_of_block h2) (h.ne (by omega))).trans h2)⟩
  · by_cases e1 : b = i
    · subst e1
      by_cases e2 : b' = b
      · exact e2.symm
      · rw [updF_same, updF_other _ _ (fun e' => e2 e'.symm)] at e
        exact absurd e.symm (hne b' (by omega))
    · by_cases e2 : b' = i
      · subst e2
        rw [updF_same, updF_other _ _ (fun e' => e1 e'.symm)] at e
        exact absurd e (hne b (by omega))
      · rw [updF_other _ _ (fun e' => e1 e'.symm), updF_other _ _ (fun e' => e2 e'.symm)] at e
        exact h.inj b b' (by omega) (by omega) e
end
/-- All rows are made: what the search knows. -/
theorem KnC.all {w2 w : World} {X N kb kc : Nat} {R : Nat → Nat} {p : Int} {A : Option Addr} {c : Nat} {ws : List GW} {TA : Option Addr} {tc : Nat} (M : Nat → Nat → Bool) (L : Nat → Nat) (h : KnC w2 w X ws.length (ws.length + 1) N R (.slice (some ⟨kb, 0, none⟩) N kc) p A c TA tc) (hX : w2.heap.size = X) :
    RsC w2 w X kb kc N R p A c ws TA tc M L :=
  ⟨hX, h.bl, cell_of_row _ _ 0 _ _ _ h.bx, cell_of_row _ _ 1 _ _ _ h.bx, cell_of_row _ _ 2 _ _ _ h.bx, cell_of_row _ _ 3 _ _ _ h.bx, fun r hr => by
      have ho := h.own
      rw [rowV_len] at ho
      have e3 := ho.cellAt r (by omega)
      rw [e3, rowV_get hr], fun r hr => ⟨_, (h.rows r hr).2, fun _ _ => .inl rfl⟩, h.inj, fun r hr => (h.rows r hr).1, fun r hr e => h.ne hr (by rw [e]; rfl)⟩
section
variable {w2 w w' : World} {X kb kc N : Nat} {R : Nat → Nat} {p : Int} {A : Option Addr} {c : Nat} {ws : List GW} {TA : Option Addr} {tc : Nat} {M : Nat → Nat → Bool} {L : Nat → Nat}
theorem cell_block {w w' : World} {b : Nat} (h : w'.heap[b]? = w.heap[b]?) (j : Nat) : w'.cell? ⟨b, j, none⟩ = w.cell? ⟨b, j, none⟩ := by
  unfold World.cell?
  simp only [h]
theorem RsC.blk (h : RsC w2 w X kb kc N R p A c ws TA tc M L) (h0 : 0 < N) : X < w.heap.size ∧ kb < w.heap.size ∧ ∀ r, r < N → R r < w.heap.size :=
  ⟨World.block_lt_of_cell? w _ h.ps, World.block_lt_of_cell? w _ (h.rw_ 0 h0), fun r hr => by obtain ⟨g, h1, _⟩ := h.vl r hr; exact lt_of_block h1⟩
theorem RsC.same (h : RsC w2 w X kb kc N R p A c ws TA tc M L) {B : Nat} (hB : X < B ∧ kb < B ∧ ∀ r, r < N → R r < B) (hs : ∀ i, i < B → w'.heap[i]? = w.heap[i]?) (hb : Below X w2 w') : RsC w2 w' X kb kc N R p A c ws TA tc M L :=
  ⟨h.sz, hb, (cell_block (hs _ hB.1) _).trans h.ps, (cell_block (hs _ hB.1) _).trans h.wk, (cell_block (hs _ hB.1) _).trans h.tb, (cell_block (hs _ hB.1) _).trans h.kn, fun r hr => (cell_block (hs _ hB.2.1) _).trans (h.rw_ r hr), fun r hr => by
      obtain ⟨g, h1, h2⟩ := h.vl r hr
      exact ⟨g, (hs _ (hB.2.2 r hr)).trans h1, h2⟩, h.inj, h.nX, h.nK⟩
end
end Go.Proofs.YtlpfecjkkgccgaaDoor
/- The reference's Near. -/
namespace Go.Proofs.YtlpfecjkkgccgaaDoor
open Go.RowKit

def NearPostR (l : List Int) (k : Nat) (x : Int) (w : World) (e : Ending) (w' : World) : Prop := ∃ v, e = .returned (.tuple #[v, .int .i64 (k : Int), .int .i64 x]) ∧ RdV w' v l ∧ Below w.heap.size w w'
theorem NearPostR.none {l : List Int} {k : Nat} {x : Int} {w w' : World} (hl : l = []) (hk : k = 0) (hb : Below w.heap.size w w') : NearPostR l k x w (.returned (.tuple #[.slice none 0 0, .int .i64 0, .int .i64 x])) w' := by
  subst hl; subst hk
  exact ⟨_, rfl, RdV.nil _, hb⟩
theorem nr_err {p : Int} {ws : List GW} {wl : List (Int × Int)} (h : nrX p ws wl ≠ 0) : nrL p ws wl = [] ∧ nrN p ws wl = 0 := by
  unfold nrL nrN
  rw [if_neg h, if_neg h]; exact ⟨rfl, rfl⟩
set_option maxRecDepth 100000 in
set_option maxHeartbeats 8000000 in
theorem rNear_ (p : Int) (A Wa : Option Addr) (c wc : Nat) (ws : List GW) (wl : List (Int × Int)) (w : World) (ha : ShIn w p A ws) (hl : RdP w Wa wl) :
    Calls Tryd.prog 25 #[.agg #[.int .i64 p, .slice A ws.length c], .slice Wa wl.length wc] w (NearPostR (nrL p ws wl) (nrN p ws wl) (nrX p ws wl) w) := by
  have hb2 : Below w.heap.size w (w.alloc (.cells #[.int .i64 p, .slice A ws.length c] 24)) := (Below.refl _ _).alloc (Nat.le_refl _) _
  have Y0 := Lib.hid hb2; clear hb2
  have X0 := Lib.hid (Box1.made w p A c ws.length 24)
  have HA := Lib.hid ha; have HL := Lib.hid hl; clear ha hl
  go_enter Tryd.func25, Tryd.ntmps25
  go_wp2_with fail
  refine (rWishes_ p A Wa c wc ws wl _ (HA.out.later Y0.out (Nat.le_refl _)) (HL.out.later Y0.out (Nat.le_refl _))).mono ?_
  rintro e w1 ⟨rfl, hb1⟩
  have X1 := Lib.hid (X0.out.later hb1); have Y1 := Lib.hid (Y0.out.trans (hb1.mono Y0.out.size)); clear hb1; obtain ⟨c1, c2, s1⟩ := X1.out
  by_cases he : errO p ws wl = 0
  rotate_left
  · have hx : nrX p ws wl = errO p ws wl := by unfold nrX; rw [if_neg he]
    have hne := nr_err (p := p) (ws := ws) (wl := wl) (by rw [hx]; exact he)
    have heb : (errO p ws wl != 0) = true := by simpa using he
    generalize errO p ws wl = E at *
    have HE := Lib.hid he; have HX := Lib.hid hx; have HNE := Lib.hid hne; clear he hx hne
    go_wp2
    go_ret3
    rw [HX.out]
    exact NearPostR.none HNE.out.1 HNE.out.2 Y1.out
  have hn4 : ws.length ≤ 400 := by have := (okAll (errO_zero he).1).2.2.1; omega
  have hpl : ∀ x ∈ ws, 0 ≤ x.pl ∧ x.pl ≤ 22 := fun x hx => by
    obtain ⟨_, hp, _, hall⟩ := okAll (errO_zero he).1
    have := hall x hx
    omega
  have hx0 : nrX p ws wl = if 12 < ws.length then 3 else if (lstO ws wl).isSome = true then 0 else 130 := by unfold nrX; rw [if_pos he]
  have hz := Lib.hid (he)
  rw [he]
  by_cases h12 : 12 < ws.length
  · have hx : nrX p ws wl = 3 := by rw [hx0, if_pos h12]
    have hne := nr_err (p := p) (ws := ws) (wl := wl) (by rw [hx]; decide)
    have x1 : (12 : Int) < (ws.length : Int) := by omega
    have HX := Lib.hid hx; have HNE := Lib.hid hne; have HPL := Lib.hid hpl; have HE := Lib.hid he; have HX0 := Lib.hid hx0; clear hx hne hpl he hx0
    go_wp2
    go_ret3
    rw [HX.out]
    exact NearPostR.none HNE.out.1 HNE.out.2 Y1.out
  rw [if_neg h12] at hx0
  have HPL := Lib.hid hpl; have HE := Lib.hid he; have HX0 := Lib.hid hx0; clear hpl he hx0
  have x1 : decide ((12 : Int) < (ws.length : Int)) = false := by simp; omega
  have x2 : ¬ (12 : Int) < (ws.length : Int) := by omega
  go_upto_region 7 with fail
  clear x1 x2
  refine wp_region_held_drew (S := fun W' => W'.cell? ⟨w.heap.size, 0, none⟩ = some (.int .i64 p) ∧ W'.cell? ⟨w.heap.size, 1, none⟩ = some (.slice A ws.length c)) (by kernel_rfl) ⟨c1, c2⟩ (fun hHeld => ?_)
  refine takeH (i := 0) (v := ?cav0) rfl rfl (by kernel_rfl) (by kernel_rfl) (by kernel_rfl) (fun _ _ _ _ => ⟨fun h _ => h, fun h => h #[]⟩) (by rfl) hHeld ?cay0 ?car0
  case cay0 =>
    intro W' hSw
    obtain ⟨s1, s2⟩ := hSw
    go_simp
    try with_reducible rfl
  simp only [List.setIfInBounds_toArray, List.set_cons_zero, List.set_cons_succ]
  refine takeH (i := 1) (v := ?cav1) rfl rfl (by kernel_rfl) (by kernel_rfl) (by kernel_rfl) (fun _ _ _ _ => ⟨fun h _ => h, fun h => h #[]⟩) (by rfl) hHeld ?cay1 ?car1
  case cay1 =>
    intro W' hSw
    obtain ⟨s1, s2⟩ := hSw
    go_simp
    try with_reducible rfl
  simp only [List.setIfInBounds_toArray, List.set_cons_zero, List.set_cons_succ]
  refine takeH (i := 2) (v := ?cav2) rfl rfl (by kernel_rfl) (by kernel_rfl) (by kernel_rfl) (fun _ _ _ _ => ⟨fun h _ => h, fun h => h #[]⟩) (by rfl) hHeld ?cay2 ?car2
  case cay2 =>
    intro W' hSw
    obtain ⟨s1, s2⟩ := hSw
    go_simp
    try with_reducible rfl
  simp only [List.setIfInBounds_toArray, List.set_cons_zero, List.set_cons_succ]
  refine wpAnyH_ready (rs := [3]) (by kernel_rfl) (by simp) ?_
  refine AllReadyH.cons rfl (fun K hK => ?_) AllReadyH.nil
  go_simp
  refine (rTable_ p A Wa c wc ws wl w1.drew (HA.out.rd.later Y1.out.drew (Nat.le_refl _)) HPL.out (HL.out.later Y1.out.drew (Nat.le_refl _)) hn4).mono ?_
  rintro e w2 ⟨TA, tc, rfl, hM2, hb12⟩
  have hb12' : Below w1.heap.size w1 w2 := Below.trans ((Below.refl _ _).drew) hb12
  have X2 := Lib.hid (X1.out.later hb12'); have Y2 := Lib.hid (Y1.out.trans (hb12'.mono Y1.out.size)); clear c1 c2 s1; obtain ⟨c1, c2, s1⟩ := X2.out
  refine hK.out _ _ ⟨c1, c2⟩ (fun hHeld => ?_)
  clear hK K hb12 hb12'
  refine takeH (i := 4) (v := ?cbv4) rfl rfl (by kernel_rfl) (by kernel_rfl) (by kernel_rfl) (fun _ _ _ _ => ⟨fun h _ => h, fun h => h #[]⟩) (by rfl) hHeld ?cby4 ?cbr4
  case cby4 =>
    intro W' hSw
    obtain ⟨s1, s2⟩ := hSw
    go_simp
    try with_reducible rfl
  simp only [List.setIfInBounds_toArray, List.set_cons_zero, List.set_cons_succ]
  refine wpAnyH_ready (rs := [5]) (by kernel_rfl) (by simp) ?_
  refine AllReadyH.cons rfl (fun K hK => ?_) AllReadyH.nil
  go_simp
  have hX := heap_alloc_new w2 (.cells #[.int .i64 p, .slice A ws.length c, .slice TA ws.length tc, .slice none 0 0] 79)
  have hB3 : Below w2.heap.size w2 (w2.alloc (.cells #[.int .i64 p, .slice A ws.length c, .slice TA ws.length tc, .slice none 0 0] 79)) := (Below.refl _ _).alloc (Nat.le_refl _) _
  refine hK.out _ _ ⟨below_at hB3 (Nat.le_refl _) c1, below_at hB3 (Nat.le_refl _) c2⟩ (fun hHeld => ?_)
  clear hK K
  refine takeH (i := 6) (v := ?ccv6) rfl rfl (by kernel_rfl) (by kernel_rfl) (by kernel_rfl) (fun _ _ _ _ => ⟨fun h _ => h, fun h => h #[]⟩) (by rfl) hHeld ?ccy6 ?ccr6
  case ccy6 =>
    intro W' hSw
    obtain ⟨s1, s2⟩ := hSw
    go_simp
    try with_reducible rfl
  simp only [List.setIfInBounds_toArray, List.set_cons_zero, List.set_cons_succ]
  refine wpAnyH_done (by kernel_rfl) ?_ _
  clear hHeld c1 c2 s1
  have k2 := cell_of_row _ _ 2 _ _ _ hX
  have lX := lt_of_block hX
  have hrd2 := HA.out.rd.later Y2.out (Nat.le_refl _)
  have hK0 : KnC w2 (w2.alloc (.cells #[.int .i64 p, .slice A ws.length c, .slice TA ws.length tc, .slice none 0 0] 79)) w2.heap.size ws.length (ws.length + 1) 0 (fun _ => 0) (.slice none 0 0) p A c TA tc := ⟨hB3, hX, World.ownsRow_nil _ _ _ _, fun b h => absurd h (by omega), fun b b' h => absurd h (by omega)⟩
  have hM3 := hM2.later hB3
  generalize w2.alloc (.cells #[.int .i64 p, .slice A ws.length c, .slice TA ws.length tc, .slice none 0 0] 79) = w3 at *
  obtain ⟨X, hXe⟩ : ∃ X, X = w2.heap.size := ⟨_, rfl⟩
  rw [← hXe] at hX k2 lX hK0 ⊢
  clear hX
  have HM2 := Lib.hid hM2; have HM3 := Lib.hid hM3; have HRD2 := Lib.hid hrd2; have HK0 := Lib.hid hK0; have HB3 := Lib.hid hB3; have HXE := Lib.hid hXe; clear hM2 hM3 hrd2 hK0 hB3 hXe
  go_wp2_with fail
  refine (rGoOn_ TA none tc ws.length 0 (LO ws wl) (tblM ws wl) [] w3 hn4 (LO_tbl ws wl) HM3.out (rdI_nil _) (Nat.zero_le _) (fun x hx => by cases hx)).mono ?_
  rw [opt_nil]
  show ∀ e w, GoPost (lstO ws wl) w3 e w → _
  rintro e w4 ⟨h1, h2, hb1⟩
  have hK4 := HK0.out.later hb1
  have hb4 : Below w.heap.size w w4 := Y2.out.trans (hK4.bl.mono (by rw [HXE.out]; exact Y2.out.size))
  clear hb1 k2 lX HK0 HM3 HB3
  cases hr2 : lstO ws wl with
  | none =>
    obtain rfl := h2 hr2
    clear h1 h2
    have hx : nrX p ws wl = 130 := by rw [HX0.out, hr2]; rfl
    have hne := nr_err (p := p) (ws := ws) (wl := wl) (by rw [hx]; decide)
    have HR2 := Lib.hid hr2; have HX := Lib.hid hx; have HNE := Lib.hid hne; have HK4 := Lib.hid hK4; have HB4 := Lib.hid hb4; clear hr2 hx hne hK4 hb4
    go_wp2
    go_ret3
    rw [HX.out]
    exact NearPostR.none HNE.out.1 HNE.out.2 HB4.out
  | some l0 =>
    obtain ⟨v0, rfl, _, _⟩ := h1 l0 hr2
    clear h1 h2
    have hx : nrX p ws wl = 0 := by rw [HX0.out, hr2]; rfl
    have hlen : l0.length = ws.length ∧ (pRun ws.length (LO ws wl) 0 l0).isSome = true := goO_run hr2
    obtain ⟨N, hN⟩ : ∃ N : Nat, N = 2 ^ ws.length := ⟨_, rfl⟩
    obtain ⟨m, hm⟩ : ∃ m : Nat, m = ws.length + 1 := ⟨_, rfl⟩
    have hp2 : 0 < N := by rw [hN]; exact Nat.two_pow_pos _
    have hp3 : N ≤ 2 ^ 12 := by rw [hN]; exact Nat.pow_le_pow_right (by decide) (by omega)
    have z0 : (0 : Int) ≤ (ws.length : Int) := by omega
    have z1 : (ws.length : Int) < 64 := by omega
    have e1 : IntKind.i64.wrap (2 ^ ws.length) = (N : Int) := by
      rw [hN, show (2 : Int) ^ ws.length = ((2 ^ ws.length : Nat) : Int) by simp, ← hN]
      exact wraps62 _ (Int.natCast_nonneg _) (by omega)
    have e2 : IntKind.u64.wrap (ws.length : Int) = (ws.length : Int) := wraps64 _ (by omega) (by omega)
    have e3 : IntKind.i64.wrap ((ws.length : Int) + 1) = (m : Int) := by rw [IntWalk.i64_in _ (by omega), hm]; push_cast; rfl
    rw [← hm] at hK4
    have hm13 : m ≤ 13 := by omega
    have HN := Lib.hid hN; have HP2 := Lib.hid hp2; have HP3 := Lib.hid hp3; have HK4 := Lib.hid hK4; have HB4 := Lib.hid hb4; have HR2 := Lib.hid hr2; have HX := Lib.hid hx; have HLEN := Lib.hid hlen; have HM := Lib.hid hm; have HM13 := Lib.hid hm13; have H12 := Lib.hid h12; clear hN hp2 hp3 hK4 hb4 hr2 hx hlen hm hm13 h12
    go_wp2
    go_loopw [12, 13] (fun iv _ wr => ∃ (i : Nat) (R : Nat → Nat) (v : Value), iv = .int .i64 i ∧ i ≤ N ∧ KnC w2 wr X ws.length m i R v p A c TA tc) (fun iv _ _ => N - (intOf iv).toNat)
    case atStart => exact ⟨0, _, _, rfl, Nat.zero_le _, HK4.out⟩
    case round =>
      obtain ⟨i, R, v, rfl, hi, hK⟩ := hrel
      obtain ⟨wq, rfl⟩ : ∃ wq : World, wq = wr := ⟨_, rfl⟩
      have lX := hK.lt
      have hN8 : N ≤ 4096 := HP3.out
      by_cases hiN : i < N
      · have hmk := run_make_row' (P := Tryd.prog) 26 3 (.int .i64 0) 8 Tryd.underlying26 infoI_Tryd rfl .i64 .i64 m (by have := HM13.out; omega) (by have := HM13.out; omega)
        have hm0 := idB_zero wq m
        have hKa := hK.later (w' := wq.alloc (.cells (madeCells #[.int .i64 0] m) 3)) ((Below.refl _ _).alloc (Nat.le_refl _) _)
        have x1 : (i : Int) < (N : Int) := by omega
        have HK := Lib.hid hK; have HKA := Lib.hid hKa; have HM0 := Lib.hid hm0; clear hK hKa hm0
        go_wp2
        clear hmk
        go_loopw [14] (fun kv wr => ∃ k : Nat, kv = .int .i64 k ∧ k ≤ m ∧ IdB wr wq.heap.size m (fun x => if x < k then -1 else 0) ∧ Below wq.heap.size wq wr) (fun kv _ => m - (intOf kv).toNat)
        case atStart => exact ⟨0, rfl, Nat.zero_le _, HM0.out.eqv fun x _ => by simp, (Below.refl _ _).alloc (Nat.le_refl _) _⟩
        case round =>
          clear HM0 HKA
          obtain ⟨k, rfl, hk, hro, hbr⟩ := hrel
          have hrl := lt_of_block hro
          by_cases hkm : k < m
          · have x1 : (0 : Int) ≤ (k : Int) := by omega
            have x2 : (k : Int) < (m : Int) := by omega
            have x3 : IntKind.i64.wrap ((k : Int) + 1) = (k : Int) + 1 := IntWalk.i64_in _ (by have := HM13.out; omega)
            have q3 := hro.at_ hkm
            have q4 := hro.free k
            have q5 : IdB (wr.setCell ⟨wq.heap.size, k, none⟩ (.int .i64 (-1))) wq.heap.size m (fun x => if x < k + 1 then -1 else 0) := (hro.put k (-1)).eqv fun x _ => by
              unfold updF
              by_cases h : x = k
              · rw [if_pos h, if_pos (by omega)]
              · rw [if_neg h]
                show (if x < k then (-1 : Int) else 0) = _
                by_cases h2 : x < k
                · rw [if_pos h2, if_pos (by omega)]
                · rw [if_neg h2, if_neg (by omega)]
            have q6 : Below wq.heap.size wq (wr.setCell ⟨wq.heap.size, k, none⟩ (.int .i64 (-1))) := hbr.setCell (Nat.le_refl _) _
            have HRO := Lib.hid hro; have HBR := Lib.hid hbr; have Q5 := Lib.hid q5; have Q6 := Lib.hid q6; clear hro hbr q5 q6
            go_wp2
            go_roundw
            case rel => exact ⟨k + 1, by go_num, by omega, Q5.out, Q6.out⟩
            case measure => simp [intOf]; omega
          · obtain rfl : k = m := by omega
            have hro2 : IdB wr wq.heap.size k (fun _ => -1) := hro.eqv fun y hy => by rw [if_pos hy]
            have hKr := HK.out.later hbr
            have lq := HK.out.lt
            have hlow : ∀ b, b < i → R b ≠ wq.heap.size := fun b hb e => by have := lt_of_block (HK.out.rows b hb).2; omega
            have hRL := rowV_len R k i
            obtain ⟨OA, oc, rfl⟩ := own_slice1 hKr.own
            have hneX := hKr.neX
            have hownr := hKr.own
            have b3 := hKr.bx
            have c3 := cell_of_row _ _ 3 _ _ _ b3
            have lX2 := hKr.lt
            have x2 : ¬ (k : Int) < (k : Int) := by omega
            generalize hRV : rowV R k i = RV at *
            have HRO := Lib.hid hro; have HRO2 := Lib.hid hro2; have HKR := Lib.hid hKr; have HLOW := Lib.hid hlow; have HRL := Lib.hid hRL; have HRV := Lib.hid hRV; have HNEX := Lib.hid hneX; have B3 := Lib.hid b3; have HOWNR := Lib.hid hownr; have HBR := Lib.hid hbr; clear hro hro2 hKr hlow hRL hRV hneX b3 hownr hbr
            go_wp2_with (at_builtin; go_must (refine wpList_appI2_Tryd rfl _ _ rfl (X + 1) (.slice OA RV.length oc) RV rfl (by repeat (first | exact HOWNR.out | refine World.ownsRow.alloc ?_ _ | refine own_drewN ?_ _)) wr.heap.size (some ⟨wq.heap.size, 0, none⟩) k k rfl (heap_alloc_new _ _) (by rw [HRL.out]; have := HP3.out; omega) (by simp; omega) ?_); intro g cap w6 hown6 hgrow hat6 hlt6; have b6 := (hgrow.block X (by simp; omega) HNEX.out).trans ((Below.heap_alloc _ _ _ lX2).trans B3.out); have c6 := cell_of_row _ _ 3 _ _ _ b6; have f6 := frozen_of_row _ _ 3 _ _ b6)
            have r1 : KnC w2 (w6.setCell ⟨X, 3, none⟩ (.slice (some ⟨g, 0, none⟩) (RV.length + 1) cap)) X ws.length k (i + 1) (updF R i wq.heap.size) (.slice (some ⟨g, 0, none⟩) (RV.length + 1) cap) p A c TA tc :=
              KnC.put (l := (RV ++ [Value.slice (some ⟨wq.heap.size, 0, none⟩) k k]).length) (HKR.out.later ((Below.refl _ _).alloc (Nat.le_refl _) (.cells #[Value.slice (some ⟨wq.heap.size, 0, none⟩) k k] 26))) ((Below.heap_alloc _ _ _ (lt_of_block HRO2.out)).trans HRO2.out) lq HLOW.out hgrow (by rw [HRV.out]; exact hown6) (by rw [HRV.out])
            have R1 := Lib.hid r1; have HOWN6 := Lib.hid hown6; have HGROW := Lib.hid hgrow; have B6 := Lib.hid b6; clear r1 hown6 hgrow b6
            go_wp2
            go_roundw
            case rel => exact ⟨i + 1, _, _, by go_num, by omega, R1.out⟩
            case measure => simp [intOf]; omega
      · obtain rfl : i = N := by omega
        have ho := hK.own
        rw [rowV_len] at ho
        obtain ⟨kb, kc, hgv, _⟩ := ho.form HP2.out
        subst hgv
        have hm := HM.out
        subst hm
        have hR := KnC.all (tblM ws wl) (LO ws wl) hK HXE.out.symm
        have hsz0 := hR.blk HP2.out
        have hrest0 : Calls Tryd.prog 48 #[.pointer (some ⟨X, 0, none⟩), .int .i64 0, .int .i64 (-1)] wq fun e w' => e = .returned (.int .i64 (rsU ws.length (tcO ws) (LO ws wl) 0 (-1) : Int)) ∧ RsC w2 w' X kb kc i R p A c ws TA tc (tblM ws wl) (LO ws wl) ∧ Kp (RwC i R) wq w' :=
          rrest13_ w2 X kb kc i R p A c ws TA tc (tblM ws wl) (LO ws wl) (by have := H12.out; omega) HN.out HPL.out (LO_tbl ws wl) HRD2.out HM2.out (miss ws.length 0) 0 0 (-1) wq (Nat.le_refl _) HP2.out (Nat.zero_le _) (by simp) hR
        have x1 : ¬ (i : Int) < (i : Int) := by omega
        have hlen := HLEN.out
        obtain ⟨g1, g2, _⟩ := pth_spec (tc := tcO ws) (last := -1) (miss_nil ws.length) hlen.1 hlen.2
        have hnl : nrL p ws wl = pthR ws.length (tcO ws) (LO ws wl) ws.length 0 (-1) := by unfold nrL; rw [if_pos HX.out]
        have hnn : nrN p ws wl = rsU ws.length (tcO ws) (LO ws wl) 0 (-1) := by unfold nrN; rw [if_pos HX.out]
        clear hlen
        have HK := Lib.hid hK; have HO := Lib.hid ho; have HR := Lib.hid hR; have HSZ0 := Lib.hid hsz0; have HREST0 := Lib.hid hrest0; have G1 := Lib.hid g1; have G2 := Lib.hid g2; have HNL := Lib.hid hnl; have HNN := Lib.hid hnn; clear hK ho hR hsz0 hrest0 g1 g2 hnl hnn
        go_wp2_with (go_at_call 48; refine HREST0.out.mono ?_; rintro e w5 ⟨rfl, hR5, hk5⟩)
        have hs5 := hR5.blk HP2.out
        have HR5 := Lib.hid hR5; have HK5 := Lib.hid hk5; have HS5 := Lib.hid hs5; clear hR5 hk5 hs5
        go_loopw [16, 17, 18, 19] (fun ov dv lv _ wr => ∃ (acc : List Int) (S t : Nat) (z : Int), dv = .int .i64 (S : Int) ∧ lv = .int .i64 z ∧ z + 1 = (t : Int) ∧ t ≤ ws.length ∧ S < i ∧ wr.ownsRow w5.heap.size 3 1 ov acc.length (ints acc) ∧ acc.length + miss ws.length S = ws.length ∧ pthR ws.length (tcO ws) (LO ws wl) ws.length 0 (-1) = acc ++ pthR ws.length (tcO ws) (LO ws wl) (miss ws.length S) S z ∧ (pRun ws.length (LO ws wl) S (pthR ws.length (tcO ws) (LO ws wl) (miss ws.length S) S z)).isSome = true ∧ (pthR ws.length (tcO ws) (LO ws wl) (miss ws.length S) S z).length = miss ws.length S ∧ RsC w2 wr X kb kc i R p A c ws TA tc (tblM ws wl) (LO ws wl) ∧ w5.heap.size ≤ wr.heap.size) (fun ov _ _ _ _ => ws.length - slLen ov)
        case atStart => exact ⟨[], 0, 0, -1, rfl, rfl, by simp, Nat.zero_le _, HP2.out, World.ownsRow_nil _ _ _ _, by rw [miss_nil]; simp, by rw [miss_nil]; rfl, by rw [miss_nil]; exact G2.out, by rw [miss_nil]; exact G1.out, HR5.out, Nat.le_refl _⟩
        case round =>
          obtain ⟨acc, S, t, z, rfl, rfl, hzt, ht, hS, hown, hms, hpth, hrun, hln, hP, hsz⟩ := hrel
          obtain ⟨VA, vc, rfl⟩ := own_slice1 hown
          obtain ⟨wx, rfl⟩ : ∃ wx : World, wx = wr := ⟨_, rfl⟩
          by_cases hlt : acc.length < ws.length
          · obtain ⟨f, hf⟩ : ∃ f, miss ws.length S = f + 1 := ⟨miss ws.length S - 1, by omega⟩
            rw [hf] at hpth hrun hln
            cases hb : bstB (tcO ws) (LO ws wl) (fun T b => rsU ws.length (tcO ws) (LO ws wl) T b) S z ws.length with
            | none => rw [pthR, hb] at hln; cases hln
            | some y =>
              obtain ⟨v, b⟩ := y
              obtain ⟨hb1, hb2, hb3, hb4, hb5⟩ := (bstB_spec ws.length).2 v b hb
              have hrsv : rsU ws.length (tcO ws) (LO ws wl) S z = v := by rw [rsU_step, hb]; rfl
              have hp2' : pthR ws.length (tcO ws) (LO ws wl) (f + 1) S z = (b : Int) :: pthR ws.length (tcO ws) (LO ws wl) f (S ||| 2 ^ b) b := by rw [pthR, hb]
              have hmb := miss_step' (freeB_bit hb2) ws.length hb1
              have hmf : miss ws.length (S ||| 2 ^ b) = f := by omega
              rw [hp2'] at hpth hrun hln
              rw [pRun_nat hb1 hb2] at hrun
              rw [← hmf] at hpth hrun hln
              have hln2 : (pthR ws.length (tcO ws) (LO ws wl) (miss ws.length (S ||| 2 ^ b)) (S ||| 2 ^ b) b).length = miss ws.length (S ||| 2 ^ b) := by simpa using hln
              have hpth2 : pthR ws.length (tcO ws) (LO ws wl) ws.length 0 (-1) = (acc ++ [(b : Int)]) ++ pthR ws.length (tcO ws) (LO ws wl) (miss ws.length (S ||| 2 ^ b)) (S ||| 2 ^ b) b := by rw [hpth]; simp
              have hTb : S ||| 2 ^ b < i := by rw [HN.out]; exact set_lt (by rw [← HN.out]; exact hS) hb1
              have hms2 : (acc ++ [(b : Int)]).length + miss ws.length (S ||| 2 ^ b) = ws.length := by simp; omega
              have y1 : (acc.length : Int) < (ws.length : Int) := by omega
              have hv0 := rsU_le (n := ws.length) (tc := tcO ws) (L := LO ws wl) _ S z rfl
              rw [hrsv] at hv0
              clear hpth hln hp2' hb hmb hmf hb4
              have HZT := Lib.hid hzt; have HT := Lib.hid ht; have HS := Lib.hid hS; have HOWN := Lib.hid hown; have HMS := Lib.hid hms; have HRUN := Lib.hid hrun; have HP := Lib.hid hP; have HSZ := Lib.hid hsz; have HB1 := Lib.hid hb1; have HB2 := Lib.hid hb2; have HB3 := Lib.hid hb3; have HB5 := Lib.hid hb5; have HRSV := Lib.hid hrsv; have HLN2 := Lib.hid hln2; have HPTH2 := Lib.hid hpth2; have HTB := Lib.hid hTb; have HMS2 := Lib.hid hms2; have HF := Lib.hid hf; have HLT := Lib.hid hlt; have HV0 := Lib.hid hv0; clear hzt ht hS hown hms hrun hP hsz hb1 hb2 hb3 hb5 hrsv hln2 hpth2 hTb hms2 hf hlt hv0
              go_wp2
              go_loopw [16, 17, 18, 19] (fun ov dv lv kv wr => ∃ k : Nat, kv = .int .i64 k ∧ ov = .slice VA acc.length vc ∧ dv = .int .i64 (S : Int) ∧ lv = .int .i64 z ∧ k ≤ b ∧ wr.ownsRow w5.heap.size 3 1 (.slice VA acc.length vc) acc.length (ints acc) ∧ RsC w2 wr X kb kc i R p A c ws TA tc (tblM ws wl) (LO ws wl) ∧ w5.heap.size ≤ wr.heap.size) (fun _ _ _ kv _ => b + 1 - (intOf kv).toNat)
              case atStart => exact ⟨0, rfl, rfl, rfl, rfl, Nat.zero_le _, HOWN.out, HP.out, HSZ.out⟩
              case round =>
                clear HOWN HP HSZ
                obtain ⟨k, rfl, rfl, rfl, rfl, hk, hown, hP, hsz⟩ := hrel
                obtain ⟨wy, rfl⟩ : ∃ wy : World, wy = wr := ⟨_, rfl⟩
                have hkn : k < ws.length := by have := HB1.out; omega
                have hn12 : ws.length ≤ 12 := by have := H12.out; omega
                have hS12 : S < 2 ^ 12 := by have := HS.out; have := HP3.out; omega
                have hSe := hP.se HRD2.out HM2.out
                have hmay := rmay13_ X p A c ws TA tc S k (LO ws wl) (tblM ws wl) wy (by omega) (by omega) (LO_tbl ws wl k) hkn hSe
                have hXl := World.block_lt_of_cell? wy _ hP.ps
                have z1 : (k : Int) < (ws.length : Int) := by omega
                cases hf2 : freeB (LO ws wl) S k with
                | false =>
                  have hkb : k < b := by
                    rcases Nat.lt_or_ge k b with h | h
                    · exact h
                    · obtain rfl : k = b := by omega
                      rw [HB2.out] at hf2; cases hf2
                  rw [hf2] at hmay
                  have HK := Lib.hid hk; have HOWN := Lib.hid hown; have HP := Lib.hid hP; have HSZ := Lib.hid hsz; have HMAY := Lib.hid hmay; have HF2 := Lib.hid hf2; have HSE := Lib.hid hSe; have HS12 := Lib.hid hS12; clear hk hown hP hsz hmay hf2 hSe hS12
                  go_wp2_with (go_at_call 39; refine HMAY.out.mono ?_; rintro e w3 ⟨rfl, rfl⟩)
                  go_roundw
                  case rel => exact ⟨k + 1, by go_num, rfl, rfl, rfl, by omega, HOWN.out, HP.out, HSZ.out⟩
                  case measure => simp [intOf]; omega
                | true =>
                  have hTk : S ||| 2 ^ k < i := by rw [HN.out]; exact set_lt (by rw [← HN.out]; exact HS.out) hkn
                  have hstep := rstep13_ X p A c ws TA tc (tblM ws wl) z k wy HPL.out (by have := HZT.out; have := HT.out; omega) hkn hSe
                  have hrest := fun W h => rrest13_ w2 X kb kc i R p A c ws TA tc (tblM ws wl) (LO ws wl) (by have := H12.out; omega) HN.out HPL.out (LO_tbl ws wl) HRD2.out HM2.out (miss ws.length (S ||| 2 ^ k)) (S ||| 2 ^ k) (k + 1) (k : Int) W (Nat.le_refl _) hTk (by omega) (by push_cast; rfl) h
                  have hrest2 := fun W h => rrest13_ w2 X kb kc i R p A c ws TA tc (tblM ws wl) (LO ws wl) (by have := H12.out; omega) HN.out HPL.out (LO_tbl ws wl) HRD2.out HM2.out (miss ws.length S) S t z W (Nat.le_refl _) HS.out HT.out HZT.out h
                  rw [HRSV.out] at hrest2
                  have hrs := rsU_le (n := ws.length) (tc := tcO ws) (L := LO ws wl) _ (S ||| 2 ^ k) (k : Int) rfl
                  have hm12 := miss_le ws.length (S ||| 2 ^ k)
                  have hst1 := stp_le (tc := tcO ws) z k
                  have e4 : IntKind.i64.wrap (2 ^ k) = 2 ^ k := by
                    have h1 : 2 ^ k < 2 ^ 12 := Nat.pow_lt_pow_right (by decide) (by have := H12.out; omega)
                    rw [show (2 : Int) ^ k = ((2 ^ k : Nat) : Int) by simp]
                    exact wraps62 _ (Int.natCast_nonneg _) (by omega)
                  have e5 := bit_set .i64 62 (by decide) wraps62 S k (by omega) (by omega)
                  have z3 : IntKind.u64.wrap (k : Int) = (k : Int) := wraps64 _ (by omega) (by omega)
                  have z4 : (0 : Int) ≤ (k : Int) := by omega
                  have z5 : (k : Int) < 64 := by omega
                  have hbv := fun e : k = b => (show stp (tcO ws) z k + rsU ws.length (tcO ws) (LO ws wl) (S ||| 2 ^ k) k = v by rw [HB3.out, e])
                  have hkv := fun e : k < b => HB5.out k e hf2
                  rw [hf2] at hmay
                  generalize hTe : S ||| 2 ^ k = T at *
                  generalize stp (tcO ws) z k = sv at *
                  generalize rsU ws.length (tcO ws) (LO ws wl) T (k : Int) = rv at *
                  have q1 : IntKind.i64.wrap ((sv : Int) + (rv : Int)) = ((sv + rv : Nat) : Int) := by rw [IntWalk.i64_in _ (by omega)]; push_cast; rfl
                  generalize sv + rv = nv at *
                  clear hrs hm12 hst1 hf2
                  by_cases hkb : k = b
                  · obtain rfl := hbv hkb
                    subst hkb
                    clear hkv hbv
                    have HK := Lib.hid hk; have HOWN := Lib.hid hown; have HP := Lib.hid hP; have HSZ := Lib.hid hsz; have HMAY := Lib.hid hmay; have HSE := Lib.hid hSe; have HS12 := Lib.hid hS12; have HTK := Lib.hid hTk; have HSTEP := Lib.hid hstep; have HREST := Lib.hid hrest; have HREST2 := Lib.hid hrest2; have HTE := Lib.hid hTe; clear hk hown hP hsz hmay hSe hS12 hTk hstep hrest hrest2 hTe
                    go_wp2_with fail
                    refine HMAY.out.mono ?_
                    rintro e w3 ⟨rfl, rfl⟩
                    go_wp2_with fail
                    refine HSTEP.out.mono ?_
                    rintro e w6 ⟨rfl, hb6⟩
                    have hP6 := HP.out.later hb6
                    have HP6 := Lib.hid hP6; clear hP6
                    go_wp2_with fail
                    refine (HREST.out _ HP6.out).mono ?_
                    rintro e w7 ⟨rfl, hP7, hk7⟩
                    have HP7 := Lib.hid hP7; clear hP7
                    go_wp2_with fail
                    refine (HREST2.out _ HP7.out).mono ?_
                    rintro e w8 ⟨rfl, hP8, hk8⟩
                    have hown8 := own_kp (own_kp (own_below3 HOWN.out hb6) hk7 (fun i ⟨r, hr, e⟩ => by subst e; exact HS5.out.2.2 r hr)) hk8 (fun i ⟨r, hr, e⟩ => by subst e; exact HS5.out.2.2 r hr)
                    have hsz8 : w5.heap.size ≤ w8.heap.size := Nat.le_trans HSZ.out (Nat.le_trans hb6.size (Nat.le_trans hk7.size hk8.size))
                    have hXl8 := World.block_lt_of_cell? w8 _ hP8.ps
                    have HP8 := Lib.hid hP8; have HK7 := Lib.hid hk7; have HK8 := Lib.hid hk8; have HB6 := Lib.hid hb6; have HOWN8 := Lib.hid hown8; have HSZ8 := Lib.hid hsz8; clear hP8 hk7 hk8 hb6 hown8 hsz8
                    go_wp2_with (at_builtin; go_must (refine wpList_app1_Tryd rfl _ _ rfl w5.heap.size (.slice VA acc.length vc) acc rfl (HOWN8.out.alloc _) w8.heap.size (k : Int) rfl (heap_alloc_new _ _) (by have := HMS.out; omega) (by have := HSZ8.out; simp; omega) ?_); intro g cap w9 hown9 hgrow hat9 hlt9)
                    have hP8 := HP8.out
                    have hown8 := HOWN8.out
                    have hsz8 := HSZ8.out
                    clear HP8 HOWN8 HSZ8
                    have hsg := hgrow.size
                    have hsa : (w8.alloc (.cells #[Value.int .i64 (k : Int)] 3)).heap.size = w8.heap.size + 1 := by simp
                    have hlow := hown8.lt
                    have h5 := HS5.out
                    have hP9 : RsC w2 w9 X kb kc i R p A c ws TA tc (tblM ws wl) (LO ws wl) := hP8.same h5 (fun j hj => (hgrow.block j (by omega) (fun e => by have := (hlow j e.symm).1; omega)).trans (Below.heap_alloc _ _ _ (by omega))) ((hP8.bl.alloc (by omega) _).grown hgrow (by omega) (fun j hj => by have := (hlow j hj).1; omega))
                    have hsz9 : w5.heap.size ≤ w9.heap.size := by omega
                    have hle9 : k + 1 ≤ ws.length := hkn
                    have HOWN9 := Lib.hid hown9; have HGROW := Lib.hid hgrow; have HP9 := Lib.hid hP9; have HSZ9 := Lib.hid hsz9; have HP8 := Lib.hid hP8; have HOWN8 := Lib.hid hown8; have HSZ8 := Lib.hid hsz8; have HLOW := Lib.hid hlow; have H5 := Lib.hid h5; have HLE9 := Lib.hid hle9; have HSG := Lib.hid hsg; have HSA := Lib.hid hsa; clear hown9 hgrow hP9 hsz9 hP8 hown8 hsz8 hlow h5 hle9 hsg hsa
                    go_wp2
                    go_roundw
                    case rel => exact ⟨acc ++ [(k : Int)], T, k + 1, (k : Int), rfl, rfl, by push_cast; rfl, HLE9.out, HTK.out, HOWN9.out, by rw [← HTE.out]; exact HMS2.out, by rw [← HTE.out]; exact HPTH2.out, by rw [← HTE.out]; exact HRUN.out, by rw [← HTE.out]; exact HLN2.out, HP9.out, HSZ9.out⟩
                    case measure => simp [slLen]; have := HLT.out; omega
                  · have hlt2 := hkv (by omega)
                    have f1 : ((nv : Int) == (v : Int)) = false := by simp; omega
                    have f2 : decide ((nv : Int) = (v : Int)) = false := by simp; omega
                    have f3 : ¬ (nv : Int) = (v : Int) := by omega
                    clear hkv hbv
                    have HOWN := Lib.hid hown; have HP := Lib.hid hP; have HSZ := Lib.hid hsz; have HMAY := Lib.hid hmay; have HSE := Lib.hid hSe; have HS12 := Lib.hid hS12; have HTK := Lib.hid hTk; have HSTEP := Lib.hid hstep; have HREST := Lib.hid hrest; have HREST2 := Lib.hid hrest2; have HTE := Lib.hid hTe; have HLT2 := Lib.hid hlt2; clear hown hP hsz hmay hSe hS12 hTk hstep hrest hrest2 hTe hlt2
                    go_wp2_with fail
                    refine HMAY.out.mono ?_
                    rintro e w3 ⟨rfl, rfl⟩
                    go_wp2_with fail
                    refine HSTEP.out.mono ?_
                    rintro e w6 ⟨rfl, hb6⟩
                    have hP6 := HP.out.later hb6
                    have HP6 := Lib.hid hP6; clear hP6
                    go_wp2_with fail
                    refine (HREST.out _ HP6.out).mono ?_
                    rintro e w7 ⟨rfl, hP7, hk7⟩
                    have HP7 := Lib.hid hP7; clear hP7
                    go_wp2_with fail
                    refine (HREST2.out _ HP7.out).mono ?_
                    rintro e w8 ⟨rfl, hP8, hk8⟩
                    have hown8 := own_kp (own_kp (own_below3 HOWN.out hb6) hk7 (fun i ⟨r, hr, e⟩ => by subst e; exact HS5.out.2.2 r hr)) hk8 (fun i ⟨r, hr, e⟩ => by subst e; exact HS5.out.2.2 r hr)
                    have hsz8 : w5.heap.size ≤ w8.heap.size := Nat.le_trans HSZ.out (Nat.le_trans hb6.size (Nat.le_trans hk7.size hk8.size))
                    have HOWN8 := Lib.hid hown8; have HSZ8 := Lib.hid hsz8; have HP8 := Lib.hid hP8; have HK7 := Lib.hid hk7; have HK8 := Lib.hid hk8; have HB6 := Lib.hid hb6; clear hown8 hsz8 hP8 hk7 hk8 hb6
                    go_wp2
                    go_roundw
                    case rel => exact ⟨k + 1, by go_num, rfl, rfl, rfl, by omega, HOWN8.out, HP8.out, HSZ8.out⟩
                    case measure => simp [intOf]; omega
          · have hacc : acc.length = ws.length := by omega
            have hm0 : miss ws.length S = 0 := by omega
            have y1 : ¬ (acc.length : Int) < (ws.length : Int) := by omega
            rw [hm0] at hpth
            have hend : nrL p ws wl = acc := by rw [HNL.out, hpth]; exact List.append_nil _
            have hb9 : Below w.heap.size w wx := Y2.out.trans (hP.bl.mono (by rw [HXE.out]; exact Y2.out.size))
            have hown2 := hown
            clear hpth
            have HACC := Lib.hid hacc; have HM0 := Lib.hid hm0; have HEND := Lib.hid hend; have HB9 := Lib.hid hb9; have HOWN2 := Lib.hid hown2; have HZT := Lib.hid hzt; have HT := Lib.hid ht; have HS := Lib.hid hS; have HOWN := Lib.hid hown; have HMS := Lib.hid hms; have HRUN := Lib.hid hrun; have HLN := Lib.hid hln; have HP := Lib.hid hP; have HSZ := Lib.hid hsz; clear hacc hm0 hend hb9 hown2 hzt ht hS hown hms hrun hln hP hsz
            go_wp2
            go_ret3
            exact ⟨.slice VA acc.length vc, by rw [HNN.out, HX.out]; rfl, by rw [HEND.out]; exact ⟨VA, vc, rfl, by have := HACC.out; omega, own_rd HOWN2.out⟩, HB9.out⟩
end Go.Proofs.YtlpfecjkkgccgaaDoor
/- The law OrderNear: Aside and Near. -/
namespace Go.Proofs.YtlpfecjkkgccgaaDoor
open Go Go.RowKit
set_option maxRecDepth 100000 in
set_option maxHeartbeats 8000000 in
theorem lawNear_ (p : Int) (A Wa B : Option Addr) (c wc lc : Nat) (ws : List GW) (wl : List (Int × Int)) (l : List Int) (w : World) (ha : ShIn w p A ws) (hl : RdP w Wa wl) (ho : RdI w B l) (hlc : l.length ≤ lc) (hT : Tz w) :
    Calls Tryd.prog 7 #[.agg #[.int .i64 p, .slice A ws.length c, .slice Wa wl.length wc, .slice B l.length lc]] w fun e w' => e = .returned (.bool true) ∧ Below w.heap.size w w' := by
  have hb2 : Below w.heap.size w (w.alloc (.cells #[.int .i64 p, .slice A ws.length c, .slice Wa wl.length wc, .slice B l.length lc] 28)) := (Below.refl _ _).alloc (Nat.le_refl _) _
  have hC : CaseB (w.alloc (.cells #[.int .i64 p, .slice A ws.length c, .slice Wa wl.length wc, .slice B l.length lc] 28)) w.heap.size p A Wa B ws.length c wl.length wc l.length lc := heap_alloc_new _ _
  go_enter Tryd.func7, Tryd.ntmps7
  refine wp_seq_k fun K1 hK1 => ?_
  have HK1 := Lib.hid hK1; have HA := Lib.hid ha; have HL := Lib.hid hl; have HO := Lib.hid ho; have HLC := Lib.hid hlc; have HT := Lib.hid hT; clear hK1 ha hl ho hlc hT
  go_wp2
  refine HK1.out _ _ ?_
  clear HK1
  generalize w.alloc (.cells #[.int .i64 p, .slice A ws.length c, .slice Wa wl.length wc, .slice B l.length lc] 28) = w1 at *
  obtain ⟨c0, c1, c2, c3, s1⟩ := hC.open_
  have B1 := Lib.hid hb2
  clear hb2
  have HC := Lib.hid hC; clear hC
  go_wp2_with fail
  refine (far_ p A Wa B c wc lc wl.length l.length ws w1 (HA.out.rd.later B1.out (Nat.le_refl _))).mono ?_
  rintro e w2 ⟨t, rfl, hNear, b1⟩
  have hC2 := HC.out.later b1
  have B2 := Lib.hid (B1.out.trans (b1.mono B1.out.size))
  clear HC B1 b1 c0 c1 c2 c3 s1
  obtain ⟨c0, c1, c2, c3, s1⟩ := hC2.open_
  have HC2 := Lib.hid hC2; have HNEAR := Lib.hid hNear; clear hC2 hNear
  cases t with
  | true =>
    go_wp2_with fail
    refine (shown_ _ (HT.out.later B2.out (Nat.le_refl _))).mono ?_
    rintro e w3 ⟨rfl, b1⟩
    have B3 := Lib.hid (B2.out.trans (b1.mono B2.out.size))
    clear b1
    go_wp2
    go_ret
    exact ⟨rfl, B3.out⟩
  | false =>
    by_cases hmid : 10 < ws.length ∧ ws.length ≤ 12
    · have f1 : decide ((10 : Int) < (ws.length : Int)) = true := by simp; omega
      have f2 : decide ((ws.length : Int) ≤ 12) = true := by simp; omega
      have f3 : (10 : Int) < (ws.length : Int) := by omega
      have f4 : (ws.length : Int) ≤ 12 := by omega
      have HMID := Lib.hid hmid; clear hmid
      go_wp2_with fail
      refine (shown_ _ (HT.out.later B2.out (Nat.le_refl _))).mono ?_
      rintro e w3 ⟨rfl, b1⟩
      have B3 := Lib.hid (B2.out.trans (b1.mono B2.out.size))
      clear b1
      go_wp2
      go_ret
      exact ⟨rfl, B3.out⟩
    rcases Nat.lt_or_ge 10 ws.length with h13 | h13
    · have f1 : decide ((10 : Int) < (ws.length : Int)) = true := by simp; omega
      have f2 : decide ((ws.length : Int) ≤ 12) = false := by simp; omega
      have f3 : (10 : Int) < (ws.length : Int) := by omega
      have f4 : ¬ (ws.length : Int) ≤ 12 := by omega
      have H13 := Lib.hid h13; have HMID := Lib.hid hmid; clear h13 hmid
      go_wp2_with fail
      refine (oNear_ p A Wa c wc ws wl _ (HA.out.later B2.out (Nat.le_refl _)) (HL.out.later B2.out (Nat.le_refl _))).mono ?_
      rintro e w3 ⟨v, rfl, ⟨PA, pa, rfl, h1⟩, _, b1⟩
      have hC3 := HC2.out.later b1
      have B3 := Lib.hid (B2.out.trans (b1.mono B2.out.size))
      clear HC2 B2 b1 c0 c1 c2 c3 s1 
      obtain ⟨c0, c1, c2, c3, s1⟩ := hC3.open_
      have HP := Lib.hid h1; clear h1
      have HC3 := Lib.hid hC3; clear hC3
      go_wp2_with fail
      refine (rNear_ p A Wa c wc ws wl _ (HA.out.later B3.out (Nat.le_refl _)) (HL.out.later B3.out (Nat.le_refl _))).mono ?_
      rintro e w4 ⟨v, rfl, ⟨QA, qa, rfl, h1⟩, b1⟩
      have hC4 := HC3.out.later b1
      have B4 := Lib.hid (B3.out.trans (b1.mono B3.out.size))
      have qHP := HP.out.later b1 (Nat.le_refl _)
      clear HC3 B3 b1 c0 c1 c2 c3 s1 HP
      have HP := Lib.hid qHP; clear qHP
      obtain ⟨c0, c1, c2, c3, s1⟩ := hC4.open_
      have HQ := Lib.hid h1; clear h1
      have HC4 := Lib.hid hC4; clear hC4
      generalize nrX p ws wl = E1 at *
      generalize nrN p ws wl = N1 at *
      generalize nrL p ws wl = L1 at *
      go_wp2_with fail
      refine (oAside_ p A B c lc ws l _ (HA.out.later B4.out (Nat.le_refl _)) (HO.out.later B4.out (Nat.le_refl _))).mono ?_
      rintro e w5 ⟨rfl, b1⟩
      have hC5 := HC4.out.later b1
      have B5 := Lib.hid (B4.out.trans (b1.mono B4.out.size))
      have qHP := HP.out.later b1 (Nat.le_refl _)
      have qHQ := HQ.out.later b1 (Nat.le_refl _)
      clear HC4 B4 b1 c0 c1 c2 c3 s1 HP HQ
      have HP := Lib.hid qHP; clear qHP
      have HQ := Lib.hid qHQ; clear qHQ
      obtain ⟨c0, c1, c2, c3, s1⟩ := hC5.open_
      have HC5 := Lib.hid hC5; clear hC5
      go_wp2_with fail
      refine (rAside_ p A B c lc ws l _ (HA.out.later B5.out (Nat.le_refl _)) (HO.out.later B5.out (Nat.le_refl _))).mono ?_
      rintro e w6 ⟨rfl, b1⟩
      have hC6 := HC5.out.later b1
      have B6 := Lib.hid (B5.out.trans (b1.mono B5.out.size))
      have qHP := HP.out.later b1 (Nat.le_refl _)
      have qHQ := HQ.out.later b1 (Nat.le_refl _)
      clear HC5 B5 b1 c0 c1 c2 c3 s1 HP HQ
      have HP := Lib.hid qHP; clear qHP
      have HQ := Lib.hid qHQ; clear qHQ
      obtain ⟨c0, c1, c2, c3, s1⟩ := hC6.open_
      have HC6 := Lib.hid hC6; clear hC6
      generalize asdN p ws l = N2 at *
      generalize reoX p ws l = E2 at *
      go_wp2_with fail
      refine (sameInts_ PA QA pa qa L1 L1 _ HP.out HQ.out).mono ?_
      rintro e w7 ⟨rfl, b1⟩
      rw [show decide (L1 = L1) = true from decide_eq_true rfl]
      have hC7 := HC6.out.later b1
      have B7 := Lib.hid (B6.out.trans (b1.mono B6.out.size))
      have qHP := HP.out.later b1 (Nat.le_refl _)
      have qHQ := HQ.out.later b1 (Nat.le_refl _)
      clear HC6 B6 b1 c0 c1 c2 c3 s1 HP HQ
      have HP := Lib.hid qHP; clear qHP
      have HQ := Lib.hid qHQ; clear qHQ
      obtain ⟨c0, c1, c2, c3, s1⟩ := hC7.open_
      have HC7 := Lib.hid hC7; clear hC7
      go_wp2_with fail
      refine (shown_ _ (HT.out.later B7.out (Nat.le_refl _))).mono ?_
      rintro e w8 ⟨rfl, b1⟩
      have B8 := Lib.hid (B7.out.trans (b1.mono B7.out.size))
      clear b1
      go_wp2
      go_ret
      exact ⟨rfl, B8.out⟩
    · have f1 : decide ((10 : Int) < (ws.length : Int)) = false := by simp; omega
      have f3 : ¬ (10 : Int) < (ws.length : Int) := by omega
      have H13 := Lib.hid h13; have HMID := Lib.hid hmid; clear h13 hmid
      go_wp2_with fail
      refine (oNear_ p A Wa c wc ws wl _ (HA.out.later B2.out (Nat.le_refl _)) (HL.out.later B2.out (Nat.le_refl _))).mono ?_
      rintro e w3 ⟨v, rfl, ⟨PA, pa, rfl, h1⟩, _, b1⟩
      have hC3 := HC2.out.later b1
      have B3 := Lib.hid (B2.out.trans (b1.mono B2.out.size))
      clear HC2 B2 b1 c0 c1 c2 c3 s1 
      obtain ⟨c0, c1, c2, c3, s1⟩ := hC3.open_
      have HP := Lib.hid h1; clear h1
      have HC3 := Lib.hid hC3; clear hC3
      go_wp2_with fail
      refine (rNear_ p A Wa c wc ws wl _ (HA.out.later B3.out (Nat.le_refl _)) (HL.out.later B3.out (Nat.le_refl _))).mono ?_
      rintro e w4 ⟨v, rfl, ⟨QA, qa, rfl, h1⟩, b1⟩
      have hC4 := HC3.out.later b1
      have B4 := Lib.hid (B3.out.trans (b1.mono B3.out.size))
      have qHP := HP.out.later b1 (Nat.le_refl _)
      clear HC3 B3 b1 c0 c1 c2 c3 s1 HP
      have HP := Lib.hid qHP; clear qHP
      obtain ⟨c0, c1, c2, c3, s1⟩ := hC4.open_
      have HQ := Lib.hid h1; clear h1
      have HC4 := Lib.hid hC4; clear hC4
      generalize nrX p ws wl = E1 at *
      generalize nrN p ws wl = N1 at *
      generalize nrL p ws wl = L1 at *
      go_wp2_with fail
      refine (oAside_ p A B c lc ws l _ (HA.out.later B4.out (Nat.le_refl _)) (HO.out.later B4.out (Nat.le_refl _))).mono ?_
      rintro e w5 ⟨rfl, b1⟩
      have hC5 := HC4.out.later b1
      have B5 := Lib.hid (B4.out.trans (b1.mono B4.out.size))
      have qHP := HP.out.later b1 (Nat.le_refl _)
      have qHQ := HQ.out.later b1 (Nat.le_refl _)
      clear HC4 B4 b1 c0 c1 c2 c3 s1 HP HQ
      have HP := Lib.hid qHP; clear qHP
      have HQ := Lib.hid qHQ; clear qHQ
      obtain ⟨c0, c1, c2, c3, s1⟩ := hC5.open_
      have HC5 := Lib.hid hC5; clear hC5
      go_wp2_with fail
      refine (rAside_ p A B c lc ws l _ (HA.out.later B5.out (Nat.le_refl _)) (HO.out.later B5.out (Nat.le_refl _))).mono ?_
      rintro e w6 ⟨rfl, b1⟩
      have hC6 := HC5.out.later b1
      have B6 := Lib.hid (B5.out.trans (b1.mono B5.out.size))
      have qHP := HP.out.later b1 (Nat.le_refl _)
      have qHQ := HQ.out.later b1 (Nat.le_refl _)
      clear HC5 B5 b1 c0 c1 c2 c3 s1 HP HQ
      have HP := Lib.hid qHP; clear qHP
      have HQ := Lib.hid qHQ; clear qHQ
      obtain ⟨c0, c1, c2, c3, s1⟩ := hC6.open_
      have HC6 := Lib.hid hC6; clear hC6
      generalize asdN p ws l = N2 at *
      generalize reoX p ws l = E2 at *
      go_wp2_with fail
      refine (sameInts_ PA QA pa qa L1 L1 _ HP.out HQ.out).mono ?_
      rintro e w7 ⟨rfl, b1⟩
      rw [show decide (L1 = L1) = true from decide_eq_true rfl]
      have hC7 := HC6.out.later b1
      have B7 := Lib.hid (B6.out.trans (b1.mono B6.out.size))
      have qHP := HP.out.later b1 (Nat.le_refl _)
      have qHQ := HQ.out.later b1 (Nat.le_refl _)
      clear HC6 B6 b1 c0 c1 c2 c3 s1 HP HQ
      have HP := Lib.hid qHP; clear qHP
      have HQ := Lib.hid qHQ; clear qHQ
      obtain ⟨c0, c1, c2, c3, s1⟩ := hC7.open_
      have HC7 := Lib.hid hC7; clear hC7
      go_wp2_with fail
      refine (shown_ _ (HT.out.later B7.out (Nat.le_refl _))).mono ?_
      rintro e w8 ⟨rfl, b1⟩
      have B8 := Lib.hid (B7.out.trans (b1.mono B7.out.size))
      clear b1
      go_wp2
      go_ret
      exact ⟨rfl, B8.out⟩
end Go.Proofs.YtlpfecjkkgccgaaDoor
