/- Texts of this claim, laid together: EdEnd, RCl, RTwo. -/
import Derived.Test.YtnplcephmidjbaaDoorMaA
import Derived.Test.YtnplcephmidjbaaDoorMaC
import Derived.Test.YtnplcephmidjbaaDoorMaL
import Derived.Test.YtnplcephmidjbaaDoorMaM
import Derived.Test.YtnplcephmidjbaaDoorMaN
/- Where each edge begins and ends, from the sequence of the edges: plain. -/
namespace Go.Proofs.YtnplcephmidjbaaDoor

/-- Edge i begins behind so many works, in the place q. -/
def Sta (P : Nat) (pls : Nat → Nat) (i f q : Nat) (fr out : Int) : Prop :=
  (i < P ∧ f = 0 ∧ q = i ∧ fr = -1 ∧ out = i) ∨ ∃ j sd : Nat, sd < 2 ∧ i = P + 2 * j + sd ∧ f = j + 1 ∧ q = pls j + sd ∧ fr = j ∧ out = sd
/-- No work from f on, before k, takes the place. -/
def Free (pls : Nat → Nat) (f k q : Nat) : Prop := ∀ t, f ≤ t → t < k → ¬ tk pls t q
/-- How an edge that begins so ends, among n works. -/
def EndsAt (pls : Nat → Nat) (f n q : Nat) (tw inn : Int) : Prop :=
  (∃ t, f ≤ t ∧ t < n ∧ tk pls t q ∧ Free pls f t q ∧ tw = t ∧ inn = (q : Int) - pls t) ∨ (Free pls f n q ∧ tw = -1 ∧ inn = q)
section
variable {P : Nat} {pls : Nat → Nat}
theorem sta_uniq {i f f' q q' : Nat} {fr fr' out out' : Int} (h : Sta P pls i f q fr out) (h' : Sta P pls i f' q' fr' out') : f = f' ∧ q = q' ∧ fr = fr' ∧ out = out' := by
  rcases h with ⟨h1, h2, h3, h4, h5⟩ | ⟨j, sd, h1, h2, h3, h4, h5, h6⟩ <;> rcases h' with ⟨g1, g2, g3, g4, g5⟩ | ⟨j', sd', g1, g2, g3, g4, g5, g6⟩
  · omega
  · omega
  · omega
  · obtain rfl : j = j' := by omega
    obtain rfl : sd = sd' := by omega
    omega
theorem endsAt_uniq {f n q : Nat} {tw tw' inn inn' : Int} (h : EndsAt pls f n q tw inn) (h' : EndsAt pls f n q tw' inn') : tw = tw' ∧ inn = inn' := by
  rcases h with ⟨t, h1, h2, h3, h4, rfl, rfl⟩ | ⟨h1, rfl, rfl⟩ <;> rcases h' with ⟨t', g1, g2, g3, g4, rfl, rfl⟩ | ⟨g1, rfl, rfl⟩
  · rcases Nat.lt_trichotomy t t' with c | c | c
    · exact absurd h3 (g4 t h1 c)
    · subst c; exact ⟨rfl, rfl⟩
    · exact absurd g3 (h4 t' g1 c)
  · exact absurd h3 (g1 t h1 h2)
  · exact absurd g3 (h1 t' g1 g2)
  · exact ⟨rfl, rfl⟩
/-- In each place lies an edge that began there and has not ended. -/
def LineOk (P : Nat) (pls : Nat → Nat) (k : Nat) (s : Ln) : Prop :=
  ∀ q, q < P → ∃ i f : Nat, Sta P pls i f q (s.fr q) (s.out q) ∧ s.idx q = (i : Int) ∧ f ≤ k ∧ Free pls f k q
theorem line_ok : ∀ k, LineOk P pls k (eWork P pls k)
  | 0 => fun q hq => ⟨q, 0, .inl ⟨hq, rfl, rfl, rfl, rfl⟩, rfl, Nat.le_refl _, fun t _ h => by omega⟩
  | k + 1 => fun q hq => by
    show ∃ i f : Nat, Sta P pls i f q (updF (updF (eWork P pls k).fr (pls k + 0) k) (pls k + 1) k q) (updF (updF (eWork P pls k).out (pls k + 0) (0 : Nat)) (pls k + 1) (1 : Nat) q) ∧
      updF (updF (eWork P pls k).idx (pls k + 0) (P + 2 * k + (0 : Nat))) (pls k + 1) (P + 2 * k + (1 : Nat)) q = (i : Int) ∧ f ≤ k + 1 ∧ Free pls f (k + 1) q
    unfold updF
    by_cases h1 : q = pls k + 1
    · simp only [h1, if_true]
      exact ⟨P + 2 * k + 1, k + 1, .inr ⟨k, 1, by omega, rfl, rfl, rfl, rfl, rfl⟩, by omega, Nat.le_refl _, fun t h h' => by omega⟩
    · by_cases h2 : q = pls k + 0
      · simp only [h2, if_true]
        refine ⟨P + 2 * k + 0, k + 1, .inr ⟨k, 0, by omega, rfl, rfl, rfl, ?_, ?_⟩, ?_, Nat.le_refl _, fun t h h' => by omega⟩
        · rw [if_neg (by omega)]
        · rw [if_neg (by omega)]
        · rw [if_neg (by omega)]; omega
      · simp only [h1, h2, if_false]
        obtain ⟨i, f, g1, g2, g3, g4⟩ := line_ok k q hq
        refine ⟨i, f, g1, g2, by omega, fun t ht ht' htk => ?_⟩
        by_cases hk : t = k
        · subst hk
          unfold tk at htk
          omega
        · exact g4 t ht (by omega) htk
/-- The edge that began in a place and has not ended lies there. -/
theorem alive_at {k : Nat} {s : Ln} (hs : LineOk P pls k s) {i f q : Nat} {fr out : Int} (hq : q < P) (h : Sta P pls i f q fr out) (hf : f ≤ k) (hfr : Free pls f k q) : s.idx q = (i : Int) ∧ s.fr q = fr ∧ s.out q = out := by
  obtain ⟨i', f', g1, g2, g3, g4⟩ := hs q hq
  have hff : f = f' := by
    rcases Nat.lt_trichotomy f f' with c | c | c
    · rcases g1 with ⟨_, e2, _⟩ | ⟨j, sd, e1, e2, e3, e4, _⟩
      · omega
      · exact absurd (show tk pls j q by unfold tk; omega) (hfr j (by omega) (by omega))
    · exact c
    · rcases h with ⟨_, e2, _⟩ | ⟨j, sd, e1, e2, e3, e4, _⟩
      · omega
      · exact absurd (show tk pls j q by unfold tk; omega) (g4 j (by omega) (by omega))
  subst hff
  have hii : i = i' := by
    rcases h with ⟨e1, e2, e3, _⟩ | ⟨j, sd, e1, e2, e3, e4, _⟩ <;> rcases g1 with ⟨d1, d2, d3, _⟩ | ⟨j', sd', d1, d2, d3, d4, _⟩
    · omega
    · omega
    · omega
    · obtain rfl : j = j' := by omega
      omega
  subst hii
  obtain ⟨_, _, e3, e4⟩ := sta_uniq h g1
  exact ⟨g2, e3.symm, e4.symm⟩
/-- An edge that has ended lies nowhere. -/
theorem gone {k : Nat} {s : Ln} (hs : LineOk P pls k s) {i f q p : Nat} {fr out : Int} (hp : p < P) (h : Sta P pls i f q fr out) (hg : p ≠ q ∨ ¬ Free pls f k q) : (s.idx p).toNat ≠ i := by
  intro e
  obtain ⟨i', f', g1, g2, g3, g4⟩ := hs p hp
  rw [g2, Int.toNat_natCast] at e
  subst e
  obtain ⟨e1, e2, _⟩ := sta_uniq h g1
  subst e1; subst e2
  rcases hg with hg | hg
  · exact hg rfl
  · exact hg g4
theorem outF_two (k : Nat) : outF (eList P pls (k + 1)) = updF (updF (outF (eList P pls k)) ((eWork P pls k).idx (pls k)).toNat (⟨(eWork P pls k).fr (pls k), (eWork P pls k).out (pls k), k, (0 : Nat)⟩ : E4))
    ((eWork P pls k).idx (pls k + 1)).toNat (⟨(eWork P pls k).fr (pls k + 1), (eWork P pls k).out (pls k + 1), k, (1 : Nat)⟩ : E4) := by
  show outF ((eList P pls k ++ [_]) ++ [_]) = _
  rw [outF_snoc, outF_snoc]
  have e1 : ∀ {α : Type} (g : Nat → α) (v : α), updF g (pls k + 0) v (pls k + 1) = g (pls k + 1) := fun g v => by unfold updF; rw [if_neg (by omega)]
  show updF (updF _ ((eWork P pls k).idx (pls k + 0)).toNat (⟨(eWork P pls k).fr (pls k + 0), (eWork P pls k).out (pls k + 0), k, (0 : Nat)⟩ : E4)) (updF (eWork P pls k).idx (pls k + 0) _ (pls k + 1)).toNat
    (⟨updF (eWork P pls k).fr (pls k + 0) _ (pls k + 1), updF (eWork P pls k).out (pls k + 0) _ (pls k + 1), k, (1 : Nat)⟩ : E4) = _
  rw [e1, e1, e1]
  rfl
theorem updF_same {α : Type} (g : Nat → α) (i : Nat) (v : α) : updF g i v i = v := if_pos rfl
theorem updF_other {α : Type} (g : Nat → α) {i j : Nat} (v : α) (h : i ≠ j) : updF g i v j = g j := if_neg (fun e => h e.symm)
theorem list_ends : ∀ (k i f q t : Nat) (fr out : Int), (∀ j, j < k → pls j + 2 ≤ P) → q < P → Sta P pls i f q fr out → f ≤ t → t < k → tk pls t q → Free pls f t q →
    outF (eList P pls k) i = ⟨fr, out, t, (q : Int) - pls t⟩
  | 0, _, _, _, _, _, _, _, _, _, _, h, _, _ => by omega
  | k + 1, i, f, q, t, fr, out, hpl, hq, hst, hft, htk, htq, hfr => by
    have hs := line_ok (P := P) (pls := pls) k
    have hp := hpl k (by omega)
    rw [outF_two]
    by_cases hc : t = k
    · subst hc
      obtain ⟨a1, a2, a3⟩ := alive_at hs hq hst hft hfr
      rcases htq with h | h
      · subst h
        rw [updF_other _ _ (gone hs (by omega) hst (.inl (by omega))), a1, a2, a3, Int.toNat_natCast, updF_same]
        congr 1
        omega
      · subst h
        rw [a1, a2, a3, Int.toNat_natCast, updF_same]
        congr 1
        omega
    · have hnf : ¬ Free pls f k q := fun h => h t hft (by omega) htq
      rw [updF_other _ _ (gone hs (by omega) hst (.inr hnf)), updF_other _ _ (gone hs (by omega) hst (.inr hnf))]
      exact list_ends k i f q t fr out (fun j hj => hpl j (by omega)) hq hst hft (by omega) htq hfr
theorem ends_out {k : Nat} {s : Ln} (hs : LineOk P pls k s) (L : List El) {i f q : Nat} {fr out : Int} (hq : q < P) (hst : Sta P pls i f q fr out) (hf : f ≤ k) : ∀ j, j ≤ P →
    (Free pls f k q → q < j → outF (L ++ eEnds s j) i = ⟨fr, out, -1, q⟩) ∧ (¬ (Free pls f k q ∧ q < j) → outF (L ++ eEnds s j) i = outF L i)
  | 0, _ => ⟨fun _ h => by omega, fun _ => by simp [eEnds]⟩
  | j + 1, hj => by
    obtain ⟨h1, h2⟩ := ends_out hs L hq hst hf j (by omega)
    rw [eEnds_succ, ← List.append_assoc, outF_snoc]
    show (_ → _ → updF _ (s.idx j).toNat (⟨s.fr j, s.out j, -1, j⟩ : E4) i = _) ∧ (_ → updF _ (s.idx j).toNat (⟨s.fr j, s.out j, -1, j⟩ : E4) i = _)
    constructor
    · intro ha hqj
      by_cases hc : q = j
      · subst hc
        obtain ⟨a1, a2, a3⟩ := alive_at hs hq hst hf ha
        rw [a1, a2, a3, Int.toNat_natCast, updF_same]
      · rw [updF_other _ _ (gone hs (by omega) hst (.inl (by omega)))]
        exact h1 ha (by omega)
    · intro hn
      by_cases ha : Free pls f k q
      · rw [updF_other _ _ (gone hs (by omega) hst (.inl (fun e => hn ⟨ha, by omega⟩)))]
        exact h2 (fun h => hn ⟨h.1, by omega⟩)
      · rw [updF_other _ _ (gone hs (by omega) hst (.inr ha))]
        exact h2 (fun h => ha h.1)
end
theorem not_free {pls : Nat → Nat} {f q : Nat} : ∀ n, ¬ Free pls f n q → ∃ t, f ≤ t ∧ t < n ∧ tk pls t q ∧ Free pls f t q
  | 0, h => absurd (fun t _ h' => by omega) h
  | n + 1, h => by
    by_cases hf : Free pls f n q
    · by_cases ht : f ≤ n ∧ tk pls n q
      · exact ⟨n, ht.1, by omega, ht.2, hf⟩
      · refine absurd (fun t h1 h2 h3 => ?_) h
        by_cases hc : t = n
        · subst hc; exact ht ⟨h1, h3⟩
        · exact hf t h1 (by omega) h3
    · obtain ⟨t, g1, g2, g3⟩ := not_free n hf
      exact ⟨t, g1, by omega, g3⟩
/-- Each edge as Edges says it. -/
theorem all_ends {P n : Nat} {pls : Nat → Nat} (hpl : ∀ k, k < n → pls k + 2 ≤ P) {i f q : Nat} {fr out : Int} (hq : q < P) (hst : Sta P pls i f q fr out) (hf : f ≤ n) :
    ∃ tw inn, outF (eAll P pls n) i = ⟨fr, out, tw, inn⟩ ∧ EndsAt pls f n q tw inn := by
  by_cases hfr : Free pls f n q
  · obtain ⟨h1, _⟩ := ends_out (line_ok n) (eList P pls n) hq hst hf P (Nat.le_refl _)
    exact ⟨-1, q, h1 hfr hq, .inr ⟨hfr, rfl, rfl⟩⟩
  · obtain ⟨_, h2⟩ := ends_out (line_ok n) (eList P pls n) hq hst hf P (Nat.le_refl _)
    obtain ⟨t, g1, g2, g3, g4⟩ := not_free n hfr
    refine ⟨t, q - pls t, ?_, .inl ⟨t, g1, g2, g3, g4, rfl, rfl⟩⟩
    rw [show eAll P pls n = eList P pls n ++ eEnds (eWork P pls n) P from rfl, h2 (fun h => hfr h.1)]
    exact list_ends n i f q t fr out hpl hq hst g1 g2 g3 g4
end Go.Proofs.YtnplcephmidjbaaDoor
/- Closed sets, ready works and Before, by the relation itself: plain. -/
namespace Go.Proofs.YtnplcephmidjbaaDoor
open Go.RowKit

theorem bitsL_go (b : Nat) : ∀ (l : List Int) (S : Nat), (l.foldl (fun S x => S ||| 2 ^ x.toNat) S).testBit b = true ↔ S.testBit b = true ∨ ∃ x ∈ l, x.toNat = b
  | [], S => by simp
  | x :: l, S => by
    rw [List.foldl_cons, bitsL_go b l, Nat.testBit_or, Bool.or_eq_true, Nat.testBit_two_pow, decide_eq_true_eq]
    constructor
    · rintro ((h | h) | ⟨y, hy, h⟩)
      · exact .inl h
      · exact .inr ⟨x, by simp, h⟩
      · exact .inr ⟨y, by simp [hy], h⟩
    · rintro (h | ⟨y, hy, h⟩)
      · exact .inl (.inl h)
      · rcases List.mem_cons.1 hy with e | e
        · subst e; exact .inl (.inr h)
        · exact .inr ⟨y, e, h⟩
theorem bitsL_bit (l : List Int) (b : Nat) : (bitsL l).testBit b = true ↔ ∃ x ∈ l, x.toNat = b := by
  unfold bitsL
  rw [bitsL_go]
  simp
theorem clo_iff {P : Nat} {ws : List GW} (hn : ws.length ≤ 400) {l : List Int} (ha : Asc ws.length l) : Clo (setsOf P ws) l ↔ ClS (plsOf ws) (bitsL l) := by
  have hin : ∀ x ∈ l, 0 ≤ x ∧ x < ws.length := fun x hx => by
    obtain ⟨i, hi, rfl⟩ := List.mem_iff_getElem.1 hx
    have := ha i hi
    unfold AscAt at this
    rw [show l.getD i 0 = l[i] by simp [List.getD_eq_getElem?_getD, hi]] at this
    exact ⟨this.1, this.2.1⟩
  constructor
  · intro h b hb a hab
    obtain ⟨x, hx, hxb⟩ := (bitsL_bit l b).1 hb
    obtain ⟨r1, r2⟩ := hin x hx
    obtain ⟨i, hi, rfl⟩ := List.mem_iff_getElem.1 hx
    have h1 := h i hi
    rw [show l.getD i 0 = l[i] by simp [List.getD_eq_getElem?_getD, hi], win_bef (by omega) hn, hxb] at h1
    exact h1 a hab
  · intro h i hi
    have hx := List.getElem_mem hi
    obtain ⟨r1, r2⟩ := hin _ hx
    rw [show l.getD i 0 = l[i] by simp [List.getD_eq_getElem?_getD, hi], win_bef (by omega) hn]
    exact h _ ((bitsL_bit l _).2 ⟨_, hx, rfl⟩)
theorem rdyB_iff {P : Nat} {ws : List GW} (hn : ws.length ≤ 400) {l : List Int} {i : Nat} (hi : i < ws.length) : rdyB P ws l i = true ↔ (bitsL l).testBit i = false ∧ ∀ a, Bef (plsOf ws) a i → (bitsL l).testBit a = true := by
  unfold rdyB
  rw [Bool.and_eq_true, win_bef hi hn]
  simp
theorem befB_iff {p a b : Int} {ws : List GW} (h : askErr p ws [a, b] = 0) : befB p ws a b = true ↔ Bef (plsOf ws) a.toNat b.toNat := by
  have hb : b.toNat < ws.length := by
    unfold askErr at h
    split at h
    · split at h
      · cases h
      · rename_i g
        simp [badI] at g
        omega
    · rename_i g; exact absurd h g
  unfold befB
  rw [h, Bool.and_eq_true, setsOf_bef hb]
  simp
end Go.Proofs.YtnplcephmidjbaaDoor
/- The reference's two: the error of two works. -/
namespace Go.Proofs.YtnplcephmidjbaaDoor
open Go.RowKit

set_option maxRecDepth 100000 in
set_option maxHeartbeats 2000000 in
theorem rTwo_ (p a b : Int) (A : Option Addr) (c : Nat) (ws : List GW) (w : World) (hsh : ShIn w p A ws) :
    Calls Tryd.prog 59 #[.agg #[.int .i64 p, .slice A ws.length c], .int .i64 a, .int .i64 b] w fun e w' => e = .returned (.int .i64 (askErr p ws [a, b])) ∧ Below w.heap.size w w' := by
  have hb2 : Below w.heap.size w (w.alloc (.cells #[.int .i64 p, .slice A ws.length c] 24)) := (Below.refl _ _).alloc (Nat.le_refl _) _
  obtain ⟨hp1, hp2, ha⟩ := hsh
  have hn := ha.1
  have HA := Lib.hid ha; have HB2 := Lib.hid hb2; clear ha hb2
  go_enter Tryd.func59, Tryd.ntmps59
  go_wp2_with fail
  refine (rCheck_ _ _ _ _ _ hp1 hp2 (HA.out.later HB2.out (Nat.le_refl _))).mono ?_
  rintro e w1 ⟨rfl, hb1⟩
  have a1 : w1.cell? ⟨w.heap.size, 1, none⟩ = some (.slice A ws.length c) := below_at hb1 (Nat.le_refl _) (by go_simp)
  have hs0 : w.heap.size < w1.heap.size := by have := hb1.size; simp at this; omega
  have Y1 := Lib.hid (HB2.out.trans (hb1.mono (by simp))); clear hb1
  by_cases he : errSheet p ws = 0
  rotate_left
  · have hr : askErr p ws [a, b] = errSheet p ws := by unfold askErr; rw [if_neg he]
    generalize hge : errSheet p ws = E at *
    have hE0 : (E == 0) = false := by simpa using he
    have HR := Lib.hid hr; have HGE := Lib.hid hge; clear hr hge
    go_wp2
    go_ret
    exact ⟨by rw [HR.out]; rfl, Y1.out⟩
  have hbad : ∀ z : Bool, [a, b].any (badI ws.length) = z → askErr p ws [a, b] = if z = true then 2 else 0 := fun z h => by
    unfold askErr
    rw [if_pos he, h]
  rw [he]
  clear he
  have HBAD := Lib.hid hbad; clear hbad
  by_cases r1 : a < 0
  · have hr : askErr p ws [a, b] = 2 := HBAD.out true (by simp [badI]; omega)
    have HR := Lib.hid hr; clear hr
    go_wp2
    go_ret
    exact ⟨by rw [HR.out]; rfl, Y1.out⟩
  · by_cases r2 : (ws.length : Int) ≤ a
    · have hr : askErr p ws [a, b] = 2 := HBAD.out true (by simp [badI]; omega)
      have HR := Lib.hid hr; clear hr
      go_wp2
      go_ret
      exact ⟨by rw [HR.out]; rfl, Y1.out⟩
    · have r2' : a < (ws.length : Int) := by omega
      have r1' : 0 ≤ a := by omega
      by_cases r3 : b < 0
      · have hr : askErr p ws [a, b] = 2 := HBAD.out true (by simp [badI]; omega)
        have HR := Lib.hid hr; clear hr
        go_wp2
        go_ret
        exact ⟨by rw [HR.out]; rfl, Y1.out⟩
      · by_cases r4 : (ws.length : Int) ≤ b
        · have hr : askErr p ws [a, b] = 2 := HBAD.out true (by simp [badI]; omega)
          have HR := Lib.hid hr; clear hr
          go_wp2
          go_ret
          exact ⟨by rw [HR.out]; rfl, Y1.out⟩
        · have hr : askErr p ws [a, b] = 0 := HBAD.out false (by simp [badI]; omega)
          have HR := Lib.hid hr; clear hr
          go_wp2
          go_ret
          exact ⟨by rw [HR.out]; rfl, Y1.out⟩
end Go.Proofs.YtnplcephmidjbaaDoor
