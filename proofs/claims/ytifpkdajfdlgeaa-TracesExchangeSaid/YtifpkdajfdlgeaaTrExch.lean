/- What the law TracesExchange needs to know of exchanges; slices that a store does not meet. -/
import Derived.Test.YtifpkdajfdlgeaaTrIso
import Derived.Test.YtifpkdajfdlgeaaTrBes
import Derived.Test.YtifpkdajfdlgeaaTrLstT
import Derived.Test.YtifpkdajfdlgeaaTrLevT
namespace Go.Proofs.Ytifpkdajfdlgeaa
open Go.RowKit

theorem ex_ok {p : Int} {ws : List GW} (at' : List Int) (h : errSheet p ws = 0) : errSheet p (exW ws at') = 0 := by
  obtain ⟨a1, a2, a3, a4⟩ := errSheet_iff.1 h
  exact errSheet_iff.2 ⟨a1, by rw [exW_length]; exact a2, a3, fun x hx => a4 x (mem_exW _ hx)⟩
/-- A work that is another one, at the same place. -/
def newW (x : GW) : GW := if x.kind = 2 then ⟨1, x.pl, ⟨#[67]⟩⟩ else ⟨2, x.pl, ByteArray.empty⟩
theorem newW_ne (x : GW) : newW x ≠ x := by
  intro h
  have := congrArg GW.kind h
  unfold newW at this
  split at this
  · rename_i h1; simp at this; omega
  · rename_i h1; simp at this; omega
theorem newW_pl (x : GW) : (newW x).pl = x.pl := by unfold newW; split <;> rfl
theorem newW_ok {p : Int} {x : GW} (hp : p ≤ 24) (h : badW p x = false) : longW (newW x) = false ∧ badW p (newW x) = false ∧ formW (newW x).word = false ∧ (newW x).fits := by
  unfold badW at h
  simp only [decide_eq_false_iff_not] at h
  have h1 : 0 ≤ x.pl ∧ x.pl ≤ p - 2 := by
    constructor
    · rcases Int.lt_or_le x.pl 0 with g | g
      · exact absurd (.inr (.inl g)) h
      · exact g
    · rcases Int.lt_or_le (p - 2) x.pl with g | g
      · exact absurd (.inr (.inr (.inl g))) h
      · exact g
  unfold newW longW badW GW.fits
  split
  · refine ⟨rfl, ?_, rfl, ?_, ?_, ?_⟩
    · simp; omega
    all_goals simp
    · omega
    · show 1 ≤ _; omega
  · refine ⟨rfl, ?_, rfl, ?_, ?_, ?_⟩
    · simp; omega
    all_goals simp
    omega
structure ExF (p : Int) (ws vs : List GW) (l la lb : List Int) (V : List GW) : Prop where
  ev : errSheet p vs = 0
  be : bothErr p ws p vs = 0
  se : sameE p ws p vs = true
  ml : matchL p ws p vs = l
  me : matchErr p ws p vs = 0
  ll : l.length = ws.length
  vl : vs.length = ws.length
  la_ : leastR p ws = la
  lb_ : leastR p vs = lb
  r1 : reoP p ws l = p
  r2 : reoV p ws l = vs
  r3 : reoX p ws l = 0
  a1 : reoP p ws la = p
  a2 : reoV p ws la = V
  a3 : reoX p ws la = 0
  b1 : reoP p vs lb = p
  b2 : reoV p vs lb = V
  b3 : reoX p vs lb = 0
  c1 : levsL p ws = levL ws ws.length
  c2 : levsL p vs = levL vs vs.length
  lev : ∀ k, k < l.length → ∃ i : Nat, l.getD k 0 = i ∧ i < ws.length ∧ (levL vs vs.length).getD k 0 = (levL ws ws.length).getD i 0
  lbb : ∀ x ∈ lb, x < p ∨ 1 < lb.length
  chg : ∀ k, k < vs.length → bothErr p ws p (vs.set k (newW (vs.getD k nw))) = 0 ∧ sameE p ws p (vs.set k (newW (vs.getD k nw))) = false ∧ (newW (vs.getD k nw)).fits
theorem exF {p : Int} {ws : List GW} (at' : List Int) (he : errSheet p ws = 0) : ∃ l la lb V, ExF p ws (exW ws at') l la lb V := by
  have ev := ex_ok at' he
  obtain ⟨l, hlaid⟩ := Laid.ex at' (Laid.start ws)
  have vl := exW_length at' ws
  generalize exW ws at' = vs at *
  obtain ⟨hp2, hp24, hlen, hall⟩ := OkS.all (show OkS p vs from ev)
  have hvpl : ∀ x ∈ vs, 0 ≤ x.pl := fun x hx => (hall x hx).2.1
  have be : bothErr p ws p vs = 0 := by unfold bothErr orErr; rw [he, ev]; rfl
  obtain ⟨hperm, hmL, hmE⟩ := hlaid.perm hvpl be
  have hll := hlaid.length.1
  have iso := hlaid.iso hperm
  have hse : sameE p ws p vs = true := by unfold sameE; rw [hlaid.match hvpl, decide_eq_true be]; rfl
  have hvs : reoL ws l = vs := hlaid.2.symm
  have hx1 : reoX p ws l = 0 := by unfold reoX; rw [if_pos he, if_pos hlaid.1]
  have hx2 : reoX p ws (leastL ws) = 0 := by unfold reoX; rw [if_pos he, if_pos (least_ord ws)]
  have hx3 : reoX p vs (leastL vs) = 0 := by unfold reoX; rw [if_pos ev, if_pos (least_ord vs)]
  refine ⟨l, leastL ws, leastL vs, reoL vs (leastL vs), ev, be, hse, hmL, hmE, hll, vl, by unfold leastR; rw [if_pos he], by unfold leastR; rw [if_pos ev], by unfold reoP; rw [if_pos hx1], by unfold reoV; rw [if_pos hx1, hvs], hx1,
    by unfold reoP; rw [if_pos hx2], by unfold reoV; rw [if_pos hx2, iso.least], hx2, by unfold reoP; rw [if_pos hx3], by unfold reoV; rw [if_pos hx3], hx3, by unfold levsL; rw [if_pos he], by unfold levsL; rw [if_pos ev], fun k hk => ?_, fun x hx => ?_, fun k hk => ?_⟩
  · obtain ⟨i, h1, h2⟩ := hperm.at_ hk
    have e : l.getD k 0 = i := by rw [List.getD_eq_getElem?_getD, List.getElem?_eq_getElem hk, Option.getD_some, h1]
    refine ⟨i, e, by omega, ?_⟩
    rw [levL_get vs (by omega), levL_get ws (by omega)]
    have := iso.lev (fun k hk => by
      have e2 : vs.getD k gw0 = vs[k] := by simp [List.getD_eq_getElem?_getD, hk]
      rw [e2]; exact hvpl _ (List.getElem_mem hk)) (k + 1) k (by omega) (by omega)
    rw [this]
    show lvK ws (l.getD k 0).toNat = _
    rw [e]; rfl
  · have hr := least_ord vs
    unfold ordB at hr
    rw [Bool.and_eq_true, decide_eq_true_eq] at hr
    have := ord_range hr.2 x hx
    omega
  · have hk' : vs.getD k nw = vs[k] := by simp [List.getD_eq_getElem?_getD, hk]
    obtain ⟨a1, a2, a3, a4⟩ := errSheet_iff.1 ev
    obtain ⟨g1, g2, g3, g4⟩ := newW_ok a1 (a4 vs[k] (List.getElem_mem hk)).2.1
    have e3 : errSheet p (vs.set k (newW (vs.getD k nw))) = 0 := errSheet_iff.2 ⟨a1, by simpa using a2, a3, fun x hx => by
      rcases List.mem_or_eq_of_mem_set hx with h | h
      · exact a4 x h
      · rw [h, hk']; exact ⟨g1, g2, g3⟩⟩
    have e4 : bothErr p ws p (vs.set k (newW (vs.getD k nw))) = 0 := by unfold bothErr orErr; rw [he, e3]; rfl
    refine ⟨e4, ?_, by rw [hk']; exact g4⟩
    unfold sameE
    rw [match_changed hlaid hperm hk (by rw [hk']; show _ ≠ vs.getD k gw0; rw [show vs.getD k gw0 = vs[k] from hk']; exact newW_ne _) (by rw [newW_pl, hk']; exact hvpl _ (List.getElem_mem hk)) hvpl e4]
    simp
theorem cell_of_row' (w : World) (g j : Nat) (cs : Array Value) (T : TypeId) (h : w.heap[g]? = some (.cells cs T (0, 0))) : w.cell? ⟨g, j, none⟩ = cs[j]? := by
  simp [World.cell?, h]
/-- Ints that lie apart from a sheet's box. -/
theorem ints_off {w : World} {g n sc T : Nat} {p : Int} {sA A : Option Addr} {l : List Int} (hg : w.heap[g]? = some (.cells #[.int .i64 p, .slice sA n sc] T (0, 0))) (h : RdI w A l) (hp : ∀ x ∈ l, x < p ∨ 1 < l.length) :
    ∀ b o, A = some ⟨b, o, none⟩ → 0 < l.length → g ≠ b := by
  rintro b o hA h0 rfl
  obtain ⟨b', off, e, _, hc⟩ := h.2 (by omega)
  rw [hA] at e
  have e2 := Option.some.inj e
  have e3 : g = b' := congrArg Addr.block e2
  have e4 : o = off := congrArg Addr.off e2
  subst e3; subst e4
  have at_ : ∀ j, j < l.length → o + j = 0 ∧ l.getD j 0 = p := fun j hj => by
    have h1 := hc j (by omega)
    rw [cell_of_row' w g (o + j) _ T hg] at h1
    rcases (show o + j = 0 ∨ o + j = 1 ∨ 2 ≤ o + j by omega) with g1 | g1 | g1
    · rw [g1] at h1; simp at h1; exact ⟨g1, h1.symm⟩
    · rw [g1] at h1; simp at h1
    · rw [Array.getElem?_eq_none (by simpa using g1)] at h1; cases h1
  obtain ⟨h1, h2⟩ := at_ 0 h0
  rcases hp l[0] (List.getElem_mem h0) with h3 | h3
  · rw [List.getD_eq_getElem?_getD, List.getElem?_eq_getElem h0] at h2
    simp at h2; omega
  · have := (at_ 1 h3).1; omega
theorem RdI.put {w : World} {g : Nat} {A : Option Addr} {l : List Int} (h : RdI w A l) (hg : ∀ b o, A = some ⟨b, o, none⟩ → 0 < l.length → g ≠ b) (i : Nat) (v : Value) : RdI (w.setCell ⟨g, i, none⟩ v) A l := by
  refine ⟨h.1, fun h0 => ?_⟩
  obtain ⟨b, off, e, hlt, hc⟩ := h.2 h0
  refine ⟨b, off, e, by simpa using hlt, fun j hj => ?_⟩
  rw [World.cell?_setCell_other _ _ _ _ (by simp; intro h; exact absurd h (hg b off e (by omega)))]
  exact hc j hj
/-- Works that lie apart from a sheet's box. -/
theorem works_off {w : World} {g n sc T : Nat} {p : Int} {sA A : Option Addr} {l : List GW} (hg : w.heap[g]? = some (.cells #[.int .i64 p, .slice sA n sc] T (0, 0))) (h : RdW w A l) :
    ∀ b o, A = some ⟨b, o, none⟩ → 0 < l.length → g ≠ b := by
  rintro b o hA h0 rfl
  obtain ⟨b', off, e, _, _, _, h1⟩ := h.at_ h0
  rw [hA] at e
  have e2 := Option.some.inj e
  have e3 : g = b' := congrArg Addr.block e2
  have e4 : o = off := congrArg Addr.off e2
  subst e3; subst e4
  rw [cell_of_row' w g _ _ T hg, Array.getElem?_eq_none (by simp)] at h1
  cases h1
theorem RdW.put {w : World} {g : Nat} {A : Option Addr} {l : List GW} (h : RdW w A l) (hg : ∀ b o, A = some ⟨b, o, none⟩ → 0 < l.length → g ≠ b) (i : Nat) (v : Value) : RdW (w.setCell ⟨g, i, none⟩ v) A l := by
  refine ⟨h.1, h.2.1, fun h0 => ?_⟩
  obtain ⟨b, off, e, hlt, hc⟩ := h.2.2 h0
  refine ⟨b, off, e, by simpa using hlt, fun j hj => ?_⟩
  rw [World.cell?_setCell_other _ _ _ _ (by simp; intro h; exact absurd h (hg b off e (by omega)))]
  exact hc j hj
theorem cell_three {w : World} {g S : Nat} (hne : ¬ S = g) (a b c o : Nat) (x y z : Value) : (((w.setCell ⟨g, a, none⟩ x).setCell ⟨g, b, none⟩ y).setCell ⟨g, c, none⟩ z).drew.cell? ⟨S, o, none⟩ = w.cell? ⟨S, o, none⟩ := by
  rw [show ∀ (v : World) q, v.drew.cell? q = v.cell? q from fun _ _ => rfl, World.cell?_setCell_other _ _ _ _ (by intro h; exact hne (congrArg Addr.block h).symm), World.cell?_setCell_other _ _ _ _ (by intro h; exact hne (congrArg Addr.block h).symm), World.cell?_setCell_other _ _ _ _ (by intro h; exact hne (congrArg Addr.block h).symm)]
end Go.Proofs.Ytifpkdajfdlgeaa
