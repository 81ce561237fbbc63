/- Texts of this claim, laid together: Nat7, Nat8. -/
import Derived.Test.YtlmhgcllikcedaaMaB
import Derived.Lib.SliceRun
import Derived.Maps.AppendAt
/- Numbers of the program to the base 2^32: clone, down. -/
namespace Go.Proofs.Ytlmhgcllikcedaa
open Go.RowKit

/-- A block that begins with n digits. -/
def UC (w : World) (R n : Nat) (f : Nat → Nat) : Prop := ∃ cs, w.heap[R]? = some (.cells cs 104 (0, 0)) ∧ ∀ j, j < n → cs[j]? = some (.int .u32 ((f j : Nat) : Int))
section
variable {w w' : World} {R n : Nat} {f : Nat → Nat}
theorem UC.at_ (h : UC w R n f) {p : Nat} (hp : p < n) : w.cell? ⟨R, p, none⟩ = some (.int .u32 ((f p : Nat) : Int)) := by
  obtain ⟨cs, h1, h2⟩ := h
  rw [cell_of_row w R p _ _ _ h1, h2 p hp]
theorem UC.free (h : UC w R n f) (p : Nat) : w.frozen? ⟨R, p, none⟩ = false := by
  obtain ⟨cs, h1, h2⟩ := h
  exact frozen_of_row _ _ p _ _ h1
theorem UC.lt (h : UC w R n f) : R < w.heap.size := by
  obtain ⟨cs, h1, _⟩ := h
  exact lt_of_block h1
theorem UC.later (h : UC w R n f) (hb : Below w.heap.size w w') : UC w' R n f := by
  have hl := h.lt
  obtain ⟨cs, h1, h2⟩ := h
  exact ⟨cs, (hb.block _ hl).trans h1, h2⟩
theorem UC.drew (h : UC w R n f) : UC w.drew R n f := h
theorem UC.put (h : UC w R n f) (p z : Nat) : UC (w.setCell ⟨R, p, none⟩ (.int .u32 (z : Int))) R n (upD f p z) := by
  obtain ⟨cs, h1, h2⟩ := h
  refine ⟨_, heap_setCell_same w R p _ _ (.int .u32 (z : Int)) h1, fun j hj => ?_⟩
  have h3 := h2 j hj
  unfold upD
  by_cases e : j = p
  · subst e
    rw [if_pos rfl]
    have hs : j < cs.size := (Array.getElem?_eq_some_iff.1 h3).1
    simp [hs]
  · rw [if_neg e, Array.getElem?_setIfInBounds_ne (fun e' => e e'.symm)]
    exact h3
theorem UC.eqv {f' : Nat → Nat} (h : UC w R n f) (he : ∀ a, a < n → f a = f' a) : UC w R n f' := by
  obtain ⟨cs, h1, h2⟩ := h
  exact ⟨cs, h1, fun j hj => by rw [h2 j hj, he j hj]⟩
end
theorem RdD.of_uc {w : World} {R n v : Nat} {g : Nat → Nat} (h : UC w R n g) (hg : ∀ j, j < n → g j = dg v j) : RdD w (some ⟨R, 0, none⟩) n v := fun _ => ⟨R, 0, rfl, h.lt, fun j hj => by rw [Nat.zero_add, h.at_ (by omega), hg j (by omega)]⟩
def digC (v n : Nat) : List Value := (List.range n).map fun j => .int .u32 ((dg v j : Nat) : Int)
theorem digC_length (v n : Nat) : (digC v n).length = n := by unfold digC; simp
theorem digC_one (v n : Nat) : ∀ u ∈ digC v n, u.oneCell' = true := by
  intro u hu
  unfold digC at hu
  obtain ⟨j, _, rfl⟩ := List.mem_map.1 hu
  rfl
theorem run_copyU_Try (w : World) (base : Nat) (v0 : Value) (hown : w.ownsRow base 104 1 v0 0 []) (ad : Addr) (n c v : Nat) (hrd : RdD w (some ad) n v) (hn : n ≤ 35184372088832) (hbase : base ≤ w.heap.size) (ty : TypeId) :
    ∃ v' w', (Builtin.append_ #[97, 97] ty #[v0, .slice (some ad) n c]).run Try.prog w = .ok v' w' ∧ w'.ownsRow base 104 1 v' n (digC v n) ∧ w.grownBy w' v0.ownBlock := by
  obtain ⟨i0, hi, hz0, hz1, hz2⟩ := info_parts infoU4_Try
  have hnews : ∀ j u, (digC v n)[j]? = some u → w.cell? (ad.add j) = some u := fun j u hu => by
    have hj : j < n := by
      have := (List.getElem?_eq_some_iff.1 hu).1
      rwa [digC_length] at this
    obtain ⟨b, off, e, _, hc⟩ := hrd.at_ hj
    obtain rfl : ad = ⟨b, off, none⟩ := Option.some.inj e
    have hu2 : u = .int .u32 ((dg v j : Nat) : Int) := by
      unfold digC at hu
      simp [hj] at hu
      exact hu.symm
    rw [hu2, ← hc]
    by_cases h0 : j = 0
    · subst h0; simp [Addr.add]
    · simp [Addr.add, h0]
  obtain ⟨v', w', hr, h2, h3, _, _⟩ := run_append_own_at (P := Try.prog) w base 97 ty 104 i0 _ 1 4 Try.underlying97 hi hz0 hz1 hz2 rfl (by omega) v0 0 [] hown ad n c (digC v n) (by rw [digC_length]; omega) hnews (digC_one v n)
    (by unfold maxLen; omega) (by omega) hbase
  refine ⟨v', w', hr, ?_, h3⟩
  rw [Nat.zero_add, List.nil_append] at h2
  exact h2
theorem wpList_copyU_Try {ops : Array Oper} {rest : List Oper} {o : Oper} {a : Act} {Q : Exit → Act → World → Prop} {w : World} (hgd : o.guard = none) (s x : Operand)
    (ho : o.op = .call { callee := .builtin .append, args := #[s, x], argTypes := #[97, 97] })
    (base : Nat) (v0 : Value) (hs : a.eval s = v0) (hown : w.ownsRow base 104 1 v0 0 []) (ad : Addr) (n c v : Nat) (hx : a.eval x = .slice (some ad) n c) (hrd : RdD w (some ad) n v)
    (hn : n ≤ 35184372088832) (hbase : base ≤ w.heap.size)
    (h : ∀ v' w', w'.ownsRow base 104 1 v' n (digC v n) → w.grownBy w' v0.ownBlock → wpList Try.prog ops Q rest (a.put o.dst v') w') :
    wpList Try.prog ops Q (o :: rest) a w :=
  wpList_plain hgd fun _ hK => by
    obtain ⟨v', w', hr, h2, h3⟩ := run_copyU_Try w base v0 hown ad n c v hrd hn hbase o.type
    unfold Oper.wp execOp
    simp only [ho, resolve, invoke, builtin, Sem.run_bind, Sem.run_pure, Result.andThen_ok, List.map_toArray, List.map_cons, List.map_nil, hs, hx, hr]
    exact hK _ _ (h v' w' h2 h3)
theorem own_emptyU {w : World} {b base : Nat} (hb : w.heap[b]? = some (.cells #[] 104 (0, 0))) (h : base ≤ b) : w.ownsRow base 104 1 (.slice (some ⟨b, 0, none⟩) 0 0) 0 [] :=
  ⟨rfl, .inr ⟨b, 0, #[], rfl, h, hb, Nat.le_refl _, by unfold maxLen; omega, rfl, rfl⟩⟩
def ClonePost (n v : Nat) (w : World) (e : Ending) (w' : World) : Prop := ∃ B d, e = .returned (.slice B n d) ∧ n ≤ d ∧ (0 < n → ∃ g, B = some ⟨g, 0, none⟩ ∧ w.heap.size ≤ g ∧ UC w' g n (dg v)) ∧ Below w.heap.size w w'
set_option maxRecDepth 100000 in
set_option maxHeartbeats 2000000 in
theorem natClone_ (A : Option Addr) (n c v : Nat) (w : World) (hn : n ≤ 35184372088832) (h : RdD w A n v) :
    Calls Try.prog 125 #[.slice A n c] w (ClonePost n v w) := by
  have hb0 := Below.refl w.heap.size w
  have hnl := fun W => Lib.run_eql_slice_nil (P := Try.prog) W 97 104 A n c 0 0 Try.underlying97
  cases A with
  | none =>
    have h0 : n = 0 := by
      rcases Nat.eq_zero_or_pos n with e | e
      · exact e
      · obtain ⟨b, off, e2, _⟩ := h.at_ e
        cases e2
    have hnl2 : ∀ W, (binOp .eql 97 (.slice none n c) (.slice none 0 0)).run Try.prog W = .ok (.bool true) W := hnl
    clear hnl
    have HB0 := Lib.hid hb0; have H0 := Lib.hid h0; have H := Lib.hid h; clear hb0 h0 h
    go_enter Try.func125, Try.ntmps125
    go_wp2
    go_ret
    exact ⟨none, 0, by rw [H0.out]; rfl, by rw [H0.out]; exact Nat.le_refl 0, fun h => by have := H0.out; omega, HB0.out⟩
  | some ad =>
    have hnl2 : ∀ W, (binOp .eql 97 (.slice (some ad) n c) (.slice none 0 0)).run Try.prog W = .ok (.bool false) W := hnl
    clear hnl
    have HB0 := Lib.hid hb0; have H := Lib.hid h; clear hb0 h
    go_enter Try.func125, Try.ntmps125
    go_wp2_with (at_builtin; refine wpList_copyU_Try rfl _ _ rfl w.heap.size (.slice (some ⟨w.heap.size, 0, none⟩) 0 0) rfl (own_emptyU (heap_alloc_new _ _) (Nat.le_refl _)) ad n c v rfl (H.out.later ((Below.refl _ _).alloc (Nat.le_refl _) _) (Nat.le_refl _)) hn (by simp) ?_; intro v1 w1 hown hgrow)
    have hb1 : Below w.heap.size w w1 := ((Below.refl _ _).alloc (Nat.le_refl _) _).grown hgrow (by simp) (fun k hk => by simp [Value.ownBlock] at hk; omega)
    have HOWN := Lib.hid hown; have HGROW := Lib.hid hgrow; have HB1 := Lib.hid hb1; clear hown hgrow hb1
    go_wp2
    go_ret
    rcases HOWN.out.2 with ⟨hv, h0⟩ | ⟨g, cap, cur, hv, hg, hh, hnc, hl, hc1, hc2⟩
    · exact ⟨none, 0, by rw [hv]; subst h0; rfl, by omega, fun h => by omega, HB1.out⟩
    · refine ⟨some ⟨g, 0, none⟩, cap, by rw [hv]; rfl, hnc, fun _ => ⟨g, rfl, hg, cur, hh, fun j hj => ?_⟩, HB1.out⟩
      have h1 : (List.take (n * 1) cur.toList)[j]? = (digC v n)[j]? := by rw [hc2]
      rw [List.getElem?_take_of_lt (by omega)] at h1
      unfold digC at h1
      simp only [List.getElem?_map, List.getElem?_range hj, Option.map_some] at h1
      rw [← h1]; simp
theorem dg_down (a W e i : Nat) (he : e < 32) : dg (a / 2 ^ (32 * W + e)) i = (dg a (W + i + 1) * 4294967296 + dg a (W + i)) / 2 ^ e % 4294967296 := by
  have h1 : a / 2 ^ (32 * W + e) / pw i = a / pw (W + i) / 2 ^ e := by
    rw [Nat.div_div_eq_div_mul, Nat.div_div_eq_div_mul, pw_add]
    congr 1
    rw [Nat.pow_add]
    unfold pw
    ac_rfl
  have h2 := dg_div a (W + i)
  have h3 := dg_div a (W + i + 1)
  have h4 : 2 ^ e * 2 ^ (32 - e) = 4294967296 := by rw [← Nat.pow_add, show e + (32 - e) = 32 by omega]
  have hp : 0 < 2 ^ e := Nat.two_pow_pos e
  show a / 2 ^ (32 * W + e) / pw i % 4294967296 = _
  rw [h1, h2, h3]
  generalize a / pw (W + i + 1 + 1) = H
  generalize dg a (W + i + 1) = d1
  generalize dg a (W + i) = d0
  generalize 2 ^ e = q at *
  generalize 2 ^ (32 - e) = r at *
  have e1 : (H * 4294967296 + d1) * 4294967296 + d0 = (d1 * 4294967296 + d0) + (H * r * 4294967296) * q := by
    have : H * r * 4294967296 * q = H * 4294967296 * (q * r) := by ac_rfl
    rw [this, h4]; grind
  rw [e1, Nat.add_mul_div_right _ _ hp, Nat.add_mul_mod_self_right]
theorem dg_divpw (a W j : Nat) : dg (a / pw W) j = dg a (W + j) := by
  unfold dg
  rw [Nat.div_div_eq_div_mul, ← pw_add]
theorem RdD.drop {w : World} {A : Option Addr} {L W a : Nat} (h : RdD w A L a) : RdD w (Option.map (fun x => x.add W) A) (L - W) (a / pw W) := fun h0 => by
  obtain ⟨b, off, e, hlt, hc⟩ := h (by omega)
  subst e
  refine ⟨b, off + W, ?_, hlt, fun j hj => ?_⟩
  · by_cases hW : W = 0
    · subst hW; simp [Addr.add]
    · simp [Addr.add, hW]
  · have := hc (W + j) (by omega)
    rw [show off + W + j = off + (W + j) by omega, this]
    show some (Value.int .u32 ((dg a (W + j) : Nat) : Int)) = some (Value.int .u32 ((dg (a / pw W) j : Nat) : Int))
    rw [dg_divpw]
theorem down_step {d1 d0 q ds : Nat} (h1 : d1 < 4294967296) (h0 : d0 < 4294967296) (hds : ds = (d1 * 4294967296 + d0) / q % 4294967296) :
    ∃ sh s2 s3 : Nat, IntKind.u64.wrap ((d1 : Int) * 4294967296) = (sh : Int) ∧ bits .or .u64 (sh : Int) (d0 : Int) = (s2 : Int) ∧ (s2 : Int) / (q : Int) = (s3 : Int) ∧ (s3 : Int) % 4294967296 = (ds : Int) := by
  refine ⟨d1 * 4294967296, d1 * 4294967296 + d0, (d1 * 4294967296 + d0) / q, ?_, ?_, rfl, by rw [hds]; rfl⟩
  · rw [IntWalk.u64_in _ (by omega)]; omega
  · have h2 := (bits_nat .u64 64 (by decide) (fun n h0 h1 => IntWalk.u64_in n (by omega)) (d1 * 4294967296) d0 (by omega) (by omega)).2
    rw [h2]
    congr 1
    have h3 := Nat.shiftLeft_add_eq_or_of_lt (i := 32) (b := d0) (by omega) d1
    rw [Nat.shiftLeft_eq] at h3
    exact h3.symm
set_option maxRecDepth 100000 in
set_option maxHeartbeats 4000000 in
theorem natDown_ (A : Option Addr) (c a m : Nat) (w : World) (ha : RdN w A a) (hc : nl a ≤ c) (hla : nl a ≤ 35184372088832) (hm : m ≤ 1125899906842624) :
    Calls Try.prog 96 #[.slice A (nl a) c, .int .u64 (m : Int)] w (NatPost (a / 2 ^ m) w) := by
  obtain ⟨W, hW⟩ : ∃ W, W = m / 32 := ⟨_, rfl⟩
  obtain ⟨x, hx⟩ : ∃ x, x = m % 32 := ⟨_, rfl⟩
  obtain ⟨L, hL⟩ : ∃ L, L = nl a := ⟨_, rfl⟩
  have hna : RdD w A L a := by rw [hL]; exact ha
  have hpa : a < pw L := by rw [hL]; exact lt_pw a
  rw [← hL] at hc ⊢
  have hmw : m = 32 * W + x := by omega
  have hx32 : x < 32 := by omega
  have e1 : (m : Int) / 32 = (W : Int) := by omega
  have e2 : IntKind.i64.wrap (W : Int) = (W : Int) := IntWalk.i64_in _ (by omega)
  have e3 : (m : Int) % 32 = (x : Int) := by omega
  have e7 : Int.tmod (m : Int) 32 = (x : Int) := by rw [hx]; exact (Int.ofNat_tmod m 32).symm
  have z0 : (0 : Int) ≤ (x : Int) := by omega
  obtain ⟨r, hr⟩ : ∃ r, r = a / 2 ^ m := ⟨_, rfl⟩
  rw [← hr]
  have hW2 : W ≤ 35184372088832 := by omega
  have hL2 : L ≤ 35184372088832 := by omega
  have hbr := Below.refl w.heap.size w
  by_cases hlt : W < L
  · have hlt2 : ¬ L < W := by omega
    have hWc : W < c := by omega
    have hdrop := hna.drop (W := W)
    have hpr : r < pw (L - W) := by
      rw [hr, hmw, Nat.pow_add, ← Nat.div_div_eq_div_mul]
      refine Nat.lt_of_le_of_lt (Nat.div_le_self _ _) (Nat.div_lt_of_lt_mul ?_)
      show a < pw W * pw (L - W)
      rw [← pw_add, show W + (L - W) = L by omega]
      exact hpa
    have hdg : ∀ j, dg r j = (dg a (W + j + 1) * 4294967296 + dg a (W + j)) / 2 ^ x % 4294967296 := fun j => by rw [hr, hmw]; exact dg_down a W x j hx32
    obtain ⟨q, hq⟩ : ∃ q, q = 2 ^ x := ⟨_, rfl⟩
    have hqi : (2 : Int) ^ x = (q : Int) := by rw [hq]; push_cast; rfl
    rw [← hq] at hdg
    have HNA := Lib.hid hna; have HPA := Lib.hid hpa; have HW := Lib.hid hW; have HX := Lib.hid hx; have HL := Lib.hid hL; have HA := Lib.hid ha; have HLA := Lib.hid hla; have HBR := Lib.hid hbr; have HDROP := Lib.hid hdrop; have HPR := Lib.hid hpr; have HDG := Lib.hid hdg; have HQ := Lib.hid hq; have HMW := Lib.hid hmw; have HR := Lib.hid hr; clear hna hpa hW hx hL ha hla hbr hdrop hpr hdg hq hmw hr
    go_enter Try.func96, Try.ntmps96
    go_wp2_with fail
    refine (natClone_ _ (L - W) (c - W) (a / pw W) w (by omega) HDROP.out).mono ?_
    rintro e w1 ⟨B, d, rfl, hnd, hB, b1⟩
    obtain ⟨N, hN⟩ : ∃ N, N = L - W := ⟨_, rfl⟩
    have hpr2 := HPR.out
    rw [← hN] at hnd hB hpr2 ⊢
    obtain ⟨g, rfl, hg, hu0⟩ := hB (by omega)
    have hNL : N ≤ 35184372088832 := by omega
    clear HPR HDROP hlt2 hWc
    have HU0 : Hid (UC w1 g N (fun j => dg a (W + j))) := Lib.hid (hu0.eqv fun j _ => dg_divpw a W j)
    clear hu0
    have HN := Lib.hid hN; have HPR2 := Lib.hid hpr2; have HG := Lib.hid hg; have B1 := Lib.hid b1; have HND := Lib.hid hnd; clear hN hpr2 hg b1 hnd
    go_wp2
    clear e1 e2
    go_loopw [7, 20] (fun _ iv wr => ∃ k : Nat, iv = .int .i64 (k : Int) ∧ k ≤ N ∧ UC wr g N (fun j => if j < k then dg r j else dg a (W + j)) ∧ Below w.heap.size w wr) (fun _ iv _ => N - (intOf iv).toNat)
    case atStart => exact ⟨0, rfl, Nat.zero_le _, HU0.out.eqv fun j _ => by simp, B1.out⟩
    case round =>
      clear HU0 B1
      obtain ⟨k, rfl, hk, hu, hbw⟩ := hrel
      by_cases hkN : k < N
      · have hul := hu.lt
        have x1 : (0 : Int) ≤ (k : Int) := by omega
        have x2 : (k : Int) < (N : Int) := by omega
        obtain ⟨p, hp⟩ : ∃ p, p = W + k := ⟨_, rfl⟩
        obtain ⟨p1, hp1⟩ : ∃ p1, p1 = p + 1 := ⟨_, rfl⟩
        have t0 : IntKind.i64.wrap ((W : Int) + (k : Int)) = (p : Int) := by rw [IntWalk.i64_in _ (by omega), hp]; push_cast; rfl
        have t5 : IntKind.i64.wrap ((p : Int) + 1) = (p1 : Int) := by rw [IntWalk.i64_in _ (by omega), hp1]; push_cast; rfl
        have hd0 := dg_lt a p
        have hd1 := dg_lt a p1
        have hds := HDG.out k
        rw [← hp, ← hp1] at hds
        obtain ⟨sh, s2, s3, t1, t2, t3, t4⟩ := down_step hd1 hd0 hds
        have q1 := hu.at_ hkN
        rw [if_neg (by omega), ← hp] at q1
        have q2 := hu.free k
        have hc1 := fun W' h => natDigit_ A c a p1 W' (by omega) (h : RdN W' A a)
        rw [← HL.out] at hc1
        have hra := HA.out.later hbw (Nat.le_refl _)
        have z4 : IntKind.u64.wrap ((dg a p : Nat) : Int) = ((dg a p : Nat) : Int) := IntWalk.u64_in _ (by omega)
        have hu2 : ∀ W' : World, UC W' g N (fun j => if j < k then dg r j else dg a (W + j)) → UC (W'.setCell ⟨g, k, none⟩ (.int .u32 ((dg r k : Nat) : Int))) g N (fun j => if j < k + 1 then dg r j else dg a (W + j)) := fun W' h => (h.put k (dg r k)).eqv fun j _ => by
          show (if j = k then dg r k else if j < k then dg r j else dg a (W + j)) = _
          by_cases h : j = k
          · rw [if_pos h, if_pos (by omega), h]
          · rw [if_neg h]
            by_cases h2 : j < k
            · rw [if_pos h2, if_pos (by omega)]
            · rw [if_neg h2, if_neg (by omega)]
        have hgw := HG.out
        generalize dg a p1 = d1 at *
        generalize dg a p = d0 at *
        generalize dg r k = ds at *
        have HU := Lib.hid hu; have HBW := Lib.hid hbw; have HP := Lib.hid hp; have HP1 := Lib.hid hp1; have HD0 := Lib.hid hd0; have HD1 := Lib.hid hd1; have HDS := Lib.hid hds; have HC1 := Lib.hid hc1; have HRA := Lib.hid hra; have HU2 := Lib.hid hu2; have HGW := Lib.hid hgw; clear hu hbw hp hp1 hd0 hd1 hds hc1 hra hu2 hgw
        go_upto_region 6 with fail
        go_still_tail 20, (by kernel_rfl)
        still_call ((HC1.out wr.drew HRA.out).mono fun e w' h => (⟨h.1, h.2.symm⟩ : e = _ ∧ w' = _))
        repeat still_step
        refine wpStill_nil ?_
        change wpList _ _ _ _ _ wr.drew
        have hq8 : UC wr.drew g N (fun j => if j < k then dg r j else dg a (W + j)) := HU.out
        have hbw8 : Below w.heap.size w wr.drew := HBW.out.drew
        clear q1 q2 hul
        generalize wr.drew = w6 at *
        have q6 := hq8.at_ hkN
        have q7 := hq8.free k
        have hul5 := hq8.lt
        have hu9 := HU2.out w6 hq8
        have hbw9 := hbw8.setCell (p := ⟨g, k, none⟩) HGW.out (.int .u32 (ds : Int))
        have HQ8 := Lib.hid hq8; have HBW8 := Lib.hid hbw8; have HU9 := Lib.hid hu9; have HBW9 := Lib.hid hbw9; clear hq8 hbw8 hu9 hbw9
        go_wp2
        go_roundw
        case rel => exact ⟨k + 1, by go_num, by omega, HU9.out, HBW9.out⟩
        case measure => simp [intOf]; omega
      · obtain rfl : k = N := by omega
        have hrd : RdD wr (some ⟨g, 0, none⟩) k r := RdD.of_uc hu fun j hj => if_pos hj
        have hl := nl_le.2 HPR2.out
        have HU := Lib.hid hu; have HBW := Lib.hid hbw; have HRD := Lib.hid hrd; have HL := Lib.hid hl; clear hu hbw hrd hl
        go_wp2_with fail
        refine (natTrim_ _ k d r _ HPR2.out (by omega) HND.out HRD.out).mono ?_
        rintro e w2 ⟨rfl, rfl⟩
        go_wp2
        go_ret
        exact ⟨_, _, rfl, HRD.out.less HL.out, Nat.le_trans HL.out HND.out, HBW.out⟩
  · have hr0 : r = 0 := by
      rw [hr, hmw, Nat.pow_add, ← Nat.div_div_eq_div_mul]
      have h1 : a < 2 ^ (32 * W) := Nat.lt_of_lt_of_le hpa (pw_le (by omega))
      rw [Nat.div_eq_of_lt h1, Nat.zero_div]
    subst hr0
    have hz : RdD w none 0 0 := fun h => absurd h (by omega)
    rcases Nat.lt_trichotomy L W with hLW | hLW | hLW
    · rcases Nat.lt_or_eq_of_le hc with hLc | hLc
      all_goals
        try subst hLc
        have HNA := Lib.hid hna; have HPA := Lib.hid hpa; have HW := Lib.hid hW; have HX := Lib.hid hx; have HL := Lib.hid hL; have HA := Lib.hid ha; have HLA := Lib.hid hla; have HBR := Lib.hid hbr; have HMW := Lib.hid hmw; have HR := Lib.hid hr; clear hna hpa hW hx hL ha hla hbr hmw hr
        go_enter Try.func96, Try.ntmps96
        go_wp2_with fail
        refine (natClone_ _ 0 _ 0 w (by omega) (fun h => absurd h (by omega))).mono ?_
        rintro e w1 ⟨B, d, rfl, hnd, _, b1⟩
        have B1 := Lib.hid b1; have HND := Lib.hid hnd; clear b1 hnd
        go_wp2
        go_loopw [7, 20] (fun _ iv wr => iv = .int .i64 0 ∧ wr = w1) (fun _ _ _ => 0)
        case atStart => exact ⟨rfl, rfl⟩
        case round =>
          obtain ⟨rfl, rfl⟩ := hrel
          go_wp2_with fail
          refine (natTrim_ _ 0 d 0 _ (pw_pos 0) (by omega) (Nat.zero_le _) (fun h => absurd h (by omega))).mono ?_
          rintro e w2 ⟨rfl, rfl⟩
          go_wp2
          go_ret
          exact ⟨_, _, rfl, rdN_zero _ _, Nat.zero_le _, B1.out⟩
    · obtain rfl : W = L := hLW.symm
      rcases Nat.lt_or_eq_of_le hc with hLc | hLc
      all_goals
        try subst hLc
        have HNA := Lib.hid hna; have HPA := Lib.hid hpa; have HW := Lib.hid hW; have HX := Lib.hid hx; have HL := Lib.hid hL; have HA := Lib.hid ha; have HLA := Lib.hid hla; have HBR := Lib.hid hbr; have HMW := Lib.hid hmw; have HR := Lib.hid hr; clear hna hpa hW hx hL ha hla hbr hmw hr
        clear hLW
        go_enter Try.func96, Try.ntmps96
        go_wp2_with fail
        refine (natClone_ _ 0 _ 0 w (by omega) (fun h => absurd h (by omega))).mono ?_
        rintro e w1 ⟨B, d, rfl, hnd, _, b1⟩
        have B1 := Lib.hid b1; have HND := Lib.hid hnd; clear b1 hnd
        go_wp2
        go_loopw [7, 20] (fun _ iv wr => iv = .int .i64 0 ∧ wr = w1) (fun _ _ _ => 0)
        case atStart => exact ⟨rfl, rfl⟩
        case round =>
          obtain ⟨rfl, rfl⟩ := hrel
          go_wp2_with fail
          refine (natTrim_ _ 0 d 0 _ (pw_pos 0) (by omega) (Nat.zero_le _) (fun h => absurd h (by omega))).mono ?_
          rintro e w2 ⟨rfl, rfl⟩
          go_wp2
          go_ret
          exact ⟨_, _, rfl, rdN_zero _ _, Nat.zero_le _, B1.out⟩
    · omega
end Go.Proofs.Ytlmhgcllikcedaa
/- floor and signed. -/
namespace Go.Proofs.Ytlmhgcllikcedaa
open Go.RowKit

/-- (p - n) / 2^b, rounded down: without its sign. -/
def flV (p n b : Nat) : Nat := if n ≤ p then (p - n) / 2 ^ b else (n - p + 2 ^ b - 1) / 2 ^ b
def flB (p n : Nat) : Bool := decide (p < n)
def FloorPost (v : Nat) (t : Bool) (w : World) (e : Ending) (w' : World) : Prop := ∃ A c, e = .returned (.tuple #[.slice A (nl v) c, .bool t]) ∧ RdN w' A v ∧ nl v ≤ c ∧ Below w.heap.size w w'
theorem one_at {w : World} : RdN (w.alloc (.cells #[.int .u32 1] 104)) (some ⟨w.heap.size, 0, none⟩) 1 :=
  RdD.of_u4 (R := w.heap.size) (n := 1) (g := fun _ => 1) (heap_alloc_new _ _) fun j hj => by
    obtain rfl : j = 0 := by have : nl 1 = 1 := by decide
                             omega
    decide
set_option maxRecDepth 100000 in
set_option maxHeartbeats 4000000 in
theorem natMinus1_ (A : Option Addr) (c a R : Nat) (w : World) (ha : RdN w A a) (h1 : RdN w (some ⟨R, 0, none⟩) 1) (hla : nl a ≤ 35184372088832) (h0 : 1 ≤ a) :
    Calls Try.prog 95 #[.slice A (nl a) c, .slice (some ⟨R, 0, none⟩) 1 1] w (NatPost (a - 1) w) :=
  natMinus_ A (some ⟨R, 0, none⟩) c 1 a 1 w ha h1 hla h0
set_option maxRecDepth 100000 in
set_option maxHeartbeats 4000000 in
theorem tnFloor_ (A B : Option Addr) (c d p n b : Nat) (w : World) (ha : RdN w A p) (hb : RdN w B n) (hp : nl p ≤ 35184372062500) (hn : nl n ≤ 35184372062500) (hbb : b ≤ 1125899906000000) :
    Calls Try.prog 58 #[.slice A (nl p) c, .slice B (nl n) d, .int .u64 (b : Int)] w (FloorPost (flV p n b) (flB p n) w) := by
  have hb0 := Below.refl w.heap.size w
  have HA := Lib.hid ha; have HB := Lib.hid hb; have HP := Lib.hid hp; have HN := Lib.hid hn; have HB0 := Lib.hid hb0; have HBB := Lib.hid hbb; clear ha hb hp hn hb0 hbb
  go_enter Try.func58, Try.ntmps58
  go_wp2_with fail
  refine (natCompare_ A B c d p n w HA.out HB.out (by have := HP.out; omega) (by have := HN.out; omega)).mono ?_
  rintro e w1 ⟨z, rfl, hz, b1⟩
  have ha1 := HA.out.later b1 (Nat.le_refl _)
  have hb1 := HB.out.later b1 (Nat.le_refl _)
  have B1 := Lib.hid (HB0.out.trans (b1.mono HB0.out.size)); clear b1
  by_cases hge : n ≤ p
  · have y1 : (0 : Int) ≤ z := by have := hz.1; omega
    have y2 : decide ((0 : Int) ≤ z) = true := decide_eq_true y1
    have hv : flV p n b = (p - n) / 2 ^ b := if_pos hge
    have hf : flB p n = false := decide_eq_false (by omega)
    have hl : nl (p - n) ≤ 35184372062500 := Nat.le_trans (nl_mono (by omega)) HP.out
    have HZ := Lib.hid hz; have HGE := Lib.hid hge; have HV := Lib.hid hv; have HF := Lib.hid hf; have HA1 := Lib.hid ha1; have HB1 := Lib.hid hb1; have HL := Lib.hid hl; clear hz hge hv hf ha1 hb1 hl
    go_wp2_with fail
    refine (natMinus_ A B c d p n w1 HA1.out HB1.out (by have := HP.out; omega) HGE.out).mono ?_
    rintro e w2 ⟨A2, c2, rfl, h2, hc2, b1⟩
    have B2 := Lib.hid (B1.out.trans (b1.mono B1.out.size)); clear b1 B1
    have H2 := Lib.hid h2; have HC2 := Lib.hid hc2; clear h2 hc2
    go_wp2_with fail
    refine (natDown_ A2 c2 (p - n) b w2 H2.out HC2.out (by have := HL.out; omega) (by have := HBB.out; omega)).mono ?_
    rintro e w3 ⟨A3, c3, rfl, h3, hc3, b1⟩
    have B3 := Lib.hid (B2.out.trans (b1.mono B2.out.size)); clear b1 B2
    have H3 := Lib.hid h3; have HC3 := Lib.hid hc3; clear h3 hc3
    go_wp2
    go_ret2
    rw [HV.out, HF.out]
    exact ⟨_, _, rfl, H3.out, HC3.out, B3.out⟩
  · have y1 : ¬ (0 : Int) ≤ z := by have := hz.1; omega
    have y2 : decide ((0 : Int) ≤ z) = false := decide_eq_false y1
    have hv : flV p n b = (n - p + 2 ^ b - 1) / 2 ^ b := if_neg hge
    have hf : flB p n = true := decide_eq_true (by omega)
    have hpw := Nat.two_pow_pos b
    have hlp : nl (2 ^ b) ≤ 35184372062501 := by
      have h := (pow_dg b).1
      rw [h]
      have := HBB.out
      omega
    have hl1 : nl (n - p) ≤ 35184372062500 := Nat.le_trans (nl_mono (by omega)) HN.out
    have hl2 : nl (n - p + 2 ^ b) ≤ 35184372062502 := by
      refine nl_le.2 ?_
      have h1 := Nat.lt_of_lt_of_le (lt_pw (n - p)) (pw_le (show nl (n - p) ≤ 35184372062501 by omega))
      have h2 := Nat.lt_of_lt_of_le (lt_pw (2 ^ b)) (pw_le hlp)
      rw [pw_succ]
      generalize pw 35184372062501 = X at *
      omega
    have hge1 : 1 ≤ n - p + 2 ^ b := by omega
    have hl3 : nl (n - p + 2 ^ b - 1) ≤ 35184372062502 := Nat.le_trans (nl_mono (by omega)) hl2
    have hpn : p ≤ n := by omega
    generalize hq : 2 ^ b = q at *
    have HZ := Lib.hid hz; have HGE := Lib.hid hge; have HV := Lib.hid hv; have HF := Lib.hid hf; have HA1 := Lib.hid ha1; have HB1 := Lib.hid hb1; have HLP := Lib.hid hlp; have HL1 := Lib.hid hl1; have HL2 := Lib.hid hl2; have HGE1 := Lib.hid hge1; have HL3 := Lib.hid hl3; have HPN := Lib.hid hpn; have HPW := Lib.hid hpw; have HQ := Lib.hid hq; clear hz hge hv hf ha1 hb1 hlp hl1 hl2 hge1 hl3 hpn hpw hq
    go_wp2_with fail
    refine (natMinus_ B A d c n p w1 HB1.out HA1.out (by have := HN.out; omega) HPN.out).mono ?_
    rintro e w2 ⟨A2, c2, rfl, h2, _, b1⟩
    have B2 := Lib.hid (B1.out.trans (b1.mono B1.out.size)); clear b1 B1
    have H2 := Lib.hid h2; clear h2
    go_wp2_with fail
    refine (tPower_ b w2 (by have := HBB.out; omega)).mono ?_
    rw [HQ.out]
    rintro e w3 ⟨A3, c3, rfl, h3, _, b1⟩
    have h2b := H2.out.later b1 (Nat.le_refl _)
    have B3 := Lib.hid (B2.out.trans (b1.mono B2.out.size)); clear b1 B2 H2
    have H3 := Lib.hid h3; have H2B := Lib.hid h2b; clear h3 h2b
    go_wp2_with fail
    refine (natPlus_ A2 A3 c2 c3 (n - p) q w3 H2B.out H3.out (by have := HL1.out; omega) (by have := HLP.out; omega)).mono ?_
    rintro e w4 ⟨A4, c4, rfl, h4, _, b1⟩
    have B4 := Lib.hid (B3.out.trans (b1.mono B3.out.size)); clear b1 B3 H2B H3
    have hb5 : Below w4.heap.size w4 (w4.alloc (.cells #[.int .u32 1] 104)) := (Below.refl _ _).alloc (Nat.le_refl _) _
    have h4b := h4.later hb5 (Nat.le_refl _)
    have B5 := Lib.hid (B4.out.trans (hb5.mono B4.out.size))
    have hone := one_at (w := w4)
    clear h4 hb5
    have H4B := Lib.hid h4b; have HONE := Lib.hid hone; clear h4b hone
    go_wp2_with fail
    refine (natMinus1_ A4 c4 (n - p + q) w4.heap.size _ H4B.out HONE.out (by have := HL2.out; omega) HGE1.out).mono ?_
    rintro e w6 ⟨A6, c6, rfl, h6, hc6, b1⟩
    have B6 := Lib.hid (B5.out.trans (b1.mono B5.out.size)); clear b1 B5
    have H6 := Lib.hid h6; have HC6 := Lib.hid hc6; clear h6 hc6
    go_wp2_with fail
    refine (natDown_ A6 c6 (n - p + q - 1) b w6 H6.out HC6.out (by have := HL3.out; omega) (by have := HBB.out; omega)).mono ?_
    rw [HQ.out]
    rintro e w7 ⟨A7, c7, rfl, h7, hc7, b1⟩
    have B7 := Lib.hid (B6.out.trans (b1.mono B6.out.size)); clear b1 B6
    have H7 := Lib.hid h7; have HC7 := Lib.hid hc7; clear h7 hc7
    go_wp2
    go_ret2
    rw [HV.out, HF.out]
    exact ⟨_, _, rfl, H7.out, HC7.out, B7.out⟩
/-- A number as an int64, if it is at most 4 10^18. -/
def SgPost (v : Nat) (t : Bool) (w : World) (e : Ending) (w' : World) : Prop := e = .returned (.tuple #[.int .i64 (if 4000000000000000000 < v then 0 else if t = true then -(v : Int) else (v : Int)), .bool (decide (v ≤ 4000000000000000000))]) ∧ Below w.heap.size w w'
set_option maxRecDepth 100000 in
set_option maxHeartbeats 4000000 in
theorem tnSigned_ (A : Option Addr) (c v : Nat) (t : Bool) (w : World) (ha : RdN w A v) (hl : nl v ≤ 281474976710656) :
    Calls Try.prog 60 #[.slice A (nl v) c, .bool t] w (SgPost v t w) := by
  have hb0 := Below.refl w.heap.size w
  have hof : ∀ W, Calls Try.prog 90 #[.int .u64 4000000000000000000] W (NatPost 4000000000000000000 W) := fun W => tOf_ 4000000000000000000 W (by decide)
  have HA := Lib.hid ha; have HB0 := Lib.hid hb0; have HL := Lib.hid hl; have HOF := Lib.hid hof; clear ha hb0 hl hof
  go_enter Try.func60, Try.ntmps60
  go_wp2_with fail
  refine (HOF.out w).mono ?_
  rintro e w1 ⟨A1, c1, rfl, h1, _, b1⟩
  have ha1 := HA.out.later b1 (Nat.le_refl _)
  have B1 := Lib.hid (HB0.out.trans (b1.mono HB0.out.size)); clear b1
  have H1 := Lib.hid h1; have HA1 := Lib.hid ha1; clear h1 ha1
  go_wp2_with fail
  refine (natCompare_ A A1 c c1 v 4000000000000000000 w1 HA1.out H1.out HL.out (by decide)).mono ?_
  rintro e w2 ⟨z, rfl, hz, b1⟩
  have ha2 := HA1.out.later b1 (Nat.le_refl _)
  have B2 := Lib.hid (B1.out.trans (b1.mono B1.out.size)); clear b1 B1 HA1 H1
  by_cases hv : 4000000000000000000 < v
  · have y1 : (0 : Int) < z := by have := hz.1; have := hz.2.1; omega
    have y2 : decide ((0 : Int) < z) = true := decide_eq_true y1
    have hb2 := B2.out
    have hle : decide (v ≤ 4000000000000000000) = false := decide_eq_false (by omega)
    have HZ := Lib.hid hz; have HV := Lib.hid hv; have HA2 := Lib.hid ha2; have HB2 := Lib.hid hb2; have HLE := Lib.hid hle; clear hz hv ha2 hb2 hle
    go_wp2
    go_ret2
    exact ⟨by rw [if_pos HV.out, HLE.out]; rfl, HB2.out⟩
  · have y1 : ¬ (0 : Int) < z := by have := hz.1; have := hz.2.1; omega
    have y2 : decide ((0 : Int) < z) = false := decide_eq_false y1
    have hc0 : Calls Try.prog 93 #[.slice A (nl v) c, .int .i64 0] w2 fun e w' => e = .returned (.int .u64 ((dg v 0 : Nat) : Int)) ∧ w2 = w' := natDigit_ A c v 0 w2 (by decide) ha2
    have hc1 : Calls Try.prog 93 #[.slice A (nl v) c, .int .i64 1] w2 fun e w' => e = .returned (.int .u64 ((dg v 1 : Nat) : Int)) ∧ w2 = w' := natDigit_ A c v 1 w2 (by decide) ha2
    have hd0 := dg_lt v 0
    have hd1 := dg_lt v 1
    have hvd : v = dg v 1 * 4294967296 + dg v 0 := by
      unfold dg
      rw [pw_succ, pw_zero]
      omega
    obtain ⟨sh, s2, s3, t1, t2, _, _⟩ := down_step (q := 1) hd1 hd0 rfl
    have hs2 : (s2 : Int) = (v : Int) := by
      have e1 : IntKind.u64.wrap (((dg v 1 : Nat) : Int) * 4294967296) = ((dg v 1 * 4294967296 : Nat) : Int) := by
        rw [IntWalk.u64_in _ (by omega)]; omega
      have e2 : sh = dg v 1 * 4294967296 := by rw [t1] at e1; omega
      have h2 := (bits_nat .u64 64 (by decide) (fun n h0 h1 => IntWalk.u64_in n (by omega)) (dg v 1 * 4294967296) (dg v 0) (by omega) (by omega)).2
      have h3 := Nat.shiftLeft_add_eq_or_of_lt (i := 32) (b := dg v 0) (by omega) (dg v 1)
      rw [Nat.shiftLeft_eq] at h3
      rw [e2, h2, ← h3] at t2
      omega
    rw [hs2] at t2
    have t3 : IntKind.i64.wrap (v : Int) = (v : Int) := IntWalk.i64_in _ (by omega)
    have t4 : IntKind.i64.wrap (-(v : Int)) = -(v : Int) := IntWalk.i64_in _ (by omega)
    have hle : decide (v ≤ 4000000000000000000) = true := decide_eq_true (by omega)
    have hb2 := B2.out
    generalize dg v 0 = d0 at *
    generalize dg v 1 = d1 at *
    have HZ := Lib.hid hz; have HV := Lib.hid hv; have HA2 := Lib.hid ha2; have HB2 := Lib.hid hb2; have HLE := Lib.hid hle; have HC0 := Lib.hid hc0; have HC1 := Lib.hid hc1; have HD0 := Lib.hid hd0; have HD1 := Lib.hid hd1; have HVD := Lib.hid hvd; have HS2 := Lib.hid hs2; clear hz hv ha2 hb2 hle hc0 hc1 hd0 hd1 hvd hs2
    go_wp2_with fail
    refine HC1.out.mono ?_
    rintro e wv ⟨rfl, rfl⟩
    go_wp2_with fail
    refine HC0.out.mono ?_
    rintro e wv ⟨rfl, rfl⟩
    cases t with
    | true =>
      go_wp2
      go_ret2
      exact ⟨by rw [if_neg HV.out, HLE.out]; rfl, HB2.out⟩
    | false =>
      go_wp2
      go_ret2
      exact ⟨by rw [if_neg HV.out, HLE.out]; rfl, HB2.out⟩
end Go.Proofs.Ytlmhgcllikcedaa
