/- Texts of this claim, laid together: OrCyc13, OrLEith. -/
import Derived.Test.YtlpfecjkkgccgaaDoorMaX
/- The law's cycle: is a list a cycle? -/
namespace Go.Proofs.YtlpfecjkkgccgaaDoor
open Go Go.RowKit

def CyPost (n : Nat) (L : Nat → Nat) (l : List Int) (w : World) (e : Ending) (w' : World) : Prop := ∃ t : Bool, e = .returned (.bool t) ∧ (t = true ↔ CycB n L l) ∧ Below w.heap.size w w'
theorem nodup_snoc {l : List Int} {x : Int} : (l ++ [x]).Nodup ↔ l.Nodup ∧ x ∉ l := by
  rw [List.nodup_append]
  constructor
  · rintro ⟨h1, _, h3⟩
    exact ⟨h1, fun h => h3 x h x (by simp) rfl⟩
  · rintro ⟨h1, h2⟩
    refine ⟨h1, by simp, fun a ha b hb h => ?_⟩
    rw [List.mem_singleton] at hb
    subst hb; subst h
    exact h2 ha
theorem take_mem {l : List Int} {i : Nat} (hi : i ≤ l.length) {x : Int} : x ∈ l.take i ↔ ∃ j, j < i ∧ l.getD j 0 = x := by
  rw [List.mem_iff_getElem]
  constructor
  · rintro ⟨j, hj, rfl⟩
    have hj2 : j < i := by simpa using (by have := hj; rw [List.length_take] at this; omega)
    exact ⟨j, hj2, by rw [List.getElem_take, List.getD_eq_getElem?_getD, List.getElem?_eq_getElem (by omega)]; rfl⟩
  · rintro ⟨j, hj, rfl⟩
    refine ⟨j, by rw [List.length_take]; omega, ?_⟩
    rw [List.getElem_take, List.getD_eq_getElem?_getD, List.getElem?_eq_getElem (by omega)]; rfl
set_option maxRecDepth 100000 in
set_option maxHeartbeats 4000000 in
theorem cycle13_ (p : Int) (A Wa B CA : Option Addr) (c wc lc m k cc : Nat) (ws : List GW) (wl : List (Int × Int)) (l : List Int) (w : World) (ha : RdW w A ws) (hpl : ∀ x ∈ ws, 0 ≤ x.pl ∧ x.pl ≤ 22) (hl : RdP w Wa wl) (hm : wl.length = m) (ho : RdI w CA l) (hll : l.length ≤ 100000) :
    Calls Tryd.prog 22 #[.agg #[.int .i64 p, .slice A ws.length c, .slice Wa m wc, .slice B k lc], .slice CA l.length cc] w (CyPost ws.length (LO ws wl) l w) := by
  subst hm
  have hwn := ha.1
  have hb2 : Below w.heap.size w (w.alloc (.cells #[.int .i64 p, .slice A ws.length c, .slice Wa wl.length wc, .slice B k lc] 28)) := (Below.refl _ _).alloc (Nat.le_refl _) _
  have hC : CaseB (w.alloc (.cells #[.int .i64 p, .slice A ws.length c, .slice Wa wl.length wc, .slice B k lc] 28)) w.heap.size p A Wa B ws.length c wl.length wc k lc := heap_alloc_new _ _
  go_enter Tryd.func22, Tryd.ntmps22
  refine wp_seq_k fun K1 hK1 => ?_
  have HK1 := Lib.hid hK1; have HA := Lib.hid ha; have HL := Lib.hid hl; have HO := Lib.hid ho; have HPL := Lib.hid hpl; clear hK1 ha hl ho hpl
  go_wp2
  refine HK1.out _ _ ?_
  clear HK1
  generalize w.alloc (.cells #[.int .i64 p, .slice A ws.length c, .slice Wa wl.length wc, .slice B k lc] 28) = w1 at *
  have hb0 := Below.refl w1.heap.size w1
  have hsz1 := hb2.size
  have HC := Lib.hid hC; have HB2 := Lib.hid hb2; have HB0 := Lib.hid hb0; clear hC hb2 hb0
  go_wp2
  go_loopw [5, 6] (fun iv _ wr => ∃ i : Nat, iv = .int .i64 i ∧ i ≤ l.length ∧ (∀ x ∈ l.take i, 0 ≤ x ∧ x < (ws.length : Int)) ∧ (l.take i).Nodup ∧ Below w1.heap.size w1 wr) (fun iv _ _ => l.length - (intOf iv).toNat)
  case atStart => exact ⟨0, rfl, Nat.zero_le _, (fun x hx => by simp at hx), by simp, HB0.out⟩
  case round =>
    obtain ⟨i, rfl, hi, hall, hnd, hb⟩ := hrel
    have hbw := HB2.out.trans (hb.mono hsz1)
    obtain ⟨c0, c1, c2, c3, s1⟩ := (HC.out.later hb).open_
    obtain ⟨wq, rfl⟩ : ∃ wq : World, wq = wr := ⟨_, rfl⟩
    by_cases hlt : i < l.length
    · obtain ⟨bl, ol, rfl, hbl, l1⟩ := (HO.out.later hbw (Nat.le_refl _)).at_ hlt
      have x1 : (0 : Int) ≤ (i : Int) := by omega
      have x2 : (i : Int) < (l.length : Int) := by omega
      have htk : l.take (i + 1) = l.take i ++ [l[i]] := List.take_succ_eq_append_getElem hlt
      have hmem := List.getElem_mem hlt
      have hgd : l.getD i 0 = l[i] := by rw [List.getD_eq_getElem?_getD, List.getElem?_eq_getElem hlt]; rfl
      have hbad : ¬ (0 ≤ l[i] ∧ l[i] < (ws.length : Int)) → ¬ CycB ws.length (LO ws wl) l := fun h hc => h (hc.2.2.1 _ hmem)
      have hdup : ∀ j, j < i → l.getD j 0 = l[i] → ¬ CycB ws.length (LO ws wl) l := fun j hj he hc => by
        have h1 : (l.take (i + 1)).Nodup := hc.2.1.sublist (List.take_sublist _ _)
        rw [htk, nodup_snoc] at h1
        exact h1.2 ((take_mem hi).2 ⟨j, hj, he⟩)
      have hgood : (0 ≤ l[i] ∧ l[i] < (ws.length : Int)) → (∀ j, j < i → l.getD j 0 ≠ l[i]) → (∀ x ∈ l.take (i + 1), 0 ≤ x ∧ x < (ws.length : Int)) ∧ (l.take (i + 1)).Nodup := fun h1 h2 => by
        rw [htk]
        refine ⟨fun x hx => ?_, nodup_snoc.2 ⟨hnd, fun h => ?_⟩⟩
        · rcases List.mem_append.1 hx with h | h
          · exact hall x h
          · rw [List.mem_singleton] at h; rw [h]; exact h1
        · obtain ⟨j, hj, he⟩ := (take_mem hi).1 h
          exact h2 j hj he
      have hx := hgd
      generalize l[i] = x at *
      clear htk hmem hall hnd hgd
      by_cases n1 : x < 0
      · have f1 : decide (x < 0) = true := by simpa using n1
        have hno := hbad (by omega)
        clear hbad hdup hgood
        have HB := Lib.hid hb; have HBW := Lib.hid hbw; have HNO := Lib.hid hno; have HX := Lib.hid hx; clear hb hbw hno hx
        go_wp2
        have hbelc : ∀ (u : Bel wq.heap.size wq) b o, b < wq.heap.size → u.wd.cell? ⟨b, o, none⟩ = wq.cell? ⟨b, o, none⟩ := fun u b o h => u.h.cell (p := ⟨b, o, none⟩) h
        have hbeln : Nonempty (Bel wq.heap.size wq) := ⟨⟨wq, Below.refl _ _⟩⟩
        refine wp_region_bel wq.heap.size (by kernel_rfl) (by kernel_rfl) ?_
        repeat (go_big_quiet_step ((fail)))
        refine wpQuiet_nil ?_
        intro wB hB0; obtain ⟨uB, hu⟩ := hB0; have hbB0 := uB.h; rw [← hu] at hbB0; clear hu uB hbelc hbeln
        obtain ⟨hbB, hcB, hsB⟩ := bcell2 hbB0; clear hbB0
        have HBB := Lib.hid hbB; have HCB := Lib.hid hcB; clear hbB hcB
        go_wp2
        go_ret
        exact ⟨false, rfl, ⟨(fun h => by cases h), fun h => absurd h HNO.out⟩, HBW.out.trans (HBB.out.mono HBW.out.size)⟩
      have f1 : decide (x < 0) = false := by simpa using n1
      by_cases n2 : (ws.length : Int) ≤ x
      · have f2 : decide ((ws.length : Int) ≤ x) = true := by simpa using n2
        have hno := hbad (by omega)
        clear hbad hdup hgood
        have HB := Lib.hid hb; have HBW := Lib.hid hbw; have HNO := Lib.hid hno; have HX := Lib.hid hx; clear hb hbw hno hx
        go_wp2
        have hbelc : ∀ (u : Bel wq.heap.size wq) b o, b < wq.heap.size → u.wd.cell? ⟨b, o, none⟩ = wq.cell? ⟨b, o, none⟩ := fun u b o h => u.h.cell (p := ⟨b, o, none⟩) h
        have hbeln : Nonempty (Bel wq.heap.size wq) := ⟨⟨wq, Below.refl _ _⟩⟩
        refine wp_region_bel wq.heap.size (by kernel_rfl) (by kernel_rfl) ?_
        repeat (go_big_quiet_step ((fail)))
        refine wpQuiet_nil ?_
        intro wB hB0; obtain ⟨uB, hu⟩ := hB0; have hbB0 := uB.h; rw [← hu] at hbB0; clear hu uB hbelc hbeln
        obtain ⟨hbB, hcB, hsB⟩ := bcell2 hbB0; clear hbB0
        have HBB := Lib.hid hbB; have HCB := Lib.hid hcB; clear hbB hcB
        go_wp2
        go_ret
        exact ⟨false, rfl, ⟨(fun h => by cases h), fun h => absurd h HNO.out⟩, HBW.out.trans (HBB.out.mono HBW.out.size)⟩
      have f2 : decide ((ws.length : Int) ≤ x) = false := by simpa using n2
      have hgood2 := hgood ⟨by omega, by omega⟩
      clear hbad hgood
      have HB := Lib.hid hb; have HBW := Lib.hid hbw; have HDUP := Lib.hid hdup; have HGOOD2 := Lib.hid hgood2; have HX := Lib.hid hx; clear hb hbw hdup hgood2 hx
      go_wp2
      have hbelc : ∀ (u : Bel wq.heap.size wq) b o, b < wq.heap.size → u.wd.cell? ⟨b, o, none⟩ = wq.cell? ⟨b, o, none⟩ := fun u b o h => u.h.cell (p := ⟨b, o, none⟩) h
      have hbeln : Nonempty (Bel wq.heap.size wq) := ⟨⟨wq, Below.refl _ _⟩⟩
      refine wp_region_bel wq.heap.size (by kernel_rfl) (by kernel_rfl) ?_
      repeat (go_big_quiet_step ((fail)))
      refine wpQuiet_nil ?_
      intro wB hB0; obtain ⟨uB, hu⟩ := hB0; have hbB0 := uB.h; rw [← hu] at hbB0; clear hu uB hbelc hbeln
      obtain ⟨hbB, hcB, hsB⟩ := bcell2 hbB0; clear hbB0
      have hb3 := HB.out.trans (hbB.mono HB.out.size)
      have hlB := (hcB bl (ol + i) hbl).trans l1
      clear hcB l1 c0 c1 c2 c3 n1 n2 f1 f2
      have hb00 := Below.refl w1.heap.size wB
      have HB3 := Lib.hid hb3; have HBB := Lib.hid hbB; have HB00 := Lib.hid hb00; clear hb3 hbB hb00
      go_wp2
      go_loopw [6] (fun kv wr => ∃ k : Nat, kv = .int .i64 k ∧ k ≤ i ∧ (∀ j, j < k → l.getD j 0 ≠ x) ∧ Below w1.heap.size w1 wr ∧ wr.cell? ⟨bl, ol + i, none⟩ = some (.int .i64 x) ∧ bl < wr.heap.size) (fun kv _ => i - (intOf kv).toNat)
      case atStart => exact ⟨0, rfl, Nat.zero_le _, (fun j h => absurd h (by omega)), HB3.out, hlB, by omega⟩
      case round =>
        obtain ⟨k, rfl, hk, hne, hb5, l1, hbl5⟩ := hrel
        have hbw5 := HB2.out.trans (hb5.mono hsz1)
        by_cases hki : k < i
        · obtain ⟨bl2, ol2, hAe, hbl2, l2⟩ := (HO.out.later hbw5 (Nat.le_refl _)).at_ (show k < l.length by omega)
          injection hAe with hAe; injection hAe with hA1 hA2; subst hA1; subst hA2
          have hgk : l.getD k 0 = l[k] := by rw [List.getD_eq_getElem?_getD, List.getElem?_eq_getElem (by omega)]; rfl
          have y1 : (0 : Int) ≤ (k : Int) := by omega
          have y2 : (k : Int) < (l.length : Int) := by omega
          have hdk := HDUP.out k hki
          have hnek : l.getD k 0 ≠ x → ∀ j, j < k + 1 → l.getD j 0 ≠ x := fun h j hj => by
            by_cases hjk : j = k
            · subst hjk; exact h
            · exact hne j (by omega)
          rw [hgk] at hdk hnek
          generalize l[k] = z at *
          by_cases hzx : z = x
          · subst hzx
            have hno := hdk rfl
            clear hdk hnek hgk
            have HB5 := Lib.hid hb5; have HBW5 := Lib.hid hbw5; have HNO := Lib.hid hno; have HNE := Lib.hid hne; clear hb5 hbw5 hno hne
            go_wp2
            have hbelc : ∀ (u : Bel wr.heap.size wr) b o, b < wr.heap.size → u.wd.cell? ⟨b, o, none⟩ = wr.cell? ⟨b, o, none⟩ := fun u b o h => u.h.cell (p := ⟨b, o, none⟩) h
            have hbeln : Nonempty (Bel wr.heap.size wr) := ⟨⟨wr, Below.refl _ _⟩⟩
            refine wp_region_bel wr.heap.size (by kernel_rfl) (by kernel_rfl) ?_
            repeat (go_big_quiet_step ((fail)))
            refine wpQuiet_nil ?_
            intro wB hB0; obtain ⟨uB, hu⟩ := hB0; have hbB0 := uB.h; rw [← hu] at hbB0; clear hu uB hbelc hbeln
            obtain ⟨hbB, hcB, hsB⟩ := bcell2 hbB0; clear hbB0
            have HBB := Lib.hid hbB; have HCB := Lib.hid hcB; clear hbB hcB
            go_wp2
            go_ret
            exact ⟨false, rfl, ⟨(fun h => by cases h), fun h => absurd h HNO.out⟩, HBW5.out.trans (HBB.out.mono HBW5.out.size)⟩
          · have hne2 := hnek hzx
            have f3 : (z == x) = false := by simpa using hzx
            clear hdk hnek hgk hzx
            have HB5 := Lib.hid hb5; have HBW5 := Lib.hid hbw5; have HNE := Lib.hid hne; have HNE2 := Lib.hid hne2; clear hb5 hbw5 hne hne2
            go_wp2
            have hbelc : ∀ (u : Bel wr.heap.size wr) b o, b < wr.heap.size → u.wd.cell? ⟨b, o, none⟩ = wr.cell? ⟨b, o, none⟩ := fun u b o h => u.h.cell (p := ⟨b, o, none⟩) h
            have hbeln : Nonempty (Bel wr.heap.size wr) := ⟨⟨wr, Below.refl _ _⟩⟩
            refine wp_region_bel wr.heap.size (by kernel_rfl) (by kernel_rfl) ?_
            repeat (go_big_quiet_step ((fail)))
            refine wpQuiet_nil ?_
            intro wB hB0; obtain ⟨uB, hu⟩ := hB0; have hbB0 := uB.h; rw [← hu] at hbB0; clear hu uB hbelc hbeln
            obtain ⟨hbB, hcB, hsB⟩ := bcell2 hbB0; clear hbB0
            have hb6 := HB5.out.trans (hbB.mono HB5.out.size)
            have l3 := (hcB bl (ol + i) hbl5).trans l1
            have l4 : bl < wB.heap.size := by omega
            clear l1 l2
            have HB6 := Lib.hid hb6; have HBB := Lib.hid hbB; have HCB := Lib.hid hcB; clear hb6 hbB hcB
            go_wp2
            go_roundw
            case rel => exact ⟨k + 1, by go_num, by omega, HNE2.out, HB6.out, l3, l4⟩
            case measure => simp [intOf]; omega
        · obtain rfl : k = i := by omega
          obtain ⟨g1, g2⟩ := HGOOD2.out hne
          have HB5 := Lib.hid hb5; have HBW5 := Lib.hid hbw5; have G1 := Lib.hid g1; have G2 := Lib.hid g2; have HNE := Lib.hid hne; clear hb5 hbw5 g1 g2 hne
          clear l1 hlB
          go_wp2
          go_roundw
          case rel => exact ⟨k + 1, by go_num, by omega, G1.out, G2.out, HB5.out⟩
          case measure => simp [intOf]; omega
    · obtain rfl : i = l.length := by omega
      rw [List.take_length] at hall hnd
      clear c0 c1 c2 c3 s1
      have HALL := Lib.hid hall; have HND := Lib.hid hnd; have HB := Lib.hid hb; have HBW := Lib.hid hbw; clear hall hnd hb hbw
      go_wp2
      go_loopw [7] (fun iv wr => ∃ i : Nat, iv = .int .i64 i ∧ i ≤ l.length ∧ (∀ j, j < i → (LO ws wl (l.getD ((j + 1) % l.length) 0).toNat).testBit (l.getD j 0).toNat = true) ∧ Below w1.heap.size w1 wr) (fun iv _ => l.length - (intOf iv).toNat)
      case atStart => exact ⟨0, rfl, Nat.zero_le _, (fun j h => absurd h (by omega)), HB.out⟩
      case round =>
        obtain ⟨i, rfl, hi, hed, hb5⟩ := hrel
        have hbw5 := HB2.out.trans (hb5.mono hsz1)
        obtain ⟨c0, c1, c2, c3, s1⟩ := (HC.out.later hb5).open_
        by_cases hlt : i < l.length
        · obtain ⟨q, hq⟩ : ∃ q, q = (i + 1) % l.length := ⟨_, rfl⟩
          have hql : q < l.length := by rw [hq]; exact Nat.mod_lt _ (by omega)
          obtain ⟨bl, ol, rfl, hbl, l1⟩ := (HO.out.later hbw5 (Nat.le_refl _)).at_ hlt
          obtain ⟨bl2, ol2, hAe, hbl2, l2⟩ := (HO.out.later hbw5 (Nat.le_refl _)).at_ hql
          injection hAe with hAe; injection hAe with hA1 hA2; subst hA1; subst hA2
          have hgi : l.getD i 0 = l[i] := by rw [List.getD_eq_getElem?_getD, List.getElem?_eq_getElem hlt]; rfl
          have hgq : l.getD q 0 = l[q] := by rw [List.getD_eq_getElem?_getD, List.getElem?_eq_getElem hql]; rfl
          obtain ⟨a1, a2⟩ := HALL.out _ (List.getElem_mem hlt)
          obtain ⟨b1, b2⟩ := HALL.out _ (List.getElem_mem hql)
          have hnext : (LO ws wl (l.getD q 0).toNat).testBit (l.getD i 0).toNat = true → ∀ j, j < i + 1 → (LO ws wl (l.getD ((j + 1) % l.length) 0).toNat).testBit (l.getD j 0).toNat = true := fun h j hj => by
            by_cases hji : j = i
            · subst hji; rw [← hq]; exact h
            · exact hed j (by omega)
          have hnot : (LO ws wl (l.getD q 0).toNat).testBit (l.getD i 0).toNat = false → ¬ CycB ws.length (LO ws wl) l := fun h hc => by
            have := hc.2.2.2 i hlt
            rw [← hq, h] at this; cases this
          rw [hgi, hgq] at hnext hnot
          generalize l[i] = u at *
          generalize l[q] = v at *
          obtain ⟨u, rfl⟩ := Int.eq_ofNat_of_zero_le a1
          obtain ⟨v, rfl⟩ := Int.eq_ofNat_of_zero_le b1
          rw [Int.toNat_natCast, Int.toNat_natCast] at hnext hnot
          have hun : u < ws.length := by omega
          have hvn : v < ws.length := by omega
          have hbit := LO_bit (ws := ws) (wl := wl) u v
          rw [decide_eq_true hun, Bool.true_and] at hbit
          rw [hbit] at hnext hnot
          have x1 : (0 : Int) ≤ (i : Int) := by omega
          have x2 : (i : Int) < (l.length : Int) := by omega
          have y1 : (0 : Int) ≤ (q : Int) := by omega
          have y2 : (q : Int) < (l.length : Int) := by omega
          have y3 : ((l.length : Int) == 0) = false := beq_eq_false_iff_ne.2 (by omega)
          have y4 : ¬ (l.length : Int) = 0 := by omega
          have q1 : IntKind.i64.wrap ((i : Int) + 1) = (i : Int) + 1 := IntWalk.i64_in _ (by omega)
          have q2 : Int.tmod ((i : Int) + 1) (l.length : Int) = (q : Int) := by
            rw [show ((i : Int) + 1) = ((i + 1 : Nat) : Int) by push_cast; rfl, hq]
            exact (Int.ofNat_tmod _ _).symm
          have q3 : IntKind.i64.wrap (q : Int) = (q : Int) := IntWalk.i64_in _ (by omega)
          have hcall : ∀ z : Bel wr.heap.size wr, Calls Tryd.prog 45 #[.agg #[.int .i64 p, .slice A ws.length c], .slice Wa wl.length wc, .int .i64 (u : Int), .int .i64 (v : Int)] z.wd fun e w' => e = .returned (.bool (dirB ws wl u v)) ∧ Below z.wd.heap.size z.wd w' := fun z =>
            rDirectly_ p A Wa c wc u v ws wl z.wd (HA.out.later (hbw5.trans (z.h.mono hbw5.size)) (Nat.le_refl _)) HPL.out (HL.out.later (hbw5.trans (z.h.mono hbw5.size)) (Nat.le_refl _)) hun hvn
          cases hd : dirB ws wl u v with
          | false =>
            have hno := hnot hd
            rw [hd] at hcall
            clear hnext hnot hbit hgi hgq
            have HB5 := Lib.hid hb5; have HBW5 := Lib.hid hbw5; have HNO := Lib.hid hno; have HED := Lib.hid hed; have HCALL := Lib.hid hcall; have HD := Lib.hid hd; have HQ := Lib.hid hq; clear hb5 hbw5 hno hed hcall hd hq
            go_wp2
            have hbelc : ∀ (u : Bel wr.heap.size wr) b o, b < wr.heap.size → u.wd.cell? ⟨b, o, none⟩ = wr.cell? ⟨b, o, none⟩ := fun u b o h => u.h.cell (p := ⟨b, o, none⟩) h
            have hbeln : Nonempty (Bel wr.heap.size wr) := ⟨⟨wr, Below.refl _ _⟩⟩
            refine wp_region_bel wr.heap.size (by kernel_rfl) (by kernel_rfl) ?_
            repeat (go_big_quiet_step ((go_at_call 45; exact quiet_bel (Nat.le_refl _) (HCALL.out _))))
            refine wpQuiet_nil ?_
            intro wB hB0; obtain ⟨uB, hu⟩ := hB0; have hbB0 := uB.h; rw [← hu] at hbB0; clear hu uB hbelc hbeln
            obtain ⟨hbB, hcB, hsB⟩ := bcell2 hbB0; clear hbB0
            have HBB := Lib.hid hbB; have HCB := Lib.hid hcB; clear hbB hcB
            go_wp2
            go_ret
            exact ⟨false, rfl, ⟨(fun h => by cases h), fun h => absurd h HNO.out⟩, HBW5.out.trans (HBB.out.mono HBW5.out.size)⟩
          | true =>
            have hed2 := hnext hd
            rw [hd] at hcall
            clear hnext hnot hbit hgi hgq
            have HB5 := Lib.hid hb5; have HBW5 := Lib.hid hbw5; have HED := Lib.hid hed; have HED2 := Lib.hid hed2; have HCALL := Lib.hid hcall; have HD := Lib.hid hd; have HQ := Lib.hid hq; clear hb5 hbw5 hed hed2 hcall hd hq
            go_wp2
            have hbelc : ∀ (u : Bel wr.heap.size wr) b o, b < wr.heap.size → u.wd.cell? ⟨b, o, none⟩ = wr.cell? ⟨b, o, none⟩ := fun u b o h => u.h.cell (p := ⟨b, o, none⟩) h
            have hbeln : Nonempty (Bel wr.heap.size wr) := ⟨⟨wr, Below.refl _ _⟩⟩
            refine wp_region_bel wr.heap.size (by kernel_rfl) (by kernel_rfl) ?_
            repeat (go_big_quiet_step ((go_at_call 45; exact quiet_bel (Nat.le_refl _) (HCALL.out _))))
            refine wpQuiet_nil ?_
            intro wB hB0; obtain ⟨uB, hu⟩ := hB0; have hbB0 := uB.h; rw [← hu] at hbB0; clear hu uB hbelc hbeln
            obtain ⟨hbB, hcB, hsB⟩ := bcell2 hbB0; clear hbB0
            have hb6 := HB5.out.trans (hbB.mono HB5.out.size)
            clear hcB
            have HB6 := Lib.hid hb6; have HBB := Lib.hid hbB; clear hb6 hbB
            go_wp2
            go_roundw
            case rel => exact ⟨i + 1, by go_num, by omega, HED2.out, HB6.out⟩
            case measure => simp [intOf]; omega
        · obtain rfl : i = l.length := by omega
          clear c0 c1 c2 c3 s1
          by_cases h0 : 0 < l.length
          · have f1 : decide ((0 : Int) < (l.length : Int)) = true := decide_eq_true (by omega)
            have hcy : CycB ws.length (LO ws wl) l := ⟨List.length_pos_iff.1 h0, HND.out, HALL.out, hed⟩
            have HB5 := Lib.hid hb5; have HBW5 := Lib.hid hbw5; have HED := Lib.hid hed; have HCY := Lib.hid hcy; clear hb5 hbw5 hed hcy
            go_wp2
            go_ret
            exact ⟨true, rfl, ⟨fun _ => HCY.out, fun _ => rfl⟩, HBW5.out⟩
          · have f1 : decide ((0 : Int) < (l.length : Int)) = false := decide_eq_false (by omega)
            have hcy : ¬ CycB ws.length (LO ws wl) l := fun h => h0 (List.length_pos_iff.2 h.1)
            have HB5 := Lib.hid hb5; have HBW5 := Lib.hid hbw5; have HED := Lib.hid hed; have HCY := Lib.hid hcy; clear hb5 hbw5 hed hcy
            go_wp2
            go_ret
            exact ⟨false, rfl, ⟨(fun h => by cases h), fun h => absurd h HCY.out⟩, HBW5.out⟩
end Go.Proofs.YtlpfecjkkgccgaaDoor
/- The law OrderEither: an order, or a cycle, and not both. -/
namespace Go.Proofs.YtlpfecjkkgccgaaDoor
open Go Go.RowKit

theorem RdI.take {w : World} {A : Option Addr} {l : List Int} (h : RdI w A l) (q : Nat) : RdI w A (l.take q) := by
  have hle : (l.take q).length ≤ l.length := by rw [List.length_take]; omega
  refine ⟨Nat.le_trans hle h.1, fun h0 => ?_⟩
  obtain ⟨b, off, e, hlt, hc⟩ := h.2 (by omega)
  refine ⟨b, off, e, hlt, fun j hj => ?_⟩
  rw [hc j (by omega)]
  rw [List.length_take] at hj
  simp [List.getD_eq_getElem?_getD, show j < q by omega]
theorem lst_ord {p : Int} {ws : List GW} {wl : List (Int × Int)} (he : errO p ws wl = 0) (h : (lstO ws wl).isSome = true) : ordB ws.length (LO ws wl) (lstL p ws wl) = true := by
  obtain ⟨l, hl⟩ := Option.isSome_iff_exists.1 h
  unfold lstL
  rw [if_pos he, hl]
  exact ordB_iff.2 (goO_run hl)
theorem lst_none {ws : List GW} {wl : List (Int × Int)} (h : (lstO ws wl).isSome = false) : CycB ws.length (LO ws wl) (cycO ws wl) ∧ ∀ l, CycB ws.length (LO ws wl) l → (cycO ws wl).length ≤ l.length := by
  have hn : cycO ws wl ≠ [] := fun e => by rw [(lst_cyc ws wl).2 e] at h; cases h
  exact ⟨cycL_cycle hn, fun l hl => (cycL_least hl).2⟩
set_option maxRecDepth 100000 in
set_option maxHeartbeats 4000000 in
theorem lawEither_ (p : Int) (A Wa B : Option Addr) (c wc lc : Nat) (ws : List GW) (wl : List (Int × Int)) (l : List Int) (g : Int) (hg : 0 ≤ g ∧ g ≤ 255) (w : World) (ha : ShIn w p A ws) (hl : RdP w Wa wl) (ho : RdI w B l) (hlc : l.length ≤ lc) (hT : Tz w) :
    Calls Tryd.prog 5 #[.agg #[.int .i64 p, .slice A ws.length c, .slice Wa wl.length wc, .slice B l.length lc], .int .u8 g] w fun e w' => e = .returned (.bool true) ∧ Below w.heap.size w w' := by
  have hb2 : Below w.heap.size w (w.alloc (.cells #[.int .i64 p, .slice A ws.length c, .slice Wa wl.length wc, .slice B l.length lc] 28)) := (Below.refl _ _).alloc (Nat.le_refl _) _
  have hC : CaseB (w.alloc (.cells #[.int .i64 p, .slice A ws.length c, .slice Wa wl.length wc, .slice B l.length lc] 28)) w.heap.size p A Wa B ws.length c wl.length wc l.length lc := heap_alloc_new _ _
  go_enter Tryd.func5, Tryd.ntmps5
  refine wp_seq_k fun K1 hK1 => ?_
  have HK1 := Lib.hid hK1; have HA := Lib.hid ha; have HL := Lib.hid hl; have HO := Lib.hid ho; have HLC := Lib.hid hlc; have HT := Lib.hid hT; have HG := Lib.hid hg; clear hK1 ha hl ho hlc hT hg
  go_wp2
  refine HK1.out _ _ ?_
  clear HK1
  generalize w.alloc (.cells #[.int .i64 p, .slice A ws.length c, .slice Wa wl.length wc, .slice B l.length lc] 28) = w1 at *
  obtain ⟨c0, c1, c2, c3, s1⟩ := hC.open_
  have B1 := Lib.hid hb2
  clear hb2
  have HC := Lib.hid hC; clear hC
  go_wp2_with fail
  refine (far_ p A Wa B c wc lc wl.length l.length ws w1 (HA.out.rd.later B1.out (Nat.le_refl _))).mono ?_
  rintro e w2 ⟨t, rfl, hNear, b1⟩
  have hC2 := HC.out.later b1
  have B2 := Lib.hid (B1.out.trans (b1.mono B1.out.size))
  clear HC B1 b1 c0 c1 c2 c3 s1
  obtain ⟨c0, c1, c2, c3, s1⟩ := hC2.open_
  have HC2 := Lib.hid hC2; have HNEAR := Lib.hid hNear; clear hC2 hNear
  cases t with
  | true =>
    go_wp2_with fail
    refine (shown_ _ (HT.out.later B2.out (Nat.le_refl _))).mono ?_
    rintro e w3 ⟨rfl, b1⟩
    have B3 := Lib.hid (B2.out.trans (b1.mono B2.out.size))
    clear b1
    go_wp2
    go_ret
    exact ⟨rfl, B3.out⟩
  | false =>
    have hkk := (HNEAR.out rfl).2.1
    have HKK := Lib.hid hkk; clear hkk
    go_wp2_with fail
    refine (rWishes_ p A Wa c wc ws wl _ (HA.out.later B2.out (Nat.le_refl _)) (HL.out.later B2.out (Nat.le_refl _))).mono ?_
    rintro e w3 ⟨rfl, b1⟩
    have hC3 := HC2.out.later b1
    have B3 := Lib.hid (B2.out.trans (b1.mono B2.out.size))
    clear HC2 B2 b1 c0 c1 c2 c3 s1
    obtain ⟨c0, c1, c2, c3, s1⟩ := hC3.open_
    have HC3 := Lib.hid hC3; clear hC3
    by_cases he : errO p ws wl = 0
    rotate_left
    · have heb : (errO p ws wl != 0) = true := by simpa using he
      generalize errO p ws wl = E at *
      have HE := Lib.hid he; clear he
      go_wp2_with fail
      refine (shown_ _ (HT.out.later B3.out (Nat.le_refl _))).mono ?_
      rintro e w4 ⟨rfl, b1⟩
      have B4 := Lib.hid (B3.out.trans (b1.mono B3.out.size))
      clear b1
      go_wp2
      go_ret
      exact ⟨rfl, B4.out⟩
    have hn4 : ws.length ≤ 400 := by have := (okAll (errO_zero he).1).2.2.1; omega
    have hpl : ∀ x ∈ ws, 0 ≤ x.pl ∧ x.pl ≤ 22 := fun x hx => by
      obtain ⟨_, hp, _, hall⟩ := okAll (errO_zero he).1
      have := hall x hx
      omega
    have hlx : lstX p ws wl = if (lstO ws wl).isSome = true then 0 else 130 := by unfold lstX; rw [if_pos he]
    have hcx : cycX p ws wl = if (lstO ws wl).isSome = true then 4 else 0 := by unfold cycX; rw [if_pos he]
    have hcv : cycV p ws wl = if (lstO ws wl).isSome = true then [] else cycO ws wl := by unfold cycV; rw [if_pos he]
    have hord := fun h => lst_ord (p := p) (ws := ws) (wl := wl) he h
    have hclen : (cycO ws wl).length ≤ 400 := Nat.le_trans (cycL_len (n := ws.length) (L := LO ws wl) ws.length (Nat.le_refl _)) hn4
    have hnone := fun h => lst_none (ws := ws) (wl := wl) h
    rw [he]
    clear he
    have HN4 := Lib.hid hn4; have HPL := Lib.hid hpl; have HLX := Lib.hid hlx; have HCX := Lib.hid hcx; have HCV := Lib.hid hcv; have HORD := Lib.hid hord; have HCLEN := Lib.hid hclen; have HNONE := Lib.hid hnone; clear hn4 hpl hlx hcx hcv hord hclen hnone
    go_wp2_with fail
    refine (oLeast_ p A Wa c wc ws wl _ (HA.out.later B3.out (Nat.le_refl _)) (HL.out.later B3.out (Nat.le_refl _))).mono ?_
    rintro e w4 ⟨v, rfl, ⟨PA, pa, rfl, h1⟩, _, b1⟩
    have hC4 := HC3.out.later b1
    have B4 := Lib.hid (B3.out.trans (b1.mono B3.out.size))
    clear HC3 B3 b1 c0 c1 c2 c3 s1
    obtain ⟨c0, c1, c2, c3, s1⟩ := hC4.open_
    have hP4 := h1
    clear h1
    have HC4 := Lib.hid hC4; have HP4 := Lib.hid hP4; clear hC4 hP4
    go_wp2_with fail
    refine (oCycle_ p A Wa c wc ws wl _ (HA.out.later B4.out (Nat.le_refl _)) (HL.out.later B4.out (Nat.le_refl _))).mono ?_
    rintro e w5 ⟨v, rfl, ⟨RA, ra, rfl, h1⟩, b1⟩
    have hC5 := HC4.out.later b1
    have B5 := Lib.hid (B4.out.trans (b1.mono B4.out.size))
    have hP5 := HP4.out.later b1 (Nat.le_refl _)
    have hR5 := h1
    clear HC4 B4 HP4 b1 h1 c0 c1 c2 c3 s1
    obtain ⟨c0, c1, c2, c3, s1⟩ := hC5.open_
    cases hs : (lstO ws wl).isSome with
    | true =>
      have e1 := HLX.out
      have e2 := HCX.out
      rw [hs, if_pos rfl] at e1 e2
      rw [e1, e2]
      have hor := HORD.out hs
      clear e1 e2 HLX HCX HCV HORD HNONE hs
      generalize lstL p ws wl = L1 at *
      have HC5 := Lib.hid hC5; have HP5 := Lib.hid hP5; have HR5 := Lib.hid hR5; have HOR := Lib.hid hor; clear hC5 hP5 hR5 hor
      go_wp2_with fail
      refine (rRespects_ p A Wa PA c wc pa ws wl L1 _ (HA.out.rd.later B5.out (Nat.le_refl _)) HPL.out HN4.out (HL.out.later B5.out (Nat.le_refl _)) HP5.out).mono ?_
      rintro e w6 ⟨rfl, b1⟩
      rw [HOR.out]
      have B6 := Lib.hid (B5.out.trans (b1.mono B5.out.size))
      clear B5 b1
      go_wp2_with fail
      refine (shown_ _ (HT.out.later B6.out (Nat.le_refl _))).mono ?_
      rintro e w7 ⟨rfl, b1⟩
      have B7 := Lib.hid (B6.out.trans (b1.mono B6.out.size))
      clear b1 B6
      go_wp2
      go_ret
      exact ⟨rfl, B7.out⟩
    | false =>
      have e1 := HLX.out
      have e2 := HCX.out
      have e3 := HCV.out
      rw [hs, if_neg (by simp)] at e1 e2 e3
      rw [e3] at hR5
      rw [e1, e2, e3]
      obtain ⟨hcyc, hmin⟩ := HNONE.out hs
      clear e1 e2 e3 HLX HCX HCV HORD HNONE hs
      have hq1 := hmin (l.take (min g.toNat l.length))
      clear hmin
      generalize cycO ws wl = L2 at *
      clear hP5
      have HC5 := Lib.hid hC5; have HR5 := Lib.hid hR5; have HCYC := Lib.hid hcyc; have HQ1 := Lib.hid hq1; clear hC5 hR5 hcyc hq1
      go_wp2_with fail
      refine (cycle13_ p A Wa B RA c wc lc wl.length l.length ra ws wl L2 _ (HA.out.rd.later B5.out (Nat.le_refl _)) HPL.out (HL.out.later B5.out (Nat.le_refl _)) rfl HR5.out (by have := HCLEN.out; omega)).mono ?_
      rintro e w6 ⟨t, rfl, ht, b1⟩
      obtain rfl : t = true := ht.2 HCYC.out
      have hC6 := HC5.out.later b1
      have B6 := Lib.hid (B5.out.trans (b1.mono B5.out.size))
      clear HC5 B5 HR5 HCYC b1 ht c0 c1 c2 c3 s1
      obtain ⟨c0, c1, c2, c3, s1⟩ := hC6.open_
      obtain ⟨g, rfl⟩ := Int.eq_ofNat_of_zero_le HG.out.1
      rw [Int.toNat_natCast] at HQ1
      obtain ⟨q, hq⟩ : ∃ q, q = min g l.length := ⟨_, rfl⟩
      rw [← hq] at HQ1
      have hg2 := HG.out.2
      have hkl := HKK.out
      have hlc := HLC.out
      have q0 : IntKind.i64.wrap (g : Int) = (g : Int) := IntWalk.i64_in _ (by omega)
      have q1 : min (g : Int) (l.length : Int) = (q : Int) := by omega
      have q2 : q ≤ l.length := by omega
      have q3 : (l.take q).length = q := by rw [List.length_take]; omega
      have q4 : (0 : Int) ≤ (q : Int) := by omega
      have q5 : (q : Int) ≤ (lc : Int) := by omega
      have q6 := HO.out.take q
      have HC6 := Lib.hid hC6; have Q3 := Lib.hid q3; have Q6 := Lib.hid q6; have HG2 := Lib.hid hg2; have HKL := Lib.hid hkl; have HLC := Lib.hid hlc; have Q2 := Lib.hid q2; have HQ := Lib.hid hq; clear hC6 q3 q6 hg2 hkl hlc q2 hq
      go_wp2_with fail
      · clear q0
        have hqg : q = l.length := by rw [HQ.out]; exact Nat.min_eq_right (by omega)
        subst hqg
        clear q1 HQ
        have hcall := cycle13_ p A Wa B B c wc lc wl.length l.length lc ws wl (l.take l.length) w6 (HA.out.rd.later B6.out (Nat.le_refl _)) HPL.out (HL.out.later B6.out (Nat.le_refl _)) rfl (Q6.out.later B6.out (Nat.le_refl _)) (by rw [Q3.out]; have := HKL.out; have := Q2.out; omega)
        rw [Q3.out] at hcall
        refine hcall.mono ?_
        clear hcall
        rintro e w7 ⟨t, rfl, ht, b1⟩
        have B7 := Lib.hid (B6.out.trans (b1.mono B6.out.size))
        clear B6 b1 c0 c1 c2 c3 s1
        cases t with
        | false =>
          clear ht
          go_wp2_with fail
          refine (shown_ _ (HT.out.later B7.out (Nat.le_refl _))).mono ?_
          rintro e w8 ⟨rfl, b1⟩
          have B8 := Lib.hid (B7.out.trans (b1.mono B7.out.size))
          clear b1
          go_wp2
          go_ret
          exact ⟨rfl, B8.out⟩
        | true =>
          have hle := HQ1.out (ht.1 rfl)
          rw [Q3.out] at hle
          have f1 : decide ((L2.length : Int) ≤ ((l.length : Nat) : Int)) = true := decide_eq_true (by omega)
          have f2 : (L2.length : Int) ≤ ((l.length : Nat) : Int) := by omega
          clear ht
          have HLE := Lib.hid hle; clear hle
          go_wp2_with fail
          refine (shown_ _ (HT.out.later B7.out (Nat.le_refl _))).mono ?_
          rintro e w8 ⟨rfl, b1⟩
          have B8 := Lib.hid (B7.out.trans (b1.mono B7.out.size))
          clear b1
          go_wp2
          go_ret
          exact ⟨rfl, B8.out⟩
      · clear q0
        have hqg : q = g := by rw [HQ.out]; exact Nat.min_eq_left (by omega)
        subst hqg
        clear q1 HQ
        have hcall := cycle13_ p A Wa B B c wc lc wl.length l.length lc ws wl (l.take q) w6 (HA.out.rd.later B6.out (Nat.le_refl _)) HPL.out (HL.out.later B6.out (Nat.le_refl _)) rfl (Q6.out.later B6.out (Nat.le_refl _)) (by rw [Q3.out]; have := HKL.out; have := Q2.out; omega)
        rw [Q3.out] at hcall
        refine hcall.mono ?_
        clear hcall
        rintro e w7 ⟨t, rfl, ht, b1⟩
        have B7 := Lib.hid (B6.out.trans (b1.mono B6.out.size))
        clear B6 b1 c0 c1 c2 c3 s1
        cases t with
        | false =>
          clear ht
          go_wp2_with fail
          refine (shown_ _ (HT.out.later B7.out (Nat.le_refl _))).mono ?_
          rintro e w8 ⟨rfl, b1⟩
          have B8 := Lib.hid (B7.out.trans (b1.mono B7.out.size))
          clear b1
          go_wp2
          go_ret
          exact ⟨rfl, B8.out⟩
        | true =>
          have hle := HQ1.out (ht.1 rfl)
          rw [Q3.out] at hle
          have f1 : decide ((L2.length : Int) ≤ ((q : Nat) : Int)) = true := decide_eq_true (by omega)
          have f2 : (L2.length : Int) ≤ ((q : Nat) : Int) := by omega
          clear ht
          have HLE := Lib.hid hle; clear hle
          go_wp2_with fail
          refine (shown_ _ (HT.out.later B7.out (Nat.le_refl _))).mono ?_
          rintro e w8 ⟨rfl, b1⟩
          have B8 := Lib.hid (B7.out.trans (b1.mono B7.out.size))
          clear b1
          go_wp2
          go_ret
          exact ⟨rfl, B8.out⟩
end Go.Proofs.YtlpfecjkkgccgaaDoor
