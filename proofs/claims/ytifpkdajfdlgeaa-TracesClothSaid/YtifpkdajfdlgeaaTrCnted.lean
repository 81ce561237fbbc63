/- Package traces: counted, Orders. -/
import Derived.Test.YtifpkdajfdlgeaaTrCount
namespace Go.Proofs.Ytifpkdajfdlgeaa
open Go.RowKit

/-- The works before work i among the first j, as bits. -/
def orK (ws : List GW) (i : Nat) : Nat → Nat
  | 0 => 0
  | j + 1 => if touchB (ws.getD j ⟨0, 0, ByteArray.empty⟩).pl (ws.getD i ⟨0, 0, ByteArray.empty⟩).pl = true then orK ws i j ||| 2 ^ j else orK ws i j
def befW (ws : List GW) (i : Nat) : Nat := orK ws i i
theorem orK_lt (ws : List GW) (i : Nat) : ∀ j, orK ws i j < 2 ^ j
  | 0 => by unfold orK; decide
  | j + 1 => by
    have := orK_lt ws i j
    have h2 : 2 ^ j < 2 ^ (j + 1) := Nat.pow_lt_pow_right (by decide) (by omega)
    unfold orK
    split
    · exact Nat.or_lt_two_pow (by omega) h2
    · omega

theorem orK_succ (ws : List GW) (i j : Nat) (hi : i < ws.length) (hj : j < ws.length) : orK ws i (j + 1) = if touchB ws[j].pl ws[i].pl = true then orK ws i j ||| 2 ^ j else orK ws i j := by
  rw [orK]
  simp [List.getD_eq_getElem?_getD, hi, hj]

theorem push_set (a : Array Obj) (o o' : Obj) : (a.push o).setIfInBounds a.size o' = a.push o' := by
  apply Array.ext
  · simp
  · intro i h1 h2
    simp only [Array.size_setIfInBounds, Array.size_push] at h1
    by_cases hi : i = a.size
    · subst hi; simp
    · rw [Array.getElem_setIfInBounds_ne (by simpa using h1) (Ne.symm hi)]
      simp [Array.getElem_push, show i < a.size by omega]
theorem run_insert_empty {P : Program} {t k e : TypeId} {kk : IntKind} (ht : P.underlying t = some (.map k e)) (hk : P.underlying k = some (.int kk)) (w : World) (s : Int) (v : Value) :
    (Instr.mapUpdate t (.map (some w.heap.size)) (.int kk s) v).run P (w.alloc (.map #[] 0)) = .ok () (w.alloc (.map #[⟨.int kk s, v, 0⟩] 1)) := by
  have h1 : (w.alloc (.map #[] 0)).heap[w.heap.size]? = some (.map #[] 0) := heap_alloc_new w _
  have hobj : (getObj w.heap.size).run P (w.alloc (.map #[] 0)) = .ok (.map #[] 0) (w.alloc (.map #[] 0)) := by simp only [getObj, Sem.run, h1]
  have hset : ∀ o : Obj, (setObj w.heap.size o).run P (w.alloc (.map #[] 0)) = .ok () (w.alloc o) := fun o => by
    simp only [setObj, Sem.run, h1]
    congr 1
    show ({ w with heap := (w.heap.push (.map #[] 0)).setIfInBounds w.heap.size o } : World) = _
    rw [push_set]; rfl
  simp [Instr.mapUpdate, run_underlying ht, hobj, run_checkKey_int hk, Instr.findKey, run_underlying hk, Instr.findNow, hset]

/-- The uint32s' cells. -/
def u32s (xs : List Nat) : List Value := xs.map fun (x : Nat) => Value.int .u32 (Int.ofNat x)
theorem u32s_one (xs : List Nat) : ∀ u ∈ u32s xs, u.oneCell' = true := by
  intro u hu; simp only [u32s, List.mem_map] at hu; obtain ⟨x, _, rfl⟩ := hu; rfl
theorem info_u32_Try : (Try.prog.info? 55).map (fun i => (i.zero, i.size, i.bytes)) = some (some (.int .u32 0), 1, 4) := by kernel_rfl
theorem wpList_app1u_Try {ops : Array Oper} {rest : List Oper} {o : Oper} {a : Act} {Q : Exit → Act → World → Prop} {w : World} (hgd : o.guard = none) (s x : Operand)
    (ho : o.op = .call { callee := .builtin .append, args := #[s, x], argTypes := #[82, 82] })
    (base : Nat) (v : Value) (xs : List Nat) (hs : a.eval s = v) (hown : w.ownsRow base 55 1 v xs.length (u32s xs)) (b : Nat) (z : Nat) (hx : a.eval x = .slice (some ⟨b, 0, none⟩) 1 1)
    (hb : w.heap[b]? = some (.cells #[.int .u32 (z : Int)] 55 (0, 0))) (hn : xs.length ≤ 1000000000) (hbase : base ≤ w.heap.size)
    (h : ∀ g cap w', w'.ownsRow base 55 1 (.slice (some ⟨g, 0, none⟩) (xs.length + 1) cap) (xs ++ [z]).length (u32s (xs ++ [z])) → w.grownBy w' v.ownBlock → (v.ownBlock = some g ∨ g = w.heap.size) → g < w'.heap.size →
      wpList Try.prog ops Q rest (a.put o.dst (.slice (some ⟨g, 0, none⟩) (xs.length + 1) cap)) w') : wpList Try.prog ops Q (o :: rest) a w := by
  obtain ⟨i0, hi, hz0, hz1, hz2⟩ := info_parts info_u32_Try
  refine wpList_append_lies w hgd s x 82 ho base 55 i0 (.int .u32 0) 1 4 Try.underlying82 hi hz0 hz1 hz2 rfl (by omega) v xs.length (u32s xs) hs hown ⟨b, 0, none⟩ 1 1 [.int .u32 (z : Int)] hx rfl
    (World.news_of_block hb) (u32s_one [z]) (by omega) (by unfold maxLen; omega) (by omega) hbase w.heap.size rfl fun g cap w' h2 h3 h4 h5 => h g cap w' ?_ h3 h4 h5
  rw [List.length_append]
  simpa [u32s] using h2

theorem grown_of_below {a w : World} {row : Option Nat} (h : Below a.heap.size a w) : a.grownBy w row := ⟨h.os, h.tape, h.output, h.size, fun i hi _ => h.block i hi⟩

theorem grown_below {a w : World} {m B : Nat} (hg : a.grownBy w (some m)) (hB : B ≤ m) (hs : B ≤ a.heap.size := by omega) : Below B a w :=
  ⟨hg.os, hg.tape, hg.output, hg.size, fun k hk => hg.block k (by omega) (by simp; omega)⟩
theorem ctr_of_Try {w : World} {base n mb : Nat} {v : Value} {bef : Nat → Nat} (h : w.ownsRow base 55 1 v n (u32s ((List.range n).map bef))) (hm : mb < base) :
    ∃ A cap b, v = .slice A n cap ∧ (0 < n → A = some ⟨b, 0, none⟩) ∧ (∀ i, i < n → w.cell? ⟨b, i, none⟩ = some (.int .u32 (bef i : Int))) ∧ b ≠ mb := by
  rcases Nat.eq_zero_or_pos n with h0 | h0
  · rcases h.2 with ⟨rfl, _⟩ | ⟨g, cap, cur, rfl, _⟩
    · exact ⟨none, 0, mb + 1, by rw [h0], fun h => absurd h (by omega), fun i hi => absurd hi (by omega), by omega⟩
    · exact ⟨_, cap, mb + 1, rfl, fun h => absurd h (by omega), fun i hi => absurd hi (by omega), by omega⟩
  · obtain ⟨g, cap, rfl, hg, _⟩ := h.form h0
    refine ⟨_, cap, g, rfl, fun _ => rfl, fun i hi => ?_, by omega⟩
    rw [h.cellAt i (by omega)]
    simp [u32s, hi]

/-- What counted returns: its error, the number, the counter. -/
def cntdErr (p : Int) (ws : List GW) : Int := if errSheet p ws ≠ 0 then errSheet p ws else if 16 < ws.length then 3 else if 1000000000 < cntN ws.length (befW ws) 0 then 5 else 0
def cntdNum (p : Int) (ws : List GW) : Int := if cntdErr p ws = 0 then cntN ws.length (befW ws) 0 else 0
def CntdPost (p : Int) (ws : List GW) (w : World) (e : Ending) (w' : World) : Prop :=
  ∃ v, e = .returned (.tuple #[v, .int .i64 (cntdNum p ws), .int .i64 (cntdErr p ws)]) ∧ Below w.heap.size w w' ∧
    (cntdErr p ws = 0 → ∃ cb b mb, v = .pointer (some ⟨cb, 0, none⟩) ∧ CtrAt w' cb b mb ws.length (befW ws) ∧ w.heap.size ≤ mb) ∧ (cntdErr p ws ≠ 0 → v = .pointer none)

set_option maxRecDepth 100000 in
set_option maxHeartbeats 2000000 in
theorem tcounted_ (ba : Nat) (p : Int) (A : Option Addr) (c : Nat) (ws : List GW) (w : World) (ha : ShIn w p A ws) (hcap : ws.length ≤ c)
    (a0 : w.cell? ⟨ba, 0, none⟩ = some (.int .i64 p)) (a1 : w.cell? ⟨ba, 1, none⟩ = some (.slice A ws.length c)) :
    Calls Try.prog 49 #[.pointer (some ⟨ba, 0, none⟩)] w (CntdPost p ws w) := by
  have HA := Lib.hid ha; clear ha
  by_cases he : errSheet p ws = 0
  · have heb : (errSheet p ws != 0) = false := by simp [he]
    have hok : OkS p ws := he
    have HOK := Lib.hid hok; clear hok
    have HE := Lib.hid he; clear he
    by_cases hl : 16 < ws.length
    · go_enter Try.func49, Try.ntmps49
      go_wp2_with (go_at_call 50; refine (sCheck_ _ _ _ _ _ HA.out.lo HA.out.hi HA.out.rd).mono ?_; rintro e w1 ⟨rfl, hb1⟩; have a1' := below_at hb1 (Nat.le_refl _) a1)
      go_ret3
      refine ⟨.pointer none, ?_, hb1, fun h => ?_, fun _ => rfl⟩
      · have h3 : cntdErr p ws = 3 := by unfold cntdErr; rw [if_neg (by rw [HE.out]; simp), if_pos hl]
        unfold cntdNum; rw [h3]; rfl
      · unfold cntdErr at h; rw [if_neg (by rw [HE.out]; simp), if_pos hl] at h; omega
    · have hins := fun W s => run_insert_empty (P := Try.prog) Try.underlying83 Try.underlying55 W s (.int .i64 1)
      have hmm := @run_makeMap Try.prog
      go_enter Try.func49, Try.ntmps49
      go_wp2_with (go_at_call 50; refine (sCheck_ _ _ _ _ _ HA.out.lo HA.out.hi HA.out.rd).mono ?_; rintro e w1 ⟨rfl, hb1⟩; have a1' := below_at hb1 (Nat.le_refl _) a1; have hbl := World.block_lt_of_cell? w1 _ a1')
      have hn16 : ws.length ≤ 16 := by omega
      have hkey : ((2 : Int) ^ ws.length - 1) % 4294967296 = ((2 ^ ws.length - 1 : Nat) : Int) := by
        have h1 : 2 ^ ws.length ≤ 2 ^ 16 := Nat.pow_le_pow_right (by decide) hn16
        have h2 : 0 < 2 ^ ws.length := Nat.two_pow_pos _
        have h3 : ((2 : Int) ^ ws.length - 1) = ((2 ^ ws.length - 1 : Nat) : Int) := by rw [Int.natCast_sub (by omega)]; simp
        rw [h3]; exact Int.emod_eq_of_lt (Int.natCast_nonneg _) (by omega)
      have HKEY := Lib.hid hkey; clear hkey
      generalize ((2 : Int) ^ ws.length % 4294967296 - 1) % 4294967296 = k33 at *
      generalize (2 : Int) ^ ws.length % 4294967296 = k32 at *
      generalize hkk : ((2 : Int) ^ ws.length - 1) % 4294967296 = key at *
      have HKK := Lib.hid hkk; clear hkk
      generalize hW2 : (w1.alloc (.map #[⟨.int .u32 key, .int .i64 1, 0⟩] 1)).alloc (.cells #[.slice none 0 0, .map (some w1.heap.size)] 85) = W2 at *
      have hm2 : W2.heap[w1.heap.size]? = some (.map #[⟨.int .u32 key, .int .i64 1, 0⟩] 1) := by rw [← hW2]; exact heap_alloc2_old _ _ _
      have hc2 : W2.heap[w1.heap.size + 1]? = some (.cells #[.slice none 0 0, .map (some w1.heap.size)] 85 (0, 0)) := by rw [← hW2]; exact heap_alloc2_new _ _ _
      have hb2 : Below w1.heap.size w1 W2 := by rw [← hW2]; exact ((Below.refl _ _).alloc (Nat.le_refl _) _).alloc (by simp) _
      have hs2 : W2.heap.size = w1.heap.size + 2 := by rw [← hW2]; simp
      have HM2 := Lib.hid hm2; have HC2 := Lib.hid hc2; have HS2 := Lib.hid hs2
      have hbw2 : Below w.heap.size w W2 := hb1.trans (hb2.mono hb1.size)
      clear hW2 hm2 hc2 hs2 hins hmm
      go_loopw [42] (fun i wr => ∃ (k : Nat) (v : Value), i = .int .i64 k ∧ k ≤ ws.length ∧ wr.heap[w1.heap.size + 1]? = some (.cells #[v, .map (some w1.heap.size)] 85 (0, 0)) ∧
          wr.ownsRow (w1.heap.size + 2) 55 1 v ((List.range k).map (befW ws)).length (u32s ((List.range k).map (befW ws))) ∧ Below (w1.heap.size + 1) W2 wr) (fun i _ => ws.length - (intOf i).toNat)
      case atStart => exact ⟨0, _, rfl, Nat.zero_le _, HC2.out, World.ownsRow_nil _ _ _ _, Below.refl _ _⟩
      case round =>
        obtain ⟨k, v, rfl, hk, hcb, hown, hbr⟩ := hrel
        obtain ⟨wq, rfl⟩ : ∃ wq : World, wq = wr := ⟨_, rfl⟩
        have HOWN := Lib.hid hown; clear hown
        have HCB := Lib.hid hcb; clear hcb
        have hbw : Below w.heap.size w wq := hbw2.trans (hbr.mono (by have := hb1.size; omega))
        have hrs : w1.heap.size + 2 ≤ wq.heap.size := by have := hbr.size; rw [HS2.out] at this; exact this
        have a1r := below_at hbw (Nat.le_refl _) a1
        by_cases hlt : k < ws.length
        · obtain ⟨b, off, rfl, hbA, h1, h2, h3⟩ := (HA.out.rd.later hbw (Nat.le_refl _)).at_ hlt
          obtain ⟨_, hp24, _, hall⟩ := HOK.out.all
          obtain ⟨_, hx1, hx2, _⟩ := hall ws[k] (List.getElem_mem hlt)
          have HALL := Lib.hid hall; clear hall
          have hkc : (k : Int) ≤ (ws.length : Int) := by omega
          have hbalt := World.block_lt_of_cell? wq _ a1r
          go_wp2
          obtain ⟨wo, hwo⟩ : ∃ wo, wo = wq.alloc (.cells #[.int .i64 ws[k].kind, .int .i64 ws[k].pl, .string ws[k].word] 40) := ⟨_, rfl⟩
          rw [← hwo]
          have hbo : Below wq.heap.size wq wo := by rw [hwo]; exact (Below.refl _ _).alloc (Nat.le_refl _) _
          have hwc : wo.heap[wq.heap.size]? = some (.cells #[.int .i64 ws[k].kind, .int .i64 ws[k].pl, .string ws[k].word] 40 (0, 0)) := by rw [hwo]; exact heap_alloc_new _ _
          have hwos : wo.heap.size = wq.heap.size + 1 := by rw [hwo]; simp
          have HWC := Lib.hid hwc; have HWOS := Lib.hid hwos
          clear hwo hwc hwos
          go_loopw [9, 54] (fun st i wx => ∃ j : Nat, i = .int .i64 j ∧ j ≤ k ∧ st = .int .u32 (orK ws k j : Nat) ∧ Below wo.heap.size wo wx) (fun _ i _ => k - (intOf i).toNat)
          case atStart => exact ⟨0, rfl, Nat.zero_le _, rfl, Below.refl _ _⟩
          case round =>
            obtain ⟨j, rfl, hj, rfl, hbx⟩ := hrel
            have hwx := hbx.size
            have hwos' := HWOS.out
            have q1 : wr.cell? ⟨wq.heap.size, 1, none⟩ = some (.int .i64 ws[k].pl) := below_at hbx (Nat.le_refl _) (by rw [cell_of_row wo wq.heap.size 1 _ _ _ HWC.out]; rfl)
            have hq1 : wq.heap.size < wr.heap.size := by omega
            clear hwos'
            by_cases hjk : j < k
            · obtain ⟨b', off', hA', hbA', g1, g2, g3⟩ := (HA.out.rd.later (hbw.trans ((hbo.trans (hbx.mono hbo.size)).mono hbw.size)) (Nat.le_refl _)).at_ (k := j) (by omega)
              injection hA' with hA'
              injection hA' with hA1 hA2
              subst hA1; subst hA2
              obtain ⟨_, hy1, hy2, _⟩ := HALL.out ws[j] (List.getElem_mem _)
              have hsucc := orK_succ ws k j (by omega) (by omega)
              have HSU := Lib.hid hsucc; clear hsucc
              have horlt := orK_lt ws k j
              have hor16 : orK ws k j < 2 ^ 16 := Nat.lt_of_lt_of_le horlt (Nat.pow_le_pow_right (by decide) (by omega))
              have hor := bit_set .u32 16 (by decide) (fun n h h' => wraps_u32 n h (by omega)) (orK ws k j) j hor16 (by omega)
              have hk16 : (2 : Int) ^ j % 4294967296 = 2 ^ j := by
                have h1 : 2 ^ j < 2 ^ 16 := Nat.pow_lt_pow_right (by decide) (by omega)
                have h2 : (2 : Int) ^ j = ((2 ^ j : Nat) : Int) := by simp
                rw [h2]; exact Int.emod_eq_of_lt (Int.natCast_nonneg _) (by omega)
              rw [← hk16] at hor
              clear hk16 hor16 horlt
              generalize hoj : orK ws k j = oj at *
              have HOJ := Lib.hid hoj; clear hoj
              have hj32 : (j : Int) < 32 := by omega
              have hj0 : (0 : Int) ≤ (j : Int) := by omega
              generalize hpa : ws[j].pl = pa at *
              generalize hpb : ws[k].pl = pb at *
              have HPA := Lib.hid hpa; clear hpa
              have HPB := Lib.hid hpb; clear hpb
              by_cases ho : pa - pb < pb - pa
              · by_cases ht : pb - pa < 2
                · have htb : touchB pa pb = true := by unfold touchB; simp; omega
                  go_wp2
                  go_roundw
                  case rel => exact ⟨j + 1, by go_num, by omega, by rw [HSU.out, if_pos htb], (hbx.alloc hbx.size _)⟩
                  case measure => simp [intOf]; omega
                · have htb : ¬ touchB pa pb = true := by unfold touchB; simp; omega
                  go_wp2
                  go_roundw
                  case rel => exact ⟨j + 1, by go_num, by omega, by rw [HSU.out, if_neg htb], (hbx.alloc hbx.size _)⟩
                  case measure => simp [intOf]; omega
              · by_cases ht : pa - pb < 2
                · have htb : touchB pa pb = true := by unfold touchB; simp; omega
                  go_wp2
                  go_roundw
                  case rel => exact ⟨j + 1, by go_num, by omega, by rw [HSU.out, if_pos htb], (hbx.alloc hbx.size _)⟩
                  case measure => simp [intOf]; omega
                · have htb : ¬ touchB pa pb = true := by unfold touchB; simp; omega
                  go_wp2
                  go_roundw
                  case rel => exact ⟨j + 1, by go_num, by omega, by rw [HSU.out, if_neg htb], (hbx.alloc hbx.size _)⟩
                  case measure => simp [intOf]; omega
            · obtain rfl : j = k := by omega
              have hbq : Below wq.heap.size wq wr := hbo.trans (hbx.mono hbo.size)
              have hgq : wq.grownBy wr none := grown_of_below hbq
              have hcr : wr.heap[w1.heap.size + 1]? = some (.cells #[v, .map (some w1.heap.size)] 85 (0, 0)) := (hbq.block _ (by omega)).trans HCB.out
              have hor := HOWN.out.kept hgq (by cases v.ownBlock <;> simp)
              have q2 : wr.cell? ⟨w1.heap.size + 1, 0, none⟩ = some v := by rw [cell_of_row wr _ 0 _ _ _ hcr]; rfl
              have q3 : w1.heap.size + 1 < wr.heap.size := lt_of_block hcr
              have HCR := Lib.hid hcr; have HOR := Lib.hid hor; have HBQ := Lib.hid hbq
              clear hcr hor hgq
              have hvN : Hid (some (w1.heap.size + 1) ≠ v.ownBlock) := fun h => by have := (HOWN.out.lt _ h.symm).1; omega
              generalize hoj : orK ws j j = oj at *
              have HOJ := Lib.hid hoj; clear hoj
              go_wp2_with (at_builtin; go_must (refine wpList_app1u_Try rfl _ _ rfl (w1.heap.size + 2) v ((List.range j).map (befW ws)) rfl (HOR.out.alloc _) wr.heap.size oj rfl (heap_alloc_new _ _) (by simp; omega) (by simp; omega) ?_); intro g cap w3 hown3 hgr3 hat3 hlt3; have q4 : w3.cell? ⟨w1.heap.size + 1, 0, none⟩ = some v := (hgr3.cell_far ⟨w1.heap.size + 1, 0, none⟩ (by simp; omega) hvN.out).trans (by go_simp); have q5 : w3.frozen? ⟨w1.heap.size + 1, 0, none⟩ = false := (hgr3.frozen_far ⟨w1.heap.size + 1, 0, none⟩ (by simp; omega) hvN.out).trans (by rw [World.frozen?_alloc_past _ _ _ (by omega)]; exact frozen_of_row _ _ 0 _ _ HCR.out))
              go_roundw
              case rel =>
                refine ⟨j + 1, _, by go_num, by omega, heap_setCell_same _ _ 0 _ _ _ ((hgr3.block _ (by simp; omega) hvN.out).trans ((Below.heap_alloc wr _ _ q3).trans HCR.out)), ?_, ?_⟩
                · refine ownsRow_setCell_below ?_ (by show w1.heap.size + 1 < w1.heap.size + 2; omega) _
                  rw [List.range_succ, List.map_append, List.map_cons, List.map_nil, show befW ws j = oj from HOJ.out]
                  simpa using hown3
                · exact (((hbr.trans (hbq.mono (by omega))).alloc (by omega) _).grown hgr3 (by simp; omega) (fun i hi => by have := (HOWN.out.lt i hi).1; omega)).setCell (Nat.le_refl _) _
              case measure => simp [intOf]; omega
        · obtain rfl : k = ws.length := by omega
          obtain ⟨A', cap, b, rfl, hA', hbc, hbm⟩ := ctr_of_Try (bef := befW ws) (mb := w1.heap.size) (by simpa using HOWN.out) (by omega)
          have hkeyN : key = ((2 ^ ws.length - 1 : Nat) : Int) := by first | exact HKEY.out | (rw [← HKK.out]; exact HKEY.out)
          have hctr : CtrAt wq (w1.heap.size + 1) b w1.heap.size ws.length (befW ws) := by
            refine ⟨⟨A', cap, HCB.out, hA'⟩, fun i hi => ⟨?_, hbc i hi⟩, ⟨_, _, (hbr.block _ (by omega)).trans HM2.out, ?_, ?_⟩, hbm⟩
            · have h1 := orK_lt ws i i
              have h2 : 2 ^ i ≤ 2 ^ 16 := Nat.pow_le_pow_right (by decide) (by omega)
              show orK ws i i < 65536
              omega
            · intro e he
              simp at he
              subst he
              refine ⟨key, rfl, ?_⟩
              have h1 := cntN_full ws.length (befW ws)
              show Value.int .i64 1 = Value.int .i64 (cntN ws.length (befW ws) key.toNat)
              rw [hkeyN, Int.toNat_natCast, h1]
            · exact ⟨⟨.int .u32 key, .int .i64 1, 0⟩, by simp, by show Value.int .u32 key = _; rw [hkeyN]⟩
          have HCTR := Lib.hid hctr; clear hctr hkeyN
          have hpw : 0 < 2 ^ ws.length := Nat.two_pow_pos _
          have HPW := Lib.hid hpw; clear hpw
          have hcb := cntN_bounds ws.length (befW ws) 0
          obtain ⟨hcb1, hcb2⟩ := hcb
          have hml := miss_le ws.length 0
          have HML := Lib.hid hml; clear hml
          have hgo : ∀ {w9 : World}, wq.grownBy w9 (some w1.heap.size) → Below w.heap.size w w9 := fun hg => hbw.trans (grown_below hg hb1.size (Nat.le_trans hb1.size (by omega)))
          by_cases hbig : 1000000000 < cntN ws.length (befW ws) 0
          · go_wp2_with (go_at_call 56; refine (tcount_ (w1.heap.size + 1) b w1.heap.size ws.length (befW ws) hn16 ws.length 0 _ HML.out HPW.out HCTR.out).mono ?_; rintro e w4 ⟨rfl, hC4, hg4⟩)
            go_ret3
            have h5 : cntdErr p ws = 5 := by unfold cntdErr; rw [if_neg (by rw [HE.out]; simp), if_neg hl, if_pos hbig]
            refine ⟨.pointer none, ?_, hgo hg4, fun h => ?_, fun _ => rfl⟩
            · unfold cntdNum; rw [h5]; rfl
            · rw [h5] at h; omega
          · go_wp2_with (go_at_call 56; refine (tcount_ (w1.heap.size + 1) b w1.heap.size ws.length (befW ws) hn16 ws.length 0 _ HML.out HPW.out HCTR.out).mono ?_; rintro e w4 ⟨rfl, hC4, hg4⟩)
            go_ret3
            have h5 : cntdErr p ws = 0 := by unfold cntdErr; rw [if_neg (by rw [HE.out]; simp), if_neg hl, if_neg (by omega)]
            refine ⟨.pointer (some ⟨w1.heap.size + 1, 0, none⟩), ?_, hgo hg4, fun _ => ⟨_, b, w1.heap.size, rfl, hC4, hb1.size⟩, fun h => absurd h5 h⟩
            unfold cntdNum; rw [h5]; rfl
  · have heb : (errSheet p ws != 0) = true := by simpa using he
    have HE := Lib.hid he; clear he
    go_enter Try.func49, Try.ntmps49
    go_wp2_with (go_at_call 50; refine (sCheck_ _ _ _ _ _ HA.out.lo HA.out.hi HA.out.rd).mono ?_; rintro e w1 ⟨rfl, hb1⟩)
    go_ret3
    have h3 : cntdErr p ws = errSheet p ws := by unfold cntdErr; rw [if_pos HE.out]
    refine ⟨.pointer none, ?_, hb1, fun h => ?_, fun _ => rfl⟩
    · unfold cntdNum; rw [h3, if_neg HE.out]; rfl
    · rw [h3] at h; exact absurd h HE.out
end Go.Proofs.Ytifpkdajfdlgeaa
