/- The crossings of a word. -/
import Derived.Test.YtifpkdajfdlgeaaClPure
import Derived.Test.YtifpkdajfdlgeaaOwnW2
import Derived.Test.YtifpkdajfdlgeaaTrAwake
namespace Go.Proofs.Ytifpkdajfdlgeaa
open Go.RowKit

theorem own_later1 {w w' : World} {base e size n : Nat} {v : Value} {xs : List Value} (h : w.ownsRow base e size v n xs) (hb : Below w.heap.size w w') : w'.ownsRow base e size v n xs :=
  h.kept (row := none) ⟨hb.os, hb.tape, hb.output, hb.size, fun i hi _ => hb.block i hi⟩ (by cases v.ownBlock <;> simp)
theorem rdI_nil_of_none {w : World} {ws : List Int} (h : RdI w none ws) : ws = [] := by
  rcases Nat.eq_zero_or_pos ws.length with h0 | h0
  · exact List.eq_nil_of_length_eq_zero h0
  · obtain ⟨b, off, e, _⟩ := h.2 (by omega)
    cases e
theorem run_appAllI_Try (w : World) (base : Nat) (v : Value) (xs : List Int) (hown : w.ownsRow base 3 1 v xs.length (ints xs)) (A : Option Addr) (c : Nat) (ws : List Int) (hrd : RdI w A ws)
    (hn : xs.length + ws.length ≤ 1000000) (hbase : base ≤ w.heap.size) (ty : TypeId) :
    ∃ v' w', (Builtin.append_ #[30, 30] ty #[v, .slice A ws.length c]).run Try.prog w = .ok v' w' ∧ w'.ownsRow base 3 1 v' (xs ++ ws).length (ints (xs ++ ws)) ∧ w.grownBy w' v.ownBlock ∧
      (v'.ownBlock = v.ownBlock ∨ v'.ownBlock = some w.heap.size) := by
  obtain ⟨i0, hi, hz0, hz1, hz2⟩ := info_parts info_int_Try
  cases A with
  | none =>
    obtain rfl := rdI_nil_of_none hrd
    refine ⟨v, w, ?_, by simpa using hown, World.grownBy.refl w _, .inl rfl⟩
    rcases hown.2 with ⟨rfl, _⟩ | ⟨g, cap, cur, rfl, _, _, hnc, _⟩
    · simp [Builtin.append_, run_underlying Try.underlying30, sizeOf, typeInfo, hi, Builtin.lenOf, Builtin.firstCells]
    · simp [Builtin.append_, run_underlying Try.underlying30, sizeOf, typeInfo, hi, Builtin.lenOf, Builtin.firstCells, hnc, storeCells]
  | some ad =>
    have hnews : ∀ j u, (ints ws)[j]? = some u → w.cell? (ad.add j) = some u := fun j u hu => by
      have hj : j < ws.length := by
        have := (List.getElem?_eq_some_iff.1 hu).1
        rwa [ints_length] at this
      have hu2 : u = .int .i64 (ws.getD j 0) := by
        unfold ints at hu
        rw [List.getElem?_map, List.getElem?_eq_getElem hj] at hu
        simp [List.getD_eq_getElem?_getD, hj]
        exact (Option.some.inj hu).symm
      obtain ⟨b, off, e, _, hc⟩ := hrd.2 (by omega)
      obtain rfl : ad = ⟨b, off, none⟩ := Option.some.inj e
      have h9 := hc j (by omega)
      rw [hu2, ← h9]
      by_cases h0 : j = 0
      · subst h0; simp [Addr.add]
      · simp [Addr.add, h0]
    obtain ⟨v', w', hr, h2, h3, _, h5⟩ := run_append_own_at (P := Try.prog) w base 30 ty 3 i0 _ 1 8 Try.underlying30 hi hz0 hz1 hz2 rfl (by omega) v xs.length (ints xs) hown ad ws.length c (ints ws) (show (ints ws).length = ws.length * 1 by rw [ints_length]; omega) hnews (ints_one ws)
      (by unfold maxLen; omega) (by omega) hbase
    refine ⟨v', w', hr, ?_, h3, h5⟩
    rw [List.length_append]
    simpa [ints] using h2
theorem wp_appAllI_Try {o : Oper} {a : Act} {K : Act → World → Prop} {Q : Exit → Act → World → Prop} {w : World} (s x : Operand)
    (ho : o.op = .call { callee := .builtin .append, args := #[s, x], argTypes := #[30, 30] })
    (base : Nat) (v : Value) (xs : List Int) (hs : a.eval s = v) (hown : w.ownsRow base 3 1 v xs.length (ints xs)) (A : Option Addr) (c : Nat) (ws : List Int) (hx : a.eval x = .slice A ws.length c) (hrd : RdI w A ws)
    (hn : xs.length + ws.length ≤ 1000000) (hbase : base ≤ w.heap.size)
    (h : ∀ v' w', w'.ownsRow base 3 1 v' (xs ++ ws).length (ints (xs ++ ws)) → w.grownBy w' v.ownBlock → (v'.ownBlock = v.ownBlock ∨ v'.ownBlock = some w.heap.size) → K (a.put o.dst v') w') : o.wp Try.prog a w K Q := by
  obtain ⟨v', w', hr, h2, h3, h4⟩ := run_appAllI_Try w base v xs hown A c ws hrd hn hbase o.type
  unfold Oper.wp execOp
  simp only [ho, resolve, invoke, builtin, Sem.run_bind, Sem.run_pure, Result.andThen_ok, List.map_toArray, List.map_cons, List.map_nil, hs, hx, hr]
  exact h v' w' h2 h3 h4
theorem wpList_appAllI_Try {ops : Array Oper} {rest : List Oper} {o : Oper} {a : Act} {Q : Exit → Act → World → Prop} {w : World} (hgd : o.guard = none) (s x : Operand)
    (ho : o.op = .call { callee := .builtin .append, args := #[s, x], argTypes := #[30, 30] })
    (base : Nat) (v : Value) (xs : List Int) (hs : a.eval s = v) (hown : w.ownsRow base 3 1 v xs.length (ints xs)) (A : Option Addr) (c : Nat) (ws : List Int) (hx : a.eval x = .slice A ws.length c) (hrd : RdI w A ws)
    (hn : xs.length + ws.length ≤ 1000000) (hbase : base ≤ w.heap.size)
    (h : ∀ v' w', w'.ownsRow base 3 1 v' (xs ++ ws).length (ints (xs ++ ws)) → w.grownBy w' v.ownBlock → (v'.ownBlock = v.ownBlock ∨ v'.ownBlock = some w.heap.size) → wpList Try.prog ops Q rest (a.put o.dst v') w') :
    wpList Try.prog ops Q (o :: rest) a w :=
  wpList_plain hgd fun _ hK => wp_appAllI_Try s x ho base v xs hs hown A c ws hx hrd hn hbase fun v' w' h2 h3 h4 => hK _ _ (h v' w' h2 h3 h4)
/-- The crossing of a letter, by its number. -/
def crossN (n : Int) : List Int :=
  if n = 67 then [2] else if n = 76 then [-1] else if n = 82 then [-3] else if n = 84 then [-1, -3] else if n = 99 then [-2] else if n = 108 then [1] else if n = 114 then [3] else if n = 116 then [1, 3] else []
theorem crossB_N (c : UInt8) : crossB c = crossN (c.toNat : Int) := by
  have key : ∀ k : UInt8, (c = k) = ((c.toNat : Int) = (k.toNat : Int)) := fun k => by
    apply propext
    constructor
    · intro h; rw [h]
    · intro h; exact UInt8.toNat_inj.1 (by omega)
  unfold crossB crossN
  simp only [key]
  rfl
theorem rdV_one (w : World) (x : Int) : RdV (w.alloc (.cells #[.int .i64 x] 3)) (.slice (some ⟨w.heap.size, 0, none⟩) 1 1) [x] :=
  ⟨_, 1, rfl, rdI_block (heap_alloc_new _ _) (fun j hj => by obtain rfl : j = 0 := by simpa using hj
                                                             rfl) (by simp)⟩
theorem rdV_two (w : World) (x y : Int) : RdV (w.alloc (.cells #[.int .i64 x, .int .i64 y] 3)) (.slice (some ⟨w.heap.size, 0, none⟩) 2 2) [x, y] :=
  ⟨_, 2, rfl, rdI_block (heap_alloc_new _ _) (fun j hj => by
    obtain rfl | rfl : j = 0 ∨ j = 1 := by simp at hj; omega
    all_goals rfl) (by simp)⟩
/-- A list and what became of the world. -/
def ValPost (l : List Int) (w : World) (e : Ending) (w' : World) : Prop := ∃ v, e = .returned v ∧ RdV w' v l ∧ Below w.heap.size w w'
set_option maxHeartbeats 2000000 in
theorem rcrossing_ (n : Int) (w : World) : Calls Try.prog 68 #[.int .u8 n] w (ValPost (crossN n) w) := by
  by_cases h67 : n = 67
  · subst h67
    go_enter Try.func68, Try.ntmps68
    go_wp2
    go_ret
    exact ⟨_, rfl, rdV_one _ _, (Below.refl _ _).alloc (Nat.le_refl _) _⟩
  have t67 : (n == 67) = false := by simpa using h67
  by_cases h76 : n = 76
  · subst h76
    go_enter Try.func68, Try.ntmps68
    go_wp2
    go_ret
    exact ⟨_, rfl, rdV_one _ _, (Below.refl _ _).alloc (Nat.le_refl _) _⟩
  have t76 : (n == 76) = false := by simpa using h76
  by_cases h82 : n = 82
  · subst h82
    go_enter Try.func68, Try.ntmps68
    go_wp2
    go_ret
    exact ⟨_, rfl, rdV_one _ _, (Below.refl _ _).alloc (Nat.le_refl _) _⟩
  have t82 : (n == 82) = false := by simpa using h82
  by_cases h84 : n = 84
  · subst h84
    go_enter Try.func68, Try.ntmps68
    go_wp2
    go_ret
    exact ⟨_, rfl, rdV_two _ _ _, (Below.refl _ _).alloc (Nat.le_refl _) _⟩
  have t84 : (n == 84) = false := by simpa using h84
  by_cases h99 : n = 99
  · subst h99
    go_enter Try.func68, Try.ntmps68
    go_wp2
    go_ret
    exact ⟨_, rfl, rdV_one _ _, (Below.refl _ _).alloc (Nat.le_refl _) _⟩
  have t99 : (n == 99) = false := by simpa using h99
  by_cases h108 : n = 108
  · subst h108
    go_enter Try.func68, Try.ntmps68
    go_wp2
    go_ret
    exact ⟨_, rfl, rdV_one _ _, (Below.refl _ _).alloc (Nat.le_refl _) _⟩
  have t108 : (n == 108) = false := by simpa using h108
  by_cases h114 : n = 114
  · subst h114
    go_enter Try.func68, Try.ntmps68
    go_wp2
    go_ret
    exact ⟨_, rfl, rdV_one _ _, (Below.refl _ _).alloc (Nat.le_refl _) _⟩
  have t114 : (n == 114) = false := by simpa using h114
  by_cases h116 : n = 116
  · subst h116
    go_enter Try.func68, Try.ntmps68
    go_wp2
    go_ret
    exact ⟨_, rfl, rdV_two _ _ _, (Below.refl _ _).alloc (Nat.le_refl _) _⟩
  have t116 : (n == 116) = false := by simpa using h116
  have hc : crossN n = [] := by unfold crossN; simp [*]
  rw [hc]
  clear hc h67 h76 h82 h84 h99 h108 h114 h116
  go_enter Try.func68, Try.ntmps68
  go_wp2
  go_ret
  exact ⟨_, rfl, RdV.nil _, Below.refl _ _⟩

theorem crL_succ (s : ByteArray) (k : Nat) (h : k < s.size) : (s.data.toList.take (k + 1)).flatMap crossB = (s.data.toList.take k).flatMap crossB ++ crossN (s[k].toNat : Int) := by
  rw [List.take_succ_eq_append_getElem (by simpa using h), List.flatMap_append]
  simp only [List.flatMap_cons, List.flatMap_nil, List.append_nil]
  rw [← crossB_N]; rfl
theorem crossB_len (c : UInt8) : (crossB c).length ≤ 2 := by
  unfold crossB
  repeat' split
  all_goals simp
theorem cr_len : ∀ l : List UInt8, (l.flatMap crossB).length ≤ 2 * l.length
  | [] => by simp
  | c :: l => by
    have := cr_len l
    have := crossB_len c
    simp only [List.flatMap_cons, List.length_append, List.length_cons]
    omega
/-- A list of the call's own. -/
def ValO (l : List Int) (w : World) (e : Ending) (w' : World) : Prop := ∃ v, e = .returned v ∧ w'.ownsRow w.heap.size 3 1 v l.length (ints l) ∧ Below w.heap.size w w'
def ListO (l : List Int) (x : Int) (w : World) (e : Ending) (w' : World) : Prop := ∃ v, e = .returned (.tuple #[v, .int .i64 x]) ∧ w'.ownsRow w.heap.size 3 1 v l.length (ints l) ∧ Below w.heap.size w w'
set_option maxRecDepth 100000 in
set_option maxHeartbeats 2000000 in
theorem rcrossings_ (s : ByteArray) (w : World) (hs : s.size ≤ 16) : Calls Try.prog 63 #[.string s] w (ValO (crL s) w) := by
  go_enter Try.func63, Try.ntmps63
  go_wp2
  go_loopw [3, 4] (fun v iv wr => ∃ k : Nat, iv = .int .i64 k ∧ k ≤ s.size ∧ wr.ownsRow w.heap.size 3 1 v ((s.data.toList.take k).flatMap crossB).length (ints ((s.data.toList.take k).flatMap crossB)) ∧ Below w.heap.size w wr) (fun _ iv _ => s.size - (intOf iv).toNat)
  case atStart => exact ⟨0, rfl, Nat.zero_le _, World.ownsRow_nil _ _ _ _, Below.refl _ _⟩
  case round =>
    obtain ⟨k, rfl, hk, hown, hbw⟩ := hrel
    by_cases hlt : k < s.size
    · have hl := cr_len (s.data.toList.take k)
      have hl2 : (s.data.toList.take k).length ≤ 16 := by rw [List.length_take]; omega
      have hsu := crL_succ s k hlt
      have hxl : (crossN (s[k].toNat : Int)).length ≤ 2 := by rw [← crossB_N]; exact crossB_len _
      generalize (s.data.toList.take k).flatMap crossB = X at *
      have HOWN := Lib.hid hown; have HBW := Lib.hid hbw; have HSU := Lib.hid hsu; clear hown hbw hsu
      have x1 : (0 : Int) ≤ (k : Int) := by omega
      have x2 : (k : Int) < (s.size : Int) := by omega
      go_wp2_with fail
      refine (rcrossing_ _ _).mono ?_; rintro e w1 ⟨_, rfl, ⟨A, c, rfl, hA⟩, hb1⟩
      generalize crossN (s[k].toNat : Int) = Y at *
      have hown1 := own_later1 HOWN.out hb1
      have hsz : w.heap.size ≤ w1.heap.size := Nat.le_trans HBW.out.size hb1.size
      have HOWN1 := Lib.hid hown1; have HA := Lib.hid hA; have HB1 := Lib.hid hb1; clear hown1 hA hb1
      go_wp2_with (at_builtin; refine wpList_appAllI_Try (by rfl) _ _ (by rfl) w.heap.size _ X (by rfl) HOWN1.out A c Y (by rfl) HA.out (by omega) hsz ?_; intro v' w2 hown2 hgrow _)
      have hB2 : Below w.heap.size w w2 := (HBW.out.trans (HB1.out.mono HBW.out.size)).grown hgrow (by omega) (fun j hj => (HOWN1.out.lt j hj).1)
      rw [← HSU.out] at hown2
      have HOWN2 := Lib.hid hown2; have HB2 := Lib.hid hB2; have HGROW := Lib.hid hgrow; clear hown2 hB2 hgrow
      go_wp2
      go_roundw
      case rel => exact ⟨k + 1, by go_num, by omega, HOWN2.out, HB2.out⟩
      case measure => simp [intOf]; omega
    · have hk2 : (s.data.toList.take k) = s.data.toList := List.take_of_length_le (by simp; omega)
      rw [hk2] at hown
      have HO := Lib.hid hown; clear hown
      go_wp2
      go_ret
      exact ⟨_, rfl, HO.out, hbw⟩
theorem rCrossings_ (s : ByteArray) (w : World) (hs : s.size ≤ 16) (hf : formW s = false) : Calls Try.prog 48 #[.string s] w (ListO (crL s) 0 w) := by
  have he : errWord s = 0 := by unfold errWord; rw [if_neg (by omega), if_neg (by rw [hf]; simp)]
  go_enter Try.func48, Try.ntmps48
  go_wp2_with fail
  refine (rwCheck_ s _ (by omega)).mono ?_
  rw [he]
  clear he
  rintro e w1 ⟨rfl, rfl⟩
  go_wp2_with fail
  refine (rcrossings_ s _ hs).mono ?_; rintro e w2 ⟨v, rfl, hA, hb1⟩
  have HA := Lib.hid hA; clear hA
  go_wp2
  go_ret2
  exact ⟨v, rfl, HA.out, hb1⟩
end Go.Proofs.Ytifpkdajfdlgeaa
