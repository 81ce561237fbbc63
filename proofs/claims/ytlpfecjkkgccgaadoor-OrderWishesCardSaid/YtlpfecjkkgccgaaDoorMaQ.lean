/- Texts of this claim, laid together: OrGo, OrLeast, OrBack, OrCycle. -/
import Derived.Test.YtlpfecjkkgccgaaDoorMaA
import Derived.Test.YtlpfecjkkgccgaaDoorMaJ
import Derived.Test.YtlpfecjkkgccgaaDoorMaP
/- The program's goOn: a beginning, continued by the least works. -/
namespace Go.Proofs.YtlpfecjkkgccgaaDoor
open Go Go.RowKit Go.Shelf
attribute [local go_sem] Oper.semAt_some

theorem wys_nil {L : Nat → Nat} {S n : Nat} : wysL L S n = [] ↔ fstF (freeB L S) n = n := by
  rw [fstF_none]
  unfold wysL
  rw [List.filter_eq_nil_iff]
  constructor
  · intro h k hk
    simpa using h k (List.mem_range.2 hk)
  · intro h k hk
    rw [h k (List.mem_range.1 hk)]; simp
theorem wys_head {L : Nat → Nat} {S x : Nat} : ∀ {n}, [x] <+: wysL L S n → x = fstF (freeB L S) n ∧ x < n ∧ freeB L S x = true
  | 0, h => by simp [wysL] at h
  | n + 1, h => by
    rw [wysL_succ] at h
    by_cases h0 : wysL L S n = []
    · rw [h0, List.nil_append] at h
      have hn := wys_nil.1 h0
      by_cases hf : freeB L S n = true
      · rw [if_pos hf] at h
        have : x = n := by simpa using h
        subst this
        refine ⟨?_, by omega, hf⟩
        rw [fstF, if_neg (by omega), if_pos hf]
      · rw [if_neg hf] at h; simp at h
    · obtain ⟨y, l, hl⟩ := List.exists_cons_of_ne_nil h0
      have hx : [x] <+: wysL L S n := by
        rw [hl] at h ⊢
        rw [List.cons_append] at h
        have := List.cons_prefix_cons.1 h
        rw [this.1]
        exact List.cons_prefix_cons.2 ⟨rfl, List.nil_prefix⟩
      obtain ⟨h1, h2, h3⟩ := wys_head hx
      refine ⟨?_, by omega, h3⟩
      rw [fstF, if_pos (by omega)]; exact h1
theorem Kp.below {C : Nat → Prop} {A W W' : World} (h : Kp C A W) (hb : Below A.heap.size W W') : Kp C A W' :=
  ⟨hb.os.trans h.os, hb.tape.trans h.tape, hb.output.trans h.output, Nat.le_trans h.size hb.size, fun i hi hc => (hb.block i hi).trans (h.same i hi hc)⟩
/-- How many a slice holds. -/
def slLen (v : Value) : Nat := match v with | .slice _ k _ => k | _ => 0
/-- What a slice holds fits in it. -/
def capOk (v : Value) : Prop := match v with | .slice _ n c => n ≤ c | _ => True
theorem capOk_own {w : World} {base e : Nat} {v : Value} {n : Nat} {xs : List Value} (h : w.ownsRow base e 1 v n xs) : capOk v := by
  rcases h.2 with ⟨rfl, _⟩ | ⟨g, cap, cur, rfl, _, _, hnc, _⟩
  · exact Nat.le_refl 0
  · exact hnc
/-- A list, an error. -/
def ListPostC (l : List Int) (x : Int) (w : World) (e : Ending) (w' : World) : Prop := ∃ v, e = .returned (.tuple #[v, .int .i64 x]) ∧ RdV w' v l ∧ capOk v ∧ Below w.heap.size w w'
/-- What goOn returns. -/
def GoPost (r : Option (List Int)) (w : World) (e : Ending) (w' : World) : Prop :=
  (∀ l, r = some l → ∃ v, e = .returned (.tuple #[v, .bool true]) ∧ RdV w' v l ∧ capOk v) ∧ (r = none → e = .returned (.tuple #[.slice none 0 0, .bool false])) ∧ Below w.heap.size w w'
/-- The set of a list that begins. -/
def setL (l : List Int) : Nat := l.foldl (fun S x => S ||| 2 ^ x.toNat) 0
theorem setL_take {l : List Int} {k : Nat} (hk : k < l.length) : setL (l.take (k + 1)) = setL (l.take k) ||| 2 ^ (l[k]).toNat := by
  unfold setL
  rw [List.take_succ_eq_append_getElem hk, List.foldl_append]; rfl

set_option maxRecDepth 100000 in
set_option maxHeartbeats 4000000 in
theorem goOn_ (R c n lc : Nat) (L : Nat → Nat) (B : Option Addr) (l : List Int) (w : World) (hn : n ≤ 400) (hLn : ∀ b, b < n → ∀ a, (L b).testBit a = true → a < n) (hR : SBo w R n L)
    (hl : RdI w B l) (hll : l.length ≤ n) (hin : ∀ x ∈ l, 0 ≤ x ∧ x < n) :
    Calls Tryd.prog 30 #[.slice (some ⟨R, 0, none⟩) n c, .slice B l.length lc] w (GoPost ((goO n L (n - l.length) (setL l)).map (l ++ ·)) w) := by
  have hRl := hR.lt
  have hln := hl.1
  have hD0 : SBo (w.alloc (.cells #[.int .u64 0, .int .u64 0, .int .u64 0, .int .u64 0, .int .u64 0, .int .u64 0, .int .u64 0] 68)) w.heap.size 1 (fun _ => setL []) := by
    unfold SBo WBo
    rw [heap_alloc_new, z7_one]; rfl
  have hb0 : Below w.heap.size w (w.alloc (.cells #[.int .u64 0, .int .u64 0, .int .u64 0, .int .u64 0, .int .u64 0, .int .u64 0, .int .u64 0] 68)) := (Below.refl _ _).alloc (Nat.le_refl _) _
  have HL := Lib.hid hl; have HR := Lib.hid hR; have HD0 := Lib.hid hD0; have HB0 := Lib.hid hb0; have HLN := Lib.hid hLn; have HIN := Lib.hid hin; clear hl hR hD0 hb0 hLn hin
  refine (callsIn_wide (n := 3)).1 ?_
  refine callsIn_of_wp_marks Tryd.func30 rfl trivial ?_ rfl
  simp only [Tryd.ntmps30, List.size_toArray, List.length_cons, List.length_nil, Nat.reduceAdd, Nat.reduceSub, Array.replicate_succ, Array.replicate_zero, List.push_toArray, List.append_toArray, List.nil_append, List.cons_append]
  refine wpIn_wide.2 ?_
  go_wp2
  go_loopw [14] (fun iv wr => ∃ k : Nat, iv = .int .i64 k ∧ k ≤ l.length ∧ SBo wr w.heap.size 1 (fun _ => setL (l.take k)) ∧ Below w.heap.size w wr) (fun iv _ => l.length - (intOf iv).toNat)
  case atStart => exact ⟨0, rfl, Nat.zero_le _, HD0.out, HB0.out⟩
  case round =>
    obtain ⟨k, rfl, hk, hD, hbw⟩ := hrel
    by_cases hlt : k < l.length
    · obtain ⟨bl, ol, rfl, hbl, l1⟩ := (HL.out.later hbw (Nat.le_refl _)).at_ hlt
      have hx := HIN.out l[k] (List.getElem_mem hlt)
      have hst := setL_take hlt
      have x1 : (0 : Int) ≤ (k : Int) := by omega
      have x2 : (k : Int) < (l.length : Int) := by omega
      obtain ⟨i, hi⟩ := Int.eq_ofNat_of_zero_le hx.1
      rw [hi] at l1 hx hst
      have hi2 : i < n := by omega
      rw [Int.toNat_natCast] at hst
      have HD := Lib.hid hD; have HBW := Lib.hid hbw; have HST := Lib.hid hst; have HI := Lib.hid hi; clear hD hbw hst hi
      go_wp2_with fail
      refine (owPut_ w.heap.size 0 (setL (l.take k)) i _ (by omega) (by have := SBo.at_ HD.out (b := 0) (by omega); simpa using this)).mono ?_
      rintro e w3 ⟨⟨v, rfl⟩, hw3⟩
      have hD3 : SBo w3 w.heap.size 1 (fun _ => setL (l.take (k + 1))) := by
        rw [hw3, HST.out]
        have h1 := SBo.put (b := 0) HD.out (show i < 448 by omega)
        rw [Nat.zero_mul] at h1
        refine WBo.congr h1 fun x y hx _ => ?_
        unfold updS
        rw [if_pos (by omega)]
      have hb3 : Below w.heap.size w w3 := by rw [hw3]; exact (HBW.out.setCell (Nat.le_refl _) _).drew
      clear hw3
      have HD3 := Lib.hid hD3; have HB3 := Lib.hid hb3; clear hD3 hb3
      go_wp2
      go_roundw
      case rel => exact ⟨k + 1, by go_num, by omega, HD3.out, HB3.out⟩
      case measure => simp [intOf]; omega
    · obtain rfl : k = l.length := by omega
      rw [List.take_length] at hD
      obtain ⟨w2, rfl⟩ : ∃ w2 : World, w2 = wr := ⟨_, rfl⟩
      have HD := Lib.hid hD; have HBW := Lib.hid hbw; clear hD hbw
      have hw2z := HBW.out.size
      go_wp2_with (at_builtin; go_must (refine wpList_appI_Tryd rfl _ _ rfl (w.heap.size + 1) (.slice none 0 0) [] rfl (World.ownsRow_nil _ _ _ _) B lc l rfl (HL.out.later HBW.out (Nat.le_refl _)) (by simp; omega) (by have := HD.out.lt; omega) ?_); intro v3 w3 hown hgrow hat)
      rw [List.nil_append] at hown
      have hb3 : Below w.heap.size w w3 := HBW.out.grown hgrow (by omega) (fun k hk => by simp [Value.ownBlock] at hk)
      have hD3 : SBo w3 w.heap.size 1 (fun _ => setL l) := (hgrow.block _ HD.out.lt (by simp [Value.ownBlock])).trans HD.out
      clear hgrow hat
      have HOWN := Lib.hid hown; have HB3 := Lib.hid hb3; have HD3 := Lib.hid hD3; clear hown hb3 hD3
      refine wp_loop (fun a' wr => ∃ (f S : Nat) (acc : List Int) (v x10 x11 x23 x24 x25 x26 x27 x28 x29 x30 x31 x32 x33 x34 x35 x36 x37 x38 x39 x40 : Value) (ds : List Deferred), a' = { tmps := #[.slice (some ⟨R, 0, none⟩) n c, .slice B l.length lc, undef, undef, .slice none 0 0, .bool false, .pointer (some ⟨w.heap.size, 0, none⟩), undef, u8, v, x10, x11, .slice B l.length lc, .int .i64 (l.length : Int), .int .i64 (l.length : Int), .bool false, u16, u17, u18, u19, u20, .slice B l.length lc, v3, x23, x24, x25, x26, x27, x28, x29, x30, x31, x32, x33, x34, x35, x36, x37, x38, x39, x40], defers := ds } ∧ acc.length + f = n ∧ (goO n L (n - l.length) (setL l)).map (l ++ ·) = (goO n L f S).map (acc ++ ·) ∧
        SBo wr w.heap.size 1 (fun _ => S) ∧ wr.ownsRow (w.heap.size + 1) 3 1 v acc.length (ints acc) ∧ Marks (w.heap.size + 1) wr ds ∧ Below w.heap.size w wr) (fun a' _ => n - slLen (a'.tmps.getD 9 undef)) ?start ?round
      case start => exact ⟨n - l.length, setL l, l, v3, _, _, _, _, _, _, _, _, _, _, _, _, _, _, _, _, _, _, _, _, [], rfl, by omega, rfl, HD3.out, HOWN.out, trivial, HB3.out⟩
      case round =>
        clear HD HBW HOWN HB3 HD3 HD0 HB0
        rintro a' wr ⟨f, S, acc, v, x10, x11, x23, x24, x25, x26, x27, x28, x29, x30, x31, x32, x33, x34, x35, x36, x37, x38, x39, x40, ds, rfl, hfn, hgo, hD, hown, hM, hbw⟩
        obtain ⟨VA, VC, rfl⟩ := own_slice1 hown
        have hwz := hbw.size
        by_cases hlt : acc.length < n
        · have z1 : (acc.length : Int) < (n : Int) := by omega
          have HGO := Lib.hid hgo; have HD := Lib.hid hD; have HOWN := Lib.hid hown; have HM := Lib.hid hM; have HBW := Lib.hid hbw; clear hgo hD hown hM hbw
          go_wp2_with fail
          refine (ways_ _ _ _ _ _).mono ?_
          rintro e w4 ⟨rfl, rfl⟩
          go_wp2_with fail
          obtain ⟨w4, hw4⟩ : ∃ w4, w4 = ((wr.alloc (.cells #[.int .i64 (-1)] 3)).alloc (.cells #[.slice (some ⟨R, 0, none⟩) n c] 52)).alloc (.cells #[.pointer (some ⟨w.heap.size, 0, none⟩)] 74) := ⟨_, rfl⟩
          have hs4 : wr.heap.size + 3 ≤ w4.heap.size := by rw [hw4]; simp
          have hN4 : w4.heap[wr.heap.size]? = some (.cells #[.int .i64 (-1)] 3 (0, 0)) := by
            rw [hw4, Below.heap_alloc _ _ _ (by simp; omega), Below.heap_alloc _ _ _ (by simp)]; exact heap_alloc_new _ _
          have h14 : w4.heap[wr.heap.size + 1]? = some (.cells #[.slice (some ⟨R, 0, none⟩) n c] 52 (0, 0)) := by
            rw [hw4, Below.heap_alloc _ _ _ (by simp)]; exact heap_alloc2_new _ _ _
          have h24 : w4.heap[wr.heap.size + 1 + 1]? = some (.cells #[.pointer (some ⟨w.heap.size, 0, none⟩)] 74 (0, 0)) := by
            rw [hw4]
            have := heap_alloc_new ((wr.alloc (.cells #[.int .i64 (-1)] 3)).alloc (.cells #[.slice (some ⟨R, 0, none⟩) n c] 52)) (.cells #[.pointer (some ⟨w.heap.size, 0, none⟩)] 74)
            rwa [World.size_alloc, World.size_alloc] at this
          have hb4 : Below wr.heap.size wr w4 := by rw [hw4]; exact (((Below.refl _ _).alloc (Nat.le_refl _) _).alloc (by simp) _).alloc (by simp; omega) _
          rw [← hw4]
          clear hw4
          have hDl := HD.out.lt
          have hR4 : SBo w4 R n L := (hb4.block R (by omega)).trans ((HBW.out.block R hRl).trans HR.out)
          have hD4 : SetAt w4 w.heap.size 0 S := by
            have := (SBo.at_ ((hb4.block _ hDl).trans HD.out : SBo w4 w.heap.size 1 (fun _ => S)) (b := 0) (by omega))
            simpa using this
          have hseq := ways1_ (wr.heap.size + 1) (wr.heap.size + 1 + 1) R c w.heap.size 0 n S L w4 (fun i => i = wr.heap.size) hn HLN.out h14 h24 hR4 hD4 (fun i h => by subst h; omega)
          have hkp0 := Kp.refl (fun i => i = wr.heap.size) w4
          -- what is left when the inner loop is over
          have hafter : ∀ W (z : Int), Kp (fun i => i = wr.heap.size) w4 W → W.heap[wr.heap.size]? = some (.cells #[.int .i64 z] 3 (0, 0)) → W.heap[w4.heap.size]? = some (.deferred (some [])) → w4.heap.size < W.heap.size →
              SBo W w.heap.size 1 (fun _ => S) ∧ W.ownsRow (w.heap.size + 1) 3 1 (.slice VA acc.length VC) acc.length (ints acc) ∧ Marks (w.heap.size + 1) W ({ target := .collected w4.heap.size, args := #[] } :: ds) ∧ Below w.heap.size w W ∧ W.cell? ⟨wr.heap.size, 0, none⟩ = some (.int .i64 z) ∧ wr.heap.size < W.heap.size := fun W z hk hz hd hlt4 => by
            have hsame : ∀ i, i < wr.heap.size → W.heap[i]? = wr.heap[i]? := fun i hi => (hk.same i (by omega) (by omega)).trans (hb4.block i hi)
            have hbW : Below wr.heap.size wr W := ⟨hk.os.trans hb4.os, hk.tape.trans hb4.tape, hk.output.trans hb4.output, by omega, hsame⟩
            refine ⟨(hsame _ hDl).trans HD.out, own_below3 HOWN.out hbW, HM.out.more (by omega) (by omega) (fun i hi _ _ => hsame i hi) hd, HBW.out.trans (hbW.mono hwz), cell_of_row W _ 0 _ _ _ hz, by omega⟩
          have HR4 := Lib.hid hR4; have HD4 := Lib.hid hD4; have HB4 := Lib.hid hb4; have HN4 := Lib.hid hN4; have H14 := Lib.hid h14; have H24 := Lib.hid h24; have HKP0 := Lib.hid hkp0; have HAFTER := Lib.hid hafter; clear hR4 hD4 hb4 hN4 h14 h24 hkp0 hafter
          refine (wpIn_wide (n := 3)).1 ?_
          refine wp_iterS (α := Nat) (gf := 55) (lb := #[.pointer (some ⟨wr.heap.size + 1, 0, none⟩), .pointer (some ⟨wr.heap.size + 1 + 1, 0, none⟩)]) rfl (enters_of Tryd.func55 (by kernel_rfl) rfl) (encs := fun b : Nat => #[.int .i64 (b : Int)]) (wysL L S n) (fun i => i = wr.heap.size) (fun i h => by omega) (fun _ => rfl) hseq
            (fun pre W => pre = [] ∧ W.heap[wr.heap.size]? = some (.cells #[.int .i64 (-1)] 3 (0, 0)) ∧ Kp (fun i => i = wr.heap.size) w4 W)
            (fun cd pre W => ∃ x : Nat, pre = [x] ∧ cd = .exit 4 ∧ W.heap[wr.heap.size]? = some (.cells #[.int .i64 (x : Int)] 3 (0, 0)) ∧ Kp (fun i => i = wr.heap.size) w4 W)
            (fun pre A' B' hi hs hb => ⟨hi.1, (hb.block _ (by omega)).trans hi.2.1, hi.2.2.below hb⟩)
            (fun cd pre A' B' hi hs hb => by
              have hb := hb.below
              obtain ⟨x, h1, h2, h3, h4⟩ := hi
              exact ⟨x, h1, h2, (hb.block _ (by omega)).trans h3, h4.below hb⟩)
            ⟨rfl, HN4.out, HKP0.out⟩
            (fun x a' W => a' = { tmps := #[.slice (some ⟨R, 0, none⟩) n c, .slice B l.length lc, undef, undef, .slice none 0 0, .bool false, .pointer (some ⟨w.heap.size, 0, none⟩), undef, u8, .slice VA acc.length VC, .pointer (some ⟨wr.heap.size, 0, none⟩), .int .i64 (x : Int), .slice B l.length lc, .int .i64 (l.length : Int), .int .i64 (l.length : Int), .bool false, u16, u17, u18, u19, u20, .slice B l.length lc, v3, .slice VA acc.length VC, .int .i64 (acc.length : Int), .slice (some ⟨R, 0, none⟩) n c, .int .i64 (n : Int), .bool true, .slice (some ⟨R, 0, none⟩) n c, .func (.func 55) #[] #[.pointer (some ⟨wr.heap.size + 1, 0, none⟩), .pointer (some ⟨wr.heap.size + 1 + 1, 0, none⟩)], .int .i64 (x : Int), x31, x32, x33, x34, x35, x36, x37, x38, x39, x40], defers := [] })
            (fun x a' W W' l r hx hl hs hsame => hx) ?assign ?body ?done ?stop
          case assign =>
            intro l' pre x W K hp hi hs hK
            dsimp only
            gi_wp2
            exact hK _ _ rfl (Below.refl _ _)
          case body =>
            rintro l' pre x a' W hp ⟨rfl, hz, hk⟩ rfl hs
            have c0 : W.cell? ⟨wr.heap.size, 0, none⟩ = some (.int .i64 (-1)) := cell_of_row W _ 0 _ _ _ hz
            have f0 : W.frozen? ⟨wr.heap.size, 0, none⟩ = false := frozen_of_row _ _ 0 _ _ hz
            have l0 := lt_of_block hz
            have hz2 : (W.setCell ⟨wr.heap.size, 0, none⟩ (.int .i64 (x : Int))).heap[wr.heap.size]? = some (.cells #[.int .i64 (x : Int)] 3 (0, 0)) := heap_setCell_same W _ 0 _ _ _ hz
            have hk2 : Kp (fun i => i = wr.heap.size) W (W.setCell ⟨wr.heap.size, 0, none⟩ (.int .i64 (x : Int))) := Kp.setCell (p := ⟨wr.heap.size, 0, none⟩) (Kp.refl (fun i => i = wr.heap.size) W) (.inl rfl) _
            have HZ := Lib.hid hz; have HK := Lib.hid hk; have HZ2 := Lib.hid hz2; have HK2 := Lib.hid hk2; clear hz hk hz2 hk2
            clear HD HOWN HM HBW HR4 HD4 HB4 HN4 H14 H24 HKP0 HAFTER hseq
            gi_wp2
            exact ⟨HK2.out, x, rfl, rfl, HZ2.out, HK.out.trans HK2.out⟩
          case done =>
            rintro W ⟨hnil, hz, hk⟩ hd hlt4
            obtain ⟨a1, a2, a3, a4, a5, a6⟩ := HAFTER.out W (-1) hk hz hd hlt4
            have hno := wys_nil.1 hnil
            have hres : (goO n L (n - l.length) (setL l)).map (l ++ ·) = none := by
              rw [HGO.out]
              obtain ⟨f', rfl⟩ : ∃ f', f = f' + 1 := ⟨f - 1, by omega⟩
              rw [goO, if_neg (by omega)]; rfl
            have HZ := Lib.hid hz; have HK := Lib.hid hk; have A1 := Lib.hid a1; have A2 := Lib.hid a2; have A3 := Lib.hid a3; have A4 := Lib.hid a4; have HNO := Lib.hid hno; have HRES := Lib.hid hres; clear hz hk a1 a2 a3 a4 hno hres
            clear HR4 HD4 HB4 HN4 H14 H24 HKP0 HAFTER hseq HD HOWN HM HBW
            go_wp2
            refine leaves_marks (B := w.heap.size + 1) A3.out fun w' hs => ⟨_, by simp [results, Tryd.results30]; rfl, ?_⟩
            exact ⟨(fun l2 h2 => by rw [HRES.out] at h2; cases h2), fun _ => rfl, hs.below A4.out (by omega)⟩
          case stop =>
            rintro cd pre x W hp ⟨x', hpx, rfl, hz, hk⟩ hd hlt4
            obtain ⟨rfl, rfl⟩ : pre = [] ∧ x = x' := by
              have := List.append_eq_singleton_iff.1 hpx
              rcases this with ⟨h1, h2⟩ | ⟨h1, h2⟩
              · exact ⟨h1, by simpa using h2⟩
              · cases h2
            obtain ⟨a1, a2, a3, a4, a5, a6⟩ := HAFTER.out W (x : Int) hk hz hd hlt4
            obtain ⟨hx1, hx2, hx3⟩ := wys_head (by simpa using hp)
            have hres : (goO n L (n - l.length) (setL l)).map (l ++ ·) = (goO n L (f - 1) (S ||| 2 ^ x)).map ((acc ++ [(x : Int)]) ++ ·) := by
              rw [HGO.out]
              obtain ⟨f', rfl⟩ : ∃ f', f = f' + 1 := ⟨f - 1, by omega⟩
              rw [goO, if_pos (by omega), ← hx1, Option.map_map]
              congr 1
              funext m
              simp
            have z2 : (0 : Int) ≤ (x : Int) := by omega
            have z3 : decide ((x : Int) < 0) = false := by simp
            have HZ := Lib.hid hz; have HK := Lib.hid hk; have A1 := Lib.hid a1; have A2 := Lib.hid a2; have A3 := Lib.hid a3; have A4 := Lib.hid a4; have HX1 := Lib.hid hx1; have HX3 := Lib.hid hx3; have HRES := Lib.hid hres; clear hz hk a1 a2 a3 a4 hx1 hx3 hres
            clear HR4 HD4 HB4 HN4 H14 H24 HKP0 HAFTER hseq HD HOWN HM HBW hp hpx
            refine wpIn_wide.2 ?_
            go_wp2_with fail
            refine (owPut_ w.heap.size 0 S x _ (by omega) (by have := SBo.at_ A1.out (b := 0) (by omega); simpa using this)).mono ?_
            rintro e w5 ⟨⟨vv, rfl⟩, hw5⟩
            have hD5 : SBo w5 w.heap.size 1 (fun _ => S ||| 2 ^ x) := by
              rw [hw5]
              have h1 := SBo.put (b := 0) A1.out (show x < 448 by omega)
              rw [Nat.zero_mul] at h1
              refine WBo.congr h1 fun y z hy _ => ?_
              unfold updS
              rw [if_pos (by omega)]
            have hsame : ∀ i, i ≠ w.heap.size → w5.heap[i]? = W.heap[i]? := fun i hi => by rw [hw5]; exact heap_setCell_other W _ i _ hi
            have hown5 : w5.ownsRow (w.heap.size + 1) 3 1 (.slice VA acc.length VC) acc.length (ints acc) := by
              rw [hw5]; exact (ownsRow_setCell_below A2.out (by show w.heap.size < w.heap.size + 1; omega) _).drew
            have hb5 : Below w.heap.size w w5 := by rw [hw5]; exact (A4.out.setCell (Nat.le_refl _) _).drew
            have hM5 : Marks (w.heap.size + 1) w5 ({ target := .collected w4.heap.size, args := #[] } :: ds) := A3.out.later fun i hi _ => hsame i (by omega)
            have c5 : w5.cell? ⟨wr.heap.size, 0, none⟩ = some (.int .i64 (x : Int)) := by rw [World.cell?_of_block (hsame wr.heap.size (by omega))]; exact a5
            have l5 : wr.heap.size < w5.heap.size := by rw [hw5]; simpa using a6
            clear a5 a6 hw5 hsame
            have HD5 := Lib.hid hD5; have HOWN5 := Lib.hid hown5; have HB5 := Lib.hid hb5; have HM5 := Lib.hid hM5; clear hD5 hown5 hb5 hM5
            go_wp2_with (at_builtin; go_must (refine wpList_app1_Tryd rfl _ _ rfl (w.heap.size + 1) (.slice VA acc.length VC) acc rfl (HOWN5.out.alloc _) w5.heap.size (x : Int) rfl (heap_alloc_new _ _) (by omega) (by simp; omega) ?_); intro g cap w6 hown6 hgrow hat6 hlt6)
            have hvl := HOWN5.out.lt
            have hgb : ∀ i, i < w5.heap.size → (Value.slice VA acc.length VC).ownBlock ≠ some i → w6.heap[i]? = w5.heap[i]? := fun i hi hne => (hgrow.block i (by simp; omega) (fun h => hne h.symm)).trans (Below.heap_alloc w5 _ i hi)
            have hl5 : w.heap.size < w5.heap.size := HD5.out.lt
            refine ⟨⟨f - 1, S ||| 2 ^ x, acc ++ [(x : Int)], .slice (some ⟨g, 0, none⟩) (acc.length + 1) cap, _, _, _, _, _, _, _, _, _, _, _, _, _, _, _, _, _, _, _, _, _, rfl, by simp; omega, HRES.out, (hgb _ hl5 (fun h => by have := (hvl _ h).1; omega)).trans HD5.out, hown6, HM5.out.later fun i hi hd2 => ?_, ?_⟩, ?_⟩
            · refine hgb i (Array.getElem?_eq_some_iff.1 hd2).1 fun h => ?_
              have hown7 := HOWN5.out
              rcases hown7.2 with ⟨h0, _⟩ | ⟨g2, cap2, cur, h1, h2, h3, _⟩
              · injection h0 with h0; rw [h0] at h; cases h
              · rw [h1] at h
                have : g2 = i := by simpa [Value.ownBlock] using h
                subst this
                rw [h3] at hd2; cases hd2
            · exact (HB5.out.alloc HB5.out.size _).grown hgrow (by simp; omega) (fun k hk => by have := (hvl k hk).1; omega)
            · show n - (acc.length + 1) < n - acc.length
              omega
        · obtain rfl : f = 0 := by omega
          have hres : (goO n L (n - l.length) (setL l)).map (l ++ ·) = some acc := by
            rw [hgo]; simp [goO]
          have z1 : decide ((acc.length : Int) < (n : Int)) = false := by simp; omega
          have hrd : RdI wr VA acc := ⟨by omega, own_rd hown⟩
          have hcap := capOk_own hown
          have HGO := Lib.hid hgo; have HD := Lib.hid hD; have HOWN := Lib.hid hown; have HM := Lib.hid hM; have HBW := Lib.hid hbw; have HRES := Lib.hid hres; have HRD := Lib.hid hrd; have HCAP := Lib.hid hcap; clear hgo hD hown hM hbw hres hrd hcap
          go_wp2
          refine leaves_marks (B := w.heap.size + 1) HM.out fun w' hs => ⟨_, by simp [results, Tryd.results30]; rfl, ?_⟩
          refine ⟨fun l2 h2 => ?_, (fun h2 => by rw [HRES.out] at h2; cases h2), hs.below HBW.out (by omega)⟩
          rw [HRES.out] at h2
          cases h2
          refine ⟨_, rfl, ⟨VA, VC, rfl, HRD.out.1, fun h0 => ?_⟩, HCAP.out⟩
          obtain ⟨b, off, e, hb, hc⟩ := HRD.out.2 h0
          refine ⟨b, off, e, by rw [hs.size]; exact hb, fun j hj => ?_⟩
          rw [← hc j hj]
          refine World.cell?_of_block (hs.same b (.inr ?_))
          intro hd
          have := hc j hj
          unfold World.cell? at this
          rw [hd] at this
          simp at this
end Go.Proofs.YtlpfecjkkgccgaaDoor
/- The program's Least. -/
namespace Go.Proofs.YtlpfecjkkgccgaaDoor
open Go.RowKit

/-- The least order; what is said where there is none. -/
def lstO (ws : List GW) (wl : List (Int × Int)) : Option (List Int) := goO ws.length (LO ws wl) ws.length 0
def lstX (p : Int) (ws : List GW) (wl : List (Int × Int)) : Int := if errO p ws wl = 0 then (if (lstO ws wl).isSome = true then 0 else 130) else errO p ws wl
def lstL (p : Int) (ws : List GW) (wl : List (Int × Int)) : List Int := if errO p ws wl = 0 then (lstO ws wl).getD [] else []
theorem rdI_nil (w : World) : RdI w none [] := ⟨by simp, fun h => absurd h (by simp)⟩
theorem LO_all {ws : List GW} {wl : List (Int × Int)} (b : Nat) (_ : b < ws.length) (a : Nat) (h : (LO ws wl b).testBit a = true) : a < ws.length := LO_in h
theorem opt_nil (r : Option (List Int)) : r.map (([] : List Int) ++ ·) = r := by cases r <;> simp
set_option maxRecDepth 100000 in
set_option maxHeartbeats 2000000 in
theorem oLeast_ (p : Int) (A Wa : Option Addr) (c wc : Nat) (ws : List GW) (wl : List (Int × Int)) (w : World) (ha : ShIn w p A ws) (hl : RdP w Wa wl) :
    Calls Tryd.prog 11 #[.agg #[.int .i64 p, .slice A ws.length c], .slice Wa wl.length wc] w (ListPostC (lstL p ws wl) (lstX p ws wl) w) := by
  have hb2 : Below w.heap.size w (w.alloc (.cells #[.int .i64 p, .slice A ws.length c] 24)) := (Below.refl _ _).alloc (Nat.le_refl _) _
  have Y0 := Lib.hid hb2; clear hb2
  have X0 := Lib.hid (Box1.made w p A c ws.length 24)
  have HA := Lib.hid ha; have HL := Lib.hid hl; clear ha hl
  go_enter Tryd.func11, Tryd.ntmps11
  go_wp2_with fail
  refine (before_ p A Wa c wc ws wl _ (HA.out.later Y0.out (Nat.le_refl _)) (HL.out.later Y0.out (Nat.le_refl _))).mono ?_
  rintro e w1 ⟨hz, hn, hb1⟩
  by_cases he : errO p ws wl = 0
  rotate_left
  · obtain rfl := hn he
    have hx : lstX p ws wl = errO p ws wl := by unfold lstX; rw [if_neg he]
    have hv : lstL p ws wl = [] := by unfold lstL; rw [if_neg he]
    have heb : (errO p ws wl != 0) = true := by simpa using he
    clear hz hn
    rw [← hx] at heb ⊢
    have HE := Lib.hid he; have HX := Lib.hid hx; have HV := Lib.hid hv; clear he hx hv
    generalize lstX p ws wl = E at *
    have X1 := Lib.hid (X0.out.later hb1); have Y1 := Lib.hid (Y0.out.trans (hb1.mono Y0.out.size)); clear hb1; obtain ⟨c1, c2, s1⟩ := X1.out
    go_wp2
    go_ret2
    exact ⟨_, rfl, by rw [HV.out]; exact RdV.nil _, (Nat.le_refl 0 : capOk (.slice none 0 0)), Y1.out⟩
  obtain ⟨R, rfl, hR, hRl⟩ := hz he
  have hx : lstX p ws wl = if (lstO ws wl).isSome = true then 0 else 130 := by unfold lstX; rw [if_pos he]
  have hv : lstL p ws wl = (lstO ws wl).getD [] := by unfold lstL; rw [if_pos he]
  have hn4 : ws.length ≤ 400 := by have := (okAll (errO_zero he).1).2.2.1; omega
  clear hz hn
  have HE := Lib.hid he; have HR := Lib.hid hR; have HX := Lib.hid hx; have HV := Lib.hid hv; clear he hR hx hv
  have X1 := Lib.hid (X0.out.later hb1); have Y1 := Lib.hid (Y0.out.trans (hb1.mono Y0.out.size)); clear hb1; obtain ⟨c1, c2, s1⟩ := X1.out
  go_wp2_with fail
  refine (goOn_ R ws.length ws.length 0 (LO ws wl) none [] _ hn4 LO_all HR.out (rdI_nil _) (Nat.zero_le _) (fun x hx => by cases hx)).mono ?_
  rw [opt_nil]
  show ∀ e w, GoPost (lstO ws wl) w1 e w → _
  rintro e w2 ⟨h1, h2, hb1⟩
  cases hr2 : lstO ws wl with
  | none =>
    obtain rfl := h2 hr2
    clear h1 h2
    have HR2 := Lib.hid hr2; clear hr2
    have Y2 := Lib.hid (Y1.out.trans (hb1.mono Y1.out.size)); clear hb1 c1 c2 s1
    go_wp2
    go_ret2
    refine ⟨.slice none 0 0, ?_, by rw [HV.out, HR2.out]; exact RdV.nil _, (Nat.le_refl 0 : capOk (.slice none 0 0)), Y2.out⟩
    rw [HX.out, HR2.out]; rfl
  | some l =>
    obtain ⟨v, rfl, hw⟩ := h1 l hr2
    clear h1 h2
    have HR2 := Lib.hid hr2; have HW := Lib.hid hw; clear hr2 hw
    have Y2 := Lib.hid (Y1.out.trans (hb1.mono Y1.out.size)); clear hb1 c1 c2 s1
    go_wp2
    go_ret2
    refine ⟨_, ?_, by rw [HV.out, HR2.out]; exact HW.out.1, HW.out.2, Y2.out⟩
    rw [HX.out, HR2.out]; rfl
end Go.Proofs.YtlpfecjkkgccgaaDoor
/- The program's back: a shortest way from a work back to it. -/
namespace Go.Proofs.YtlpfecjkkgccgaaDoor
open Go.RowKit

/-- A list of one number that was just laid. -/
theorem own_one {w : World} {B : Nat} {z : Int} (h : w.heap[B]? = some (.cells #[.int .i64 z] 3 (0, 0))) : w.ownsRow B 3 1 (.slice (some ⟨B, 0, none⟩) 1 1) 1 (ints [z]) :=
  ⟨rfl, .inr ⟨B, 1, #[.int .i64 z], rfl, Nat.le_refl _, h, Nat.le_refl _, by unfold maxLen; omega, rfl, rfl⟩⟩
def BackPost (n : Nat) (L : Nat → Nat) (g most : Nat) (w : World) (e : Ending) (w' : World) : Prop :=
  ((farK n L g n g ≠ 0 ∧ farK n L g n g < most) → ∃ A c, e = .returned (.slice (some A) (fromL n L g).length c) ∧ RdI w' (some A) (fromL n L g)) ∧
  (¬ (farK n L g n g ≠ 0 ∧ farK n L g n g < most) → e = .returned (.slice none 0 0)) ∧ Below w.heap.size w w'
/-- The level that is read, beside the block of distances. -/
def LevB (w : World) (v : Value) (lev : List Int) (F : Nat) : Prop := ∃ A c, v = .slice A lev.length c ∧ RdI w A lev ∧ ∀ b o, A = some ⟨b, o, none⟩ → b ≠ F
theorem idB_zero (w : World) (m : Nat) : IdB (w.alloc (.cells (madeCells #[.int .i64 0] m) 3)) w.heap.size m (fun _ => 0) := by
  unfold IdB
  rw [heap_alloc_new, idCells_zero]
theorem alloc_set (w : World) (p : Addr) (v : Value) (o : Obj) : ((w.setCell p v).alloc o).heap[w.heap.size]? = some o := by
  have := heap_alloc_new (w.setCell p v) o
  simpa using this
theorem IdB.lt {w : World} {R m : Nat} {f : Nat → Int} (h : IdB w R m f) : R < w.heap.size := lt_of_block h
theorem IdB.same {w w' : World} {R m : Nat} {f : Nat → Int} (h : IdB w R m f) (hb : w'.heap[R]? = w.heap[R]?) : IdB w' R m f := hb.trans h
theorem IdB.eqv {w : World} {R m : Nat} {f f' : Nat → Int} (h : IdB w R m f) (he : ∀ a, a < m → f a = f' a) : IdB w R m f' := by
  unfold IdB at h ⊢
  rw [h]
  congr 3
  exact List.map_congr_left fun a ha => by rw [he a (List.mem_range.1 ha)]

set_option maxRecDepth 100000 in
set_option maxHeartbeats 8000000 in
theorem oBack_ (R c n g most : Nat) (L : Nat → Nat) (w : World) (hn : n ≤ 400) (hLn : ∀ b, b < n → ∀ a, (L b).testBit a = true → a < n) (hR : SBo w R n L) (hg : g < n) (hm : most ≤ n + 1) :
    Calls Tryd.prog 33 #[.slice (some ⟨R, 0, none⟩) n c, .int .i64 (g : Int), .int .i64 (most : Int)] w (BackPost n L g most w) := by
  have hRl := hR.lt
  have hmk := run_make_row' (P := Tryd.prog) 26 3 (.int .i64 0) 8 Tryd.underlying26 infoI_Tryd rfl .i64 .i64 n (by omega) (by omega)
  have hF0 : IdB ((w.alloc (.cells (madeCells #[.int .i64 0] n) 3)).alloc (.cells #[.int .i64 (g : Int)] 3)) w.heap.size n (fun a => (farK n L g 0 a : Int)) := by
    unfold IdB
    rw [Below.heap_alloc _ _ _ (by simp)]
    exact idB_zero w n
  have hb0 : Below w.heap.size w ((w.alloc (.cells (madeCells #[.int .i64 0] n) 3)).alloc (.cells #[.int .i64 (g : Int)] 3)) := ((Below.refl _ _).alloc (Nat.le_refl _) _).alloc (by simp) _
  have hl0 : LevB ((w.alloc (.cells (madeCells #[.int .i64 0] n) 3)).alloc (.cells #[.int .i64 (g : Int)] 3)) (.slice (some ⟨w.heap.size + 1, 0, none⟩) 1 1) [(g : Int)] w.heap.size := by
    have h := own_one (z := (g : Int)) (B := w.heap.size + 1) (w := (w.alloc (.cells (madeCells #[.int .i64 0] n) 3)).alloc (.cells #[.int .i64 (g : Int)] 3)) (heap_alloc2_new _ _ _)
    exact ⟨_, _, rfl, ⟨by simp, own_rd h⟩, fun b o e => by injection e with e; injection e with e1 _ _; omega⟩
  have hlv0 := LevIs.zero (n := n) (L := L) hg
  have x0 : (0 : Int) ≤ (g : Int) := by omega
  have x1 : (g : Int) < (n : Int) := by omega
  have HR := Lib.hid hR; have HF0 := Lib.hid hF0; have HB0 := Lib.hid hb0; have HL0 := Lib.hid hl0; have HLN := Lib.hid hLn; have HLV0 := Lib.hid hlv0; clear hR hF0 hb0 hl0 hLn hlv0
  go_enter Tryd.func33, Tryd.ntmps33
  go_wp2
  clear hmk
  go_loopw [8, 9] (fun lv kv wr => ∃ (k : Nat) (lev : List Int), kv = .int .i64 ((k : Int) + 1) ∧ LevIs n L g k lev ∧ LevB wr lv lev w.heap.size ∧ IdB wr w.heap.size n (fun a => (farK n L g k a : Int)) ∧ Below w.heap.size w wr ∧ (k + 1 ≤ most ∨ k = 0)) (fun _ kv _ => most + 1 - (intOf kv).toNat)
  case atStart => exact ⟨0, _, rfl, HLV0.out, HL0.out, HF0.out, HB0.out, .inr rfl⟩
  case round =>
    obtain ⟨k, lev, rfl, hlev, ⟨LA, LC, rfl, hrd, hLF⟩, hF, hbw, hkm⟩ := hrel
    have hFl := hF.lt
    have f0 := hF.at_ hg
    obtain ⟨zz, hzz⟩ : ∃ zz : Bool, zz = decide (k + 1 < most ∧ 0 < lev.length ∧ farK n L g k g = 0) := ⟨_, rfl⟩
    go_upto_region 4 with fail
    go_cut [36] (fun tv wx => tv = .bool zz ∧ wx = wr)
    case first =>
      have hz2 := hzz
      generalize lev.length = m at *
      generalize farK n L g k g = fk at *
      have HLEV := Lib.hid hlev; have HRD := Lib.hid hrd; have HLF := Lib.hid hLF; have HF := Lib.hid hF; have HBW := Lib.hid hbw; have HZZ := Lib.hid hzz; clear hlev hrd hLF hF hbw hzz
      by_cases c1 : k + 1 < most
      · have d1 : (k : Int) + 1 < (most : Int) := by omega
        by_cases c2 : 0 < m
        · have d2 : (0 : Int) < (m : Int) := by omega
          by_cases c3 : fk = 0
          · rw [decide_eq_true ⟨c1, c2, c3⟩] at hz2
            subst c3
            subst hz2
            go_wp2
            go_meet
            exact ⟨rfl, rfl⟩
          · rw [decide_eq_false (fun h => c3 h.2.2)] at hz2
            have d3 : ((fk : Int) == 0) = false := by simpa using c3
            subst hz2
            have D3 := Lib.hid d3
            clear c3 d3
            go_wp2
            go_meet
            exact ⟨by rw [D3.out], rfl⟩
        · rw [decide_eq_false (fun h => c2 h.2.1)] at hz2
          have d2 : decide ((0 : Int) < (m : Int)) = false := by simp; omega
          subst hz2
          obtain rfl : m = 0 := by omega
          clear c2 d2
          go_wp2
          go_meet
          exact ⟨rfl, rfl⟩
      · rw [decide_eq_false (fun h => c1 h.1)] at hz2
        have d1 : decide ((k : Int) + 1 < (most : Int)) = false := by simp; omega
        subst hz2
        clear c1
        go_wp2
        go_meet
        exact ⟨rfl, rfl⟩
    case rest =>
      obtain ⟨rfl, rfl⟩ := hcut
      obtain ⟨wq, rfl⟩ : ∃ wq : World, wq = wc := ⟨_, rfl⟩
      cases hz : zz with
      | true =>
        rw [hz] at hzz
        obtain ⟨t1, t2, t3⟩ := of_decide_eq_true hzz.symm
        have hN0 : IdB wq w.heap.size n (fun a => (curF n L g k lev 0 0 a : Int)) := hF.eqv fun a _ => by rw [curF_zero]
        have hX0 := NxtIs.nil (n := n) (L := L) (g := g) (k := k) (lev := lev)
        clear hzz
        have HLEV := Lib.hid hlev; have HRD := Lib.hid hrd; have HLF := Lib.hid hLF; have HF := Lib.hid hF; have HBW := Lib.hid hbw; have HN0 := Lib.hid hN0; have HX0 := Lib.hid hX0; have T3 := Lib.hid t3; clear hlev hrd hLF hF hbw hN0 hX0 t3
        go_wp2
        clear f0
        go_loopw [41, 10] (fun iv nv wr => ∃ (i : Nat) (nl : List Int), iv = .int .i64 i ∧ i ≤ lev.length ∧ IdB wr w.heap.size n (fun a => (curF n L g k lev i 0 a : Int)) ∧ NxtIs n L g k lev i 0 nl ∧ wr.ownsRow wq.heap.size 3 1 nv nl.length (ints nl) ∧ Kp (fun i => i = w.heap.size) wq wr) (fun iv _ _ => lev.length - (intOf iv).toNat)
        case atStart => exact ⟨0, [], rfl, Nat.zero_le _, HN0.out, HX0.out, World.ownsRow_nil _ _ _ _, Kp.refl _ _⟩
        case round =>
          obtain ⟨i, nl, rfl, hi, hF, hX, hown, hkp⟩ := hrel
          by_cases hlt : i < lev.length
          · obtain ⟨b, hb, hbn⟩ := HLEV.out.1 lev[i] (List.getElem_mem hlt)
            have hbD : lev.getD i 0 = (b : Int) := by rw [List.getD_eq_getElem?_getD, List.getElem?_eq_getElem hlt]; exact hb
            obtain ⟨bl, ol, rfl, hbl, l1⟩ := HRD.out.at_ hlt
            have hne := HLF.out bl ol rfl
            have l2 : wr.cell? ⟨bl, ol + i, none⟩ = some (.int .i64 (b : Int)) := by
              rw [World.cell?_of_block (hkp.same bl hbl hne), l1, hb]
            have y1 : (0 : Int) ≤ (i : Int) := by omega
            have y2 : (i : Int) < (lev.length : Int) := by omega
            have hlvl := HRD.out.1
            have hkz := hkp.size
            have hbl2 : bl < wr.heap.size := by omega
            clear l1
            obtain ⟨wi, rfl⟩ : ∃ wi : World, wi = wr := ⟨_, rfl⟩
            have HB := Lib.hid hb; have HBD := Lib.hid hbD; have HF := Lib.hid hF; have HX := Lib.hid hX; have HOWN := Lib.hid hown; have HKP := Lib.hid hkp; clear hb hbD hF hX hown hkp
            go_wp2
            clear l2
            go_loopw [47, 10] (fun av nv wr => ∃ (a : Nat) (nl : List Int), av = .int .i64 a ∧ a ≤ n ∧ IdB wr w.heap.size n (fun x => (curF n L g k lev i a x : Int)) ∧ NxtIs n L g k lev i a nl ∧ wr.ownsRow wq.heap.size 3 1 nv nl.length (ints nl) ∧ Kp (fun i => i = w.heap.size) wq wr) (fun av _ _ => n - (intOf av).toNat)
            case atStart => exact ⟨0, nl, rfl, Nat.zero_le _, HF.out, HX.out, HOWN.out, HKP.out⟩
            case round =>
              clear HF HX HOWN HKP
              obtain ⟨a, nl, rfl, ha, hF, hX, hown, hkp⟩ := hrel
              by_cases hlt2 : a < n
              · have f0 := hF.at_ hlt2
                have f1 := hF.free a
                have hFl2 := hF.lt
                have z1 : (0 : Int) ≤ (a : Int) := by omega
                have z2 : (a : Int) < (n : Int) := by omega
                have z3 : (0 : Int) ≤ (b : Int) := by omega
                have z4 : (b : Int) < (n : Int) := by omega
                have hRw : wr.heap[R]? = w.heap[R]? := (hkp.same R (by have := HBW.out.size; omega) (by omega)).trans (HBW.out.block R hRl)
                have hSA : SetAt wr R (b * 7) (L b) := (SBo.at_ HR.out hbn).kept hRw
                have hnlen := hX.len
                by_cases hc : curF n L g k lev i a a = 0
                · rw [hc] at f0
                  cases hd : (L b).testBit a with
                  | false =>
                    have hsm := curF_same (n := n) (L := L) (g := g) (k := k) (lev := lev) (i := i) (a := a) (.inr (by rw [HBD.out]; exact hd))
                    have hF2 : IdB wr w.heap.size n (fun x => (curF n L g k lev i (a + 1) x : Int)) := hF.eqv fun x _ => by rw [hsm x]
                    have hX2 : NxtIs n L g k lev i (a + 1) nl := hX.congr fun x _ => (hsm x).symm
                    have HF := Lib.hid hF; have HX := Lib.hid hX; have HOWN := Lib.hid hown; have HKP := Lib.hid hkp; have HRW := Lib.hid hRw; have HC := Lib.hid hc; have HSM := Lib.hid hsm; have HF2 := Lib.hid hF2; have HX2 := Lib.hid hX2; have HD := Lib.hid hd; clear hF hX hown hkp hRw hc hsm hF2 hX2 hd
                    go_wp2_with fail
                    refine (owHas_ R (b * 7) (L b) a _ (by omega) hSA).mono ?_
                    rw [HD.out]
                    rintro e w3 ⟨rfl, rfl⟩
                    clear hSA f0 f1
                    go_wp2
                    go_roundw
                    case rel => exact ⟨a + 1, nl, by go_num, by omega, HF2.out, HX2.out, HOWN.out, HKP.out⟩
                    case measure => simp [intOf]; omega
                  | true =>
                    have hdd : (L (lev.getD i 0).toNat).testBit a = true := by rw [HBD.out]; exact hd
                    have hnw := curF_new (n := n) (L := L) (g := g) (k := k) (lev := lev) (i := i) (a := a) hc hdd
                    have hX2 := hX.add hlt2 hc hdd
                    have hF2 : IdB (wr.setCell ⟨w.heap.size, a, none⟩ (.int .i64 ((k : Int) + 1))) w.heap.size n (fun x => (curF n L g k lev i (a + 1) x : Int)) := (hF.put a _).eqv fun x _ => by
                      unfold updF
                      rw [hnw x]
                      by_cases e : x = a
                      · rw [if_pos e, if_pos e]; push_cast; rfl
                      · rw [if_neg e, if_neg e]
                    have hk2 : Kp (fun i => i = w.heap.size) wq (wr.setCell ⟨w.heap.size, a, none⟩ (.int .i64 ((k : Int) + 1))) := Kp.setCell (p := ⟨w.heap.size, a, none⟩) hkp (.inl rfl) _
                    have hbz := HBW.out.size
                    have hown2 : (wr.setCell ⟨w.heap.size, a, none⟩ (.int .i64 ((k : Int) + 1))).ownsRow wq.heap.size 3 1 u10 nl.length (ints nl) := ownsRow_setCell_below hown hFl _
                    have hkz := hkp.size
                    have HF := Lib.hid hF; have HX := Lib.hid hX; have HOWN := Lib.hid hown; have HKP := Lib.hid hkp; have HRW := Lib.hid hRw; have HC := Lib.hid hc; have HNW := Lib.hid hnw; have HF2 := Lib.hid hF2; have HX2 := Lib.hid hX2; have HD := Lib.hid hd; have HDD := Lib.hid hdd; have HK2 := Lib.hid hk2; have HOWN2 := Lib.hid hown2; clear hF hX hown hkp hRw hc hnw hF2 hX2 hd hdd hk2 hown2
                    go_wp2_with fail
                    refine (owHas_ R (b * 7) (L b) a _ (by omega) hSA).mono ?_
                    rw [HD.out]
                    rintro e w3 ⟨rfl, rfl⟩
                    clear hSA
                    go_wp2_with (at_builtin; go_must (refine wpList_app1_Tryd rfl _ _ rfl wq.heap.size u10 nl rfl (HOWN2.out.alloc _) wr.heap.size (a : Int) rfl (alloc_set _ _ _ _) (by omega) (by simp; omega) ?_); intro gg cap w6 hown6 hgrow hat6 hlt6)
                    have hvl := HOWN2.out.lt
                    have hk6 : Kp (fun i => i = w.heap.size) wq w6 := by
                      refine ⟨hgrow.os.trans HK2.out.os, hgrow.tape.trans HK2.out.tape, hgrow.output.trans HK2.out.output, by have := hgrow.size; simp at this; omega, fun j hj hc => ?_⟩
                      rw [hgrow.block j (by simp; omega) (fun h => by have := (hvl j h.symm).1; omega), Below.heap_alloc _ _ j (by simp; omega)]
                      exact HK2.out.same j hj hc
                    have hF6 : IdB w6 w.heap.size n (fun x => (curF n L g k lev i (a + 1) x : Int)) := by
                      refine (hgrow.block _ (by simp; omega) (fun h => by have := (hvl _ h.symm).1; omega)).trans ((Below.heap_alloc _ _ _ (by simp; omega)).trans HF2.out)
                    have HK6 := Lib.hid hk6; have HF6 := Lib.hid hF6; have HOWN6 := Lib.hid hown6; have HGROW := Lib.hid hgrow; have HAT6 := Lib.hid hat6; clear hk6 hF6 hown6 hgrow hat6
                    clear f0 f1
                    go_roundw
                    case rel => exact ⟨a + 1, nl ++ [(a : Int)], by go_num, by omega, HF6.out, HX2.out, HOWN6.out, HK6.out⟩
                    case measure => simp [intOf]; omega
                · have hsm := curF_same (n := n) (L := L) (g := g) (k := k) (lev := lev) (i := i) (a := a) (.inl hc)
                  have hF2 : IdB wr w.heap.size n (fun x => (curF n L g k lev i (a + 1) x : Int)) := hF.eqv fun x _ => by rw [hsm x]
                  have hX2 : NxtIs n L g k lev i (a + 1) nl := hX.congr fun x _ => (hsm x).symm
                  have hc2 : ((curF n L g k lev i a a : Int) == 0) = false := by simpa using hc
                  generalize curF n L g k lev i a a = ca at *
                  have hc3 : ¬ ca = 0 := hc
                  have HF := Lib.hid hF; have HX := Lib.hid hX; have HOWN := Lib.hid hown; have HKP := Lib.hid hkp; have HRW := Lib.hid hRw; have HSM := Lib.hid hsm; have HF2 := Lib.hid hF2; have HX2 := Lib.hid hX2; have HC := Lib.hid hc; have HC2 := Lib.hid hc2; clear hF hX hown hkp hRw hsm hF2 hX2 hc hc2
                  clear hSA
                  go_wp2
                  go_roundw
                  case rel => exact ⟨a + 1, nl, by go_num, by omega, HF2.out, HX2.out, HOWN.out, HKP.out⟩
                  case measure => simp [intOf]; omega
              · obtain rfl : a = n := by omega
                have hF2 : IdB wr w.heap.size a (fun x => (curF a L g k lev (i + 1) 0 x : Int)) := hF.eqv fun x hx => by rw [curF_end hlt hx]
                have hX2 : NxtIs a L g k lev (i + 1) 0 nl := hX.congr fun x hx => curF_end hlt hx
                have HF := Lib.hid hF; have HX := Lib.hid hX; have HOWN := Lib.hid hown; have HKP := Lib.hid hkp; have HF2 := Lib.hid hF2; have HX2 := Lib.hid hX2; clear hF hX hown hkp hF2 hX2
                go_wp2
                go_roundw
                case rel => exact ⟨i + 1, nl, by go_num, by omega, HF2.out, HX2.out, HOWN.out, HKP.out⟩
                case measure => simp [intOf]; omega
          · obtain rfl : i = lev.length := by omega
            have hl2 := hX.level hg HLEV.out T3.out
            have hF2 : IdB wr w.heap.size n (fun x => (farK n L g (k + 1) x : Int)) := hF.eqv fun x hx => by rw [curF_round hg HLEV.out T3.out hx]
            obtain ⟨VA, VC, hv⟩ := own_slice1 hown
            have hLB : LevB wr u10 nl w.heap.size := by
              rw [hv] at hown ⊢
              refine ⟨VA, VC, rfl, ⟨by have := hX.len; omega, own_rd hown⟩, fun b o e => ?_⟩
              have := (hown.lt b (by rw [e]; rfl)).1
              omega
            have hb2 : Below w.heap.size w wr := ⟨hkp.os.trans HBW.out.os, hkp.tape.trans HBW.out.tape, hkp.output.trans HBW.out.output, Nat.le_trans HBW.out.size hkp.size, fun j hj => (hkp.same j (by have := HBW.out.size; omega) (by omega)).trans (HBW.out.block j hj)⟩
            have q1 : IntKind.i64.wrap ((k : Int) + 1 + 1) = (k : Int) + 1 + 1 := IntWalk.i64_in _ (by omega)
            have HF := Lib.hid hF; have HX := Lib.hid hX; have HOWN := Lib.hid hown; have HKP := Lib.hid hkp; have HL2 := Lib.hid hl2; have HF2 := Lib.hid hF2; have HLB := Lib.hid hLB; have HB2 := Lib.hid hb2; have HV := Lib.hid hv; clear hF hX hown hkp hl2 hF2 hLB hb2 hv
            go_wp2
            go_roundw
            case rel => exact ⟨k + 1, nl, by push_cast; rfl, HL2.out, HLB.out, HF2.out, HB2.out, .inl (by omega)⟩
            case measure => simp [intOf]; omega
      | false =>
        rw [hz] at hzz
        have hstop := of_decide_eq_false hzz.symm
        clear hzz
        have hs : most ≤ k + 1 ∨ (lev = [] ∧ k ≠ 0) ∨ farK n L g k g ≠ 0 := by
          by_cases c1 : k + 1 < most
          · by_cases c2 : 0 < lev.length
            · right; right; intro h; exact hstop ⟨c1, c2, h⟩
            · right; left
              have e : lev = [] := List.eq_nil_of_length_eq_zero (by omega)
              refine ⟨e, fun hk0 => ?_⟩
              subst hk0
              have := (hlev.2 g).2 ⟨hg, .inl ⟨rfl, rfl⟩⟩
              rw [e] at this; cases this
          · left; omega
        obtain ⟨d1, d2⟩ := back_done hg hs hlev hkm
        clear hs hstop
        by_cases h0 : farK n L g k g = 0
        · have d3 := d2 h0
          rw [h0] at f0
          have HLEV := Lib.hid hlev; have HRD := Lib.hid hrd; have HLF := Lib.hid hLF; have HF := Lib.hid hF; have HBW := Lib.hid hbw; have D1 := Lib.hid d1; have D2 := Lib.hid d2; have D3 := Lib.hid d3; have H0 := Lib.hid h0; clear hlev hrd hLF hF hbw d1 d2 d3 h0
          go_wp2
          go_ret
          exact ⟨fun h => absurd h D3.out, fun _ => rfl, HBW.out⟩
        · obtain ⟨d3, d4⟩ := d1 h0
          obtain ⟨d, hd⟩ : ∃ d, farK n L g k g = d + 1 := ⟨farK n L g k g - 1, by omega⟩
          have hdk : d + 1 ≤ k := by have := farK_le (n := n) (L := L) (g := g) k g; omega
          have hdn : d + 1 ≤ n := by have := farK_le (n := n) (L := L) (g := g) n g; omega
          have hfr : fromL n L g = (g : Int) :: bkP n L g (farK n L g n) d g := by unfold fromL; rw [if_neg (by omega), d3, hd]; rfl
          have hcond : farK n L g n g ≠ 0 ∧ farK n L g n g < most := ⟨by omega, by omega⟩
          have hpt : ∀ x v, v ≠ 0 → v ≤ d + 1 → (farK n L g k x = v ↔ farK n L g n x = v) := fun x v h1 h2 => farK_iff h1 (by omega) (by omega)
          rw [hd] at f0
          have hd2 : ((d : Int) + 1 == 0) = false := by simp; omega
          obtain ⟨wz, rfl⟩ : ∃ wz : World, wz = wq := ⟨_, rfl⟩
          have hwz := hbw.size
          have hF2 : IdB (wz.alloc (.cells #[.int .i64 (g : Int)] 3)) w.heap.size n (fun a => (farK n L g k a : Int)) := hF.same (Below.heap_alloc _ _ _ hFl)
          have hown0 := own_one (z := (g : Int)) (B := wz.heap.size) (w := wz.alloc (.cells #[.int .i64 (g : Int)] 3)) (heap_alloc_new _ _)
          have hb2 : Below wz.heap.size wz (wz.alloc (.cells #[.int .i64 (g : Int)] 3)) := (Below.refl _ _).alloc (Nat.le_refl _) _
          have HLEV := Lib.hid hlev; have HRD := Lib.hid hrd; have HLF := Lib.hid hLF; have HF := Lib.hid hF; have HBW := Lib.hid hbw; have D1 := Lib.hid d1; have D2 := Lib.hid d2; have D3 := Lib.hid d3; have H0 := Lib.hid h0; have HFR := Lib.hid hfr; have HCOND := Lib.hid hcond; have HPT := Lib.hid hpt; have HF2 := Lib.hid hF2; have HOWN0 := Lib.hid hown0; have HB2 := Lib.hid hb2; have HD := Lib.hid hd; clear hlev hrd hLF hF hbw d1 d2 d3 h0 hfr hcond hpt hF2 hown0 hb2 hd
          go_wp2
          clear f0 hd2
          go_loopw [14, 15] (fun ov av wr => ∃ (e t : Nat) (acc : List Int), av = .int .i64 t ∧ t < n ∧ acc.length + e = d + 1 ∧ fromL n L g = acc ++ bkP n L g (farK n L g n) e t ∧ wr.ownsRow wz.heap.size 3 1 ov acc.length (ints acc) ∧ Below wz.heap.size wz wr) (fun ov _ _ => d + 1 - slLen ov)
          case atStart => exact ⟨d, g, [(g : Int)], rfl, hg, by simp; omega, HFR.out, HOWN0.out, HB2.out⟩
          case round =>
            obtain ⟨e, t, acc, rfl, ht, hlen, hfa, hown, hb3⟩ := hrel
            obtain ⟨VA, VC, rfl⟩ := own_slice1 hown
            have hFw : IdB wr w.heap.size n (fun a => (farK n L g k a : Int)) := HF.out.same (hb3.block _ HF.out.lt)
            have f0 := hFw.at_ hg
            simp only [HD.out] at f0
            have hFwl := hFw.lt
            cases e with
            | zero =>
              have hle : acc.length = d + 1 := by omega
              have hfa2 : fromL n L g = acc := by rw [hfa]; simp [bkP]
              have z1 : decide ((acc.length : Int) < (d : Int) + 1) = false := by simp; omega
              obtain ⟨ga, hga⟩ : ∃ ga, VA = some ga := by
                obtain ⟨g2, cap2, hv2, _⟩ := hown.form (by omega)
                injection hv2 with hv2
                exact ⟨_, hv2⟩
              subst hga
              have hrd2 : RdI wr (some ga) acc := ⟨by omega, own_rd hown⟩
              have hbw2 := HBW.out.trans (hb3.mono hwz)
              have HLEN := Lib.hid hlen; have HFA := Lib.hid hfa; have HOWN := Lib.hid hown; have HB3 := Lib.hid hb3; have HFW := Lib.hid hFw; have HLE := Lib.hid hle; have HFA2 := Lib.hid hfa2; have HRD2 := Lib.hid hrd2; have HBW2 := Lib.hid hbw2; clear hlen hfa hown hb3 hFw hle hfa2 hrd2 hbw2
              go_wp2
              go_ret
              refine ⟨fun _ => ⟨ga, VC, ?_, ?_⟩, fun h => absurd HCOND.out h, HBW2.out⟩
              · rw [HFA2.out]; rfl
              · rw [HFA2.out]; exact HRD2.out
            | succ e =>
              have z1 : (acc.length : Int) < (d : Int) + 1 := by omega
              have q1 : IntKind.i64.wrap ((d : Int) + 1 - (acc.length : Int)) = (e : Int) + 1 := by
                rw [show (d : Int) + 1 - (acc.length : Int) = (e : Int) + 1 by omega]; exact IntWalk.i64_in _ (by omega)
              have hbk : bkP n L g (farK n L g n) (e + 1) t = (hopN n L g (farK n L g n) (e + 1) t : Int) :: bkP n L g (farK n L g n) e (hopN n L g (farK n L g n) (e + 1) t) := rfl
              have hf2 : fromL n L g = (acc ++ [(hopN n L g (farK n L g n) (e + 1) t : Int)]) ++ bkP n L g (farK n L g n) e (hopN n L g (farK n L g n) (e + 1) t) := by
                rw [hfa, hbk]; simp
              obtain ⟨w5, rfl⟩ : ∃ w5 : World, w5 = wr := ⟨_, rfl⟩
              have hb3z := hb3.size
              -- the end of the round, when the next work is known
              have hfin : ∀ h', h' = hopN n L g (farK n L g n) (e + 1) t → h' < n → ∀ W, Below w5.heap.size w5 W → ∀ gg cap w6, w6.ownsRow wz.heap.size 3 1 (.slice (some ⟨gg, 0, none⟩) (acc.length + 1) cap) (acc ++ [(h' : Int)]).length (ints (acc ++ [(h' : Int)])) → (W.alloc (.cells #[.int .i64 (h' : Int)] 3)).grownBy w6 (Value.slice VA acc.length VC).ownBlock →
                  ∃ (e2 t2 : Nat) (acc2 : List Int), Value.int .i64 (h' : Int) = .int .i64 (t2 : Int) ∧ t2 < n ∧ acc2.length + e2 = d + 1 ∧ fromL n L g = acc2 ++ bkP n L g (farK n L g n) e2 t2 ∧ w6.ownsRow wz.heap.size 3 1 (.slice (some ⟨gg, 0, none⟩) (acc.length + 1) cap) acc2.length (ints acc2) ∧ Below wz.heap.size wz w6 := fun h' hh hlt W hbW gg cap w6 ho hg6 => by
                subst hh
                refine ⟨e, _, _, rfl, hlt, by simp; omega, hf2, ho, ?_⟩
                exact ((hb3.trans (hbW.mono hb3z)).alloc (by have := hbW.size; omega) _).grown hg6 (by have := hbW.size; simp; omega) (fun k hk => (hown.lt k hk).1)
              have HLEN := Lib.hid hlen; have HFA := Lib.hid hfa; have HOWN := Lib.hid hown; have HB3 := Lib.hid hb3; have HFW := Lib.hid hFw; have HBK := Lib.hid hbk; have HF2 := Lib.hid hf2; have HFIN := Lib.hid hfin; clear hlen hfa hown hb3 hFw hbk hf2 hfin
              go_wp2
              clear f0
              go_loopw [94, 15] (fun iv av wr => ∃ j : Nat, iv = .int .i64 j ∧ j ≤ n ∧ av = .int .i64 t ∧ (∀ x, x < j → (decide (x ≠ g) && (decide (farK n L g n x = e + 1) && (L x).testBit t)) = false) ∧ Below w5.heap.size w5 wr) (fun iv _ _ => n - (intOf iv).toNat)
              case atStart => exact ⟨0, rfl, Nat.zero_le _, rfl, (fun x h => absurd h (by omega)), Below.refl _ _⟩
              case round =>
                obtain ⟨j, rfl, hj, rfl, hno, hbr⟩ := hrel
                have hbrz := hbr.size
                by_cases hlt : j < n
                · have hFr : IdB wr w.heap.size n (fun a => (farK n L g k a : Int)) := HFW.out.same (hbr.block _ hFwl)
                  have f0 := hFr.at_ hg
                  have f1 := hFr.at_ hlt
                  simp only [HD.out] at f0
                  have hFrl := hFr.lt
                  have hRw : wr.heap[R]? = w.heap[R]? := (hbr.block R (by omega)).trans ((HB3.out.block R (by omega)).trans (HBW.out.block R hRl))
                  have hSR : SBo wr R n L := hRw.trans HR.out
                  have hhas : ∀ u : Bel wr.heap.size wr, Calls Tryd.prog 40 #[.pointer (some ⟨R, j * 7, none⟩), .int .i64 (t : Int)] u.wd fun e' w' => e' = .returned (.bool ((L j).testBit t)) ∧ u.wd = w' := fun u => owHas_ R (j * 7) (L j) t u.wd (by omega) ((SBo.at_ hSR hlt).kept (u.h.block R hSR.lt))
                  have y1 : (0 : Int) ≤ (j : Int) := by omega
                  have y2 : (j : Int) < (n : Int) := by omega
                  have y3 : (0 : Int) ≤ (t : Int) := by omega
                  have hpj := HPT.out j (e + 1) (by omega) (by have := HLEN.out; omega)
                  have hnext : (decide (j ≠ g) && (decide (farK n L g n j = e + 1) && (L j).testBit t)) = false → ∀ x, x < j + 1 → (decide (x ≠ g) && (decide (farK n L g n x = e + 1) && (L x).testBit t)) = false := fun h x hx => by
                    by_cases hxj : x = j
                    · subst hxj; exact h
                    · exact hno x (by omega)
                  by_cases hjg : j = g
                  · have z2 : ((j : Int) != (g : Int)) = false := by subst hjg; simp
                    have hno2 := hnext (by subst hjg; simp)
                    have HNO := Lib.hid hno; have HBR := Lib.hid hbr; have HFR := Lib.hid hFr; have HRW := Lib.hid hRw; have HSR := Lib.hid hSR; have HHAS := Lib.hid hhas; have HPJ := Lib.hid hpj; have HNEXT := Lib.hid hnext; have HNO2 := Lib.hid hno2; clear hno hbr hFr hRw hSR hhas hpj hnext hno2
                    subst hjg
                    go_wp2
                    have hbelc : ∀ (u : Bel wr.heap.size wr) b o, b < wr.heap.size → u.wd.cell? ⟨b, o, none⟩ = wr.cell? ⟨b, o, none⟩ := fun u b o h => u.h.cell (p := ⟨b, o, none⟩) h
                    have hbeln : Nonempty (Bel wr.heap.size wr) := ⟨⟨wr, Below.refl _ _⟩⟩
                    refine wp_region_bel wr.heap.size (by kernel_rfl) (by kernel_rfl) ?_
                    repeat (go_big_quiet_step ((go_at_call 40; exact quiet_bel_same (HHAS.out _))))
                    refine wpQuiet_nil ?_
                    intro wB hB0; obtain ⟨uB, hu⟩ := hB0; have hbB0 := uB.h; rw [← hu] at hbB0; clear hu uB hbelc hbeln
                    obtain ⟨hbB, hcB, hsB⟩ := bcell2 hbB0; clear hbB0
                    go_wp2
                    go_roundw
                    case rel => exact ⟨j + 1, by go_num, by omega, rfl, HNO2.out, HBR.out.trans (hbB.mono hbrz)⟩
                    case measure => simp [intOf]; omega
                  · have z2 : ((j : Int) != (g : Int)) = true := by simp; omega
                    by_cases hfj : farK n L g k j = e + 1
                    · rw [hfj] at f1
                      have hfn := hpj.1 hfj
                      cases hd : (L j).testBit t with
                      | false =>
                        have hno2 := hnext (by rw [hd]; simp)
                        rw [hd] at hhas
                        have HNO := Lib.hid hno; have HBR := Lib.hid hbr; have HFR := Lib.hid hFr; have HRW := Lib.hid hRw; have HSR := Lib.hid hSR; have HHAS := Lib.hid hhas; have HPJ := Lib.hid hpj; have HNEXT := Lib.hid hnext; have HNO2 := Lib.hid hno2; have HFJ := Lib.hid hfj; have HFN := Lib.hid hfn; clear hno hbr hFr hRw hSR hhas hpj hnext hno2 hfj hfn
                        clear hjg
                        go_wp2
                        have hbelc : ∀ (u : Bel wr.heap.size wr) b o, b < wr.heap.size → u.wd.cell? ⟨b, o, none⟩ = wr.cell? ⟨b, o, none⟩ := fun u b o h => u.h.cell (p := ⟨b, o, none⟩) h
                        have hbeln : Nonempty (Bel wr.heap.size wr) := ⟨⟨wr, Below.refl _ _⟩⟩
                        refine wp_region_bel wr.heap.size (by kernel_rfl) (by kernel_rfl) ?_
                        repeat (go_big_quiet_step ((go_at_call 40; exact quiet_bel_same (HHAS.out _))))
                        refine wpQuiet_nil ?_
                        intro wB hB0; obtain ⟨uB, hu⟩ := hB0; have hbB0 := uB.h; rw [← hu] at hbB0; clear hu uB hbelc hbeln
                        obtain ⟨hbB, hcB, hsB⟩ := bcell2 hbB0; clear hbB0
                        go_wp2
                        go_roundw
                        case rel => exact ⟨j + 1, by go_num, by omega, rfl, HNO2.out, HBR.out.trans (hbB.mono hbrz)⟩
                        case measure => simp [intOf]; omega
                      | true =>
                        have hfst : fstF (fun b => decide (b ≠ g) && (decide (farK n L g n b = e + 1) && (L b).testBit t)) n = j := fstF_eq hlt (by simp [hjg, hfn, hd]) hno
                        have hhop : j = hopN n L g (farK n L g n) (e + 1) t := by unfold hopN; rw [if_pos (by rw [hfst]; exact hlt), hfst]
                        have hhlt := hlt
                        rw [hd] at hhas
                        have HNO := Lib.hid hno; have HBR := Lib.hid hbr; have HFR := Lib.hid hFr; have HRW := Lib.hid hRw; have HSR := Lib.hid hSR; have HHAS := Lib.hid hhas; have HPJ := Lib.hid hpj; have HNEXT := Lib.hid hnext; have HFJ := Lib.hid hfj; have HFN := Lib.hid hfn; have HFST := Lib.hid hfst; have HHOP := Lib.hid hhop; have HHLT := Lib.hid hhlt; clear hno hbr hFr hRw hSR hhas hpj hnext hfj hfn hfst hhop hhlt
                        clear hjg
                        go_wp2
                        have hbelc : ∀ (u : Bel wr.heap.size wr) b o, b < wr.heap.size → u.wd.cell? ⟨b, o, none⟩ = wr.cell? ⟨b, o, none⟩ := fun u b o h => u.h.cell (p := ⟨b, o, none⟩) h
                        have hbeln : Nonempty (Bel wr.heap.size wr) := ⟨⟨wr, Below.refl _ _⟩⟩
                        refine wp_region_bel wr.heap.size (by kernel_rfl) (by kernel_rfl) ?_
                        repeat (go_big_quiet_step ((go_at_call 40; exact quiet_bel_same (HHAS.out _))))
                        refine wpQuiet_nil ?_
                        intro wB hB0; obtain ⟨uB, hu⟩ := hB0; have hbB0 := uB.h; rw [← hu] at hbB0; clear hu uB hbelc hbeln
                        obtain ⟨hbB, hcB, hsB⟩ := bcell2 hbB0; clear hbB0
                        have hbc := HBR.out.trans (hbB.mono hbrz)
                        clear hbB hcB
                        have hbcz := hbc.size
                        have HBC := Lib.hid hbc; clear hbc
                        clear f0 f1
                        go_wp2_with (at_builtin; go_must (refine wpList_app1_Tryd rfl _ _ rfl wz.heap.size (.slice VA acc.length VC) acc rfl ((own_below3 HOWN.out HBC.out).alloc _) wB.heap.size (j : Int) rfl (heap_alloc_new _ _) (by have := HLEN.out; omega) (by simp; omega) ?_); intro gg cap w6 hown6 hgrow hat6 hlt6)
                        have hr6 := HFIN.out j HHOP.out HHLT.out wB HBC.out gg cap w6 hown6 hgrow
                        clear hgrow hown6
                        have HR6 := Lib.hid hr6; clear hr6
                        go_roundw
                        case rel => exact HR6.out
                        case measure => show d + 1 - (acc.length + 1) < d + 1 - acc.length; have := HLEN.out; omega
                    · have hno2 := hnext (by
                        have : ¬ farK n L g n j = e + 1 := fun h => hfj (hpj.2 h)
                        simp [this])
                      have z3 : ((farK n L g k j : Int) == (e : Int) + 1) = false := by simp; omega
                      generalize farK n L g k j = fj at *
                      have HNO := Lib.hid hno; have HBR := Lib.hid hbr; have HFR := Lib.hid hFr; have HRW := Lib.hid hRw; have HSR := Lib.hid hSR; have HHAS := Lib.hid hhas; have HPJ := Lib.hid hpj; have HNEXT := Lib.hid hnext; have HNO2 := Lib.hid hno2; have HFJ := Lib.hid hfj; clear hno hbr hFr hRw hSR hhas hpj hnext hno2 hfj
                      clear hjg
                      go_wp2
                      have hbelc : ∀ (u : Bel wr.heap.size wr) b o, b < wr.heap.size → u.wd.cell? ⟨b, o, none⟩ = wr.cell? ⟨b, o, none⟩ := fun u b o h => u.h.cell (p := ⟨b, o, none⟩) h
                      have hbeln : Nonempty (Bel wr.heap.size wr) := ⟨⟨wr, Below.refl _ _⟩⟩
                      refine wp_region_bel wr.heap.size (by kernel_rfl) (by kernel_rfl) ?_
                      repeat (go_big_quiet_step ((go_at_call 40; exact quiet_bel_same (HHAS.out _))))
                      refine wpQuiet_nil ?_
                      intro wB hB0; obtain ⟨uB, hu⟩ := hB0; have hbB0 := uB.h; rw [← hu] at hbB0; clear hu uB hbelc hbeln
                      obtain ⟨hbB, hcB, hsB⟩ := bcell2 hbB0; clear hbB0
                      go_wp2
                      go_roundw
                      case rel => exact ⟨j + 1, by go_num, by omega, rfl, HNO2.out, HBR.out.trans (hbB.mono hbrz)⟩
                      case measure => simp [intOf]; omega
                · obtain rfl : j = n := by omega
                  have hfst : fstF (fun b => decide (b ≠ g) && (decide (farK j L g j b = e + 1) && (L b).testBit t)) j = j := (fstF_none _ j).2 hno
                  have hhop : t = hopN j L g (farK j L g j) (e + 1) t := by unfold hopN; rw [if_neg (by rw [hfst]; omega)]
                  have hbc := hbr
                  have hbcz := hbc.size
                  have hhlt := ht
                  have HNO := Lib.hid hno; have HBR := Lib.hid hbr; have HFST := Lib.hid hfst; have HHOP := Lib.hid hhop; have HHLT := Lib.hid hhlt; have HBC := Lib.hid hbc; clear hno hbr hfst hhop hhlt hbc
                  go_wp2_with (at_builtin; go_must (refine wpList_app1_Tryd rfl _ _ rfl wz.heap.size (.slice VA acc.length VC) acc rfl ((own_below3 HOWN.out HBC.out).alloc _) wr.heap.size (t : Int) rfl (heap_alloc_new _ _) (by have := HLEN.out; omega) (by simp; omega) ?_); intro gg cap w6 hown6 hgrow hat6 hlt6)
                  have hr6 := HFIN.out t HHOP.out HHLT.out wr HBC.out gg cap w6 hown6 hgrow
                  clear hgrow hown6
                  have HR6 := Lib.hid hr6; clear hr6
                  go_roundw
                  case rel => exact HR6.out
                  case measure => show d + 1 - (acc.length + 1) < d + 1 - acc.length; have := HLEN.out; omega
end Go.Proofs.YtlpfecjkkgccgaaDoor
/- The program's Cycle. -/
namespace Go.Proofs.YtlpfecjkkgccgaaDoor
open Go.RowKit

def cycO (ws : List GW) (wl : List (Int × Int)) : List Int := cycL ws.length (LO ws wl) ws.length
def cycX (p : Int) (ws : List GW) (wl : List (Int × Int)) : Int := if errO p ws wl = 0 then (if (lstO ws wl).isSome = true then 4 else 0) else errO p ws wl
def cycV (p : Int) (ws : List GW) (wl : List (Int × Int)) : List Int := if errO p ws wl = 0 then (if (lstO ws wl).isSome = true then [] else cycO ws wl) else []
/-- Fewer works than this are looked for. -/
def mstC (n : Nat) (l : List Int) : Nat := if l = [] then n + 1 else l.length
theorem cycL_len {n : Nat} {L : Nat → Nat} : ∀ k, k ≤ n → (cycL n L k).length ≤ n
  | 0, _ => Nat.zero_le _
  | k + 1, hk => by
    have ih := cycL_len (n := n) (L := L) k (by omega)
    have h1 := fromL_len (L := L) (show k < n by omega)
    have h2 := farK_le (n := n) (L := L) (g := k) n k
    rw [cycL]
    split
    · omega
    · exact ih
theorem mst_le {n : Nat} {L : Nat → Nat} {k : Nat} (hk : k ≤ n) : mstC n (cycL n L k) ≤ n + 1 := by
  have := cycL_len (L := L) k hk
  unfold mstC
  split <;> omega
theorem cycL_next {n : Nat} {L : Nat → Nat} {k : Nat} (hk : k < n) :
    ((farK n L k n k ≠ 0 ∧ farK n L k n k < mstC n (cycL n L k)) → cycL n L (k + 1) = fromL n L k ∧ fromL n L k ≠ []) ∧ (¬ (farK n L k n k ≠ 0 ∧ farK n L k n k < mstC n (cycL n L k)) → cycL n L (k + 1) = cycL n L k) := by
  have h1 := fromL_len (L := L) hk
  have h2 := fromL_ne (L := L) hk
  have h3 := farK_le (n := n) (L := L) (g := k) n k
  refine ⟨fun ⟨a, b⟩ => ?_, fun h => ?_⟩
  · have hne := h2.2 a
    refine ⟨?_, hne⟩
    rw [cycL, if_pos]
    refine ⟨hne, ?_⟩
    unfold mstC at b
    split at b
    · left; assumption
    · right; omega
  · rw [cycL, if_neg]
    rintro ⟨a, b⟩
    refine h ⟨h2.1 a, ?_⟩
    unfold mstC
    rcases b with b | b
    · rw [if_pos b]; omega
    · split <;> omega
theorem RdV.same {w w' : World} {v : Value} {xs : List Int} (h : RdV w v xs) (hb : Below w.heap.size w w') : RdV w' v xs := h.later hb (Nat.le_refl _)
set_option maxRecDepth 100000 in
set_option maxHeartbeats 4000000 in
theorem oCycle_ (p : Int) (A Wa : Option Addr) (c wc : Nat) (ws : List GW) (wl : List (Int × Int)) (w : World) (ha : ShIn w p A ws) (hl : RdP w Wa wl) :
    Calls Tryd.prog 13 #[.agg #[.int .i64 p, .slice A ws.length c], .slice Wa wl.length wc] w (ListPost (cycV p ws wl) (cycX p ws wl) w) := by
  have hb2 : Below w.heap.size w (w.alloc (.cells #[.int .i64 p, .slice A ws.length c] 24)) := (Below.refl _ _).alloc (Nat.le_refl _) _
  have Y0 := Lib.hid hb2; clear hb2
  have X0 := Lib.hid (Box1.made w p A c ws.length 24)
  have HA := Lib.hid ha; have HL := Lib.hid hl; clear ha hl
  go_enter Tryd.func13, Tryd.ntmps13
  go_wp2_with fail
  refine (before_ p A Wa c wc ws wl _ (HA.out.later Y0.out (Nat.le_refl _)) (HL.out.later Y0.out (Nat.le_refl _))).mono ?_
  rintro e w1 ⟨hz, hn, hb1⟩
  by_cases he : errO p ws wl = 0
  rotate_left
  · obtain rfl := hn he
    have hx : cycX p ws wl = errO p ws wl := by unfold cycX; rw [if_neg he]
    have hv : cycV p ws wl = [] := by unfold cycV; rw [if_neg he]
    have heb : (errO p ws wl != 0) = true := by simpa using he
    clear hz hn
    rw [← hx] at heb ⊢
    have HE := Lib.hid he; have HX := Lib.hid hx; have HV := Lib.hid hv; clear he hx hv
    generalize cycX p ws wl = E at *
    have X1 := Lib.hid (X0.out.later hb1); have Y1 := Lib.hid (Y0.out.trans (hb1.mono Y0.out.size)); clear hb1; obtain ⟨c1, c2, s1⟩ := X1.out
    go_wp2
    go_ret2
    exact ⟨_, rfl, by rw [HV.out]; exact RdV.nil _, Y1.out⟩
  obtain ⟨R, rfl, hR, hRl⟩ := hz he
  have hx : cycX p ws wl = if (lstO ws wl).isSome = true then 4 else 0 := by unfold cycX; rw [if_pos he]
  have hv : cycV p ws wl = if (lstO ws wl).isSome = true then [] else cycO ws wl := by unfold cycV; rw [if_pos he]
  have hn4 : ws.length ≤ 400 := by have := (okAll (errO_zero he).1).2.2.1; omega
  clear hz hn
  have HE := Lib.hid he; have HR := Lib.hid hR; have HX := Lib.hid hx; have HV := Lib.hid hv; clear he hR hx hv
  have X1 := Lib.hid (X0.out.later hb1); have Y1 := Lib.hid (Y0.out.trans (hb1.mono Y0.out.size)); clear hb1; obtain ⟨c1, c2, s1⟩ := X1.out
  go_wp2_with fail
  refine (goOn_ R ws.length ws.length 0 (LO ws wl) none [] _ hn4 LO_all HR.out (rdI_nil _) (Nat.zero_le _) (fun x hx => by cases hx)).mono ?_
  rw [opt_nil]
  show ∀ e w, GoPost (lstO ws wl) w1 e w → _
  rintro e w2 ⟨h1, h2, hb1⟩
  cases hr2 : lstO ws wl with
  | some l =>
    obtain ⟨v, rfl, hw⟩ := h1 l hr2
    clear h1 h2
    have HR2 := Lib.hid hr2; have HW := Lib.hid hw; clear hr2 hw
    have Y2 := Lib.hid (Y1.out.trans (hb1.mono Y1.out.size)); clear hb1 c1 c2 s1
    go_wp2
    go_ret2
    refine ⟨_, ?_, by rw [HV.out, HR2.out]; exact RdV.nil _, Y2.out⟩
    rw [HX.out, HR2.out]; rfl
  | none =>
    obtain rfl := h2 hr2
    clear h1 h2
    have hR2 : SBo w2 R ws.length (LO ws wl) := (hb1.block R HR.out.lt).trans HR.out
    have hcz : cycX p ws wl = 0 := by rw [HX.out, hr2]; rfl
    have hcv : cycV p ws wl = cycO ws wl := by rw [HV.out, hr2]; rfl
    have q1 : IntKind.i64.wrap ((ws.length : Int) + 1) = (ws.length : Int) + 1 := IntWalk.i64_in _ (by omega)
    have HR2 := Lib.hid hr2; have HR2 := Lib.hid hR2; have HCZ := Lib.hid hcz; have HCV := Lib.hid hcv; clear hr2 hR2 hcz hcv
    have Y2 := Lib.hid (Y1.out.trans (hb1.mono Y1.out.size)); clear hb1 c1 c2 s1
    go_wp2
    clear q1
    go_loopw [10, 11, 34] (fun bv mv iv wr => ∃ a : Nat, iv = .int .i64 a ∧ a ≤ ws.length ∧ RdV wr bv (cycL ws.length (LO ws wl) a) ∧ mv = .int .i64 (mstC ws.length (cycL ws.length (LO ws wl) a) : Int) ∧ Below w2.heap.size w2 wr) (fun _ _ iv _ => ws.length - (intOf iv).toNat)
    case atStart => exact ⟨0, rfl, Nat.zero_le _, RdV.nil _, (by unfold mstC cycL; rw [if_pos rfl]; push_cast; rfl), Below.refl _ _⟩
    case round =>
      obtain ⟨a, rfl, ha, hv, rfl, hbw⟩ := hrel
      by_cases hlt : a < ws.length
      · have x1 : (0 : Int) ≤ (a : Int) := by omega
        have x2 : (a : Int) < (ws.length : Int) := by omega
        have hml := mst_le (n := ws.length) (L := LO ws wl) ha
        obtain ⟨hn1, hn2⟩ := cycL_next (L := LO ws wl) hlt
        have hRw : SBo wr R ws.length (LO ws wl) := (hbw.block R HR2.out.lt).trans HR2.out
        have HV := Lib.hid hv; have HBW := Lib.hid hbw; have HN1 := Lib.hid hn1; have HN2 := Lib.hid hn2; have HRW := Lib.hid hRw; clear hv hbw hn1 hn2 hRw
        go_wp2_with fail
        refine (oBack_ R ws.length ws.length a (mstC ws.length (cycL ws.length (LO ws wl) a)) (LO ws wl) _ hn4 LO_all HRW.out hlt hml).mono ?_
        rintro e w3 ⟨hy, hn, hb1⟩
        have hbw3 := HBW.out.trans (hb1.mono HBW.out.size)
        by_cases hc : farK ws.length (LO ws wl) a ws.length a ≠ 0 ∧ farK ws.length (LO ws wl) a ws.length a < mstC ws.length (cycL ws.length (LO ws wl) a)
        · obtain ⟨B, d, rfl, hrd⟩ := hy hc
          obtain ⟨g1, g2⟩ := HN1.out hc
          have hm2 : mstC ws.length (cycL ws.length (LO ws wl) (a + 1)) = (fromL ws.length (LO ws wl) a).length := by rw [g1]; unfold mstC; rw [if_neg g2]
          have hv2 : RdV w3 (.slice (some B) (fromL ws.length (LO ws wl) a).length d) (cycL ws.length (LO ws wl) (a + 1)) := by rw [g1]; exact ⟨_, _, rfl, hrd⟩
          generalize (fromL ws.length (LO ws wl) a).length = m at *
          clear hy hn hc g1 g2 hrd
          have HBW3 := Lib.hid hbw3; have HM2 := Lib.hid hm2; have HV2 := Lib.hid hv2; have HB1 := Lib.hid hb1; clear hbw3 hm2 hv2 hb1
          go_wp2
          go_roundw
          case rel => exact ⟨a + 1, by go_num, by omega, HV2.out, by rw [HM2.out], HBW3.out⟩
          case measure => simp [intOf]; omega
        · obtain rfl := hn hc
          have g1 := HN2.out hc
          have hv2 : RdV w3 u10 (cycL ws.length (LO ws wl) (a + 1)) := by rw [g1]; exact HV.out.same hb1
          clear hy hn hc
          have HBW3 := Lib.hid hbw3; have HV2 := Lib.hid hv2; have HB1 := Lib.hid hb1; have G1 := Lib.hid g1; clear hbw3 hv2 hb1 g1
          go_wp2
          go_roundw
          case rel => exact ⟨a + 1, by go_num, by omega, HV2.out, by rw [G1.out], HBW3.out⟩
          case measure => simp [intOf]; omega
      · obtain rfl : a = ws.length := by omega
        have HV := Lib.hid hv; have HBW := Lib.hid hbw; clear hv hbw
        go_wp2
        go_ret2
        refine ⟨_, ?_, by rw [HCV.out]; exact HV.out, Y2.out.trans (HBW.out.mono Y2.out.size)⟩
        rw [HCZ.out]; rfl
end Go.Proofs.YtlpfecjkkgccgaaDoor
