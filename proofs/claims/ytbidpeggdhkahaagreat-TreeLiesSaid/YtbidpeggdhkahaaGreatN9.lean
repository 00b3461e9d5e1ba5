/-
  N8: the document's own table: rest, Holds.
  N9: the document's own table: Holds.
-/
import Derived.Test.YtbidpeggdhkahaaGreatN7
import Derived.Test.YtbidpeggdhkahaaGreatA7
import Derived.Test.YtbidpeggdhkahaaGreatU1
import Derived.Test.YtbidpeggdhkahaaGreatW3
set_option linter.unusedSimpArgs false
set_option linter.unusedVariables false
namespace Go.Proofs.YtbidpeggdhkahaaGreat
open Go.RowKit

theorem rrank_at {t : RT} {n : Rk} {k : Nat} {i j : Int} (hk : k < t.G.names.length) (i0 : 0 ≤ i) (ij : i ≤ j) (j1 : j ≤ t.W.size) : t.rank n k i j = n k i j := by
  unfold RT.rank spanG
  rw [decide_eq_true i0, decide_eq_true ij, decide_eq_true j1, decide_eq_true (p := (k : Int) < _) (by omega)]
  simp
theorem rrestRank_at {t : RT} {p : Rk} {r c q : Nat} {x : Rul} {y : Conj} (h : PlG t.G r c q x y) {i j : Int} (i0 : 0 ≤ i) (ij : i ≤ j) (j1 : j ≤ t.W.size) : t.rrank p r c q i j = p (offG t.G r c + q) i j := by
  have hp := h.hp
  have h1 : placeB t.G.rules r c q = true := by
    unfold placeB
    simp only [Int.toNat_natCast, h.hx, h.hy, Bool.and_eq_true, decide_eq_true_eq]
    omega
  unfold RT.rrank spanG
  rw [h1, decide_eq_true i0, decide_eq_true ij, decide_eq_true j1]
  simp
theorem splitR_bad {f g : Nat → Int} {n : Nat} (h : (List.range n).any (fun d => decide (0 < f d) && decide (0 < g d)) = false) : splitR f g n = false := h
theorem range_any_succ (f : Nat → Bool) (n : Nat) : (List.range (n + 1)).any f = ((List.range n).any f || f n) := by
  rw [List.range_succ, List.any_append]; simp
theorem range_any_at {f : Nat → Bool} {n d : Nat} (hd : d < n) (h : f d = true) : (List.range n).any f = true := List.any_eq_true.2 ⟨d, List.mem_range.2 hd, h⟩
/-- What a rest's loop says before its split k. -/
def RestTo (w : World) (f : Nat → Bool) (i : Int) (n : Nat) (cnt : Value) (wr : World) : Prop := ∃ d : Nat, cnt = .int .i64 (i + d) ∧ d ≤ n ∧ (List.range d).any f = false ∧ Below w.heap.size w wr

set_option maxRecDepth 100000 in
set_option maxHeartbeats 8000000 in
theorem rrest_any {w : World} {t : RT} (A : RTAt w t) (F : t.Fits) {n p : Rk} (RN : FlatAt w t t.nb t.G.names.length n) (RP : FlatAt w t t.rb (qG t.G) p) {r c q : Nat} {x : Rul} {y : Conj} (h : PlG t.G r c q x y) {i j : Int} (i0 : 0 ≤ i) (ij : i ≤ j) (j1 : j ≤ t.W.size) :
    Calls Tryz.prog 65 #[.pointer (some ⟨t.p, 0, none⟩), .agg #[.int .i64 r, .int .i64 c, .int .i64 q], .int .i64 i, .int .i64 j] w fun e w' => e = .returned (.bool (restR t.W n p y.seq (offG t.G r c) q i j)) ∧ Below w.heap.size w w' := by
  have hW := F.W32
  have hsl := F.may.seq r x c y h.hx h.hy
  have hq := h.hp
  have hb0 : Below w.heap.size w (w.alloc (Obj.cells #[Value.int .i64 r, Value.int .i64 c, Value.int .i64 q] 57)) := below_alloc' (below_refl w) _
  have B0 := heap_alloc_new w (Obj.cells #[Value.int .i64 r, Value.int .i64 c, Value.int .i64 q] 57)
  have HA := Lib.hid (A.below hb0)
  have HN := Lib.hid (RN.below hb0)
  have HP := Lib.hid (RP.below hb0)
  obtain ⟨bx, hbx⟩ : ∃ bx, bx = w.heap.size := ⟨_, rfl⟩
  generalize hw0 : w.alloc (Obj.cells #[Value.int .i64 r, Value.int .i64 c, Value.int .i64 q] 57) = w0 at hb0 B0 HA HN HP
  have HX := Lib.hid B0
  have HB0 := Lib.hid hb0
  have HPL := Lib.hid h
  have HSY := Lib.hid (rsymbol_of HA.out F h.hx h.hy h.hp)
  have x0 : w0.cell? ⟨w.heap.size, 0, none⟩ = some (.int .i64 r) := blk_cell B0 0
  have x1 : w0.cell? ⟨w.heap.size, 1, none⟩ = some (.int .i64 c) := blk_cell B0 1
  have x2 : w0.cell? ⟨w.heap.size, 2, none⟩ = some (.int .i64 q) := blk_cell B0 2
  clear A RN RP B0 hb0 h
  cases hs : y.seq[q]? with
  | none =>
    have HSY := Lib.hid (HSY.out.mono fun e w' h => rsymPost_none h hs)
    have HV := Lib.hid (show restR t.W n p y.seq (offG t.G r c) q i j = decide (i = j) by unfold restR; rw [hs])
    clear hs hbx
    go_enter Tryz.func65, Tryz.ntmps65
    go_wp2_with fail
    try rw [hw0]
    clear hw0
    go_wp2_with (first | (go_at_call 59; refine HSY.out.mono ?_; rintro e w1 ⟨rfl, hb1⟩; have HB1 := Lib.hid (below_alloc' (below_trans HB0.out hb1) (Obj.cells #[.int .i64 0, .int .i64 0, .int .i64 0] 83)); clear hb1) | fail)
    go_ret
    exact ⟨by rw [HV.out]; exact ret_bool (by rw [Bool.eq_iff_iff, beq_iff_eq, decide_eq_true_eq]), HB1.out⟩
  | some s =>
    have HSY := Lib.hid (HSY.out.mono fun e w' h => rsymPost_some h hs)
    have hql := (List.getElem?_eq_some_iff.1 hs).1
    have HPN := Lib.hid (show PlG t.G r c (q + 1) x y from ⟨HPL.out.hx, HPL.out.hy, hql⟩)
    have hsm := symB_lt (F.may.sym r x c y q s HPL.out.hx HPL.out.hy hs) (by have := F.may.K1; omega)
    have HV := Lib.hid (show restR t.W n p y.seq (offG t.G r c) q i j = (if s.name < 0 then byteR t.W s i j && decide (0 < p (offG t.G r c + q + 1) (i + 1) j) else splitR (fun d => n s.name.toNat i (i + d)) (fun d => p (offG t.G r c + q + 1) (i + d) j) (j - i + 1).toNat) by unfold restR; rw [hs])
    have hq1000 : (q : Int) ≤ 1000 := by omega
    clear hs
    go_enter Tryz.func65, Tryz.ntmps65
    go_wp2_with fail
    try rw [hw0]
    clear hw0
    rw [← hbx] at HX x0 x1 x2 ⊢
    clear hbx
    by_cases h1 : s.name < 0
    · have d1 : decide (s.name < 0) = true := by simpa using h1
      have HV := Lib.hid (HV.out.trans (if_pos h1))
      clear h1
      go_wp2_with (first | (go_at_call 59; refine HSY.out.mono ?_; rintro e w1 ⟨rfl, hb1⟩) | fail)
      have hb2 := below_alloc' hb1 (Obj.cells #[.int .i64 s.name, .int .i64 s.lo, .int .i64 s.hi] 83)
      clear hb1 x0 x1 x2
      generalize w1.alloc (Obj.cells #[.int .i64 s.name, .int .i64 s.lo, .int .i64 s.hi] 83) = w2 at hb2 ⊢
      have HA2 := Lib.hid (HA.out.below hb2)
      have HP2 := Lib.hid (HP.out.below hb2)
      have hX2 := blk_below HX.out hb2
      have HB2 := Lib.hid (below_trans HB0.out hb2)
      have HX2 := Lib.hid hX2
      clear hb2 hX2
      obtain ⟨bb, hbb⟩ : ∃ b, b = byteR t.W s i j := ⟨_, rfl⟩
      have HBY := Lib.hid (show Calls Tryz.prog 83 #[.pointer (some ⟨t.p, 0, none⟩), .agg #[.int .i64 s.name, .int .i64 s.lo, .int .i64 s.hi], .int .i64 i, .int .i64 j] w2 fun e w' => e = .returned (.bool bb) ∧ Below w2.heap.size w2 w' by rw [hbb]; exact rbyte_any HA2.out hW s i0 j1)
      refine HBY.out.mono ?_
      rintro e w3 ⟨rfl, hb3⟩
      have HA3 := Lib.hid (HA2.out.below hb3)
      have HP3 := Lib.hid (HP2.out.below hb3)
      have hX3 := blk_below HX2.out hb3
      have x0 : w3.cell? ⟨bx, 0, none⟩ = some (.int .i64 r) := blk_cell hX3 0
      have x1 : w3.cell? ⟨bx, 1, none⟩ = some (.int .i64 c) := blk_cell hX3 1
      have x2 : w3.cell? ⟨bx, 2, none⟩ = some (.int .i64 q) := blk_cell hX3 2
      have HB3 := Lib.hid (below_trans HB2.out hb3)
      clear hb3 hX3
      cases bb with
      | false =>
        have HZ := Lib.hid (show restR t.W n p y.seq (offG t.G r c) q i j = false by rw [HV.out, ← hbb]; rfl)
        clear hbb
        go_wp2_with fail
        go_ret
        exact ⟨by rw [HZ.out]; rfl, HB3.out⟩
      | true =>
        have hij : i < j := (byteR_iff.1 hbb.symm).1
        have hRR : ∀ w5, RTAt w5 t → FlatAt w5 t t.rb (qG t.G) p → Calls Tryz.prog 31 #[.pointer (some ⟨t.p, 0, none⟩), .agg #[.int .i64 r, .int .i64 c, .int .i64 ((q : Int) + 1)], .int .i64 (i + 1), .int .i64 j] w5 fun e w' => e = .returned (.bool (decide (0 < p (offG t.G r c + q + 1) (i + 1) j))) ∧ Below w5.heap.size w5 w' := fun w5 a5 p5 => by
          have := rrestHas_any a5 F p5 r c ((q : Int) + 1) (i + 1) j
          rw [show ((q : Int) + 1) = ((q + 1 : Nat) : Int) by push_cast; rfl, rrestRank_at HPN.out (by omega) (by omega) j1] at this
          exact this
        have HRR := Lib.hid hRR
        have HZ := Lib.hid (show restR t.W n p y.seq (offG t.G r c) q i j = decide (0 < p (offG t.G r c + q + 1) (i + 1) j) by rw [HV.out, ← hbb]; rfl)
        clear hbb hRR
        go_wp2_with (first
          | (go_at_call 82; refine (on_any r c q _ (by omega) hq1000).mono ?_; rintro e w4 ⟨rfl, hb4⟩; have HB4 := Lib.hid (below_trans HB3.out hb4); have HR4 := Lib.hid (HRR.out w4 (HA3.out.below hb4) (HP3.out.below hb4)); clear hb4)
          | (go_at_call 31; refine HR4.out.mono ?_; rintro e w5 ⟨rfl, hb5⟩; have HB5 := Lib.hid (below_trans HB4.out hb5); clear hb5)
          | fail)
        go_ret
        exact ⟨by rw [HZ.out]; rfl, HB5.out⟩
    · have d1 : decide (s.name < 0) = false := by simpa using h1
      have HV := Lib.hid (HV.out.trans (if_neg h1))
      have hs0 : 0 ≤ s.name := by omega
      clear h1
      go_wp2_with (first | (go_at_call 59; refine HSY.out.mono ?_; rintro e w1 ⟨rfl, hb1⟩; have B9 := heap_alloc_new w1 (Obj.cells #[.int .i64 s.name, .int .i64 s.lo, .int .i64 s.hi] 83); have hb2 := below_alloc' hb1 (Obj.cells #[.int .i64 s.name, .int .i64 s.lo, .int .i64 s.hi] 83); have HB9 := Lib.hid B9; have Hb2 := Lib.hid hb2; clear hb1 B9 hb2) | fail)
      obtain ⟨b9, hb9⟩ : ∃ b, b = w1.heap.size := ⟨_, rfl⟩
      rw [← hb9] at HB9 ⊢
      clear hb9 x0 x1 x2
      generalize w1.alloc (Obj.cells #[.int .i64 s.name, .int .i64 s.lo, .int .i64 s.hi] 83) = w2 at HB9 Hb2 ⊢
      have HA2 := Lib.hid (HA.out.below Hb2.out)
      have HN2 := Lib.hid (HN.out.below Hb2.out)
      have HP2 := Lib.hid (HP.out.below Hb2.out)
      have HX2 := Lib.hid (blk_below HX.out Hb2.out)
      have HB2 := Lib.hid (below_trans HB0.out Hb2.out)
      obtain ⟨N, hN⟩ : ∃ N, N = (j - i + 1).toNat := ⟨_, rfl⟩
      have hNN : (N : Int) = j - i + 1 := by omega
      rw [← hN] at HV
      clear hN
      go_loopw [11] (fun cnt wr => RestTo w2 (fun d => decide (0 < n s.name.toNat i (i + d)) && decide (0 < p (offG t.G r c + q + 1) (i + d) j)) i N cnt wr) (fun cnt _ => (j + 1 - intOf cnt).toNat)
      case atStart => exact ⟨0, by simp, Nat.zero_le _, rfl, below_refl _⟩
      case round =>
        obtain ⟨d, rfl, hd, hany, hb⟩ := hrel
        have HB := Lib.hid hb
        have HAN := Lib.hid hany
        have HA3 := Lib.hid (HA2.out.below hb)
        have HN3 := Lib.hid (HN2.out.below hb)
        have HP3 := Lib.hid (HP2.out.below hb)
        have hX3 := blk_below HX2.out hb
        have hS3 := blk_below HB9.out hb
        clear hb hany
        by_cases hlt : d < N
        · have dk : decide (i + (d : Int) ≤ j) = true := decide_eq_true (by omega)
          have s0 : wr.cell? ⟨b9, 0, none⟩ = some (.int .i64 s.name) := blk_cell hS3 0
          have HX3 := Lib.hid hX3
          clear hX3 hS3
          obtain ⟨bh, hbh⟩ : ∃ b, b = decide (0 < n s.name.toNat i (i + d)) := ⟨_, rfl⟩
          obtain ⟨br, hbr⟩ : ∃ b, b = decide (0 < p (offG t.G r c + q + 1) (i + d) j) := ⟨_, rfl⟩
          have HHS := Lib.hid (show Calls Tryz.prog 15 #[.pointer (some ⟨t.p, 0, none⟩), .int .i64 s.name, .int .i64 i, .int .i64 (i + d)] wr fun e w' => e = .returned (.bool bh) ∧ Below wr.heap.size wr w' by
            have := rhas_any HA3.out F HN3.out s.name i (i + d)
            rw [show t.rank n s.name i (i + d) = n s.name.toNat i (i + d) by
              have h9 := rrank_at (t := t) (n := n) (k := s.name.toNat) (i := i) (j := i + d) (by omega) i0 (by omega) (by omega)
              rw [show ((s.name.toNat : Nat) : Int) = s.name by omega] at h9
              exact h9, ← hbh] at this
            exact this)
          have HRR := Lib.hid (show ∀ w5, RTAt w5 t → FlatAt w5 t t.rb (qG t.G) p → Calls Tryz.prog 31 #[.pointer (some ⟨t.p, 0, none⟩), .agg #[.int .i64 r, .int .i64 c, .int .i64 ((q : Int) + 1)], .int .i64 (i + d), .int .i64 j] w5 fun e w' => e = .returned (.bool br) ∧ Below w5.heap.size w5 w' from fun w5 a5 p5 => by
            have := rrestHas_any a5 F p5 r c ((q : Int) + 1) (i + d) j
            rw [show ((q : Int) + 1) = ((q + 1 : Nat) : Int) by push_cast; rfl, rrestRank_at HPN.out (by omega) (by omega) j1] at this
            rw [hbr]
            exact this)
          have HFD := Lib.hid (show (fun d : Nat => decide (0 < n s.name.toNat i (i + d)) && decide (0 < p (offG t.G r c + q + 1) (i + d) j)) d = (bh && br) by rw [hbh, hbr])
          clear hbh hbr
          cases bh with
          | false =>
            go_wp2_with (first | (go_at_call 15; refine HHS.out.mono ?_; rintro e w4 ⟨rfl, hb4⟩; have HB4 := Lib.hid (below_trans HB.out hb4); clear hb4) | fail)
            go_roundw
            case rel => exact ⟨d + 1, by go_num, by omega, by rw [range_any_succ, HAN.out, HFD.out]; rfl, HB4.out⟩
            case measure => simp [intOf]; omega
          | true =>
            go_wp2_with (first | (go_at_call 15; refine HHS.out.mono ?_; rintro e w4 ⟨rfl, hb4⟩; have HB4 := Lib.hid (below_trans HB.out hb4); have HA4 := Lib.hid (HA3.out.below hb4); have HP4 := Lib.hid (HP3.out.below hb4); have hX4 := blk_below HX3.out hb4; have x0 : w4.cell? ⟨bx, 0, none⟩ = some (.int .i64 r) := blk_cell hX4 0; have x1 : w4.cell? ⟨bx, 1, none⟩ = some (.int .i64 c) := blk_cell hX4 1; have x2 : w4.cell? ⟨bx, 2, none⟩ = some (.int .i64 q) := blk_cell hX4 2; clear hb4 hX4) | (go_at_call 82; refine (on_any r c q _ (by omega) hq1000).mono ?_; rintro e w5 ⟨rfl, hb5⟩; have HB5 := Lib.hid (below_trans HB4.out hb5); have HR5 := Lib.hid (HRR.out w5 (HA4.out.below hb5) (HP4.out.below hb5)); clear hb5) | fail)
            refine HR5.out.mono ?_
            rintro e w6 ⟨rfl, hb6⟩
            have HB6 := Lib.hid (below_trans HB5.out hb6)
            clear hb6 x0 x1 x2
            cases br with
            | true =>
              go_wp2_with fail
              go_ret
              exact ⟨by rw [HV.out, show splitR (fun d => n s.name.toNat i (i + d)) (fun d => p (offG t.G r c + q + 1) (i + d) j) N = true from range_any_at hlt HFD.out]; rfl, below_trans HB2.out HB6.out⟩
            | false =>
              go_wp2_with fail
              go_roundw
              case rel => exact ⟨d + 1, by go_num, by omega, by rw [range_any_succ, HAN.out, HFD.out]; rfl, HB6.out⟩
              case measure => simp [intOf]; omega
        · have hde : d = N := by omega
          have dk : decide (i + (d : Int) ≤ j) = false := decide_eq_false (by omega)
          subst hde
          clear hX3 hS3
          go_wp2_with fail
          go_ret
          exact ⟨by rw [HV.out, show splitR (fun d => n s.name.toNat i (i + d)) (fun d => p (offG t.G r c + q + 1) (i + d) j) d = false from HAN.out]; rfl, below_trans HB2.out HB.out⟩
end Go.Proofs.YtbidpeggdhkahaaGreat

set_option linter.unusedSimpArgs false
set_option linter.unusedVariables false
namespace Go.Proofs.YtbidpeggdhkahaaGreat
open Go.RowKit

theorem plG0 {G : Gram} {r c : Nat} {x : Rul} {y : Conj} (hx : G.rules[r]? = some x) (hy : x.conj[c]? = some y) : PlG G r c 0 x y := ⟨hx, hy, Nat.zero_le _⟩
theorem not_eq_false {a b : Bool} (h : (!(a == b)) = true) : (a == b) = false := by revert h; cases a <;> cases b <;> decide
theorem not_eq_true' {a b : Bool} (h : (!(a == b)) = false) : (a == b) = true := by revert h; cases a <;> cases b <;> decide
set_option maxRecDepth 100000 in
set_option maxHeartbeats 8000000 in
theorem rholds_any {w : World} {t : RT} (A : RTAt w t) (F : t.Fits) {p : Rk} (RP : FlatAt w t t.rb (qG t.G) p) {r : Nat} {x : Rul} (hx : t.G.rules[r]? = some x) {i j : Int} (i0 : 0 ≤ i) (ij : i ≤ j) (j1 : j ≤ t.W.size) :
    Calls Tryz.prog 16 #[.pointer (some ⟨t.p, 0, none⟩), .int .i64 r, .int .i64 i, .int .i64 j] w fun e w' => e = .returned (.bool (holdsR (offG t.G r) p x.conj i j)) ∧ Below w.heap.size w w' := by
  have hRL := F.may.rules
  have hcl := (F.may.conj r x hx).2
  have hrn := (List.getElem?_eq_some_iff.1 hx).1
  have b1 : (r : Int) < t.G.rules.length := by omega
  obtain ⟨rd, Ac, cc, eA, hlt, r0, r1, -, -, hCC⟩ := rul_at A.rul hx
  have g2 := A.c2
  rw [eA] at g2
  have hb0 : Below w.heap.size w (w.alloc (Obj.cells #[Value.int .i64 x.head, Value.slice Ac x.conj.length cc] 47)) := below_alloc' (below_refl w) _
  have B0 := heap_alloc_new w (Obj.cells #[Value.int .i64 x.head, Value.slice Ac x.conj.length cc] 47)
  have HA := Lib.hid (A.below hb0)
  have HP := Lib.hid (RP.below hb0)
  have HCC := Lib.hid (hCC.mono hb0)
  obtain ⟨bx, hbx⟩ : ∃ bx, bx = w.heap.size := ⟨_, rfl⟩
  have HX := Lib.hid B0
  have HB0 := Lib.hid hb0
  have HXX := Lib.hid hx
  clear A RP B0 hb0 hCC hx eA
  go_enter Tryz.func16, Tryz.ntmps16
  go_wp2_with fail
  rw [← hbx] at HX ⊢
  clear hbx g2 r0 r1 hlt
  generalize w.alloc (Obj.cells #[Value.int .i64 x.head, Value.slice Ac x.conj.length cc] 47) = w0 at HB0 HX HA HP HCC ⊢
  go_loopw [10] (fun cnt wr => RangeTo x.conj.length (holdAt (offG t.G r) p x.conj i j) w0 cnt wr) (fun cnt _ => x.conj.length - (intOf cnt).toNat)
  case atStart => exact ⟨0, rfl, Nat.zero_le _, rfl, below_refl _⟩
  case round =>
    obtain ⟨c, rfl, hc, hall, hb⟩ := hrel
    have HB := Lib.hid hb
    have HAL := Lib.hid hall
    have HA2 := Lib.hid (HA.out.below hb)
    have HP2 := Lib.hid (HP.out.below hb)
    have hX2 := blk_below HX.out hb
    have HCC2 := Lib.hid (HCC.out.mono hb)
    have q1 : wr.cell? ⟨bx, 1, none⟩ = some (.slice Ac x.conj.length cc) := blk_cell hX2 1
    clear hb hall hX2
    by_cases hltc : c < x.conj.length
    · obtain ⟨y, hy⟩ : ∃ y, x.conj[c]? = some y := ⟨_, List.getElem?_eq_getElem hltc⟩
      obtain ⟨cd, As, cs, eC, -, s0, -⟩ := conj_at HCC2.out hy
      subst eC
      have b3 : (c : Int) < x.conj.length := by omega
      have Q1 := Lib.hid q1
      have S0 := Lib.hid s0
      obtain ⟨bl, hbl⟩ : ∃ bl, bl = decide (0 < p (offG t.G r c) i j) := ⟨_, rfl⟩
      have HH := Lib.hid (show holdAt (offG t.G r) p x.conj i j c = !(bl == y.neg) by unfold holdAt; rw [hy, hbl])
      have HI := Lib.hid (show ∀ w5, Below wr.heap.size wr w5 → Calls Tryz.prog 31 #[.pointer (some ⟨t.p, 0, none⟩), .agg #[.int .i64 r, .int .i64 c, .int .i64 0], .int .i64 i, .int .i64 j] w5 fun e w' => e = .returned (.bool bl) ∧ Below w5.heap.size w5 w' from fun w5 hC => by
        have := rrestHas_any (HA2.out.below hC) F (HP2.out.below hC) r c ((0 : Nat) : Int) i j
        rw [rrestRank_at (plG0 HXX.out hy) i0 ij j1, Nat.add_zero, ← hbl] at this
        exact this)
      clear hbl hy s0
      cases he : (!(bl == y.neg)) with
      | true =>
        have d5 : (bl == y.neg) = false := not_eq_false he
        rw [he] at HH
        clear he
        go_wp2_with fail
        clear q1
        refine wp_region_below (by kernel_rfl) (by kernel_rfl) ?_
        repeat (first
          | (refine qv_skip (by rfl) ?_; simp only [Act.put, List.setIfInBounds_toArray, List.set_cons_zero, List.set_cons_succ])
          | (refine qv_val' (by rfl) ?_; apply Exists.intro; refine ⟨fun w5 hC => ?_, ?_⟩; (have qqr0 := below_cell hC Q1.out; have qqr1 := below_cell hC S0.out; go_simp; rfl); simp only [Act.put, List.setIfInBounds_toArray, List.set_cons_zero, List.set_cons_succ])
          | (refine qv_call' (by rfl) ?_; apply Exists.intro; apply Exists.intro; apply Exists.intro; refine ⟨fun w5 hC => ?_, fun w5 hC => ?_, ?_⟩; (go_simp; first | rfl | exact ⟨rfl, rfl⟩); (first | (go_at_call 31; exact calls_in hC (HI.out w5 hC))); simp only [Act.put, List.setIfInBounds_toArray, List.set_cons_zero, List.set_cons_succ]))
        refine qv_nil ?_
        intro w5 hC
        have HB5 := Lib.hid (below_trans HB.out hC)
        clear hC
        go_wp2_with fail
        go_roundw
        case rel => exact ⟨c + 1, by go_num, by omega, by rw [range_succ_all, HAL.out, HH.out]; rfl, HB5.out⟩
        case measure => simp [intOf]; omega
      | false =>
        have d5 : (bl == y.neg) = true := not_eq_true' he
        rw [he] at HH
        clear he
        go_wp2_with fail
        clear q1
        refine wp_region_below (by kernel_rfl) (by kernel_rfl) ?_
        repeat (first
          | (refine qv_skip (by rfl) ?_; simp only [Act.put, List.setIfInBounds_toArray, List.set_cons_zero, List.set_cons_succ])
          | (refine qv_val' (by rfl) ?_; apply Exists.intro; refine ⟨fun w5 hC => ?_, ?_⟩; (have qqr0 := below_cell hC Q1.out; have qqr1 := below_cell hC S0.out; go_simp; rfl); simp only [Act.put, List.setIfInBounds_toArray, List.set_cons_zero, List.set_cons_succ])
          | (refine qv_call' (by rfl) ?_; apply Exists.intro; apply Exists.intro; apply Exists.intro; refine ⟨fun w5 hC => ?_, fun w5 hC => ?_, ?_⟩; (go_simp; first | rfl | exact ⟨rfl, rfl⟩); (first | (go_at_call 31; exact calls_in hC (HI.out w5 hC))); simp only [Act.put, List.setIfInBounds_toArray, List.set_cons_zero, List.set_cons_succ]))
        refine qv_nil ?_
        intro w5 hC
        have HB5 := Lib.hid (below_trans HB.out hC)
        clear hC
        go_wp2_with fail
        go_ret
        exact ⟨by rw [show holdsR (offG t.G r) p x.conj i j = false from range_bad hltc HH.out]; rfl, below_trans HB0.out HB5.out⟩
    · have hqe : c = x.conj.length := by omega
      go_wp2_with fail
      go_ret
      exact ⟨by rw [show holdsR (offG t.G r) p x.conj i j = true from by unfold holdsR; rw [← hqe]; exact HAL.out]; rfl, below_trans HB0.out HB.out⟩
end Go.Proofs.YtbidpeggdhkahaaGreat
