/-
  N10: the document's own table: ranked.
  N11: the document's own table: split.
-/
import Derived.Test.YtbidpeggdhkahaaGreatN9
set_option linter.unusedSimpArgs false
set_option linter.unusedVariables false
namespace Go.Proofs.YtbidpeggdhkahaaGreat
open Go.RowKit

/-- Where a number of a row lies, as the code reckons it. -/
structure FlatF (t : RT) (N q : Nat) (i j : Int) (P : Nat) (sv : Int) : Prop where
  sp : spV t i j = sv
  s0 : 0 ≤ sv
  s1 : sv < 1089
  pb : P ≤ 100000 * 1089
  e1 : IntKind.i64.wrap ((q : Int) * (t.S : Int)) = (P : Int)
  e2 : IntKind.i64.wrap ((P : Int) + sv) = (P : Int) + sv
  b1 : (P : Int) + sv < (N * t.S : Nat)
  ix : t.ix q i j = ((P : Int) + sv).toNat
theorem flat_facts {t : RT} (hW : t.W.size ≤ 32) {N : Nat} (hN : N ≤ 100000) {q : Nat} (hq : q < N) {i j : Int} (i0 : 0 ≤ i) (ij : i ≤ j) (j1 : j ≤ t.W.size) : ∃ P sv, FlatF t N q i j P sv := by
  have hb := ix_bd (t := t) i0 (by omega) (by omega : 0 ≤ j) j1
  have hSb := RT.S_bd hW
  have hlt := ix_lt (t := t) (q := q) (N := N) hq i0 (by omega) (by omega : 0 ≤ j) j1
  have hPb : q * t.S ≤ 100000 * 1089 := Nat.mul_le_mul (by omega) hSb.2
  have hs : spanG t i j = true := by unfold spanG; rw [decide_eq_true i0, decide_eq_true ij, decide_eq_true j1]; rfl
  have e0 : (q : Int) * (t.S : Int) = ((q * t.S : Nat) : Int) := by push_cast; rfl
  unfold RT.ix at hlt
  refine ⟨q * t.S, i * ((t.W.size : Int) + 1) + j, ⟨by unfold spV; rw [hs]; rfl, hb.1, by omega, hPb, by rw [e0]; exact IntWalk.i64_in _ (by omega), IntWalk.i64_in _ (by omega), by omega, by unfold RT.ix; omega⟩⟩
theorem off_lt {G : Gram} {r c pos : Nat} {x : Rul} {y : Conj} (h : PlG G r c pos x y) : offG G r c + pos < qG G := by
  have h1 : offG G r c + (y.seq.length + 1) ≤ qG G := by
    have := q_lt h.hx h.hy
    unfold offG
    rw [h.hx]
    exact this
  have := h.hp
  omega

set_option maxRecDepth 100000 in
set_option maxHeartbeats 8000000 in
theorem rranked_any {w : World} {t : RT} (A : RTAt w t) (F : t.Fits) {b2 L c2 : Nat} (hL : L = qG t.G * t.S) {p : Rk} (RP : FlatAt w t b2 (qG t.G) p) {r : Nat} {x : Rul} (hx : t.G.rules[r]? = some x) {i j : Int} (i0 : 0 ≤ i) (ij : i ≤ j) (j1 : j ≤ t.W.size) :
    Calls Tryz.prog 67 #[.pointer (some ⟨t.p, 0, none⟩), .slice (some ⟨b2, 0, none⟩) L c2, .int .i64 r, .int .i64 i, .int .i64 j] w fun e w' => e = .returned (.bool (rankedR (offG t.G r) p x.conj i j)) ∧ Below w.heap.size w w' := by
  have hW := F.W32
  have hQ := (gfits_of (lev := List.replicate t.G.names.length 0) F.may (by simp)).Q
  have hRL := F.may.rules
  have hcl := (F.may.conj r x hx).2
  have hrn := (List.getElem?_eq_some_iff.1 hx).1
  have b1 : (r : Int) < t.G.rules.length := by omega
  obtain ⟨rd, Ac, cc, eA, hlt, r0, r1, -, -, hCC⟩ := rul_at A.rul hx
  have g2 := A.c2
  rw [eA] at g2
  have hb0 : Below w.heap.size w (w.alloc (Obj.cells #[Value.int .i64 x.head, Value.slice Ac x.conj.length cc] 47)) := below_alloc' (below_refl w) _
  have B0 := heap_alloc_new w (Obj.cells #[Value.int .i64 x.head, Value.slice Ac x.conj.length cc] 47)
  have HA := Lib.hid (A.below hb0)
  have HP := Lib.hid (RP.below hb0)
  have HCC := Lib.hid (hCC.mono hb0)
  obtain ⟨bx, hbx⟩ : ∃ bx, bx = w.heap.size := ⟨_, rfl⟩
  have HX := Lib.hid B0
  have HB0 := Lib.hid hb0
  have HXX := Lib.hid hx
  have HL := Lib.hid hL
  clear A RP B0 hb0 hCC hx eA hL
  go_enter Tryz.func67, Tryz.ntmps67
  go_wp2_with fail
  rw [← hbx] at HX ⊢
  clear hbx g2 r0 r1 hlt
  generalize w.alloc (Obj.cells #[Value.int .i64 x.head, Value.slice Ac x.conj.length cc] 47) = w0 at HB0 HX HA HP HCC ⊢
  go_loopw [12] (fun cnt wr => RangeTo x.conj.length (rankAt (offG t.G r) p x.conj i j) w0 cnt wr) (fun cnt _ => x.conj.length - (intOf cnt).toNat)
  case atStart => exact ⟨0, rfl, Nat.zero_le _, rfl, below_refl _⟩
  case round =>
    obtain ⟨c, rfl, hc, hall, hb⟩ := hrel
    have HB := Lib.hid hb
    have HAL := Lib.hid hall
    have HA2 := Lib.hid (HA.out.below hb)
    have HP2 := Lib.hid (HP.out.below hb)
    have hX2 := blk_below HX.out hb
    have HCC2 := Lib.hid (HCC.out.mono hb)
    have q1 : wr.cell? ⟨bx, 1, none⟩ = some (.slice Ac x.conj.length cc) := blk_cell hX2 1
    clear hb hall hX2
    by_cases hltc : c < x.conj.length
    · obtain ⟨y, hy⟩ : ∃ y, x.conj[c]? = some y := ⟨_, List.getElem?_eq_getElem hltc⟩
      obtain ⟨cd, As, cs, eC, -, s0, -⟩ := conj_at HCC2.out hy
      subst eC
      have b3 : (c : Int) < x.conj.length := by omega
      have Q1 := Lib.hid q1
      obtain ⟨ng, hng⟩ : ∃ ng, ng = y.neg := ⟨_, rfl⟩
      rw [← hng] at s0
      have S0 := Lib.hid s0
      clear s0
      cases ng with
      | true =>
        have HH := Lib.hid (show rankAt (offG t.G r) p x.conj i j c = true by unfold rankAt; rw [hy]; simp [← hng])
        clear hng hy
        go_wp2_with fail
        clear q1
        refine wp_region_below (by kernel_rfl) (by kernel_rfl) ?_
        repeat (first
          | (refine qv_skip (by rfl) ?_; simp only [Act.put, List.setIfInBounds_toArray, List.set_cons_zero, List.set_cons_succ])
          | (refine qv_val' (by rfl) ?_; apply Exists.intro; refine ⟨fun w5 hC => ?_, ?_⟩; (have qqr0 := below_cell hC Q1.out; have qqr1 := below_cell hC S0.out; go_simp; rfl); simp only [Act.put, List.setIfInBounds_toArray, List.set_cons_zero, List.set_cons_succ]))
        refine qv_nil ?_
        intro w5 hC
        have HB5 := Lib.hid (below_trans HB.out hC)
        clear hC
        go_wp2_with fail
        go_roundw
        case rel => exact ⟨c + 1, by go_num, by omega, by rw [range_succ_all, HAL.out, HH.out]; rfl, HB5.out⟩
        case measure => simp [intOf]; omega
      | false =>
        have hPL := plG0 HXX.out hy
        have hoq := off_lt hPL
        rw [Nat.add_zero] at hoq
        obtain ⟨P, sv, FF⟩ := flat_facts hW hQ hoq i0 ij j1
        obtain ⟨v, hv⟩ : ∃ v, v = p (offG t.G r c) i j := ⟨_, rfl⟩
        have hc0 := (HP2.out (offG t.G r c) i j hoq i0 (by omega) (by omega) j1).1
        rw [FF.ix, ← hv] at hc0
        have HH := Lib.hid (show rankAt (offG t.G r) p x.conj i j c = !decide (v = 0) by unfold rankAt; rw [hy, hv]; simp [← hng])
        have C4 := Lib.hid HA2.out.c4
        have C6 := Lib.hid HA2.out.c6
        have CB := Lib.hid (HA2.out.cj r x HXX.out).1
        have CA := Lib.hid ((HA2.out.cj r x HXX.out).2 c hltc)
        obtain ⟨off, hoff⟩ : ∃ off, off = offG t.G r c := ⟨_, rfl⟩
        rw [← hoff] at CA FF
        have HC := Lib.hid hc0
        have e1 := FF.e1
        have e2 := FF.e2
        have s0 := FF.s0
        have b4 : (P : Int) + sv < L := by rw [HL.out]; exact FF.b1
        have b5 : 0 ≤ (P : Int) + sv := by omega
        have HSP := Lib.hid (show ∀ w5, Below wr.heap.size wr w5 → Calls Tryz.prog 45 #[.pointer (some ⟨t.p, 0, none⟩), .int .i64 i, .int .i64 j] w5 fun e w' => e = .returned (.int .i64 sv) ∧ Below w5.heap.size w5 w' from fun w5 h5 => by rw [← FF.sp]; exact (rspan_any (HA2.out.below h5) hW i j).mono fun e w' h => ⟨h.1, h.2 ▸ below_refl _⟩)
        clear hng hy hPL hoq hv hc0 hoff FF
        by_cases hv0 : v = 0
        · have d5 : (v == 0) = true := by simpa using hv0
          rw [decide_eq_true hv0] at HH
          clear hv0
          go_wp2_with fail
          clear q1
          refine wp_region_below (by kernel_rfl) (by kernel_rfl) ?_
          repeat (first
            | (refine qv_skip (by rfl) ?_; simp only [Act.put, List.setIfInBounds_toArray, List.set_cons_zero, List.set_cons_succ])
            | (refine qv_val' (by rfl) ?_; apply Exists.intro; refine ⟨fun w5 hC => ?_, ?_⟩; (have qqr0 := below_cell hC Q1.out; have qqr1 := below_cell hC S0.out; have qqr2 := below_cell hC C4.out; have qqr3 := below_cell hC C6.out; have qqr4 := below_cell hC CB.out; have qqr5 := below_cell hC CA.out; have qqr6 := below_cell hC HC.out; go_simp; rfl); simp only [Act.put, List.setIfInBounds_toArray, List.set_cons_zero, List.set_cons_succ])
            | (refine qv_call' (by rfl) ?_; apply Exists.intro; apply Exists.intro; apply Exists.intro; refine ⟨fun w5 hC => ?_, fun w5 hC => ?_, ?_⟩; (go_simp; first | rfl | exact ⟨rfl, rfl⟩); (first | (go_at_call 45; exact calls_in hC (HSP.out w5 hC))); simp only [Act.put, List.setIfInBounds_toArray, List.set_cons_zero, List.set_cons_succ]))
          refine qv_nil ?_
          intro w5 hC
          have HB5 := Lib.hid (below_trans HB.out hC)
          clear hC
          go_wp2_with fail
          go_ret
          exact ⟨by rw [show rankedR (offG t.G r) p x.conj i j = false from range_bad hltc HH.out]; rfl, below_trans HB0.out HB5.out⟩
        · have d5 : (v == 0) = false := by simpa using hv0
          rw [decide_eq_false hv0] at HH
          clear hv0
          go_wp2_with fail
          clear q1
          refine wp_region_below (by kernel_rfl) (by kernel_rfl) ?_
          repeat (first
            | (refine qv_skip (by rfl) ?_; simp only [Act.put, List.setIfInBounds_toArray, List.set_cons_zero, List.set_cons_succ])
            | (refine qv_val' (by rfl) ?_; apply Exists.intro; refine ⟨fun w5 hC => ?_, ?_⟩; (have qqr0 := below_cell hC Q1.out; have qqr1 := below_cell hC S0.out; have qqr2 := below_cell hC C4.out; have qqr3 := below_cell hC C6.out; have qqr4 := below_cell hC CB.out; have qqr5 := below_cell hC CA.out; have qqr6 := below_cell hC HC.out; go_simp; rfl); simp only [Act.put, List.setIfInBounds_toArray, List.set_cons_zero, List.set_cons_succ])
            | (refine qv_call' (by rfl) ?_; apply Exists.intro; apply Exists.intro; apply Exists.intro; refine ⟨fun w5 hC => ?_, fun w5 hC => ?_, ?_⟩; (go_simp; first | rfl | exact ⟨rfl, rfl⟩); (first | (go_at_call 45; exact calls_in hC (HSP.out w5 hC))); simp only [Act.put, List.setIfInBounds_toArray, List.set_cons_zero, List.set_cons_succ]))
          refine qv_nil ?_
          intro w5 hC
          have HB5 := Lib.hid (below_trans HB.out hC)
          clear hC e1 e2
          go_wp2_with fail
          go_roundw
          case rel => exact ⟨c + 1, by go_num, by omega, by rw [range_succ_all, HAL.out, HH.out]; rfl, HB5.out⟩
          case measure => simp [intOf]; omega
    · have hqe : c = x.conj.length := by omega
      go_wp2_with fail
      go_ret
      exact ⟨by rw [show rankedR (offG t.G r) p x.conj i j = true from by unfold rankedR; rw [← hqe]; exact HAL.out]; rfl, below_trans HB0.out HB.out⟩
end Go.Proofs.YtbidpeggdhkahaaGreat

set_option linter.unusedSimpArgs false
set_option linter.unusedVariables false
namespace Go.Proofs.YtbidpeggdhkahaaGreat
open Go.RowKit

theorem rplace_at {w : World} {t : RT} (A : RTAt w t) (F : t.Fits) {r c q : Nat} {x : Rul} {y : Conj} (h : PlG t.G r c q x y) :
    Calls Tryz.prog 66 #[.pointer (some ⟨t.p, 0, none⟩), .agg #[.int .i64 r, .int .i64 c, .int .i64 q]] w fun e w' => e = .returned (.int .i64 ((offG t.G r c + q : Nat) : Int)) ∧ Below w.heap.size w w' := by
  have hp := h.hp
  have h1 : placeB t.G.rules r c q = true := by
    unfold placeB
    simp only [Int.toNat_natCast, h.hx, h.hy, Bool.and_eq_true, decide_eq_true_eq]
    omega
  have h2 := rplace_any A F r c q
  unfold plcV at h2
  rw [h1] at h2
  simpa using h2

set_option maxRecDepth 100000 in
set_option maxHeartbeats 8000000 in
theorem rsplit_any {w : World} {t : RT} (A : RTAt w t) (F : t.Fits) {b1 L1 c1 b2 L2 c2 : Nat} (hL1 : L1 = t.G.names.length * t.S) (hL2 : L2 = qG t.G * t.S) {n p : Rk} (RN : FlatAt w t b1 t.G.names.length n) (RP : FlatAt w t b2 (qG t.G) p) {r c q : Nat} {x : Rul} {y : Conj} (h : PlG t.G r c q x y) {i j : Int} (i0 : 0 ≤ i) (ij : i ≤ j) (j1 : j ≤ t.W.size) :
    Calls Tryz.prog 68 #[.pointer (some ⟨t.p, 0, none⟩), .slice (some ⟨b1, 0, none⟩) L1 c1, .slice (some ⟨b2, 0, none⟩) L2 c2, .agg #[.int .i64 r, .int .i64 c, .int .i64 q], .int .i64 i, .int .i64 j] w fun e w' => e = .returned (.bool (restR t.W n p y.seq (offG t.G r c) q i j)) ∧ Below w.heap.size w w' := by
  have hW := F.W32
  have hQ := (gfits_of (lev := List.replicate t.G.names.length 0) F.may (by simp)).Q
  have hsl := F.may.seq r x c y h.hx h.hy
  have hq := h.hp
  have hb0 : Below w.heap.size w (w.alloc (Obj.cells #[Value.int .i64 r, Value.int .i64 c, Value.int .i64 q] 57)) := below_alloc' (below_refl w) _
  have B0 := heap_alloc_new w (Obj.cells #[Value.int .i64 r, Value.int .i64 c, Value.int .i64 q] 57)
  have HA := Lib.hid (A.below hb0)
  have HN := Lib.hid (RN.below hb0)
  have HP := Lib.hid (RP.below hb0)
  obtain ⟨bx, hbx⟩ : ∃ bx, bx = w.heap.size := ⟨_, rfl⟩
  generalize hw0 : w.alloc (Obj.cells #[Value.int .i64 r, Value.int .i64 c, Value.int .i64 q] 57) = w0 at hb0 B0 HA HN HP
  have HX := Lib.hid B0
  have HB0 := Lib.hid hb0
  have HPL := Lib.hid h
  have HSY := Lib.hid (rsymbol_of HA.out F h.hx h.hy h.hp)
  have HL1 := Lib.hid hL1
  have HL2 := Lib.hid hL2
  have x0 : w0.cell? ⟨w.heap.size, 0, none⟩ = some (.int .i64 r) := blk_cell B0 0
  have x1 : w0.cell? ⟨w.heap.size, 1, none⟩ = some (.int .i64 c) := blk_cell B0 1
  have x2 : w0.cell? ⟨w.heap.size, 2, none⟩ = some (.int .i64 q) := blk_cell B0 2
  have hoq := off_lt h
  obtain ⟨pl, hpl⟩ : ∃ pl, pl = offG t.G r c + q := ⟨_, rfl⟩
  rw [← hpl] at hoq
  have HPC := Lib.hid (show ∀ w5, RTAt w5 t → Calls Tryz.prog 66 #[.pointer (some ⟨t.p, 0, none⟩), .agg #[.int .i64 r, .int .i64 c, .int .i64 q]] w5 fun e w' => e = .returned (.int .i64 (pl : Int)) ∧ Below w5.heap.size w5 w' from fun w5 h5 => by rw [hpl]; exact rplace_at h5 F HPL.out)
  have HPE := Lib.hid hpl
  clear A RN RP B0 hb0 h hL1 hL2 hpl
  cases hs : y.seq[q]? with
  | none =>
    have HSY := Lib.hid (HSY.out.mono fun e w' h => rsymPost_none h hs)
    have HV := Lib.hid (show restR t.W n p y.seq (offG t.G r c) q i j = decide (i = j) by unfold restR; rw [hs])
    clear hs
    go_enter Tryz.func68, Tryz.ntmps68
    go_wp2_with fail
    try rw [hw0]
    clear hw0
    rw [← hbx] at HX x0 x1 x2 ⊢
    clear hbx
    go_wp2_with (first
      | (go_at_call 59; refine HSY.out.mono ?_; rintro e w1 ⟨rfl, hb1⟩; have hb2 := below_alloc' hb1 (Obj.cells #[.int .i64 0, .int .i64 0, .int .i64 0] 83); have HA2 := Lib.hid (HA.out.below hb2); have hX2 := blk_below HX.out hb2; have HB1 := Lib.hid (below_trans HB0.out hb2); have y0 : (w1.alloc (Obj.cells #[.int .i64 0, .int .i64 0, .int .i64 0] 83)).cell? ⟨bx, 0, none⟩ = some (.int .i64 r) := blk_cell hX2 0; have y1 : (w1.alloc (Obj.cells #[.int .i64 0, .int .i64 0, .int .i64 0] 83)).cell? ⟨bx, 1, none⟩ = some (.int .i64 c) := blk_cell hX2 1; have y2 : (w1.alloc (Obj.cells #[.int .i64 0, .int .i64 0, .int .i64 0] 83)).cell? ⟨bx, 2, none⟩ = some (.int .i64 q) := blk_cell hX2 2; clear hb1 hb2 hX2)
      | (go_at_call 66; refine (HPC.out _ HA2.out).mono ?_; rintro e w2 ⟨rfl, hb2⟩; have HB2 := Lib.hid (below_trans HB1.out hb2); clear hb2)
      | fail)
    go_ret
    exact ⟨by rw [HV.out]; exact ret_bool (by rw [Bool.eq_iff_iff, beq_iff_eq, decide_eq_true_eq]), HB2.out⟩
  | some s =>
    have HSY := Lib.hid (HSY.out.mono fun e w' h => rsymPost_some h hs)
    have hql := (List.getElem?_eq_some_iff.1 hs).1
    have hoq1 : pl + 1 < qG t.G := by
      have := off_lt (show PlG t.G r c (q + 1) x y from ⟨HPL.out.hx, HPL.out.hy, hql⟩)
      have := HPE.out
      omega
    have hsm := symB_lt (F.may.sym r x c y q s HPL.out.hx HPL.out.hy hs) (by have := F.may.K1; omega)
    have HV := Lib.hid (show restR t.W n p y.seq (offG t.G r c) q i j = (if s.name < 0 then byteR t.W s i j && decide (0 < p (pl + 1) (i + 1) j) else splitR (fun d => n s.name.toNat i (i + d)) (fun d => p (pl + 1) (i + d) j) (j - i + 1).toNat) by unfold restR; rw [hs, HPE.out])
    have hN1 := F.may.K1
    have hN2 := F.may.K64
    clear hs
    go_enter Tryz.func68, Tryz.ntmps68
    go_wp2_with fail
    try rw [hw0]
    clear hw0
    rw [← hbx] at HX x0 x1 x2 ⊢
    clear hbx
    by_cases h1 : s.name < 0
    · have d1 : decide (s.name < 0) = true := by simpa using h1
      have HV := Lib.hid (HV.out.trans (if_pos h1))
      clear h1
      go_wp2_with (first
        | (go_at_call 59; refine HSY.out.mono ?_; rintro e w1 ⟨rfl, hb1⟩; have B9 := heap_alloc_new w1 (Obj.cells #[.int .i64 s.name, .int .i64 s.lo, .int .i64 s.hi] 83); have hb2 := below_alloc' hb1 (Obj.cells #[.int .i64 s.name, .int .i64 s.lo, .int .i64 s.hi] 83); have HA2 := Lib.hid (HA.out.below hb2); have hX2 := blk_below HX.out hb2; have HB1 := Lib.hid (below_trans HB0.out hb2); have HBa := Lib.hid hb2; have HB9 := Lib.hid B9; have y0 : (w1.alloc (Obj.cells #[.int .i64 s.name, .int .i64 s.lo, .int .i64 s.hi] 83)).cell? ⟨bx, 0, none⟩ = some (.int .i64 r) := blk_cell hX2 0; have y1 : (w1.alloc (Obj.cells #[.int .i64 s.name, .int .i64 s.lo, .int .i64 s.hi] 83)).cell? ⟨bx, 1, none⟩ = some (.int .i64 c) := blk_cell hX2 1; have y2 : (w1.alloc (Obj.cells #[.int .i64 s.name, .int .i64 s.lo, .int .i64 s.hi] 83)).cell? ⟨bx, 2, none⟩ = some (.int .i64 q) := blk_cell hX2 2; clear hb1 hb2 hX2 B9)
        | (go_at_call 66; refine (HPC.out _ HA2.out).mono ?_; rintro e w2 ⟨rfl, hb2⟩; have hs9 := blk_below HB9.out hb2; have z0 : w2.cell? ⟨w1.heap.size, 0, none⟩ = some (.int .i64 s.name) := blk_cell hs9 0; have z1 : w2.cell? ⟨w1.heap.size, 1, none⟩ = some (.int .i64 s.lo) := blk_cell hs9 1; have z2 : w2.cell? ⟨w1.heap.size, 2, none⟩ = some (.int .i64 s.hi) := blk_cell hs9 2; have HBb := Lib.hid (below_trans HBa.out hb2); clear hb2 hs9 y0 y1 y2)
        | fail)
      have Z0 := Lib.hid z0
      have Z1 := Lib.hid z1
      have Z2 := Lib.hid z2
      obtain ⟨b9, hb9⟩ : ∃ b, b = w1.heap.size := ⟨_, rfl⟩
      rw [← hb9] at Z0 Z1 Z2 ⊢
      clear hb9 x0 x1 x2 z0 z1 z2 HA2 HB9 HB1 HBa w1
      have HA2 := Lib.hid (HA.out.below HBb.out)
      have HP2 := Lib.hid (HP.out.below HBb.out)
      have HB2 := Lib.hid (below_trans HB0.out HBb.out)
      obtain ⟨bb, hbb⟩ : ∃ b, b = byteR t.W s i j := ⟨_, rfl⟩
      have HBY := Lib.hid (show ∀ w5, Below w2.heap.size w2 w5 → Calls Tryz.prog 83 #[.pointer (some ⟨t.p, 0, none⟩), .agg #[.int .i64 s.name, .int .i64 s.lo, .int .i64 s.hi], .int .i64 i, .int .i64 j] w5 fun e w' => e = .returned (.bool bb) ∧ Below w5.heap.size w5 w' from fun w5 h5 => by rw [hbb]; exact rbyte_any (HA2.out.below h5) hW s i0 j1)
      cases bb with
      | false =>
        have HZ := Lib.hid (show restR t.W n p y.seq (offG t.G r c) q i j = false by rw [HV.out, ← hbb]; rfl)
        clear hbb
        go_wp2_with fail
        refine wp_region_below (by kernel_rfl) (by kernel_rfl) ?_
        repeat (first
          | (refine qv_skip (by rfl) ?_; simp only [Act.put, List.setIfInBounds_toArray, List.set_cons_zero, List.set_cons_succ])
          | (refine qv_val' (by rfl) ?_; apply Exists.intro; refine ⟨fun w5 hC => ?_, ?_⟩; (have qqr0 := below_cell hC Z0.out; have qqr1 := below_cell hC Z1.out; have qqr2 := below_cell hC Z2.out; go_simp; rfl); simp only [Act.put, List.setIfInBounds_toArray, List.set_cons_zero, List.set_cons_succ])
          | (refine qv_call' (by rfl) ?_; apply Exists.intro; apply Exists.intro; apply Exists.intro; refine ⟨fun w5 hC => ?_, fun w5 hC => ?_, ?_⟩; (go_simp; first | rfl | exact ⟨rfl, rfl⟩); (first | (go_at_call 83; exact calls_in hC (HBY.out w5 hC))); simp only [Act.put, List.setIfInBounds_toArray, List.set_cons_zero, List.set_cons_succ]))
        refine qv_nil ?_
        intro w5 hC
        have HB5 := Lib.hid (below_trans HB2.out hC)
        clear hC
        go_wp2_with fail
        go_ret
        exact ⟨by rw [HZ.out]; rfl, HB5.out⟩
      | true =>
        have hij : i < j := (byteR_iff.1 hbb.symm).1
        obtain ⟨P, sv, FF⟩ := flat_facts hW hQ hoq1 (show 0 ≤ i + 1 by omega) (show i + 1 ≤ j by omega) j1
        obtain ⟨v, hv⟩ : ∃ v, v = p (pl + 1) (i + 1) j := ⟨_, rfl⟩
        have hc0 := (HP2.out (pl + 1) (i + 1) j hoq1 (by omega) (by omega) (by omega) j1).1
        rw [FF.ix, ← hv] at hc0
        have HC := Lib.hid hc0
        have HZ := Lib.hid (show restR t.W n p y.seq (offG t.G r c) q i j = decide (0 < v) by rw [HV.out, ← hbb, hv]; rfl)
        have C4 := Lib.hid HA2.out.c4
        have e1 : IntKind.i64.wrap (((pl : Int) + 1) * (t.S : Int)) = (P : Int) := by have := FF.e1; push_cast at this; exact this
        have e2 := FF.e2
        have e3 : IntKind.i64.wrap (i + 1) = i + 1 := IntWalk.i64_in _ (by omega)
        have s0 := FF.s0
        have b4 : (P : Int) + sv < L2 := by rw [HL2.out]; exact FF.b1
        have b5 : 0 ≤ (P : Int) + sv := by omega
        have HSP := Lib.hid (show ∀ w5, Below w2.heap.size w2 w5 → Calls Tryz.prog 45 #[.pointer (some ⟨t.p, 0, none⟩), .int .i64 (i + 1), .int .i64 j] w5 fun e w' => e = .returned (.int .i64 sv) ∧ Below w5.heap.size w5 w' from fun w5 h5 => by rw [← FF.sp]; exact (rspan_any (HA2.out.below h5) hW (i + 1) j).mono fun e w' h => ⟨h.1, h.2 ▸ below_refl _⟩)
        clear hbb hv hc0 FF
        go_wp2_with fail
        refine wp_region_below (by kernel_rfl) (by kernel_rfl) ?_
        repeat (first
          | (refine qv_skip (by rfl) ?_; simp only [Act.put, List.setIfInBounds_toArray, List.set_cons_zero, List.set_cons_succ])
          | (refine qv_val' (by rfl) ?_; apply Exists.intro; refine ⟨fun w5 hC => ?_, ?_⟩; (have qqr0 := below_cell hC Z0.out; have qqr1 := below_cell hC Z1.out; have qqr2 := below_cell hC Z2.out; have qqr3 := below_cell hC C4.out; have qqr4 := below_cell hC HC.out; go_simp; rfl); simp only [Act.put, List.setIfInBounds_toArray, List.set_cons_zero, List.set_cons_succ])
          | (refine qv_call' (by rfl) ?_; apply Exists.intro; apply Exists.intro; apply Exists.intro; refine ⟨fun w5 hC => ?_, fun w5 hC => ?_, ?_⟩; (go_simp; first | rfl | exact ⟨rfl, rfl⟩); (first | (go_at_call 83; exact calls_in hC (HBY.out w5 hC)) | (go_at_call 45; exact calls_in hC (HSP.out w5 hC))); simp only [Act.put, List.setIfInBounds_toArray, List.set_cons_zero, List.set_cons_succ]))
        refine qv_nil ?_
        intro w5 hC
        have HB5 := Lib.hid (below_trans HB2.out hC)
        clear hC e1 e2 e3
        go_wp2_with fail
        go_ret
        exact ⟨by rw [HZ.out]; rfl, HB5.out⟩
    · have d1 : decide (s.name < 0) = false := by simpa using h1
      have HV := Lib.hid (HV.out.trans (if_neg h1))
      have hs0 : 0 ≤ s.name := by omega
      have hsk : s.name.toNat < t.G.names.length := by omega
      clear h1
      go_wp2_with (first
        | (go_at_call 59; refine HSY.out.mono ?_; rintro e w1 ⟨rfl, hb1⟩; have B9 := heap_alloc_new w1 (Obj.cells #[.int .i64 s.name, .int .i64 s.lo, .int .i64 s.hi] 83); have hb2 := below_alloc' hb1 (Obj.cells #[.int .i64 s.name, .int .i64 s.lo, .int .i64 s.hi] 83); have HA2 := Lib.hid (HA.out.below hb2); have hX2 := blk_below HX.out hb2; have HB1 := Lib.hid (below_trans HB0.out hb2); have HBa := Lib.hid hb2; have HB9 := Lib.hid B9; have y0 : (w1.alloc (Obj.cells #[.int .i64 s.name, .int .i64 s.lo, .int .i64 s.hi] 83)).cell? ⟨bx, 0, none⟩ = some (.int .i64 r) := blk_cell hX2 0; have y1 : (w1.alloc (Obj.cells #[.int .i64 s.name, .int .i64 s.lo, .int .i64 s.hi] 83)).cell? ⟨bx, 1, none⟩ = some (.int .i64 c) := blk_cell hX2 1; have y2 : (w1.alloc (Obj.cells #[.int .i64 s.name, .int .i64 s.lo, .int .i64 s.hi] 83)).cell? ⟨bx, 2, none⟩ = some (.int .i64 q) := blk_cell hX2 2; clear hb1 hb2 hX2 B9)
        | (go_at_call 66; refine (HPC.out _ HA2.out).mono ?_; rintro e w2 ⟨rfl, hb2⟩; have hs9 := blk_below HB9.out hb2; have z0 : w2.cell? ⟨w1.heap.size, 0, none⟩ = some (.int .i64 s.name) := blk_cell hs9 0; have HS9 := Lib.hid hs9; have HBb := Lib.hid (below_trans HBa.out hb2); clear hb2 hs9 y0 y1 y2)
        | fail)
      obtain ⟨b9, hb9⟩ : ∃ b, b = w1.heap.size := ⟨_, rfl⟩
      rw [← hb9] at HS9 ⊢
      clear hb9 x0 x1 x2 z0 HA2 HB9 HB1 HBa w1
      have HA2 := Lib.hid (HA.out.below HBb.out)
      have HN2 := Lib.hid (HN.out.below HBb.out)
      have HP2 := Lib.hid (HP.out.below HBb.out)
      have HB2 := Lib.hid (below_trans HB0.out HBb.out)
      obtain ⟨N, hN⟩ : ∃ N, N = (j - i + 1).toNat := ⟨_, rfl⟩
      have hNN : (N : Int) = j - i + 1 := by omega
      rw [← hN] at HV
      clear hN
      go_loopw [16] (fun cnt wr => RestTo w2 (fun d => decide (0 < n s.name.toNat i (i + d)) && decide (0 < p (pl + 1) (i + d) j)) i N cnt wr) (fun cnt _ => (j + 1 - intOf cnt).toNat)
      case atStart => exact ⟨0, by simp, Nat.zero_le _, rfl, below_refl _⟩
      case round =>
        obtain ⟨d, rfl, hd, hany, hb⟩ := hrel
        have HB := Lib.hid hb
        have HAN := Lib.hid hany
        have HA3 := Lib.hid (HA2.out.below hb)
        have HN3 := Lib.hid (HN2.out.below hb)
        have HP3 := Lib.hid (HP2.out.below hb)
        have hS3 := blk_below HS9.out hb
        have Z0 := Lib.hid (show wr.cell? ⟨b9, 0, none⟩ = some (.int .i64 s.name) from blk_cell hS3 0)
        clear hb hany hS3
        by_cases hlt : d < N
        · have dk : decide (i + (d : Int) ≤ j) = true := decide_eq_true (by omega)
          obtain ⟨P1, sv1, FF1⟩ := flat_facts hW (show t.G.names.length ≤ 100000 by omega) hsk i0 (show i ≤ i + (d : Int) by omega) (show i + (d : Int) ≤ t.W.size by omega)
          obtain ⟨P2, sv2, FF2⟩ := flat_facts hW hQ hoq1 (show 0 ≤ i + (d : Int) by omega) (show i + (d : Int) ≤ j by omega) j1
          obtain ⟨v1, hv1⟩ : ∃ v, v = n s.name.toNat i (i + d) := ⟨_, rfl⟩
          obtain ⟨v2, hv2⟩ : ∃ v, v = p (pl + 1) (i + d) j := ⟨_, rfl⟩
          have hc1 := (HN3.out s.name.toNat i (i + d) hsk i0 (by omega) (by omega) (by omega)).1
          rw [FF1.ix, ← hv1] at hc1
          have hc2 := (HP3.out (pl + 1) (i + d) j hoq1 (by omega) (by omega) (by omega) j1).1
          rw [FF2.ix, ← hv2] at hc2
          have HC1 := Lib.hid hc1
          have HC2 := Lib.hid hc2
          have C4 := Lib.hid HA3.out.c4
          have e1 : IntKind.i64.wrap (s.name * (t.S : Int)) = (P1 : Int) := by have := FF1.e1; rw [show ((s.name.toNat : Nat) : Int) = s.name by omega] at this; exact this
          have e2 := FF1.e2
          have e3 : IntKind.i64.wrap (((pl : Int) + 1) * (t.S : Int)) = (P2 : Int) := by have := FF2.e1; push_cast at this; exact this
          have e4 := FF2.e2
          have b4 : (P1 : Int) + sv1 < L1 := by rw [HL1.out]; exact FF1.b1
          have b5 : 0 ≤ (P1 : Int) + sv1 := by have := FF1.s0; omega
          have b6 : (P2 : Int) + sv2 < L2 := by rw [HL2.out]; exact FF2.b1
          have b7 : 0 ≤ (P2 : Int) + sv2 := by have := FF2.s0; omega
          have HS1 := Lib.hid (show ∀ w5, Below wr.heap.size wr w5 → Calls Tryz.prog 45 #[.pointer (some ⟨t.p, 0, none⟩), .int .i64 i, .int .i64 (i + d)] w5 fun e w' => e = .returned (.int .i64 sv1) ∧ Below w5.heap.size w5 w' from fun w5 h5 => by rw [← FF1.sp]; exact (rspan_any (HA3.out.below h5) hW i (i + d)).mono fun e w' h => ⟨h.1, h.2 ▸ below_refl _⟩)
          have HS2 := Lib.hid (show ∀ w5, Below wr.heap.size wr w5 → Calls Tryz.prog 45 #[.pointer (some ⟨t.p, 0, none⟩), .int .i64 (i + d), .int .i64 j] w5 fun e w' => e = .returned (.int .i64 sv2) ∧ Below w5.heap.size w5 w' from fun w5 h5 => by rw [← FF2.sp]; exact (rspan_any (HA3.out.below h5) hW (i + d) j).mono fun e w' h => ⟨h.1, h.2 ▸ below_refl _⟩)
          have HFD := Lib.hid (show (fun d : Nat => decide (0 < n s.name.toNat i (i + d)) && decide (0 < p (pl + 1) (i + d) j)) d = (decide (0 < v1) && decide (0 < v2)) by rw [hv1, hv2])
          clear hv1 hv2 hc1 hc2 FF1 FF2
          cases dv1 : decide (0 < v1) with
          | false =>
            rw [dv1] at HFD
            go_wp2_with fail
            refine wp_region_below (by kernel_rfl) (by kernel_rfl) ?_
            repeat (first
              | (refine qv_skip (by rfl) ?_; simp only [Act.put, List.setIfInBounds_toArray, List.set_cons_zero, List.set_cons_succ])
              | (refine qv_val' (by rfl) ?_; apply Exists.intro; refine ⟨fun w5 hC => ?_, ?_⟩; (have qqr0 := below_cell hC Z0.out; have qqr1 := below_cell hC C4.out; have qqr2 := below_cell hC HC1.out; go_simp; rfl); simp only [Act.put, List.setIfInBounds_toArray, List.set_cons_zero, List.set_cons_succ])
              | (refine qv_call' (by rfl) ?_; apply Exists.intro; apply Exists.intro; apply Exists.intro; refine ⟨fun w5 hC => ?_, fun w5 hC => ?_, ?_⟩; (go_simp; first | rfl | exact ⟨rfl, rfl⟩); (first | (go_at_call 45; with_reducible exact calls_in hC (HS1.out w5 hC))); simp only [Act.put, List.setIfInBounds_toArray, List.set_cons_zero, List.set_cons_succ]))
            refine qv_nil ?_
            intro w5 hC
            have HB5 := Lib.hid (below_trans HB.out hC)
            clear hC e1 e2 e3 e4
            go_wp2_with fail
            go_roundw
            case rel => exact ⟨d + 1, by go_num, by omega, by rw [range_any_succ, HAN.out, HFD.out]; rfl, HB5.out⟩
            case measure => simp [intOf]; omega
          | true =>
            rw [dv1] at HFD
            cases dv2 : decide (0 < v2) with
            | false =>
              rw [dv2] at HFD
              go_wp2_with fail
              refine wp_region_below (by kernel_rfl) (by kernel_rfl) ?_
              repeat (first
                | (refine qv_skip (by rfl) ?_; simp only [Act.put, List.setIfInBounds_toArray, List.set_cons_zero, List.set_cons_succ])
                | (refine qv_val' (by rfl) ?_; apply Exists.intro; refine ⟨fun w5 hC => ?_, ?_⟩; (have qqr0 := below_cell hC Z0.out; have qqr1 := below_cell hC C4.out; have qqr2 := below_cell hC HC1.out; have qqr3 := below_cell hC HC2.out; go_simp; rfl); simp only [Act.put, List.setIfInBounds_toArray, List.set_cons_zero, List.set_cons_succ])
                | (refine qv_call' (by rfl) ?_; apply Exists.intro; apply Exists.intro; apply Exists.intro; refine ⟨fun w5 hC => ?_, fun w5 hC => ?_, ?_⟩; (go_simp; first | rfl | exact ⟨rfl, rfl⟩); (first | (go_at_call 45; with_reducible exact calls_in hC (HS1.out w5 hC)) | (go_at_call 45; with_reducible exact calls_in hC (HS2.out w5 hC))); simp only [Act.put, List.setIfInBounds_toArray, List.set_cons_zero, List.set_cons_succ]))
              refine qv_nil ?_
              intro w5 hC
              have HB5 := Lib.hid (below_trans HB.out hC)
              clear hC e1 e2 e3 e4
              go_wp2_with fail
              go_roundw
              case rel => exact ⟨d + 1, by go_num, by omega, by rw [range_any_succ, HAN.out, HFD.out]; rfl, HB5.out⟩
              case measure => simp [intOf]; omega
            | true =>
              rw [dv2] at HFD
              go_wp2_with fail
              refine wp_region_below (by kernel_rfl) (by kernel_rfl) ?_
              repeat (first
                | (refine qv_skip (by rfl) ?_; simp only [Act.put, List.setIfInBounds_toArray, List.set_cons_zero, List.set_cons_succ])
                | (refine qv_val' (by rfl) ?_; apply Exists.intro; refine ⟨fun w5 hC => ?_, ?_⟩; (have qqr0 := below_cell hC Z0.out; have qqr1 := below_cell hC C4.out; have qqr2 := below_cell hC HC1.out; have qqr3 := below_cell hC HC2.out; go_simp; rfl); simp only [Act.put, List.setIfInBounds_toArray, List.set_cons_zero, List.set_cons_succ])
                | (refine qv_call' (by rfl) ?_; apply Exists.intro; apply Exists.intro; apply Exists.intro; refine ⟨fun w5 hC => ?_, fun w5 hC => ?_, ?_⟩; (go_simp; first | rfl | exact ⟨rfl, rfl⟩); (first | (go_at_call 45; with_reducible exact calls_in hC (HS1.out w5 hC)) | (go_at_call 45; with_reducible exact calls_in hC (HS2.out w5 hC))); simp only [Act.put, List.setIfInBounds_toArray, List.set_cons_zero, List.set_cons_succ]))
              refine qv_nil ?_
              intro w5 hC
              have HB5 := Lib.hid (below_trans HB.out hC)
              clear hC e1 e2 e3 e4
              go_wp2_with fail
              go_ret
              exact ⟨by rw [HV.out, show splitR (fun d => n s.name.toNat i (i + d)) (fun d => p (pl + 1) (i + d) j) N = true from range_any_at hlt HFD.out]; rfl, below_trans HB2.out HB5.out⟩
        · have hde : d = N := by omega
          have dk : decide (i + (d : Int) ≤ j) = false := decide_eq_false (by omega)
          subst hde
          go_wp2_with fail
          go_ret
          exact ⟨by rw [HV.out, show splitR (fun d => n s.name.toNat i (i + d)) (fun d => p (pl + 1) (i + d) j) d = false from HAN.out]; rfl, below_trans HB2.out HB.out⟩
end Go.Proofs.YtbidpeggdhkahaaGreat
