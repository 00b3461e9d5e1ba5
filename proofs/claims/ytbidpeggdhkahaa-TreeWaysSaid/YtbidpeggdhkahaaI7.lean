/-
  I7: (*ways.Maker).byte.
-/
import Derived.Test.YtbidpeggdhkahaaI6
import Derived.Test.YtbidpeggdhkahaaA4
set_option linter.unusedSimpArgs false
set_option linter.unusedVariables false
namespace Go.Proofs.Ytbidpeggdhkahaa
open Go.RowKit

set_option maxRecDepth 100000 in
set_option maxHeartbeats 4000000 in
/-- (*ways.Maker).byte. -/
theorem mByte {w : World} {m : MK} (h : MKAt w m) (F : m.Fits) (k : Ky) (s : Sym) (i0 : 0 ≤ k.i) (ij : k.i ≤ k.j) (j1 : k.j ≤ m.t.W.size) (hq : 0 ≤ k.plc.pos) (hq1 : k.plc.pos ≤ 64) :
    Calls Try.prog 30 #[.pointer (some ⟨m.p, 0, none⟩), kyV k, .agg #[.int .i64 s.name, .int .i64 s.lo, .int .i64 s.hi]] w (PicksPost w (byteStep m.t.W k s)) := by
  have hW := F.H.F.W32
  have hb0 : Below w.heap.size w ((w.alloc (kyO k)).alloc (.cells #[.int .i64 s.name, .int .i64 s.lo, .int .i64 s.hi] 44)) := below_alloc' (below_alloc' (below_refl w) _) _
  have H0 := Lib.hid (h.mono hb0)
  have x4 := heap_alloc2_old w (kyO k) (.cells #[.int .i64 s.name, .int .i64 s.lo, .int .i64 s.hi] 44)
  have x5 := heap_alloc2_new w (kyO k) (.cells #[.int .i64 s.name, .int .i64 s.lo, .int .i64 s.hi] 44)
  obtain ⟨b0, hb⟩ : ∃ b0, b0 = w.heap.size := ⟨_, rfl⟩
  have hbt := btz_at m.t.W k.i
  have hbr := btz_range m.t.W k.i
  clear h
  unfold kyV
  go_enter Try.func30, Try.ntmps30
  go_upto_region 1 with fail
  change Code.wp _ _ _ _ ((w.alloc (kyO k)).alloc (.cells #[.int .i64 s.name, .int .i64 s.lo, .int .i64 s.hi] 44))
  rw [← hb] at x4 x5 ⊢
  generalize (w.alloc (kyO k)).alloc (.cells #[.int .i64 s.name, .int .i64 s.lo, .int .i64 s.hi] 44) = w0 at hb0 H0 x4 x5 ⊢
  have K := kyAt_blk x4
  have HX4 := Lib.hid x4
  have HB0 := Lib.hid hb0
  have M1 := Lib.hid H0.out.m1
  have K0 := Lib.hid K.c0
  have K1 := Lib.hid K.c1
  have K2 := Lib.hid K.c2
  have K3 := Lib.hid K.c3
  have K4 := Lib.hid K.c4
  have K5 := Lib.hid K.c5
  have K6 := Lib.hid K.c6
  have S1 := Lib.hid (show w0.cell? ⟨b0 + 1, 1, none⟩ = some (.int .i64 s.lo) by simpa using blk_cell x5 1)
  have S2 := Lib.hid (show w0.cell? ⟨b0 + 1, 2, none⟩ = some (.int .i64 s.hi) by simpa using blk_cell x5 2)
  clear hb0 hb x4 x5 K
  by_cases h1 : k.i = k.j
  · have HV := Lib.hid (show byteStep m.t.W k s = [] by unfold byteStep; rw [if_pos (.inl h1)])
    have d1 : (k.i == k.j) = true := by simpa using h1
    clear h1 hbt
    refine wp_region_below (by kernel_rfl) (by kernel_rfl) ?_
    repeat (first
      | (refine qv_skip (by rfl) ?_; simp only [Act.put, List.setIfInBounds_toArray, List.set_cons_zero, List.set_cons_succ])
      | (refine qv_val' (by rfl) ?_; apply Exists.intro; refine ⟨fun w5 hC => ?_, ?_⟩; (have qqr0 := below_cell hC K5.out; have qqr1 := below_cell hC K6.out; go_simp; rfl); simp only [Act.put, List.setIfInBounds_toArray, List.set_cons_zero, List.set_cons_succ]))
    refine qv_nil ?_
    intro w5 hC
    have HB5 := Lib.hid hC
    clear hC
    go_wp2_with fail
    go_ret
    rw [HV.out]
    exact picksPost_nil (below_then HB0.out HB5.out)
  · have d1 : (k.i == k.j) = false := by simpa using h1
    have hlt : k.i < k.j := by omega
    have b1 : k.i < m.t.W.size := by omega
    have b2 : k.i.toNat < m.t.W.size := by omega
    have hbt' := hbt b2
    have ew : IntKind.i64.wrap (btz m.t.W k.i) = btz m.t.W k.i := IntWalk.i64_in _ (by omega)
    clear hbt
    by_cases h2 : btz m.t.W k.i < s.lo
    · have HV := Lib.hid (show byteStep m.t.W k s = [] by unfold byteStep; rw [if_pos (.inr (.inl h2))])
      have d2 : decide (btz m.t.W k.i < s.lo) = true := by simpa using h2
      clear h1 h2
      refine wp_region_below (by kernel_rfl) (by kernel_rfl) ?_
      repeat (first
        | (refine qv_skip (by rfl) ?_; simp only [Act.put, List.setIfInBounds_toArray, List.set_cons_zero, List.set_cons_succ])
        | (refine qv_val' (by rfl) ?_; apply Exists.intro; refine ⟨fun w5 hC => ?_, ?_⟩; (have qqr0 := below_cell hC K5.out; have qqr1 := below_cell hC K6.out; have qqr2 := below_cell hC M1.out; have qqr3 := below_cell hC S1.out; go_simp; rfl); simp only [Act.put, List.setIfInBounds_toArray, List.set_cons_zero, List.set_cons_succ]))
      refine qv_nil ?_
      intro w5 hC
      have HB5 := Lib.hid hC
      clear hC
      go_wp2_with fail
      go_ret
      rw [HV.out]
      exact picksPost_nil (below_then HB0.out HB5.out)
    · have d2 : decide (btz m.t.W k.i < s.lo) = false := by simpa using h2
      by_cases h3 : s.hi < btz m.t.W k.i
      · have HV := Lib.hid (show byteStep m.t.W k s = [] by unfold byteStep; rw [if_pos (.inr (.inr h3))])
        have d3 : decide (s.hi < btz m.t.W k.i) = true := by simpa using h3
        clear h1 h2 h3
        refine wp_region_below (by kernel_rfl) (by kernel_rfl) ?_
        repeat (first
          | (refine qv_skip (by rfl) ?_; simp only [Act.put, List.setIfInBounds_toArray, List.set_cons_zero, List.set_cons_succ])
          | (refine qv_val' (by rfl) ?_; apply Exists.intro; refine ⟨fun w5 hC => ?_, ?_⟩; (have qqr0 := below_cell hC K5.out; have qqr1 := below_cell hC K6.out; have qqr2 := below_cell hC M1.out; have qqr3 := below_cell hC S1.out; have qqr4 := below_cell hC S2.out; go_simp; rfl); simp only [Act.put, List.setIfInBounds_toArray, List.set_cons_zero, List.set_cons_succ]))
        refine qv_nil ?_
        intro w5 hC
        have HB5 := Lib.hid hC
        clear hC
        go_wp2_with fail
        go_ret
        rw [HV.out]
        exact picksPost_nil (below_then HB0.out HB5.out)
      · have HV := Lib.hid (show byteStep m.t.W k s = [⟨k.i + 1, 0, [seqKey (onP k.plc) (k.i + 1) k.j]⟩] by unfold byteStep; rw [if_neg]; rintro (h | h | h) <;> contradiction)
        have d3 : decide (s.hi < btz m.t.W k.i) = false := by simpa using h3
        clear h1 h2 h3
        refine wp_region_below (by kernel_rfl) (by kernel_rfl) ?_
        repeat (first
          | (refine qv_skip (by rfl) ?_; simp only [Act.put, List.setIfInBounds_toArray, List.set_cons_zero, List.set_cons_succ])
          | (refine qv_val' (by rfl) ?_; apply Exists.intro; refine ⟨fun w5 hC => ?_, ?_⟩; (have qqr0 := below_cell hC K5.out; have qqr1 := below_cell hC K6.out; have qqr2 := below_cell hC M1.out; have qqr3 := below_cell hC S1.out; have qqr4 := below_cell hC S2.out; go_simp; rfl); simp only [Act.put, List.setIfInBounds_toArray, List.set_cons_zero, List.set_cons_succ]))
        refine qv_nil ?_
        intro w5 hC
        have HB5 := Lib.hid hC
        have k2 := below_cell hC K2.out
        have k3 := below_cell hC K3.out
        have k4 := below_cell hC K4.out
        clear hC
        have e1 : IntKind.i64.wrap (k.plc.pos + 1) = k.plc.pos + 1 := IntWalk.i64_in _ (by omega)
        have e2 : IntKind.i64.wrap (k.i + 1) = k.i + 1 := IntWalk.i64_in _ (by omega)
        go_upto_region 5 with fail
        obtain ⟨bp, hbp⟩ : ∃ bp, bp = w5.heap.size := ⟨_, rfl⟩
        have hb6 : Below w5.heap.size w5 (w5.alloc (.cells #[.int .i64 k.plc.rule, .int .i64 k.plc.conj, .int .i64 (k.plc.pos + 1)] 57)) := below_alloc' (below_refl w5) _
        have B6 := heap_alloc_new w5 (.cells #[.int .i64 k.plc.rule, .int .i64 k.plc.conj, .int .i64 (k.plc.pos + 1)] 57)
        rw [← hbp] at B6 ⊢
        generalize w5.alloc (.cells #[.int .i64 k.plc.rule, .int .i64 k.plc.conj, .int .i64 (k.plc.pos + 1)] 57) = w6 at hb6 B6 ⊢
        have kS := Lib.hid (fun (W : World) (hW : Below w6.heap.size w6 W) => (show W.cell? ⟨b0, 5, none⟩ = some (.int .i64 k.i) ∧ W.cell? ⟨b0, 6, none⟩ = some (.int .i64 k.j) ∧ W.cell? ⟨bp, 0, none⟩ = some (.int .i64 k.plc.rule) ∧ W.cell? ⟨bp, 1, none⟩ = some (.int .i64 k.plc.conj) ∧ W.cell? ⟨bp, 2, none⟩ = some (.int .i64 (k.plc.pos + 1)) from
          ⟨by simpa using below_cell hW (below_cell hb6 (below_cell HB5.out K5.out)), by simpa using below_cell hW (below_cell hb6 (below_cell HB5.out K6.out)), blk_cell (blk_below B6 hW) 0, blk_cell (blk_below B6 hW) 1, blk_cell (blk_below B6 hW) 2⟩))
        have HB6 := Lib.hid (below_then HB0.out (below_then HB5.out hb6))
        clear hb6 B6 hbp k2 k3 k4
        go_region_held3 (fun W => W.cell? ⟨b0, 5, none⟩ = some (.int .i64 k.i) ∧ W.cell? ⟨b0, 6, none⟩ = some (.int .i64 k.j) ∧ W.cell? ⟨bp, 0, none⟩ = some (.int .i64 k.plc.rule) ∧ W.cell? ⟨bp, 1, none⟩ = some (.int .i64 k.plc.conj) ∧ W.cell? ⟨bp, 2, none⟩ = some (.int .i64 (k.plc.pos + 1)))
          (exact kS.out _ (by repeat (first | exact HB7.out | exact below_refl _ | apply below_alloc' | apply below_drew')))
          (first
            | (go_at_call 38; refine (wRest (onP k.plc) (k.i + 1) k.j _).mono ?_; rintro e w7 ⟨he, hb7⟩; change e = .returned (.agg #[.int .i64 1, .int .i64 0, .int .i64 k.plc.rule, .int .i64 k.plc.conj, .int .i64 (k.plc.pos + 1), .int .i64 (k.i + 1), .int .i64 k.j]) at he; subst he; have HB7 := Lib.hid (show Below w6.heap.size w6 w7 from below_then (below_drew' (below_refl _)) hb7); clear hb7)
            | fail)
        all_goals
          go_wp2_with fail
          go_ret
          rw [HV.out]
          have g0 := heap_alloc2_old w7 (.cells (kyCs (seqKey (onP k.plc) (k.i + 1) k.j)).toArray 59) (.cells #[.int .i64 (k.i + 1), .int .i64 0, .slice (some ⟨w7.heap.size, 0, none⟩) 1 1] 77)
          have g1 := heap_alloc2_new w7 (.cells (kyCs (seqKey (onP k.plc) (k.i + 1) k.j)).toArray 59) (.cells #[.int .i64 (k.i + 1), .int .i64 0, .slice (some ⟨w7.heap.size, 0, none⟩) 1 1] 77)
          refine ⟨some ⟨w7.heap.size + 1, 0, none⟩, 1, rfl, Nat.le_refl _, by decide, fun w'' hu => ?_, below_then HB6.out (below_then HB7.out (below_alloc' (below_alloc' (below_refl _) _) _))⟩
          have hz : w.heap.size ≤ w7.heap.size := Nat.le_trans HB6.out.size HB7.out.size
          have g0 := (hu.block _ (blk_lt g0) (by omega)).trans g0
          have g1 := (hu.block _ (blk_lt g1) (by omega)).trans g1
          exact C_blk [[.int .i64 (k.i + 1), .int .i64 0, .slice (some ⟨w7.heap.size, 0, none⟩) 1 1]] g1 rfl ⟨⟨stpRd_mk (x := ⟨k.i + 1, 0, [seqKey (onP k.plc) (k.i + 1) k.j]⟩) (Nat.le_refl 1) (by decide) (C_blk [kyCs (seqKey (onP k.plc) (k.i + 1) k.j)] g0 rfl ⟨⟨rfl, rfl⟩, trivial⟩), rfl⟩, trivial⟩
end Go.Proofs.Ytbidpeggdhkahaa
