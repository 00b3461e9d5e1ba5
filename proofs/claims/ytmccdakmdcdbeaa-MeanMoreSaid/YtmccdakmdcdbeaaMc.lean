/-
  Mc: mean.Table's RestRank, Rest.
-/
import Derived.Test.YtmccdakmdcdbeaaMb
import Derived.Deep.RegionHeld3
set_option linter.unusedSimpArgs false
set_option linter.unusedVariables false
namespace Go.Proofs.Ytmccdakmdcdbeaa
open Go.RowKit
attribute [local go_sem] max2_mxz max_mxz

theorem place_of {rules : List Rul} {r c q : Int} (h : placeB rules r c q = true) : ∃ (rn cn qn : Nat) (x : Rul) (y : Conj), r = (rn : Int) ∧ c = (cn : Int) ∧ q = (qn : Int) ∧ rules[rn]? = some x ∧ x.conj[cn]? = some y ∧ qn ≤ y.seq.length := by
  unfold placeB at h
  cases hx : rules[r.toNat]? with
  | none => rw [hx] at h; simp at h
  | some x =>
    rw [hx] at h
    cases hy : x.conj[c.toNat]? with
    | none => simp [hy] at h
    | some y =>
      simp only [hy, Bool.and_eq_true, decide_eq_true_eq] at h
      exact ⟨r.toNat, c.toNat, q.toNat, x, y, by omega, by omega, by omega, hx, hy, by omega⟩

set_option maxHeartbeats 4000000 in
theorem restRank_any {w : World} {t : TS} {NM PL : Rk} (St : Stat w t) (F : t.Fits) (Rw : Rows w t NM PL) (r c q i j : Int) :
    Calls Try.prog 25 #[.pointer (some ⟨t.p, 0, none⟩), .agg #[.int .i64 r, .int .i64 c, .int .i64 q], .int .i64 i, .int .i64 j] w
      fun e w' => e = .returned (.int .i64 (t.rrank PL r c q i j)) ∧ Below w.heap.size w w' := by
  have hW := F.W32
  have hb0 : Below w.heap.size w (w.alloc (Obj.cells #[Value.int .i64 r, Value.int .i64 c, Value.int .i64 q] 56)) := below_alloc' (below_refl w) _
  have St0 := Lib.hid (St.below hb0)
  have Rw0 := Lib.hid (Rw.below hb0)
  have B0 := heap_alloc_new w (Obj.cells #[Value.int .i64 r, Value.int .i64 c, Value.int .i64 q] 56)
  generalize hw0 : w.alloc (Obj.cells #[Value.int .i64 r, Value.int .i64 c, Value.int .i64 q] 56) = w0 at hb0 St0 B0 Rw0
  have x0 : w0.cell? ⟨w.heap.size, 0, none⟩ = some (.int .i64 r) := blk_cell B0 0
  have x1 : w0.cell? ⟨w.heap.size, 1, none⟩ = some (.int .i64 c) := blk_cell B0 1
  have x2 : w0.cell? ⟨w.heap.size, 2, none⟩ = some (.int .i64 q) := blk_cell B0 2
  have HB := Lib.hid hb0
  clear B0
  have C1 := Lib.hid (seqsIs_any (St0.out.drew) F r c q)
  cases hp : placeB t.G.rules r c q with
  | false =>
    have hz : t.rrank PL r c q i j = 0 := by simp [TS.rrank, hp]
    have HZ := Lib.hid hz
    rw [hp] at C1
    clear hz hp
    go_enter Try.func25, Try.ntmps25
    go_wp2_with fail
    try rw [hw0]
    clear hw0
    first | (go_region_with (go_at_call 36; refine C1.out.mono ?_; rintro e w2 ⟨rfl, hb2⟩; have HB2 := Lib.hid hb2; clear hb2)) | fail
    all_goals
      go_wp2
      go_ret
      exact ⟨by rw [HZ.out]; rfl, below_then (w1 := w0.drew) (HB.out.drew) HB2.out⟩
  | true =>
    cases hs : spanB t i j with
    | false =>
      have hz : t.rrank PL r c q i j = 0 := by simp [TS.rrank, hs]
      have hs' : (decide (0 ≤ i) && decide (i ≤ j) && decide (j ≤ t.W.size)) = false := hs
      have HZ := Lib.hid hz
      rw [hp] at C1
      clear hz hp hs
      go_enter Try.func25, Try.ntmps25
      go_wp2_with fail
      try rw [hw0]
      clear hw0
      first | (go_region_with (first | (go_at_call 36; refine C1.out.mono ?_; rintro e w2 ⟨rfl, hb2⟩; have S2 := Lib.hid (St0.out.drew.below hb2); have HB2 := Lib.hid hb2; clear hb2) | (go_at_call 31; refine (is_any t.p t.W i j _ S2.out.now.cW).mono ?_; rintro e w' ⟨rfl, rfl⟩; rw [hs']))) | fail
      all_goals
        go_wp2
        go_ret
        exact ⟨by rw [HZ.out]; rfl, below_then (w1 := w0.drew) (HB.out.drew) HB2.out⟩
    | true =>
      have hs' : (decide (0 ≤ i) && decide (i ≤ j) && decide (j ≤ t.W.size)) = true := hs
      have hb := hs'
      simp only [Bool.and_eq_true, decide_eq_true_eq] at hb
      have hi0 := hb.1.1
      have hij := hb.1.2
      have hj := hb.2
      clear hb
      obtain ⟨rn, cn, qn, x, y, rfl, rfl, rfl, hx, hy, hq⟩ := place_of hp
      have hz : t.rrank PL rn cn qn i j = PL (t.off rn cn + qn) i j := by simp [TS.rrank, hp, hs]
      have HZ := Lib.hid hz
      rw [hp] at C1
      have hoff := F.off rn x cn y hx hy
      have hQ := F.Q
      have kb := key_bd t hi0 (by omega) (by omega) hj
      unfold TS.key at kb
      have kb1 := kb.1
      have kb2 := kb.2
      have e1 : IntKind.i64.wrap ((t.off rn cn : Int) + qn) = (t.off rn cn : Int) + qn := IntWalk.i64_in _ (by omega)
      have hrl : rn < t.G.rules.length := (List.getElem?_eq_some_iff.1 hx).1
      have hcl : cn < x.conj.length := (List.getElem?_eq_some_iff.1 hy).1
      have HX := Lib.hid hx
      have HY := Lib.hid hy
      have HO := Lib.hid (show ((t.off rn cn : Int) + qn).toNat = t.off rn cn + qn by omega)
      have g0 : (0 : Int) ≤ (t.off rn cn : Int) + qn := by omega
      have g1 : (t.off rn cn : Int) + qn < t.Q := by omega
      clear hz hp hs kb hx hy
      go_enter Try.func25, Try.ntmps25
      go_wp2_with fail
      try rw [hw0]
      clear hw0
      first | (go_region_with (first | (go_at_call 36; refine C1.out.mono ?_; rintro e w2 ⟨rfl, hb2⟩; have j1 := below_cell (w := w0.drew) hb2 x0; have j2 := below_cell (w := w0.drew) hb2 x1; have j3 := below_cell (w := w0.drew) hb2 x2; have S2 := Lib.hid (St0.out.drew.below hb2); have R2 := Lib.hid (Rw0.out.drew.below hb2); have HB2 := Lib.hid hb2; clear hb2) | (go_at_call 31; refine (is_any t.p t.W i j _ S2.out.now.cW).mono ?_; rintro e w' ⟨rfl, rfl⟩; rw [hs']))) | fail
      all_goals
        have f1 := S2.out.now.cP
        have f2 := S2.out.now.cA
        have f3 := S2.out.now.rA rn x HX.out
        have f4 := S2.out.now.oA rn x cn y HX.out HY.out
        have f5 : w2.cell? ⟨t.pb, ((t.off rn cn : Int) + qn).toNat, none⟩ = some (.slice (some ⟨t.pr (t.off rn cn + qn), 0, none⟩) t.S (t.yP (t.off rn cn + qn))) := by rw [HO.out]; exact S2.out.now.rP (t.off rn cn + qn) (by omega)
        have f6 := S2.out.now.cW
        have f7 := (R2.out.p (t.off rn cn + qn) i j (by omega) (by omega) (by omega) (by omega) (by omega)).1
        unfold TS.key at f7
        go_wp2_with fail
        go_quiet ((go_at_call 32; exact Calls.quiet_of_same (key_q t.p t.W _ _ _ f6 hW (by omega) (by omega) (by omega) (by omega))))
        go_wp2
        go_ret
        exact ⟨by rw [HZ.out]; rfl, pw_below_drewN (below_then (w1 := w0.drew) (HB.out.drew) HB2.out) _⟩
set_option maxHeartbeats 1000000 in
theorem restHas_any {w : World} {t : TS} {NM PL : Rk} (St : Stat w t) (F : t.Fits) (Rw : Rows w t NM PL) (r c q i j : Int) :
    Calls Try.prog 24 #[.pointer (some ⟨t.p, 0, none⟩), .agg #[.int .i64 r, .int .i64 c, .int .i64 q], .int .i64 i, .int .i64 j] w
      fun e w' => e = .returned (.bool (decide (0 < t.rrank PL r c q i j))) ∧ Below w.heap.size w w' := by
  have hb0 : Below w.heap.size w (w.alloc (Obj.cells #[Value.int .i64 r, Value.int .i64 c, Value.int .i64 q] 56)) := below_alloc' (below_refl w) _
  have St0 := Lib.hid (St.below hb0)
  have Rw0 := Lib.hid (Rw.below hb0)
  have B0 := heap_alloc_new w (Obj.cells #[Value.int .i64 r, Value.int .i64 c, Value.int .i64 q] 56)
  generalize hw0 : w.alloc (Obj.cells #[Value.int .i64 r, Value.int .i64 c, Value.int .i64 q] 56) = w0 at hb0 St0 B0 Rw0
  have x0 : w0.cell? ⟨w.heap.size, 0, none⟩ = some (.int .i64 r) := blk_cell B0 0
  have x1 : w0.cell? ⟨w.heap.size, 1, none⟩ = some (.int .i64 c) := blk_cell B0 1
  have x2 : w0.cell? ⟨w.heap.size, 2, none⟩ = some (.int .i64 q) := blk_cell B0 2
  have HB := Lib.hid hb0
  have C := Lib.hid (restRank_any St0.out F Rw0.out r c q i j)
  clear B0
  go_enter Try.func24, Try.ntmps24
  go_wp2_with (go_at_call 25; refine C.out.mono ?_; rintro e w' ⟨rfl, hb⟩; have HB2 := Lib.hid hb; clear hb)
  go_ret
  exact ⟨rfl, below_then HB.out HB2.out⟩
end Go.Proofs.Ytmccdakmdcdbeaa
