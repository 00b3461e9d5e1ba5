/-
  Mb: mean.Table's Rank, RestRank, Has, Rest; seqs.Is.
  Mc: mean.Table's RestRank, Rest.
-/
import Derived.Test.YtbidpeggdhkahaaMp
import Derived.Test.YtbidpeggdhkahaaMn
import Derived.Deep.RegionHeld3
set_option linter.unusedSimpArgs false
set_option linter.unusedVariables false
namespace Go.Proofs.Ytbidpeggdhkahaa
open Go.RowKit
attribute [local go_sem] max2_mxz max_mxz


set_option maxHeartbeats 1000000 in
theorem rank_any {w : World} {t : TS} {NM PL : Rk} (St : Stat w t) (F : t.Fits) (Rw : Rows w t NM PL) (k i j : Int) :
    Calls Try.prog 19 #[.pointer (some ⟨t.p, 0, none⟩), .int .i64 k, .int .i64 i, .int .i64 j] w
      fun e w' => e = .returned (.int .i64 (t.rank NM k i j)) ∧ Below w.heap.size w w' := by
  have hW := F.W32
  have hK := F.K64
  have S := St.now
  have f1 := S.cN
  have f2 := S.cW
  by_cases h1 : 0 ≤ k
  · have d1 : decide (k < 0) = false := by simp; omega
    by_cases h2 : k < t.K
    · have d2 : decide ((t.K : Int) ≤ k) = false := by simp; omega
      cases hs : spanB t i j with
      | false =>
        have hz : t.rank NM k i j = 0 := by simp [TS.rank, hs]
        have hs' : (decide (0 ≤ i) && decide (i ≤ j) && decide (j ≤ t.W.size)) = false := hs
        have HZ := Lib.hid hz
        clear hz
        go_enter Try.func19, Try.ntmps19
        go_wp2_with (go_at_call 26; refine (is_any t.p t.W i j _ (by assumption)).mono ?_; rintro e w' ⟨rfl, rfl⟩; rw [hs'])
        go_ret
        exact ⟨by rw [HZ.out]; rfl, Below.refl _ _⟩
      | true =>
        have hz : t.rank NM k i j = NM k.toNat i j := by simp [TS.rank, hs, nameK, h1, h2]
        have hs' : (decide (0 ≤ i) && decide (i ≤ j) && decide (j ≤ t.W.size)) = true := hs
        have hb := hs'
        simp only [Bool.and_eq_true, decide_eq_true_eq] at hb
        have hi0 := hb.1.1
        have hij := hb.1.2
        have hj := hb.2
        clear hb
        have HZ := Lib.hid hz
        have f3 := S.rN k.toNat (by omega)
        have f4 := (Rw.n k.toNat i j (by omega) (by omega) (by omega) (by omega) (by omega)).1
        have kb := key_bd t hi0 (by omega) (by omega) hj
        unfold TS.key at kb f4
        have kb1 := kb.1
        have kb2 := kb.2
        clear kb hz
        obtain ⟨kn, rfl⟩ : ∃ kn : Nat, k = (kn : Int) := ⟨k.toNat, by omega⟩
        simp only [Int.toNat_natCast] at f3 f4 HZ
        go_enter Try.func19, Try.ntmps19
        go_wp2_with (go_at_call 26; refine (is_any t.p t.W i j _ (by assumption)).mono ?_; rintro e w' ⟨rfl, rfl⟩; rw [hs'])
        go_quiet ((go_at_call 27; exact Calls.quiet_of_same (key_q t.p t.W _ _ _ f2 hW (by omega) (by omega) (by omega) (by omega))))
        go_wp2
        go_ret
        exact ⟨by rw [HZ.out]; rfl, pw_below_drewN (Below.refl _ _) _⟩
    · have hz : t.rank NM k i j = 0 := by simp [TS.rank, nameK, h2]
      have HZ := Lib.hid hz
      have h2' : (t.K : Int) ≤ k := by omega
      clear hz h2
      go_enter Try.func19, Try.ntmps19
      go_wp2
      go_ret
      exact ⟨by rw [HZ.out]; rfl, Below.refl _ _⟩
  · have hz : t.rank NM k i j = 0 := by simp [TS.rank, nameK, h1]
    have HZ := Lib.hid hz
    have h1' : k < 0 := by omega
    clear hz h1
    go_enter Try.func19, Try.ntmps19
    go_wp2
    go_ret
    exact ⟨by rw [HZ.out]; rfl, Below.refl _ _⟩
set_option maxHeartbeats 2000000 in
theorem seqsIs_any {w : World} {t : TS} (St : Stat w t) (F : t.Fits) (r c q : Int) :
    Calls Try.prog 28 #[.pointer (some ⟨t.p, 0, none⟩), .agg #[.int .i64 r, .int .i64 c, .int .i64 q]] w
      fun e w' => e = .returned (.bool (placeB t.G.rules r c q)) ∧ Below w.heap.size w w' := by
  have hrl := F.rules
  have hb0 : Below w.heap.size w (w.alloc (Obj.cells #[Value.int .i64 r, Value.int .i64 c, Value.int .i64 q] 57)) := below_alloc' (below_refl w) _
  have S := (St.below hb0).now
  have B0 := heap_alloc_new w (Obj.cells #[Value.int .i64 r, Value.int .i64 c, Value.int .i64 q] 57)
  generalize hw0 : w.alloc (Obj.cells #[Value.int .i64 r, Value.int .i64 c, Value.int .i64 q] 57) = w0 at hb0 S B0
  obtain ⟨cR, hR⟩ := S.cR
  have x0 : w0.cell? ⟨w.heap.size, 0, none⟩ = some (.int .i64 r) := blk_cell B0 0
  have x1 : w0.cell? ⟨w.heap.size, 1, none⟩ = some (.int .i64 c) := blk_cell B0 1
  have x2 : w0.cell? ⟨w.heap.size, 2, none⟩ = some (.int .i64 q) := blk_cell B0 2
  have HB := Lib.hid hb0
  clear hb0 B0
  by_cases h1 : 0 ≤ r
  · have d1 : decide (r < 0) = false := by simp; omega
    by_cases h2 : r < t.G.rules.length
    · have d2 : decide ((t.G.rules.length : Int) ≤ r) = false := by simp; omega
      obtain ⟨rn, rfl⟩ : ∃ rn : Nat, r = (rn : Int) := ⟨r.toNat, by omega⟩
      obtain ⟨x, hx⟩ : ∃ x, t.G.rules[rn]? = some x := ⟨_, List.getElem?_eq_getElem (by omega)⟩
      obtain ⟨ra, cC, era, lra, r0, r1⟩ := S.gR.rul rn x hx
      rw [era] at hR
      have hcn := (F.conj rn x hx).2
      by_cases h3 : 0 ≤ c
      · by_cases h4 : c < x.conj.length
        · obtain ⟨cn, rfl⟩ : ∃ cn : Nat, c = (cn : Int) := ⟨c.toNat, by omega⟩
          obtain ⟨y, hy⟩ : ∃ y, x.conj[cn]? = some y := ⟨_, List.getElem?_eq_getElem (by omega)⟩
          obtain ⟨ca, cS, eca, lca, c0, c1⟩ := S.gR.con rn x cn y hx hy
          rw [eca] at r1
          have hsn := F.seq rn x cn y hx hy
          have HZ := Lib.hid (show ∀ q, placeB t.G.rules rn cn q = (decide (0 ≤ q) && decide (q ≤ y.seq.length)) from fun q => by simp [placeB, hx, hy])
          clear era eca hx hy
          by_cases h5 : 0 ≤ q
          · by_cases h6 : q ≤ y.seq.length
            · have hf : placeB t.G.rules rn cn q = true := by rw [HZ.out]; simp [h5, h6]
              have HF := Lib.hid hf
              clear hf HZ
              go_enter Try.func28, Try.ntmps28
              go_wp2_with fail
              try rw [hw0]
              clear hw0
              go_quiet (fail)
              go_wp2_with fail
              go_quiet (fail)
              go_wp2_with fail
              go_quiet (fail)
              go_wp2
              go_ret
              exact ⟨by rw [HF.out]; rfl, pw_below_drewN (pw_below_drewN (pw_below_drewN HB.out _) _) _⟩
            · have d6 : decide (q ≤ (y.seq.length : Int)) = false := by simp; omega
              have hf : placeB t.G.rules rn cn q = false := by rw [HZ.out]; simp [h5, h6]
              have HF := Lib.hid hf
              clear hf HZ
              go_enter Try.func28, Try.ntmps28
              go_wp2_with fail
              try rw [hw0]
              clear hw0
              go_quiet (fail)
              go_wp2_with fail
              go_quiet (fail)
              go_wp2_with fail
              go_quiet (fail)
              go_wp2
              go_ret
              exact ⟨by rw [HF.out]; rfl, pw_below_drewN (pw_below_drewN (pw_below_drewN HB.out _) _) _⟩
          · have d5 : decide (0 ≤ q) = false := by simp; omega
            have hf : placeB t.G.rules rn cn q = false := by rw [HZ.out]; simp [h5]
            have HF := Lib.hid hf
            clear hf HZ
            go_enter Try.func28, Try.ntmps28
            go_wp2_with fail
            try rw [hw0]
            clear hw0
            go_quiet (fail)
            go_wp2_with fail
            go_quiet (fail)
            go_wp2_with fail
            go_quiet (fail)
            go_wp2
            go_ret
            exact ⟨by rw [HF.out]; rfl, pw_below_drewN (pw_below_drewN (pw_below_drewN HB.out _) _) _⟩
        · have d4 : decide (c < (x.conj.length : Int)) = false := by simp; omega
          have hf : placeB t.G.rules rn c q = false := by
            simp only [placeB, Int.toNat_natCast, hx]
            rw [List.getElem?_eq_none (by omega)]
            simp
          have HF := Lib.hid hf
          clear hf era hx
          go_enter Try.func28, Try.ntmps28
          go_wp2_with fail
          try rw [hw0]
          clear hw0
          go_quiet (fail)
          go_wp2_with fail
          go_quiet (fail)
          go_wp2_with fail
          go_quiet (fail)
          go_wp2
          go_ret
          exact ⟨by rw [HF.out]; rfl, pw_below_drewN (pw_below_drewN (pw_below_drewN HB.out _) _) _⟩
      · have d3 : decide (0 ≤ c) = false := by simp; omega
        have hf : placeB t.G.rules rn c q = false := by simp [placeB, hx, h3]
        have HF := Lib.hid hf
        clear hf era hx
        go_enter Try.func28, Try.ntmps28
        go_wp2_with fail
        try rw [hw0]
        clear hw0
        go_quiet (fail)
        go_wp2_with fail
        go_quiet (fail)
        go_wp2_with fail
        go_quiet (fail)
        go_wp2
        go_ret
        exact ⟨by rw [HF.out]; rfl, pw_below_drewN (pw_below_drewN (pw_below_drewN HB.out _) _) _⟩
    · have hf : placeB t.G.rules r c q = false := by
        simp only [placeB]
        rw [List.getElem?_eq_none (by omega)]
        simp
      have HF := Lib.hid hf
      have d2 : (t.G.rules.length : Int) ≤ r := by omega
      clear hf h2
      go_enter Try.func28, Try.ntmps28
      go_wp2_with fail
      try rw [hw0]
      clear hw0
      go_quiet (fail)
      go_wp2
      go_ret
      exact ⟨by rw [HF.out]; rfl, pw_below_drewN HB.out _⟩
  · have hf : placeB t.G.rules r c q = false := by simp [placeB, h1]
    have HF := Lib.hid hf
    have d1 : r < 0 := by omega
    clear hf h1
    go_enter Try.func28, Try.ntmps28
    go_wp2_with fail
    try rw [hw0]
    clear hw0
    go_quiet (fail)
    go_wp2
    go_ret
    exact ⟨by rw [HF.out]; rfl, pw_below_drewN HB.out _⟩
end Go.Proofs.Ytbidpeggdhkahaa

set_option linter.unusedSimpArgs false
set_option linter.unusedVariables false
namespace Go.Proofs.Ytbidpeggdhkahaa
open Go.RowKit
attribute [local go_sem] max2_mxz max_mxz


set_option maxHeartbeats 4000000 in
theorem restRank_any {w : World} {t : TS} {NM PL : Rk} (St : Stat w t) (F : t.Fits) (Rw : Rows w t NM PL) (r c q i j : Int) :
    Calls Try.prog 20 #[.pointer (some ⟨t.p, 0, none⟩), .agg #[.int .i64 r, .int .i64 c, .int .i64 q], .int .i64 i, .int .i64 j] w
      fun e w' => e = .returned (.int .i64 (t.rrank PL r c q i j)) ∧ Below w.heap.size w w' := by
  have hW := F.W32
  have hb0 : Below w.heap.size w (w.alloc (Obj.cells #[Value.int .i64 r, Value.int .i64 c, Value.int .i64 q] 57)) := below_alloc' (below_refl w) _
  have St0 := Lib.hid (St.below hb0)
  have Rw0 := Lib.hid (Rw.below hb0)
  have B0 := heap_alloc_new w (Obj.cells #[Value.int .i64 r, Value.int .i64 c, Value.int .i64 q] 57)
  generalize hw0 : w.alloc (Obj.cells #[Value.int .i64 r, Value.int .i64 c, Value.int .i64 q] 57) = w0 at hb0 St0 B0 Rw0
  have x0 : w0.cell? ⟨w.heap.size, 0, none⟩ = some (.int .i64 r) := blk_cell B0 0
  have x1 : w0.cell? ⟨w.heap.size, 1, none⟩ = some (.int .i64 c) := blk_cell B0 1
  have x2 : w0.cell? ⟨w.heap.size, 2, none⟩ = some (.int .i64 q) := blk_cell B0 2
  have HB := Lib.hid hb0
  clear B0
  have C1 := Lib.hid (seqsIs_any (St0.out.drew) F r c q)
  cases hp : placeB t.G.rules r c q with
  | false =>
    have hz : t.rrank PL r c q i j = 0 := by simp [TS.rrank, hp]
    have HZ := Lib.hid hz
    rw [hp] at C1
    clear hz hp
    go_enter Try.func20, Try.ntmps20
    go_wp2_with fail
    try rw [hw0]
    clear hw0
    first | (go_region_with (go_at_call 28; refine C1.out.mono ?_; rintro e w2 ⟨rfl, hb2⟩; have HB2 := Lib.hid hb2; clear hb2)) | fail
    all_goals
      go_wp2
      go_ret
      exact ⟨by rw [HZ.out]; rfl, below_then (w1 := w0.drew) (HB.out.drew) HB2.out⟩
  | true =>
    cases hs : spanB t i j with
    | false =>
      have hz : t.rrank PL r c q i j = 0 := by simp [TS.rrank, hs]
      have hs' : (decide (0 ≤ i) && decide (i ≤ j) && decide (j ≤ t.W.size)) = false := hs
      have HZ := Lib.hid hz
      rw [hp] at C1
      clear hz hp hs
      go_enter Try.func20, Try.ntmps20
      go_wp2_with fail
      try rw [hw0]
      clear hw0
      first | (go_region_with (first | (go_at_call 28; refine C1.out.mono ?_; rintro e w2 ⟨rfl, hb2⟩; have S2 := Lib.hid (St0.out.drew.below hb2); have HB2 := Lib.hid hb2; clear hb2) | (go_at_call 26; refine (is_any t.p t.W i j _ S2.out.now.cW).mono ?_; rintro e w' ⟨rfl, rfl⟩; rw [hs']))) | fail
      all_goals
        go_wp2
        go_ret
        exact ⟨by rw [HZ.out]; rfl, below_then (w1 := w0.drew) (HB.out.drew) HB2.out⟩
    | true =>
      have hs' : (decide (0 ≤ i) && decide (i ≤ j) && decide (j ≤ t.W.size)) = true := hs
      have hb := hs'
      simp only [Bool.and_eq_true, decide_eq_true_eq] at hb
      have hi0 := hb.1.1
      have hij := hb.1.2
      have hj := hb.2
      clear hb
      obtain ⟨rn, cn, qn, x, y, rfl, rfl, rfl, hx, hy, hq⟩ := place_of hp
      have hz : t.rrank PL rn cn qn i j = PL (t.off rn cn + qn) i j := by simp [TS.rrank, hp, hs]
      have HZ := Lib.hid hz
      rw [hp] at C1
      have hoff := F.off rn x cn y hx hy
      have hQ := F.Q
      have kb := key_bd t hi0 (by omega) (by omega) hj
      unfold TS.key at kb
      have kb1 := kb.1
      have kb2 := kb.2
      have e1 : IntKind.i64.wrap ((t.off rn cn : Int) + qn) = (t.off rn cn : Int) + qn := IntWalk.i64_in _ (by omega)
      have hrl : rn < t.G.rules.length := (List.getElem?_eq_some_iff.1 hx).1
      have hcl : cn < x.conj.length := (List.getElem?_eq_some_iff.1 hy).1
      have HX := Lib.hid hx
      have HY := Lib.hid hy
      have HO := Lib.hid (show ((t.off rn cn : Int) + qn).toNat = t.off rn cn + qn by omega)
      have g0 : (0 : Int) ≤ (t.off rn cn : Int) + qn := by omega
      have g1 : (t.off rn cn : Int) + qn < t.Q := by omega
      clear hz hp hs kb hx hy
      go_enter Try.func20, Try.ntmps20
      go_wp2_with fail
      try rw [hw0]
      clear hw0
      first | (go_region_with (first | (go_at_call 28; refine C1.out.mono ?_; rintro e w2 ⟨rfl, hb2⟩; have j1 := below_cell (w := w0.drew) hb2 x0; have j2 := below_cell (w := w0.drew) hb2 x1; have j3 := below_cell (w := w0.drew) hb2 x2; have S2 := Lib.hid (St0.out.drew.below hb2); have R2 := Lib.hid (Rw0.out.drew.below hb2); have HB2 := Lib.hid hb2; clear hb2) | (go_at_call 26; refine (is_any t.p t.W i j _ S2.out.now.cW).mono ?_; rintro e w' ⟨rfl, rfl⟩; rw [hs']))) | fail
      all_goals
        have f1 := S2.out.now.cP
        have f2 := S2.out.now.cA
        have f3 := S2.out.now.rA rn x HX.out
        have f4 := S2.out.now.oA rn x cn y HX.out HY.out
        have f5 : w2.cell? ⟨t.pb, ((t.off rn cn : Int) + qn).toNat, none⟩ = some (.slice (some ⟨t.pr (t.off rn cn + qn), 0, none⟩) t.S (t.yP (t.off rn cn + qn))) := by rw [HO.out]; exact S2.out.now.rP (t.off rn cn + qn) (by omega)
        have f6 := S2.out.now.cW
        have f7 := (R2.out.p (t.off rn cn + qn) i j (by omega) (by omega) (by omega) (by omega) (by omega)).1
        unfold TS.key at f7
        go_wp2_with fail
        go_quiet ((go_at_call 27; exact Calls.quiet_of_same (key_q t.p t.W _ _ _ f6 hW (by omega) (by omega) (by omega) (by omega))))
        go_wp2
        go_ret
        exact ⟨by rw [HZ.out]; rfl, pw_below_drewN (below_then (w1 := w0.drew) (HB.out.drew) HB2.out) _⟩
end Go.Proofs.Ytbidpeggdhkahaa
