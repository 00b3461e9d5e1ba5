/-
  N6: the document's own table: place, RestRank, Rest.
  N7: the document's own table: Symbol, Byte, rest.
-/
import Derived.Test.YtbidpeggdhkahaaGreatN5
set_option linter.unusedSimpArgs false
set_option linter.unusedVariables false
namespace Go.Proofs.YtbidpeggdhkahaaGreat
open Go.RowKit

theorem RTAt.below {w w5 : World} {t : RT} (A : RTAt w t) (h5 : Below w.heap.size w w5) : RTAt w5 t :=
  ⟨below_cell h5 A.c1, below_cell h5 A.c2, below_cell h5 A.c3, below_cell h5 A.c4, below_cell h5 A.c5, below_cell h5 A.c6, below_cell h5 A.c7, A.rul.mono h5, fun r x hx => ⟨below_cell h5 (A.cj r x hx).1, fun c hc => below_cell h5 ((A.cj r x hx).2 c hc)⟩⟩
set_option maxRecDepth 100000 in
set_option maxHeartbeats 8000000 in
theorem rplace_any {w : World} {t : RT} (A : RTAt w t) (F : t.Fits) (r c q : Int) :
    Calls Tryz.prog 66 #[.pointer (some ⟨t.p, 0, none⟩), .agg #[.int .i64 r, .int .i64 c, .int .i64 q]] w fun e w' => e = .returned (.int .i64 (plcV t r c q)) ∧ Below w.heap.size w w' := by
  have hrl := F.may.rules
  have hQ := (gfits_of (lev := List.replicate t.G.names.length 0) F.may (by simp)).Q
  have hb0 : Below w.heap.size w (w.alloc (Obj.cells #[Value.int .i64 r, Value.int .i64 c, Value.int .i64 q] 57)) := below_alloc' (below_refl w) _
  have B0 := heap_alloc_new w (Obj.cells #[Value.int .i64 r, Value.int .i64 c, Value.int .i64 q] 57)
  have hC2 := below_cell hb0 A.c2
  have hC6 := below_cell hb0 A.c6
  have hrul := A.rul.mono hb0
  have hcj : ∀ (r : Nat) (x : Rul), t.G.rules[r]? = some x → (w.alloc (Obj.cells #[Value.int .i64 r, Value.int .i64 c, Value.int .i64 q] 57)).cell? ⟨t.cb, r, none⟩ = some (.slice (some ⟨t.ar r, 0, none⟩) x.conj.length (t.xA r)) ∧ True := fun r' x hx => ⟨below_cell (below_alloc' (below_refl w) _) (A.cj r' x hx).1, trivial⟩
  clear hcj
  have HA := Lib.hid A
  generalize hw0 : w.alloc (Obj.cells #[Value.int .i64 r, Value.int .i64 c, Value.int .i64 q] 57) = w0 at hb0 B0 hC2 hC6 hrul
  have X0 := Lib.hid (show w0.cell? ⟨w.heap.size, 0, none⟩ = some (.int .i64 r) from blk_cell B0 0)
  have X1 := Lib.hid (show w0.cell? ⟨w.heap.size, 1, none⟩ = some (.int .i64 c) from blk_cell B0 1)
  have X2 := Lib.hid (show w0.cell? ⟨w.heap.size, 2, none⟩ = some (.int .i64 q) from blk_cell B0 2)
  have HB := Lib.hid hb0
  have Q2 := Lib.hid hC2
  have Q6 := Lib.hid hC6
  clear A B0 hC2 hC6 hb0
  by_cases h1 : 0 ≤ r
  · have d1 : decide (r < 0) = false := decide_eq_false (by omega)
    by_cases h2 : r < t.G.rules.length
    · have d2 : decide ((t.G.rules.length : Int) ≤ r) = false := decide_eq_false (by omega)
      obtain ⟨rn, rfl⟩ : ∃ rn : Nat, r = (rn : Int) := ⟨r.toNat, by omega⟩
      have d2' : decide (t.G.rules.length ≤ rn) = false := decide_eq_false (by omega)
      obtain ⟨x, hx⟩ : ∃ x, t.G.rules[rn]? = some x := ⟨_, List.getElem?_eq_getElem (by omega)⟩
      obtain ⟨ra, Ac, cC, era, -, -, r1, -, -, hCC⟩ := rul_at hrul hx
      have hcn := (F.may.conj rn x hx).2
      have Q2 := Lib.hid (show w0.cell? ⟨t.p, 2, none⟩ = some (.slice (some ra) t.G.rules.length t.xr) by rw [Q2.out, era])
      have hr1 : (rn : Int) < t.G.rules.length := h2
      by_cases h3 : 0 ≤ c
      · have d3 : decide (c < 0) = false := decide_eq_false (by omega)
        by_cases h4 : c < x.conj.length
        · have d4 : decide ((x.conj.length : Int) ≤ c) = false := decide_eq_false (by omega)
          obtain ⟨cn, rfl⟩ : ∃ cn : Nat, c = (cn : Int) := ⟨c.toNat, by omega⟩
          have d4' : decide (x.conj.length ≤ cn) = false := decide_eq_false (by omega)
          obtain ⟨y, hy⟩ : ∃ y, x.conj[cn]? = some y := ⟨_, List.getElem?_eq_getElem (by omega)⟩
          obtain ⟨ca, As, cS, eca, -, -, s1, -, -, -⟩ := conj_at hCC hy
          have R1 := Lib.hid (show w0.cell? ⟨(ra.add (rn * 2)).block, (ra.add (rn * 2)).off + 1, none⟩ = some (.slice (some ca) x.conj.length cC) by rw [r1, eca])
          have S1 := Lib.hid s1
          have hsn := F.may.seq rn x cn y hx hy
          have hc1 : (cn : Int) < x.conj.length := h4
          have HZ := Lib.hid (show ∀ q, placeB t.G.rules rn cn q = (decide (0 ≤ q) && decide (q ≤ y.seq.length)) from fun q => by simp [placeB, hx, hy])
          have HXX := Lib.hid hx
          have HYY := Lib.hid hy
          clear era eca hx hy r1 s1 hCC hrul h1 h2 h3 h4
          by_cases h5 : 0 ≤ q
          · have d5 : decide (q < 0) = false := decide_eq_false (by omega)
            by_cases h6 : q ≤ y.seq.length
            · have d6 : decide ((y.seq.length : Int) < q) = false := decide_eq_false (by omega)
              have HF := Lib.hid (show plcV t rn cn q = (offG t.G rn cn : Int) + q by unfold plcV; rw [HZ.out, decide_eq_true h5, decide_eq_true h6]; simp)
              have hoq : offG t.G rn cn + (y.seq.length + 1) ≤ qG t.G := by
                have := q_lt HXX.out HYY.out
                unfold offG
                rw [HXX.out]
                exact this
              obtain ⟨o, ho⟩ : ∃ o, o = offG t.G rn cn := ⟨_, rfl⟩
              rw [← ho] at HF hoq
              have e1 : IntKind.i64.wrap ((o : Int) + q) = (o : Int) + q := IntWalk.i64_in _ (by omega)
              have j1 := Lib.hid (below_cell HB.out (HA.out.cj rn x HXX.out).1)
              have j2 := Lib.hid (show w0.cell? ⟨t.ar rn, cn, none⟩ = some (.int .i64 (o : Int)) by rw [ho]; exact below_cell HB.out ((HA.out.cj rn x HXX.out).2 cn (by have := (List.getElem?_eq_some_iff.1 HYY.out).1; exact this)))
              clear h5 h6 ho
              go_enter Tryz.func66, Tryz.ntmps66
              go_wp2_with fail
              try rw [hw0]
              clear hw0
              refine wp_region_below (by kernel_rfl) (by kernel_rfl) ?_
              repeat (first
                | (refine qv_skip (by rfl) ?_; simp only [Act.put, List.setIfInBounds_toArray, List.set_cons_zero, List.set_cons_succ])
                | (refine qv_val' (by rfl) ?_; apply Exists.intro; refine ⟨fun w5 hC => ?_, ?_⟩; (have qqr0 := below_cell hC X0.out; have qqr1 := below_cell hC X1.out; have qqr2 := below_cell hC X2.out; have qqr3 := below_cell hC Q2.out; have qqr4 := below_cell hC R1.out; have qqr5 := below_cell hC S1.out; go_simp; rfl); simp only [Act.put, List.setIfInBounds_toArray, List.set_cons_zero, List.set_cons_succ]))
              refine qv_nil ?_
              intro w5 hC
              have X0 := Lib.hid (below_cell hC X0.out)
              have X1 := Lib.hid (below_cell hC X1.out)
              have X2 := Lib.hid (below_cell hC X2.out)
              have Q6 := Lib.hid (below_cell hC Q6.out)
              have j1 := Lib.hid (below_cell hC j1.out)
              have j2 := Lib.hid (below_cell hC j2.out)
              have HBa := Lib.hid (below_trans HB.out hC)
              clear hC
              go_wp2_with fail
              obtain ⟨wb, hwb⟩ : ∃ wb, wb = w5 := ⟨_, rfl⟩
              rw [← hwb] at X0 X1 X2 Q6 j1 j2 HBa ⊢
              clear hwb w5
              refine wp_region_below (by kernel_rfl) (by kernel_rfl) ?_
              repeat (first
                | (refine qv_skip (by rfl) ?_; simp only [Act.put, List.setIfInBounds_toArray, List.set_cons_zero, List.set_cons_succ])
                | (refine qv_val' (by rfl) ?_; apply Exists.intro; refine ⟨fun w5 hC => ?_, ?_⟩; (have qqr0 := below_cell hC X0.out; have qqr1 := below_cell hC X1.out; have qqr2 := below_cell hC X2.out; have qqr3 := below_cell hC Q6.out; have qqr4 := below_cell hC j1.out; have qqr5 := below_cell hC j2.out; go_simp; rfl); simp only [Act.put, List.setIfInBounds_toArray, List.set_cons_zero, List.set_cons_succ]))
              refine qv_nil ?_
              intro w5 hC
              have HB5 := Lib.hid (below_trans HBa.out hC)
              clear hC e1
              go_wp2
              go_ret
              exact ⟨by rw [HF.out]; rfl, HB5.out⟩
            · have d6 : decide ((y.seq.length : Int) < q) = true := decide_eq_true (by omega)
              have HF := Lib.hid (show plcV t rn cn q = -1 by unfold plcV; rw [HZ.out, decide_eq_false h6]; simp)
              clear h5 h6
              go_enter Tryz.func66, Tryz.ntmps66
              go_wp2_with fail
              try rw [hw0]
              clear hw0
              refine wp_region_below (by kernel_rfl) (by kernel_rfl) ?_
              repeat (first
                | (refine qv_skip (by rfl) ?_; simp only [Act.put, List.setIfInBounds_toArray, List.set_cons_zero, List.set_cons_succ])
                | (refine qv_val' (by rfl) ?_; apply Exists.intro; refine ⟨fun w5 hC => ?_, ?_⟩; (have qqr0 := below_cell hC X0.out; have qqr1 := below_cell hC X1.out; have qqr2 := below_cell hC X2.out; have qqr3 := below_cell hC Q2.out; have qqr4 := below_cell hC R1.out; have qqr5 := below_cell hC S1.out; go_simp; rfl); simp only [Act.put, List.setIfInBounds_toArray, List.set_cons_zero, List.set_cons_succ]))
              refine qv_nil ?_
              intro w5 hC
              have HB5 := Lib.hid (below_trans HB.out hC)
              clear hC
              go_wp2
              go_ret
              exact ⟨by rw [HF.out]; rfl, HB5.out⟩
          · have d5 : decide (q < 0) = true := decide_eq_true (by omega)
            have HF := Lib.hid (show plcV t rn cn q = -1 by unfold plcV; rw [HZ.out, decide_eq_false h5]; simp)
            clear h5
            go_enter Tryz.func66, Tryz.ntmps66
            go_wp2_with fail
            try rw [hw0]
            clear hw0
            refine wp_region_below (by kernel_rfl) (by kernel_rfl) ?_
            repeat (first
              | (refine qv_skip (by rfl) ?_; simp only [Act.put, List.setIfInBounds_toArray, List.set_cons_zero, List.set_cons_succ])
              | (refine qv_val' (by rfl) ?_; apply Exists.intro; refine ⟨fun w5 hC => ?_, ?_⟩; (have qqr0 := below_cell hC X0.out; have qqr1 := below_cell hC X1.out; have qqr2 := below_cell hC X2.out; have qqr3 := below_cell hC Q2.out; have qqr4 := below_cell hC R1.out; have qqr5 := below_cell hC S1.out; go_simp; rfl); simp only [Act.put, List.setIfInBounds_toArray, List.set_cons_zero, List.set_cons_succ]))
            refine qv_nil ?_
            intro w5 hC
            have HB5 := Lib.hid (below_trans HB.out hC)
            clear hC
            go_wp2
            go_ret
            exact ⟨by rw [HF.out]; rfl, HB5.out⟩
        · have d4 : decide ((x.conj.length : Int) ≤ c) = true := decide_eq_true (by omega)
          have HF := Lib.hid (show plcV t rn c q = -1 by
            unfold plcV
            rw [show placeB t.G.rules rn c q = false by simp only [placeB, Int.toNat_natCast, hx]; rw [List.getElem?_eq_none (by omega)]; simp]
            rfl)
          have R1 := Lib.hid r1
          clear h1 h2 h3 h4 era hx hCC hrul r1
          go_enter Tryz.func66, Tryz.ntmps66
          go_wp2_with fail
          try rw [hw0]
          clear hw0
          refine wp_region_below (by kernel_rfl) (by kernel_rfl) ?_
          repeat (first
            | (refine qv_skip (by rfl) ?_; simp only [Act.put, List.setIfInBounds_toArray, List.set_cons_zero, List.set_cons_succ])
            | (refine qv_val' (by rfl) ?_; apply Exists.intro; refine ⟨fun w5 hC => ?_, ?_⟩; (have qqr0 := below_cell hC X0.out; have qqr1 := below_cell hC X1.out; have qqr2 := below_cell hC X2.out; have qqr3 := below_cell hC Q2.out; have qqr4 := below_cell hC R1.out; go_simp; rfl); simp only [Act.put, List.setIfInBounds_toArray, List.set_cons_zero, List.set_cons_succ]))
          refine qv_nil ?_
          intro w5 hC
          have HB5 := Lib.hid (below_trans HB.out hC)
          clear hC
          go_wp2
          go_ret
          exact ⟨by rw [HF.out]; rfl, HB5.out⟩
      · have d3 : decide (c < 0) = true := decide_eq_true (by omega)
        have HF := Lib.hid (show plcV t rn c q = -1 by
          unfold plcV
          rw [show placeB t.G.rules rn c q = false by simp [placeB, hx, h3]]
          rfl)
        clear h1 h2 h3 era hx hCC hrul r1
        go_enter Tryz.func66, Tryz.ntmps66
        go_wp2_with fail
        try rw [hw0]
        clear hw0
        refine wp_region_below (by kernel_rfl) (by kernel_rfl) ?_
        repeat (first
          | (refine qv_skip (by rfl) ?_; simp only [Act.put, List.setIfInBounds_toArray, List.set_cons_zero, List.set_cons_succ])
          | (refine qv_val' (by rfl) ?_; apply Exists.intro; refine ⟨fun w5 hC => ?_, ?_⟩; (have qqr0 := below_cell hC X0.out; have qqr1 := below_cell hC X1.out; have qqr2 := below_cell hC X2.out; have qqr3 := below_cell hC Q2.out; go_simp; rfl); simp only [Act.put, List.setIfInBounds_toArray, List.set_cons_zero, List.set_cons_succ]))
        refine qv_nil ?_
        intro w5 hC
        have HB5 := Lib.hid (below_trans HB.out hC)
        clear hC
        go_wp2
        go_ret
        exact ⟨by rw [HF.out]; rfl, HB5.out⟩
    · have d2 : decide ((t.G.rules.length : Int) ≤ r) = true := decide_eq_true (by omega)
      have HF := Lib.hid (show plcV t r c q = -1 by
        unfold plcV
        rw [show placeB t.G.rules r c q = false by simp only [placeB]; rw [List.getElem?_eq_none (by omega)]; simp]
        rfl)
      clear h1 h2 hrul
      go_enter Tryz.func66, Tryz.ntmps66
      go_wp2_with fail
      try rw [hw0]
      clear hw0
      refine wp_region_below (by kernel_rfl) (by kernel_rfl) ?_
      repeat (first
        | (refine qv_skip (by rfl) ?_; simp only [Act.put, List.setIfInBounds_toArray, List.set_cons_zero, List.set_cons_succ])
        | (refine qv_val' (by rfl) ?_; apply Exists.intro; refine ⟨fun w5 hC => ?_, ?_⟩; (have qqr0 := below_cell hC X0.out; have qqr1 := below_cell hC X1.out; have qqr2 := below_cell hC X2.out; have qqr3 := below_cell hC Q2.out; go_simp; rfl); simp only [Act.put, List.setIfInBounds_toArray, List.set_cons_zero, List.set_cons_succ]))
      refine qv_nil ?_
      intro w5 hC
      have HB5 := Lib.hid (below_trans HB.out hC)
      clear hC
      go_wp2
      go_ret
      exact ⟨by rw [HF.out]; rfl, HB5.out⟩
  · have d1 : decide (r < 0) = true := decide_eq_true (by omega)
    have HF := Lib.hid (show plcV t r c q = -1 by
      unfold plcV
      rw [show placeB t.G.rules r c q = false by simp [placeB, h1]]
      rfl)
    clear h1 hrul
    go_enter Tryz.func66, Tryz.ntmps66
    go_wp2_with fail
    try rw [hw0]
    clear hw0
    refine wp_region_below (by kernel_rfl) (by kernel_rfl) ?_
    repeat (first
      | (refine qv_skip (by rfl) ?_; simp only [Act.put, List.setIfInBounds_toArray, List.set_cons_zero, List.set_cons_succ])
      | (refine qv_val' (by rfl) ?_; apply Exists.intro; refine ⟨fun w5 hC => ?_, ?_⟩; (have qqr0 := below_cell hC X0.out; have qqr1 := below_cell hC X1.out; have qqr2 := below_cell hC X2.out; have qqr3 := below_cell hC Q2.out; go_simp; rfl); simp only [Act.put, List.setIfInBounds_toArray, List.set_cons_zero, List.set_cons_succ]))
    refine qv_nil ?_
    intro w5 hC
    have HB5 := Lib.hid (below_trans HB.out hC)
    clear hC
    go_wp2
    go_ret
    exact ⟨by rw [HF.out]; rfl, HB5.out⟩

set_option maxRecDepth 100000 in
set_option maxHeartbeats 8000000 in
theorem rrestRank_any {w : World} {t : RT} (A : RTAt w t) (F : t.Fits) {p : Rk} (R : FlatAt w t t.rb (qG t.G) p) (r c q i j : Int) :
    Calls Tryz.prog 46 #[.pointer (some ⟨t.p, 0, none⟩), .agg #[.int .i64 r, .int .i64 c, .int .i64 q], .int .i64 i, .int .i64 j] w fun e w' => e = .returned (.int .i64 (t.rrank p r c q i j)) ∧ Below w.heap.size w w' := by
  have hW := F.W32
  have hQ := (gfits_of (lev := List.replicate t.G.names.length 0) F.may (by simp)).Q
  have hb0 : Below w.heap.size w (w.alloc (Obj.cells #[Value.int .i64 r, Value.int .i64 c, Value.int .i64 q] 57)) := below_alloc' (below_refl w) _
  have B0 := heap_alloc_new w (Obj.cells #[Value.int .i64 r, Value.int .i64 c, Value.int .i64 q] 57)
  have HR := Lib.hid (R.below hb0)
  have HST := Lib.hid (show ∀ w5, Below w.heap.size w w5 → RTAt w5 t from fun w5 h5 => ⟨below_cell h5 A.c1, below_cell h5 A.c2, below_cell h5 A.c3, below_cell h5 A.c4, below_cell h5 A.c5, below_cell h5 A.c6, below_cell h5 A.c7, A.rul.mono h5, fun r x hx => ⟨below_cell h5 (A.cj r x hx).1, fun c hc => below_cell h5 ((A.cj r x hx).2 c hc)⟩⟩)
  generalize hw0 : w.alloc (Obj.cells #[Value.int .i64 r, Value.int .i64 c, Value.int .i64 q] 57) = w0 at hb0 B0 HR
  have X0 := Lib.hid (show w0.cell? ⟨w.heap.size, 0, none⟩ = some (.int .i64 r) from blk_cell B0 0)
  have X1 := Lib.hid (show w0.cell? ⟨w.heap.size, 1, none⟩ = some (.int .i64 c) from blk_cell B0 1)
  have X2 := Lib.hid (show w0.cell? ⟨w.heap.size, 2, none⟩ = some (.int .i64 q) from blk_cell B0 2)
  have HB := Lib.hid hb0
  obtain ⟨sv, hsv⟩ : ∃ sv, sv = spV t i j := ⟨_, rfl⟩
  obtain ⟨pv, hpv⟩ : ∃ pv, pv = plcV t r c q := ⟨_, rfl⟩
  have HSP := Lib.hid (show ∀ w5, Below w0.heap.size w0 w5 → Calls Tryz.prog 45 #[.pointer (some ⟨t.p, 0, none⟩), .int .i64 i, .int .i64 j] w5 fun e w' => e = .returned (.int .i64 sv) ∧ w' = w5 from fun w5 h5 => by rw [hsv]; exact rspan_any (HST.out w5 (below_trans HB.out h5)) hW i j)
  have HPL := Lib.hid (show ∀ w5, Below w0.heap.size w0 w5 → Calls Tryz.prog 66 #[.pointer (some ⟨t.p, 0, none⟩), .agg #[.int .i64 r, .int .i64 c, .int .i64 q]] w5 fun e w' => e = .returned (.int .i64 pv) ∧ Below w5.heap.size w5 w' from fun w5 h5 => by rw [hpv]; exact rplace_any (HST.out w5 (below_trans HB.out h5)) F r c q)
  have HSV := Lib.hid hsv
  have HPV := Lib.hid hpv
  clear A R B0 hb0 hsv hpv
  go_enter Tryz.func46, Tryz.ntmps46
  go_wp2_with fail
  try rw [hw0]
  clear hw0
  refine wp_region_below (by kernel_rfl) (by kernel_rfl) ?_
  repeat (first
    | (refine qv_skip (by rfl) ?_; simp only [Act.put, List.setIfInBounds_toArray, List.set_cons_zero, List.set_cons_succ])
    | (refine qv_val' (by rfl) ?_; apply Exists.intro; refine ⟨fun w5 hC => ?_, ?_⟩; (have qqr0 := below_cell hC X0.out; have qqr1 := below_cell hC X1.out; have qqr2 := below_cell hC X2.out; go_simp; rfl); simp only [Act.put, List.setIfInBounds_toArray, List.set_cons_zero, List.set_cons_succ])
    | (refine qv_call' (by rfl) ?_; apply Exists.intro; apply Exists.intro; apply Exists.intro; refine ⟨fun w5 hC => ?_, fun w5 hC => ?_, ?_⟩; (go_simp; first | rfl | exact ⟨rfl, rfl⟩); (first | (go_at_call 45; exact calls_same hC (HSP.out w5 hC)) | (go_at_call 66; exact calls_in hC (HPL.out w5 hC))); simp only [Act.put, List.setIfInBounds_toArray, List.set_cons_zero, List.set_cons_succ]))
  refine qv_nil ?_
  intro w5 hC
  have HB5 := Lib.hid (below_trans HB.out hC)
  have HR5 := Lib.hid (HR.out.below hC)
  clear hC
  cases hs : spanG t i j with
  | false =>
    have hv : sv = -1 := by rw [HSV.out]; unfold spV; rw [hs]; rfl
    have ds : decide (sv < 0) = true := decide_eq_true (by omega)
    have HZ := Lib.hid (show t.rrank p r c q i j = 0 by unfold RT.rrank; rw [hs]; simp)
    clear hv hs
    go_wp2_with fail
    go_ret
    exact ⟨by rw [HZ.out]; rfl, HB5.out⟩
  | true =>
    have hsb := hs
    unfold spanG at hsb
    simp only [Bool.and_eq_true, decide_eq_true_eq] at hsb
    obtain ⟨⟨i0, ij⟩, j1⟩ := hsb
    have hb := ix_bd (t := t) i0 (by omega) (by omega : 0 ≤ j) j1
    have hSb := RT.S_bd hW
    have hv : sv = i * ((t.W.size : Int) + 1) + j := by rw [HSV.out]; unfold spV; rw [hs]; rfl
    rw [← hv] at hb
    have ds : decide (sv < 0) = false := decide_eq_false (by omega)
    cases hp : placeB t.G.rules r c q with
    | false =>
      have hv2 : pv = -1 := by rw [HPV.out]; unfold plcV; rw [hp]; rfl
      have dp : decide (pv < 0) = true := decide_eq_true (by omega)
      have HZ := Lib.hid (show t.rrank p r c q i j = 0 by unfold RT.rrank; rw [hp]; rfl)
      clear hv hs hp hv2
      go_wp2_with fail
      go_ret
      exact ⟨by rw [HZ.out]; rfl, HB5.out⟩
    | true =>
      obtain ⟨rn, cn, qn, x, y, rfl, rfl, rfl, hx, hy, hq⟩ := place_of hp
      have hv2 : pv = ((offG t.G rn cn + qn : Nat) : Int) := by rw [HPV.out]; unfold plcV; rw [hp]; simp
      have hoq : offG t.G rn cn + (y.seq.length + 1) ≤ qG t.G := by
        have := q_lt hx hy
        unfold offG
        rw [hx]
        exact this
      obtain ⟨pn, hpn⟩ : ∃ pn : Nat, pn = offG t.G rn cn + qn := ⟨_, rfl⟩
      rw [← hpn] at hv2
      have hpq : pn < qG t.G := by omega
      have HZ := Lib.hid (show t.rrank p rn cn qn i j = p pn i j by unfold RT.rrank; rw [hp, hs, hpn]; simp)
      obtain ⟨hc, -⟩ := HR5.out pn i j hpq i0 (by omega) (by omega) j1
      have hlt := ix_lt (t := t) (q := pn) (N := qG t.G) hpq i0 (by omega) (by omega : 0 ≤ j) j1
      have hix : t.ix pn i j = pn * t.S + sv.toNat := by unfold RT.ix; rw [hv]
      rw [hix] at hc hlt
      have hPb : pn * t.S ≤ 100000 * 1089 := Nat.mul_le_mul (by omega) hSb.2
      have A5 := HST.out w5 HB5.out
      have c4 := A5.c4
      have c7 := A5.c7
      obtain ⟨S, hS⟩ : ∃ S, S = t.S := ⟨_, rfl⟩
      obtain ⟨L, hL⟩ : ∃ L, L = qG t.G * S := ⟨_, rfl⟩
      rw [← hS] at c4 c7 hc hlt hPb
      rw [← hL] at c7 hlt
      obtain ⟨P, hP⟩ : ∃ P : Nat, P = pn * S := ⟨_, rfl⟩
      rw [← hP] at hc hlt hPb
      subst hv2
      have e0 : (pn : Int) * (S : Int) = (P : Int) := by rw [hP]; push_cast; rfl
      have e1 : IntKind.i64.wrap ((pn : Int) * (S : Int)) = (P : Int) := by rw [e0]; exact IntWalk.i64_in _ (by omega)
      have e2 : IntKind.i64.wrap ((P : Int) + sv) = (P : Int) + sv := IntWalk.i64_in _ (by omega)
      have e3 : ((P : Int) + sv).toNat = P + sv.toNat := by omega
      have b1 : (P : Int) + sv < L := by omega
      have b0 : 0 ≤ (P : Int) + sv := by omega
      have dp : decide ((pn : Int) < 0) = false := decide_eq_false (by omega)
      rw [← e3] at hc
      have C4 := Lib.hid c4
      have C7 := Lib.hid c7
      have HC := Lib.hid hc
      clear hv hs hp hpn hS hL hP hix e0 e3 c4 c7 hc hlt A5 hx hy
      obtain ⟨wb, hwb⟩ : ∃ wb, wb = w5 := ⟨_, rfl⟩
      rw [← hwb] at HB5 C4 C7 HC ⊢
      clear hwb HR5 w5
      go_wp2_with fail
      refine wp_region_below (by kernel_rfl) (by kernel_rfl) ?_
      repeat (first
        | (refine qv_skip (by rfl) ?_; simp only [Act.put, List.setIfInBounds_toArray, List.set_cons_zero, List.set_cons_succ])
        | (refine qv_val' (by rfl) ?_; apply Exists.intro; refine ⟨fun w5 hC => ?_, ?_⟩; (have qqr0 := below_cell hC C4.out; have qqr1 := below_cell hC C7.out; have qqr2 := below_cell hC HC.out; go_simp; rfl); simp only [Act.put, List.setIfInBounds_toArray, List.set_cons_zero, List.set_cons_succ]))
      refine qv_nil ?_
      intro w5 hC
      have HB6 := Lib.hid (below_trans HB5.out hC)
      clear hC e1 e2
      go_wp2_with fail
      go_ret
      exact ⟨by rw [HZ.out]; rfl, HB6.out⟩
theorem rrestHas_any {w : World} {t : RT} (A : RTAt w t) (F : t.Fits) {p : Rk} (R : FlatAt w t t.rb (qG t.G) p) (r c q i j : Int) :
    Calls Tryz.prog 31 #[.pointer (some ⟨t.p, 0, none⟩), .agg #[.int .i64 r, .int .i64 c, .int .i64 q], .int .i64 i, .int .i64 j] w fun e w' => e = .returned (.bool (decide (0 < t.rrank p r c q i j))) ∧ Below w.heap.size w w' := by
  have hb0 : Below w.heap.size w (w.alloc (Obj.cells #[Value.int .i64 r, Value.int .i64 c, Value.int .i64 q] 57)) := below_alloc' (below_refl w) _
  have HC := Lib.hid (rrestRank_any (A.below hb0) F (R.below hb0) r c q i j)
  have HB0 := Lib.hid hb0
  clear A R hb0
  go_enter Tryz.func31, Tryz.ntmps31
  go_wp2_with (first | (go_at_call 46; refine HC.out.mono ?_; rintro e w1 ⟨rfl, hb1⟩; have HB1 := Lib.hid (below_trans HB0.out hb1); clear hb1) | fail)
  go_ret
  exact ⟨rfl, HB1.out⟩
end Go.Proofs.YtbidpeggdhkahaaGreat

set_option linter.unusedSimpArgs false
set_option linter.unusedVariables false
namespace Go.Proofs.YtbidpeggdhkahaaGreat
open Go.RowKit

theorem rsz (a : Addr) : a.add 0 = a := by unfold Addr.add; simp
/-- What Symbol answers. -/
def RSymPost (seq : List Sym) (q : Nat) (w : World) (e : Ending) (w' : World) : Prop :=
  Below w.heap.size w w' ∧ match seq[q]? with
    | none => e = .returned (.tuple #[.agg #[.int .i64 0, .int .i64 0, .int .i64 0], .bool false])
    | some s => e = .returned (.tuple #[.agg #[.int .i64 s.name, .int .i64 s.lo, .int .i64 s.hi], .bool true])
theorem rsymPost_none {seq : List Sym} {q : Nat} {w : World} {e : Ending} {w' : World} (h : RSymPost seq q w e w') (hs : seq[q]? = none) : e = .returned (.tuple #[.agg #[.int .i64 0, .int .i64 0, .int .i64 0], .bool false]) ∧ Below w.heap.size w w' := by
  unfold RSymPost at h
  rw [hs] at h
  exact ⟨h.2, h.1⟩
theorem rsymPost_some {seq : List Sym} {q : Nat} {w : World} {e : Ending} {w' : World} {s : Sym} (h : RSymPost seq q w e w') (hs : seq[q]? = some s) : e = .returned (.tuple #[.agg #[.int .i64 s.name, .int .i64 s.lo, .int .i64 s.hi], .bool true]) ∧ Below w.heap.size w w' := by
  unfold RSymPost at h
  rw [hs] at h
  exact ⟨h.2, h.1⟩

set_option maxRecDepth 100000 in
set_option maxHeartbeats 8000000 in
theorem rsymbol_of {w : World} {t : RT} (A : RTAt w t) (F : t.Fits) {rn cn qn : Nat} {X : Rul} {Y : Conj} (hX : t.G.rules[rn]? = some X) (hY : X.conj[cn]? = some Y) (hq : qn ≤ Y.seq.length) :
    Calls Tryz.prog 59 #[.pointer (some ⟨t.p, 0, none⟩), .agg #[.int .i64 rn, .int .i64 cn, .int .i64 qn]] w (RSymPost Y.seq qn w) := by
  have hR := F.may.rules
  have hcl := (F.may.conj rn X hX).2
  have hsl := F.may.seq rn X cn Y hX hY
  have hrn := (List.getElem?_eq_some_iff.1 hX).1
  have hcn := (List.getElem?_eq_some_iff.1 hY).1
  have b1 : (rn : Int) < t.G.rules.length := by omega
  have b2 : (cn : Int) < X.conj.length := by omega
  have hb0 : Below w.heap.size w ((w.alloc (Obj.cells #[Value.int .i64 rn, Value.int .i64 cn, Value.int .i64 qn] 57)).alloc (Obj.cells #[Value.int .i64 0, Value.int .i64 0, Value.int .i64 0] 83)) := below_alloc' (below_alloc' (below_refl w) _) _
  have B0 := heap_alloc2_old w (Obj.cells #[Value.int .i64 rn, Value.int .i64 cn, Value.int .i64 qn] 57) (Obj.cells #[Value.int .i64 0, Value.int .i64 0, Value.int .i64 0] 83)
  have B1 := heap_alloc2_new w (Obj.cells #[Value.int .i64 rn, Value.int .i64 cn, Value.int .i64 qn] 57) (Obj.cells #[Value.int .i64 0, Value.int .i64 0, Value.int .i64 0] 83)
  have HA := Lib.hid A
  clear A
  go_enter Tryz.func59, Tryz.ntmps59
  go_wp2_with fail
  generalize ((w.alloc (Obj.cells #[Value.int .i64 rn, Value.int .i64 cn, Value.int .i64 qn] 57)).alloc (Obj.cells #[Value.int .i64 0, Value.int .i64 0, Value.int .i64 0] 83)) = w0 at hb0 B0 B1 ⊢
  obtain ⟨rd, Ac, cc, eA, -, -, r1, -, -, hCC⟩ := rul_at (HA.out.rul.mono hb0) hX
  obtain ⟨cd, As, cs, eC, -, -, s1, -, -, hSS⟩ := conj_at hCC hY
  subst eC
  have g2 := below_cell hb0 HA.out.c2
  rw [eA] at g2
  have X0 := Lib.hid (show w0.cell? ⟨w.heap.size, 0, none⟩ = some (.int .i64 rn) from blk_cell B0 0)
  have X1 := Lib.hid (show w0.cell? ⟨w.heap.size, 1, none⟩ = some (.int .i64 cn) from blk_cell B0 1)
  have X2 := Lib.hid (show w0.cell? ⟨w.heap.size, 2, none⟩ = some (.int .i64 qn) from blk_cell B0 2)
  have G2 := Lib.hid g2
  have R1 := Lib.hid r1
  have S1 := Lib.hid s1
  have HB0 := Lib.hid hb0
  have HB1 := Lib.hid B1
  have HSS := Lib.hid hSS
  clear B0 B1 hb0 g2 r1 s1 eA hCC hSS hX hY
  refine wp_region_below (by kernel_rfl) (by kernel_rfl) ?_
  repeat (first
    | (refine qv_skip (by rfl) ?_; simp only [Act.put, List.setIfInBounds_toArray, List.set_cons_zero, List.set_cons_succ])
    | (refine qv_val' (by rfl) ?_; apply Exists.intro; refine ⟨fun w5 hC => ?_, ?_⟩; (have qqr0 := below_cell hC X0.out; have qqr1 := below_cell hC X1.out; have qqr2 := below_cell hC X2.out; have qqr3 := below_cell hC G2.out; have qqr4 := below_cell hC R1.out; have qqr5 := below_cell hC S1.out; go_simp; rfl); simp only [Act.put, List.setIfInBounds_toArray, List.set_cons_zero, List.set_cons_succ]))
  refine qv_nil ?_
  intro w5 hC
  have hBB := blk_below HB1.out hC
  have hbe0 := below_trans HB0.out hC
  have x2 := below_cell hC X2.out
  have hSS := HSS.out.mono hC
  clear hC
  have f0 := blk_frozen hBB 0
  have f1 := blk_frozen hBB 1
  have f2 := blk_frozen hBB 2
  have v0 : w5.cell? ⟨w.heap.size + 1, 0, none⟩ = some (.int .i64 0) := blk_cell hBB 0
  have v1 : w5.cell? ⟨w.heap.size + 1, 1, none⟩ = some (.int .i64 0) := blk_cell hBB 1
  have v2 : w5.cell? ⟨w.heap.size + 1, 2, none⟩ = some (.int .i64 0) := blk_cell hBB 2
  have hl := blk_lt hBB
  cases hs : Y.seq[qn]? with
  | none =>
    have hqe : qn = Y.seq.length := by have := List.getElem?_eq_none_iff.1 hs; omega
    have HV := Lib.hid hs
    have d1 : ((qn : Int) == (Y.seq.length : Int)) = true := by simp [hqe]
    have d1' : (qn == Y.seq.length) = true := by simp [hqe]
    have HBB := Lib.hid hBB
    have HBE := Lib.hid hbe0
    clear hs hqe hBB hbe0 hSS
    go_wp2_with fail
    have E := blk_set (blk_set (blk_set (w := w5) HBB.out 0 (.int .i64 0)) 1 (.int .i64 0)) 2 (.int .i64 0)
    have hbe : Below w.heap.size w (((w5.setCell ⟨w.heap.size + 1, 0, none⟩ (.int .i64 0)).setCell ⟨w.heap.size + 1, 1, none⟩ (.int .i64 0)).setCell ⟨w.heap.size + 1, 2, none⟩ (.int .i64 0)) :=
      below_setNew (below_setNew (below_setNew HBE.out (by simp) _) (by simp) _) (by simp) _
    clear v0 v1 v2 f0 f1 f2 x2
    generalize ((w5.setCell ⟨w.heap.size + 1, 0, none⟩ (.int .i64 0)).setCell ⟨w.heap.size + 1, 1, none⟩ (.int .i64 0)).setCell ⟨w.heap.size + 1, 2, none⟩ (.int .i64 0) = w9 at E hbe ⊢
    have c0 : w9.cell? ⟨w.heap.size + 1, 0, none⟩ = some (.int .i64 0) := blk_cell E 0
    have c1 : w9.cell? ⟨w.heap.size + 1, 1, none⟩ = some (.int .i64 0) := blk_cell E 1
    have c2 : w9.cell? ⟨w.heap.size + 1, 2, none⟩ = some (.int .i64 0) := blk_cell E 2
    refine bodyPost_ret (v := .tuple #[.agg #[.int .i64 0, .int .i64 0, .int .i64 0], .bool false]) (by simp [results, Tryz.results59, go_sem, c0, c1, c2]) rfl ?_
    unfold RSymPost
    rw [HV.out]
    exact ⟨hbe, rfl⟩
  | some s =>
    have hlt := (List.getElem?_eq_some_iff.1 hs).1
    have HV := Lib.hid hs
    have d1 : ((qn : Int) == (Y.seq.length : Int)) = false := by simp; omega
    have d1' : (qn == Y.seq.length) = false := by simp; omega
    obtain ⟨sd, eS, -, y0, y1, y2⟩ := sym_at hSS hs
    subst eS
    have b3 : (qn : Int) < Y.seq.length := by omega
    have HBB := Lib.hid hBB
    have HBE := Lib.hid hbe0
    clear hs hBB hbe0 hSS
    go_wp2_with fail
    have E := blk_set (blk_set (blk_set (w := w5) HBB.out 0 (.int .i64 s.name)) 1 (.int .i64 s.lo)) 2 (.int .i64 s.hi)
    have hbe : Below w.heap.size w (((w5.setCell ⟨w.heap.size + 1, 0, none⟩ (.int .i64 s.name)).setCell ⟨w.heap.size + 1, 1, none⟩ (.int .i64 s.lo)).setCell ⟨w.heap.size + 1, 2, none⟩ (.int .i64 s.hi)) :=
      below_setNew (below_setNew (below_setNew HBE.out (by simp) _) (by simp) _) (by simp) _
    clear v0 v1 v2 f0 f1 f2 x2
    generalize ((w5.setCell ⟨w.heap.size + 1, 0, none⟩ (.int .i64 s.name)).setCell ⟨w.heap.size + 1, 1, none⟩ (.int .i64 s.lo)).setCell ⟨w.heap.size + 1, 2, none⟩ (.int .i64 s.hi) = w9 at E hbe ⊢
    have c0 : w9.cell? ⟨w.heap.size + 1, 0, none⟩ = some (.int .i64 s.name) := blk_cell E 0
    have c1 : w9.cell? ⟨w.heap.size + 1, 1, none⟩ = some (.int .i64 s.lo) := blk_cell E 1
    have c2 : w9.cell? ⟨w.heap.size + 1, 2, none⟩ = some (.int .i64 s.hi) := blk_cell E 2
    refine bodyPost_ret (v := .tuple #[.agg #[.int .i64 s.name, .int .i64 s.lo, .int .i64 s.hi], .bool true]) (by simp [results, Tryz.results59, go_sem, c0, c1, c2]) rfl ?_
    unfold RSymPost
    rw [HV.out]
    exact ⟨hbe, rfl⟩

set_option maxRecDepth 100000 in
set_option maxHeartbeats 8000000 in
theorem rbyte_any {w : World} {t : RT} (A : RTAt w t) (hW : t.W.size ≤ 32) (s : Sym) {i j : Int} (i0 : 0 ≤ i) (j1 : j ≤ t.W.size) :
    Calls Tryz.prog 83 #[.pointer (some ⟨t.p, 0, none⟩), .agg #[.int .i64 s.name, .int .i64 s.lo, .int .i64 s.hi], .int .i64 i, .int .i64 j] w fun e w' => e = .returned (.bool (byteR t.W s i j)) ∧ Below w.heap.size w w' := by
  have hb0 : Below w.heap.size w (w.alloc (Obj.cells #[Value.int .i64 s.name, Value.int .i64 s.lo, Value.int .i64 s.hi] 83)) := below_alloc' (below_refl w) _
  have B0 := heap_alloc_new w (Obj.cells #[Value.int .i64 s.name, Value.int .i64 s.lo, Value.int .i64 s.hi] 83)
  have c3 := below_cell hb0 A.c3
  have hbt := btz_at t.W i
  have hbr := btz_range t.W i
  generalize hw0 : w.alloc (Obj.cells #[Value.int .i64 s.name, Value.int .i64 s.lo, Value.int .i64 s.hi] 83) = w0 at hb0 B0 c3
  have X1 := Lib.hid (show w0.cell? ⟨w.heap.size, 1, none⟩ = some (.int .i64 s.lo) from blk_cell B0 1)
  have X2 := Lib.hid (show w0.cell? ⟨w.heap.size, 2, none⟩ = some (.int .i64 s.hi) from blk_cell B0 2)
  have C3 := Lib.hid c3
  have HB0 := Lib.hid hb0
  clear A B0 c3 hb0
  by_cases h1 : i < j
  · have d1 : decide (i < j) = true := by simpa using h1
    have b1 : i < t.W.size := by omega
    have b2 : i.toNat < t.W.size := by omega
    have hbt' := hbt b2
    have ew : IntKind.i64.wrap (btz t.W i) = btz t.W i := IntWalk.i64_in _ (by omega)
    have HV := Lib.hid (show byteR t.W s i j = (decide (s.lo ≤ btz t.W i) && decide (btz t.W i ≤ s.hi)) by unfold byteR; rw [d1]; rfl)
    clear h1 hbt
    by_cases h2 : s.lo ≤ btz t.W i
    · have d2 : decide (s.lo ≤ btz t.W i) = true := by simpa using h2
      have HZ := Lib.hid (show byteR t.W s i j = decide (btz t.W i ≤ s.hi) by rw [HV.out, d2]; rfl)
      clear h2
      go_enter Tryz.func83, Tryz.ntmps83
      go_wp2_with fail
      try rw [hw0]
      clear hw0
      refine wp_region_below (by kernel_rfl) (by kernel_rfl) ?_
      repeat (first
        | (refine qv_skip (by rfl) ?_; simp only [Act.put, List.setIfInBounds_toArray, List.set_cons_zero, List.set_cons_succ])
        | (refine qv_val' (by rfl) ?_; apply Exists.intro; refine ⟨fun w5 hC => ?_, ?_⟩; (have qqr0 := below_cell hC X1.out; have qqr1 := below_cell hC X2.out; have qqr2 := below_cell hC C3.out; go_simp; rfl); simp only [Act.put, List.setIfInBounds_toArray, List.set_cons_zero, List.set_cons_succ]))
      refine qv_nil ?_
      intro w5 hC
      have HB5 := Lib.hid (below_trans HB0.out hC)
      clear hC
      go_wp2_with fail
      go_ret
      exact ⟨by rw [HZ.out]; rfl, HB5.out⟩
    · have d2 : decide (s.lo ≤ btz t.W i) = false := by simpa using h2
      have HZ := Lib.hid (show byteR t.W s i j = false by rw [HV.out, d2]; rfl)
      clear h2
      go_enter Tryz.func83, Tryz.ntmps83
      go_wp2_with fail
      try rw [hw0]
      clear hw0
      refine wp_region_below (by kernel_rfl) (by kernel_rfl) ?_
      repeat (first
        | (refine qv_skip (by rfl) ?_; simp only [Act.put, List.setIfInBounds_toArray, List.set_cons_zero, List.set_cons_succ])
        | (refine qv_val' (by rfl) ?_; apply Exists.intro; refine ⟨fun w5 hC => ?_, ?_⟩; (have qqr0 := below_cell hC X1.out; have qqr1 := below_cell hC X2.out; have qqr2 := below_cell hC C3.out; go_simp; rfl); simp only [Act.put, List.setIfInBounds_toArray, List.set_cons_zero, List.set_cons_succ]))
      refine qv_nil ?_
      intro w5 hC
      have HB5 := Lib.hid (below_trans HB0.out hC)
      clear hC
      go_wp2_with fail
      go_ret
      exact ⟨by rw [HZ.out]; rfl, HB5.out⟩
  · have d1 : decide (i < j) = false := by simpa using h1
    have HZ := Lib.hid (show byteR t.W s i j = false by unfold byteR; rw [d1]; rfl)
    clear h1 hbt
    go_enter Tryz.func83, Tryz.ntmps83
    go_wp2_with fail
    try rw [hw0]
    clear hw0
    refine wp_region_below (by kernel_rfl) (by kernel_rfl) ?_
    repeat (first
      | (refine qv_skip (by rfl) ?_; simp only [Act.put, List.setIfInBounds_toArray, List.set_cons_zero, List.set_cons_succ])
      | (refine qv_val' (by rfl) ?_; apply Exists.intro; refine ⟨fun w5 hC => ?_, ?_⟩; (have qqr0 := below_cell hC X1.out; have qqr1 := below_cell hC X2.out; have qqr2 := below_cell hC C3.out; go_simp; rfl); simp only [Act.put, List.setIfInBounds_toArray, List.set_cons_zero, List.set_cons_succ]))
    refine qv_nil ?_
    intro w5 hC
    have HB5 := Lib.hid (below_trans HB0.out hC)
    clear hC
    go_wp2_with fail
    go_ret
    exact ⟨by rw [HZ.out]; rfl, HB5.out⟩
end Go.Proofs.YtbidpeggdhkahaaGreat
