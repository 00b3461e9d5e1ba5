/-
  D1: templelaw0.SameTexts, SameSymbols, SameRule, SameGrammar of what is the same.
-/
import Derived.Test.YtbknkhcdfjiehaaGreatA3
import Derived.Test.YtbknkhcdfjiehaaGreatU1
import Derived.Test.YtbknkhcdfjiehaaGreatHe
set_option linter.unusedSimpArgs false
set_option linter.unusedVariables false
namespace Go.Proofs.YtbknkhcdfjiehaaGreat
open Go.RowKit

theorem sy_fields : (Tryz.prog.fieldsOf 94).toList.map (fun f => (f.name == "_", f.type, f.offset)) = [(false, 3, 0), (false, 3, 1), (false, 3, 2)] := by kernel_rfl
theorem sy_held : Tryz.prog.stoodInHeld 94 = false := by kernel_rfl
theorem sy_under : Tryz.prog.underlying 94 = some (.struct (Tryz.prog.fieldsOf 94)) := by kernel_rfl
theorem sy_guard : Tryz.prog.eqGuardType Tryz.prog.depth 94 = false := by kernel_rfl
theorem eqSy (d : Nat) (a : Sym) (w : World) : (Op.equalIn (d + 2) 94 (.agg #[.int .i64 a.name, .int .i64 a.lo, .int .i64 a.hi]) (.agg #[.int .i64 a.name, .int .i64 a.lo, .int .i64 a.hi])).run Tryz.prog w = .ok true w := by
  rw [run_equalIn_struct w (d + 1) 94 _ _ sy_under sy_held, eqFields_eq, sy_fields]
  rw [eqFs_int _ _ _ 0 a.name a.name _ rfl rfl, eqFs_int _ _ _ 1 a.lo a.lo _ rfl rfl, eqFs_int _ _ _ 2 a.hi a.hi _ rfl rfl]
  simp [eqFs]
theorem run_sy_neq (a : Sym) (w : World) : (binOp .neq 94 (.agg #[.int .i64 a.name, .int .i64 a.lo, .int .i64 a.hi]) (.agg #[.int .i64 a.name, .int .i64 a.lo, .int .i64 a.hi])).run Tryz.prog w = .ok (.bool false) w := by
  have := eqSy 9998 a w
  rw [run_neq_struct, this]; rfl
def ToN (w : World) (n : Nat) (cnt : Value) (wr : World) : Prop := ∃ k : Nat, cnt = .int .i64 k ∧ k ≤ n ∧ Below w.heap.size w wr

set_option maxRecDepth 100000 in
set_option maxHeartbeats 4000000 in
theorem same_texts {w : World} {ns : List ByteArray} {A B : Option Addr} {a b : Nat} (h1 : Rd.str.C w A ns) (h2 : Rd.str.C w B ns) (hl : ns.length ≤ 9223372036854775807) :
    Calls Tryz.prog 26 #[.slice A ns.length a, .slice B ns.length b] w fun e w' => e = .returned (.bool true) ∧ Below w.heap.size w w' := by
  have H1 := Lib.hid h1
  have H2 := Lib.hid h2
  clear h1 h2
  go_enter Tryz.func26, Tryz.ntmps26
  go_wp2_with fail
  go_loopw [5] (fun cnt wr => ToN w ns.length cnt wr) (fun cnt _ => ns.length - (intOf cnt).toNat)
  case atStart => exact ⟨0, rfl, Nat.zero_le _, below_refl _⟩
  case round =>
    obtain ⟨k, rfl, hk, hb⟩ := hrel
    have HB := Lib.hid hb
    clear hb
    by_cases hlt : k < ns.length
    · obtain ⟨s, hs⟩ : ∃ s, ns[k]? = some s := ⟨_, List.getElem?_eq_getElem hlt⟩
      obtain ⟨ad, eA, q0⟩ := Rd.C.one (H1.out.mono HB.out) hs
      obtain ⟨bd, eB, q1⟩ := Rd.C.one (H2.out.mono HB.out) hs
      subst eA eB
      have hki : (k : Int) < ns.length := by omega
      have Q0 := Lib.hid q0
      have Q1 := Lib.hid q1
      clear hs q0 q1
      go_wp2_with fail
      refine wp_region_below (by kernel_rfl) (by kernel_rfl) ?_
      repeat (first
        | (refine qv_skip (by rfl) ?_; simp only [Act.put, List.setIfInBounds_toArray, List.set_cons_zero, List.set_cons_succ])
        | (refine qv_val' (by rfl) ?_; apply Exists.intro; refine ⟨fun w5 hC => ?_, ?_⟩; (have qqr0 := below_cell hC Q0.out; have qqr1 := below_cell hC Q1.out; go_simp; rfl); simp only [Act.put, List.setIfInBounds_toArray, List.set_cons_zero, List.set_cons_succ]))
      refine qv_nil ?_
      intro w5 hC
      have HB5 := Lib.hid (below_trans HB.out hC)
      clear hC
      go_wp2_with fail
      go_roundw
      case rel => exact ⟨k + 1, by go_num, by omega, HB5.out⟩
      case measure => simp [intOf]; omega
    · have b1 : ¬ ((k : Int) < ns.length) := by omega
      go_wp2_with fail
      go_ret
      exact ⟨rfl, HB.out⟩
set_option maxRecDepth 100000 in
set_option maxHeartbeats 4000000 in
theorem same_symbols {w : World} {ns : List Sym} {A B : Option Addr} {a b : Nat} (h1 : symRd.C w A ns) (h2 : symRd.C w B ns) (hl : ns.length ≤ 9223372036854775807) :
    Calls Tryz.prog 46 #[.slice A ns.length a, .slice B ns.length b] w fun e w' => e = .returned (.bool true) ∧ Below w.heap.size w w' := by
  have H1 := Lib.hid h1
  have H2 := Lib.hid h2
  clear h1 h2
  go_enter Tryz.func46, Tryz.ntmps46
  go_wp2_with fail
  go_loopw [5] (fun cnt wr => ToN w ns.length cnt wr) (fun cnt _ => ns.length - (intOf cnt).toNat)
  case atStart => exact ⟨0, rfl, Nat.zero_le _, below_refl _⟩
  case round =>
    obtain ⟨k, rfl, hk, hb⟩ := hrel
    have HB := Lib.hid hb
    clear hb
    by_cases hlt : k < ns.length
    · obtain ⟨s, hs⟩ : ∃ s, ns[k]? = some s := ⟨_, List.getElem?_eq_getElem hlt⟩
      obtain ⟨ad, eA, -, p0, p1, p2⟩ := sym_at (H1.out.mono HB.out) hs
      obtain ⟨bd, eB, -, q0, q1, q2⟩ := sym_at (H2.out.mono HB.out) hs
      subst eA eB
      have hki : (k : Int) < ns.length := by omega
      have P0 := Lib.hid p0
      have P1 := Lib.hid p1
      have P2 := Lib.hid p2
      have Q0 := Lib.hid q0
      have Q1 := Lib.hid q1
      have Q2 := Lib.hid q2
      have KE := run_sy_neq s
      have KG := sy_guard
      clear hs q0 q1 q2 p0 p1 p2
      go_wp2_with fail
      refine wp_region_below (by kernel_rfl) (by kernel_rfl) ?_
      repeat (first
        | (refine qv_skip (by rfl) ?_; simp only [Act.put, List.setIfInBounds_toArray, List.set_cons_zero, List.set_cons_succ])
        | (refine qv_val' (by rfl) ?_; apply Exists.intro; refine ⟨fun w5 hC => ?_, ?_⟩; (have qqr0 := below_cell hC P0.out; have qqr1 := below_cell hC P1.out; have qqr2 := below_cell hC P2.out; have qqr3 := below_cell hC Q0.out; have qqr4 := below_cell hC Q1.out; have qqr5 := below_cell hC Q2.out; go_simp; rfl); simp only [Act.put, List.setIfInBounds_toArray, List.set_cons_zero, List.set_cons_succ]))
      refine qv_nil ?_
      intro w5 hC
      have HB5 := Lib.hid (below_trans HB.out hC)
      clear hC
      go_wp2_with fail
      go_roundw
      case rel => exact ⟨k + 1, by go_num, by omega, HB5.out⟩
      case measure => simp [intOf]; omega
    · have b1 : ¬ ((k : Int) < ns.length) := by omega
      go_wp2_with fail
      go_ret
      exact ⟨rfl, HB.out⟩

set_option maxRecDepth 100000 in
set_option maxHeartbeats 8000000 in
theorem same_rule {w : World} {x : Rul} {A B : Option Addr} {a b : Nat} (h1 : conjRd.C w A x.conj) (h2 : conjRd.C w B x.conj) (hl : x.conj.length ≤ 9223372036854775807) (hs : ∀ y ∈ x.conj, y.seq.length ≤ 9223372036854775807) :
    Calls Tryz.prog 27 #[.agg #[.int .i64 x.head, .slice A x.conj.length a], .agg #[.int .i64 x.head, .slice B x.conj.length b]] w fun e w' => e = .returned (.bool true) ∧ Below w.heap.size w w' := by
  have b0 := heap_alloc2_old w (Obj.cells #[.int .i64 x.head, .slice A x.conj.length a] 50) (Obj.cells #[.int .i64 x.head, .slice B x.conj.length b] 50)
  have b2 := heap_alloc2_new w (Obj.cells #[.int .i64 x.head, .slice A x.conj.length a] 50) (Obj.cells #[.int .i64 x.head, .slice B x.conj.length b] 50)
  have hb0 : Below w.heap.size w ((w.alloc (Obj.cells #[.int .i64 x.head, .slice A x.conj.length a] 50)).alloc (Obj.cells #[.int .i64 x.head, .slice B x.conj.length b] 50)) := below_alloc' (below_alloc' (below_refl w) _) _
  have H1 := Lib.hid h1
  have H2 := Lib.hid h2
  have HS := Lib.hid hs
  clear h1 h2 hs
  go_enter Tryz.func27, Tryz.ntmps27
  go_upto_region 1 with fail
  generalize (w.alloc (Obj.cells #[.int .i64 x.head, .slice A x.conj.length a] 50)).alloc (Obj.cells #[.int .i64 x.head, .slice B x.conj.length b] 50) = w0 at b0 b2 hb0 ⊢
  obtain ⟨g1, hg1⟩ : ∃ g, g = w.heap.size := ⟨_, rfl⟩
  obtain ⟨g2, hg2⟩ : ∃ g, g = w.heap.size + 1 := ⟨_, rfl⟩
  rw [← hg1] at b0
  rw [← hg2] at b2
  rw [← hg2, ← hg1]
  have HB0 := Lib.hid hb0
  have HG1 := Lib.hid b0
  have HG2 := Lib.hid b2
  clear b0 b2 hb0 hg1 hg2
  have x0 : w0.cell? ⟨g1, 0, none⟩ = some (.int .i64 x.head) := blk_cell HG1.out 0
  have x1 : w0.cell? ⟨g1, 1, none⟩ = some (.slice A x.conj.length a) := blk_cell HG1.out 1
  have y0 : w0.cell? ⟨g2, 0, none⟩ = some (.int .i64 x.head) := blk_cell HG2.out 0
  have y1 : w0.cell? ⟨g2, 1, none⟩ = some (.slice B x.conj.length b) := blk_cell HG2.out 1
  go_wp2_with fail
  clear x0 x1 y0 y1
  go_loopw [5] (fun cnt wr => ToN w0 x.conj.length cnt wr) (fun cnt _ => x.conj.length - (intOf cnt).toNat)
  case atStart => exact ⟨0, rfl, Nat.zero_le _, below_refl _⟩
  case round =>
    obtain ⟨k, rfl, hk, hb⟩ := hrel
    have HB := Lib.hid hb
    have x1 : wr.cell? ⟨g1, 1, none⟩ = some (.slice A x.conj.length a) := blk_cell (blk_below HG1.out hb) 1
    have y1 : wr.cell? ⟨g2, 1, none⟩ = some (.slice B x.conj.length b) := blk_cell (blk_below HG2.out hb) 1
    clear hb
    by_cases hlt : k < x.conj.length
    · obtain ⟨y, hy⟩ : ∃ y, x.conj[k]? = some y := ⟨_, List.getElem?_eq_getElem hlt⟩
      obtain ⟨ad, A1, c1, eA, -, p0, p1, -, -, hS1⟩ := conj_at (H1.out.mono (below_trans HB0.out HB.out)) hy
      obtain ⟨bd, B1, c2, eB, -, q0, q1, -, -, hS2⟩ := conj_at (H2.out.mono (below_trans HB0.out HB.out)) hy
      subst eA eB
      have hki : (k : Int) < x.conj.length := by omega
      have X1 := Lib.hid x1
      have Y1 := Lib.hid y1
      have HC := Lib.hid (fun (w5 : World) (h5 : Below wr.heap.size wr w5) => same_symbols (a := c1) (b := c2) (hS1.mono h5) (hS2.mono h5) (HS.out y (List.mem_of_getElem? hy)))
      obtain ⟨ng, hng⟩ : ∃ ng, ng = y.neg := ⟨_, rfl⟩
      rw [← hng] at p0 q0
      have P0 := Lib.hid p0
      have P1 := Lib.hid p1
      have Q0 := Lib.hid q0
      have Q1 := Lib.hid q1
      have dng : (ng != ng) = false := by simp
      clear hy hS1 hS2 p0 p1 q0 q1 hng
      cases ng with
      | false =>
        go_wp2_with fail
        refine wp_region_below (by kernel_rfl) (by kernel_rfl) ?_
        repeat (first
          | (refine qv_skip (by rfl) ?_; simp only [Act.put, List.setIfInBounds_toArray, List.set_cons_zero, List.set_cons_succ])
          | (refine qv_val' (by rfl) ?_; apply Exists.intro; refine ⟨fun w5 hC => ?_, ?_⟩; (have qqr0 := below_cell hC X1.out; have qqr1 := below_cell hC Y1.out; have qqr2 := below_cell hC P0.out; have qqr3 := below_cell hC P1.out; have qqr4 := below_cell hC Q0.out; have qqr5 := below_cell hC Q1.out; go_simp; rfl); simp only [Act.put, List.setIfInBounds_toArray, List.set_cons_zero, List.set_cons_succ])
          | (refine qv_call' (by rfl) ?_; apply Exists.intro; apply Exists.intro; apply Exists.intro; refine ⟨fun w5 hC => ?_, fun w5 hC => ?_, ?_⟩; (go_simp; first | rfl | exact ⟨rfl, rfl⟩); (first | (go_at_call 46; with_reducible exact calls_in hC (HC.out w5 hC))); simp only [Act.put, List.setIfInBounds_toArray, List.set_cons_zero, List.set_cons_succ]))
        refine qv_nil ?_
        intro w5 hC
        have HB5 := Lib.hid (below_trans HB.out hC)
        clear hC
        go_wp2_with fail
        go_roundw
        case rel => exact ⟨k + 1, by go_num, by omega, HB5.out⟩
        case measure => simp [intOf]; omega
      | true =>
        go_wp2_with fail
        refine wp_region_below (by kernel_rfl) (by kernel_rfl) ?_
        repeat (first
          | (refine qv_skip (by rfl) ?_; simp only [Act.put, List.setIfInBounds_toArray, List.set_cons_zero, List.set_cons_succ])
          | (refine qv_val' (by rfl) ?_; apply Exists.intro; refine ⟨fun w5 hC => ?_, ?_⟩; (have qqr0 := below_cell hC X1.out; have qqr1 := below_cell hC Y1.out; have qqr2 := below_cell hC P0.out; have qqr3 := below_cell hC P1.out; have qqr4 := below_cell hC Q0.out; have qqr5 := below_cell hC Q1.out; go_simp; rfl); simp only [Act.put, List.setIfInBounds_toArray, List.set_cons_zero, List.set_cons_succ])
          | (refine qv_call' (by rfl) ?_; apply Exists.intro; apply Exists.intro; apply Exists.intro; refine ⟨fun w5 hC => ?_, fun w5 hC => ?_, ?_⟩; (go_simp; first | rfl | exact ⟨rfl, rfl⟩); (first | (go_at_call 46; with_reducible exact calls_in hC (HC.out w5 hC))); simp only [Act.put, List.setIfInBounds_toArray, List.set_cons_zero, List.set_cons_succ]))
        refine qv_nil ?_
        intro w5 hC
        have HB5 := Lib.hid (below_trans HB.out hC)
        clear hC
        go_wp2_with fail
        go_roundw
        case rel => exact ⟨k + 1, by go_num, by omega, HB5.out⟩
        case measure => simp [intOf]; omega
    · have b1 : ¬ ((k : Int) < x.conj.length) := by omega
      go_wp2_with fail
      go_ret
      exact ⟨rfl, below_trans HB0.out HB.out⟩
/-- Its slices are no longer than Go's ints tell. -/
structure Shortish (G : Gram) : Prop where
  n : G.names.length ≤ 9223372036854775807
  r : G.rules.length ≤ 9223372036854775807
  c : ∀ x ∈ G.rules, x.conj.length ≤ 9223372036854775807
  s : ∀ x ∈ G.rules, ∀ y ∈ x.conj, y.seq.length ≤ 9223372036854775807
set_option maxRecDepth 100000 in
set_option maxHeartbeats 8000000 in
theorem same_gram {w : World} {G : Gram} {A B A' B' : Option Addr} {a b a' b' : Nat} (hsh : Shortish G) (h1 : Rd.str.C w A G.names) (h2 : Rd.str.C w B G.names) (h3 : rulRd.C w A' G.rules) (h4 : rulRd.C w B' G.rules) :
    Calls Tryz.prog 7 #[.agg #[.int .i64 G.start, .slice A G.names.length a, .slice A' G.rules.length a'], .agg #[.int .i64 G.start, .slice B G.names.length b, .slice B' G.rules.length b']] w fun e w' => e = .returned (.bool true) ∧ Below w.heap.size w w' := by
  have b0 := heap_alloc2_old w (Obj.cells #[.int .i64 G.start, .slice A G.names.length a, .slice A' G.rules.length a'] 25) (Obj.cells #[.int .i64 G.start, .slice B G.names.length b, .slice B' G.rules.length b'] 25)
  have b2 := heap_alloc2_new w (Obj.cells #[.int .i64 G.start, .slice A G.names.length a, .slice A' G.rules.length a'] 25) (Obj.cells #[.int .i64 G.start, .slice B G.names.length b, .slice B' G.rules.length b'] 25)
  have hb0 : Below w.heap.size w ((w.alloc (Obj.cells #[.int .i64 G.start, .slice A G.names.length a, .slice A' G.rules.length a'] 25)).alloc (Obj.cells #[.int .i64 G.start, .slice B G.names.length b, .slice B' G.rules.length b'] 25)) := below_alloc' (below_alloc' (below_refl w) _) _
  have H1 := Lib.hid h1
  have H2 := Lib.hid h2
  have H3 := Lib.hid h3
  have H4 := Lib.hid h4
  clear h1 h2 h3 h4
  go_enter Tryz.func7, Tryz.ntmps7
  go_upto_region 1 with fail
  generalize (w.alloc (Obj.cells #[.int .i64 G.start, .slice A G.names.length a, .slice A' G.rules.length a'] 25)).alloc (Obj.cells #[.int .i64 G.start, .slice B G.names.length b, .slice B' G.rules.length b'] 25) = w0 at b0 b2 hb0 ⊢
  obtain ⟨g1, hg1⟩ : ∃ g, g = w.heap.size := ⟨_, rfl⟩
  obtain ⟨g2, hg2⟩ : ∃ g, g = w.heap.size + 1 := ⟨_, rfl⟩
  rw [← hg1] at b0
  rw [← hg2] at b2
  rw [← hg2, ← hg1]
  have HB0 := Lib.hid hb0
  have HG1 := Lib.hid b0
  have HG2 := Lib.hid b2
  clear b0 b2 hb0 hg1 hg2
  have x0 : w0.cell? ⟨g1, 0, none⟩ = some (.int .i64 G.start) := blk_cell HG1.out 0
  have x1 : w0.cell? ⟨g1, 1, none⟩ = some (.slice A G.names.length a) := blk_cell HG1.out 1
  have y0 : w0.cell? ⟨g2, 0, none⟩ = some (.int .i64 G.start) := blk_cell HG2.out 0
  have y1 : w0.cell? ⟨g2, 1, none⟩ = some (.slice B G.names.length b) := blk_cell HG2.out 1
  have HT := Lib.hid (same_texts (a := a) (b := b) (H1.out.mono HB0.out) (H2.out.mono HB0.out) hsh.n)
  have ds : (G.start != G.start) = false := by simp
  have hshr := hsh.r
  go_wp2_with (first | (go_at_call 26; refine HT.out.mono ?_; rintro e w1 ⟨rfl, hb1⟩; have HB1 := Lib.hid hb1; have x2 : w1.cell? ⟨g1, 2, none⟩ = some (.slice A' G.rules.length a') := blk_cell (blk_below HG1.out hb1) 2; have y2 : w1.cell? ⟨g2, 2, none⟩ = some (.slice B' G.rules.length b') := blk_cell (blk_below HG2.out hb1) 2; clear hb1) | fail)
  clear x0 x1 y0 y1 x2 y2
  go_loopw [5] (fun cnt wr => ToN w0 G.rules.length cnt wr) (fun cnt _ => G.rules.length - (intOf cnt).toNat)
  case atStart => exact ⟨0, rfl, Nat.zero_le _, HB1.out⟩
  case round =>
    clear HB1
    obtain ⟨k, rfl, hk, hb⟩ := hrel
    have HB := Lib.hid hb
    have x2 : wr.cell? ⟨g1, 2, none⟩ = some (.slice A' G.rules.length a') := blk_cell (blk_below HG1.out hb) 2
    have y2 : wr.cell? ⟨g2, 2, none⟩ = some (.slice B' G.rules.length b') := blk_cell (blk_below HG2.out hb) 2
    clear hb
    by_cases hlt : k < G.rules.length
    · obtain ⟨x, hx⟩ : ∃ x, G.rules[k]? = some x := ⟨_, List.getElem?_eq_getElem hlt⟩
      obtain ⟨ad, A1, c1, eA, -, p0, p1, -, -, hS1⟩ := rul_at (H3.out.mono (below_trans HB0.out HB.out)) hx
      obtain ⟨bd, B1, c2, eB, -, q0, q1, -, -, hS2⟩ := rul_at (H4.out.mono (below_trans HB0.out HB.out)) hx
      subst eA eB
      have hki : (k : Int) < G.rules.length := by omega
      have X2 := Lib.hid x2
      have Y2 := Lib.hid y2
      have HC := Lib.hid (fun (w5 : World) (h5 : Below wr.heap.size wr w5) => same_rule (a := c1) (b := c2) (hS1.mono h5) (hS2.mono h5) (hsh.c x (List.mem_of_getElem? hx)) (hsh.s x (List.mem_of_getElem? hx)))
      have P0 := Lib.hid p0
      have P1 := Lib.hid p1
      have Q0 := Lib.hid q0
      have Q1 := Lib.hid q1
      clear hx hS1 hS2 p0 p1 q0 q1
      go_wp2_with fail
      refine wp_region_below (by kernel_rfl) (by kernel_rfl) ?_
      repeat (first
        | (refine qv_skip (by rfl) ?_; simp only [Act.put, List.setIfInBounds_toArray, List.set_cons_zero, List.set_cons_succ])
        | (refine qv_val' (by rfl) ?_; apply Exists.intro; refine ⟨fun w5 hC => ?_, ?_⟩; (have qqr0 := below_cell hC X2.out; have qqr1 := below_cell hC Y2.out; have qqr2 := below_cell hC P0.out; have qqr3 := below_cell hC P1.out; have qqr4 := below_cell hC Q0.out; have qqr5 := below_cell hC Q1.out; go_simp; rfl); simp only [Act.put, List.setIfInBounds_toArray, List.set_cons_zero, List.set_cons_succ])
        | (refine qv_call' (by rfl) ?_; apply Exists.intro; apply Exists.intro; apply Exists.intro; refine ⟨fun w5 hC => ?_, fun w5 hC => ?_, ?_⟩; (go_simp; first | rfl | exact ⟨rfl, rfl⟩); (first | (go_at_call 27; with_reducible exact calls_in hC (HC.out w5 hC))); simp only [Act.put, List.setIfInBounds_toArray, List.set_cons_zero, List.set_cons_succ]))
      refine qv_nil ?_
      intro w5 hC
      have HB5 := Lib.hid (below_trans HB.out hC)
      clear hC
      go_wp2_with fail
      go_roundw
      case rel => exact ⟨k + 1, by go_num, by omega, HB5.out⟩
      case measure => simp [intOf]; omega
    · have b1 : ¬ ((k : Int) < G.rules.length) := by omega
      go_wp2_with fail
      go_ret
      exact ⟨rfl, below_trans HB0.out HB.out⟩
end Go.Proofs.YtbknkhcdfjiehaaGreat
