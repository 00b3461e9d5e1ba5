/-
  H3: the checker's words: is, lesser, ranked, rising, shape.
-/
import Derived.Test.YtfmfoiecphhhiaaH2
import Derived.Test.YtfmfoiecphhhiaaW3
set_option linter.unusedSimpArgs false
set_option linter.unusedVariables false
namespace Go.Proofs.Ytfmfoiecphhhiaa
open Go.RowKit

/-- A checker: where its grammar, its proof, its slices lie. -/
structure CK where
  p : Nat
  g : Nat
  c : Nat
  G : Gram
  W : ByteArray
  C : Crt
  An : Option Addr
  xn : Nat
  Ar : Option Addr
  xr : Nat
  Ac : Option Addr
  xc : Nat
structure CkAt (w : World) (k : CK) : Prop where
  p0 : w.cell? ⟨k.p, 0, none⟩ = some (.pointer (some ⟨k.g, 0, none⟩))
  p1 : w.cell? ⟨k.p, 1, none⟩ = some (.string k.W)
  p2 : w.cell? ⟨k.p, 2, none⟩ = some (.pointer (some ⟨k.c, 0, none⟩))
  g0 : w.cell? ⟨k.g, 0, none⟩ = some (.int .i64 k.G.start)
  g1 : w.cell? ⟨k.g, 1, none⟩ = some (.slice k.An k.G.names.length k.xn)
  g2 : w.cell? ⟨k.g, 2, none⟩ = some (.slice k.Ar k.G.rules.length k.xr)
  c0 : w.cell? ⟨k.c, 0, none⟩ = some (.int .i64 k.C.root)
  c1 : w.cell? ⟨k.c, 1, none⟩ = some (.slice k.Ac k.C.nodes.length k.xc)
  rul : rulRd.C w k.Ar k.G.rules
  nod : nodRd.C w k.Ac k.C.nodes
theorem CkAt.mono {w w' : World} {k : CK} (h : CkAt w k) (hb : Below w.heap.size w w') : CkAt w' k :=
  ⟨below_cell hb h.p0, below_cell hb h.p1, below_cell hb h.p2, below_cell hb h.g0, below_cell hb h.g1, below_cell hb h.g2, below_cell hb h.c0, below_cell hb h.c1, h.rul.mono hb, h.nod.mono hb⟩
theorem CkAt.drew {w : World} {k : CK} (h : CkAt w k) : CkAt w.drew k := h.mono (below_drew' (below_refl w))
/-- What is known of its sizes. -/
structure CK.Fits (k : CK) : Prop where
  may : MayG k.G
  W32 : k.W.size ≤ 32
  N : k.C.nodes.length ≤ 1000000
theorem CK.Fits.conj8 {k : CK} (F : k.Fits) (r : Nat) (x : Rul) (h : k.G.rules[r]? = some x) : x.conj.length ≤ 8 := (F.may.conj r x h).2
theorem ndAt_some {C : Crt} {k : Int} {y : Nod} (h : ndAt C k = some y) : ∃ n : Nat, k = (n : Int) ∧ n < C.nodes.length ∧ C.nodes[n]? = some y := by
  unfold ndAt at h
  split at h
  · cases h
  · exact ⟨k.toNat, by omega, (List.getElem?_eq_some_iff.1 h).1, h⟩
theorem ndAt_none {C : Crt} {k : Int} (h : ndAt C k = none) : k < 0 ∨ (0 ≤ k ∧ (C.nodes.length : Int) ≤ k) := by
  unfold ndAt at h
  split at h
  · left; assumption
  · right; have := List.getElem?_eq_none_iff.1 h; omega
theorem ky_beq (a b : Ky) : (a = b) ↔ a.kind = b.kind ∧ a.name = b.name ∧ a.plc.rule = b.plc.rule ∧ a.plc.conj = b.plc.conj ∧ a.plc.pos = b.plc.pos ∧ a.i = b.i ∧ a.j = b.j := by
  obtain ⟨a1, a2, ⟨a3, a4, a5⟩, a6, a7⟩ := a
  obtain ⟨b1, b2, ⟨b3, b4, b5⟩, b6, b7⟩ := b
  simp [and_assoc]

set_option maxRecDepth 100000 in
set_option maxHeartbeats 4000000 in
theorem is_kid {w : World} {k : CK} (h : CkAt w k) (F : k.Fits) (kid : Int) (sign : Bool) (ky : Ky) :
    Calls Try.prog 15 #[.pointer (some ⟨k.p, 0, none⟩), .int .i64 kid, .bool sign, kyV ky] w fun e w' => e = .returned (.bool (isB k.C kid sign ky)) ∧ Below w.heap.size w w' := by
  have hN := F.N
  have hb0 : Below w.heap.size w (w.alloc (Obj.cells #[.int .i64 ky.kind, .int .i64 ky.name, .int .i64 ky.plc.rule, .int .i64 ky.plc.conj, .int .i64 ky.plc.pos, .int .i64 ky.i, .int .i64 ky.j] 70)) := below_alloc' (below_refl w) _
  have B0 := heap_alloc_new w (Obj.cells #[.int .i64 ky.kind, .int .i64 ky.name, .int .i64 ky.plc.rule, .int .i64 ky.plc.conj, .int .i64 ky.plc.pos, .int .i64 ky.i, .int .i64 ky.j] 70)
  have H0 := Lib.hid (h.mono hb0)
  clear h
  unfold kyV
  cases hnd : ndAt k.C kid with
  | none =>
    have HZ := Lib.hid (show isB k.C kid sign ky = false by unfold isB; rw [hnd])
    rcases ndAt_none hnd with h1 | ⟨h1, h2⟩
    · have d1 : decide (0 ≤ kid) = false := by simp; omega
      clear hnd
      go_enter Try.func15, Try.ntmps15
      go_wp2_with fail
      generalize w.alloc (Obj.cells #[.int .i64 ky.kind, .int .i64 ky.name, .int .i64 ky.plc.rule, .int .i64 ky.plc.conj, .int .i64 ky.plc.pos, .int .i64 ky.i, .int .i64 ky.j] 70) = w0 at hb0 B0 H0 ⊢
      go_quiet (fail)
      go_wp2
      go_ret
      exact ⟨by rw [HZ.out]; rfl, pw_below_drewN hb0 _⟩
    · have d2 : decide (kid < (k.C.nodes.length : Int)) = false := by simp; omega
      have q0 := H0.out.p2
      have q1 := H0.out.c1
      clear hnd
      go_enter Try.func15, Try.ntmps15
      go_wp2_with fail
      generalize w.alloc (Obj.cells #[.int .i64 ky.kind, .int .i64 ky.name, .int .i64 ky.plc.rule, .int .i64 ky.plc.conj, .int .i64 ky.plc.pos, .int .i64 ky.i, .int .i64 ky.j] 70) = w0 at hb0 B0 H0 q0 q1 ⊢
      go_quiet (fail)
      go_wp2
      go_ret
      exact ⟨by rw [HZ.out]; rfl, pw_below_drewN hb0 _⟩
  | some y =>
    obtain ⟨n, rfl, hn, hy⟩ := ndAt_some hnd
    obtain ⟨ad, A1, c1, eA, hNd⟩ := nod_at H0.out.nod hy
    have HI := Lib.hid (show isB k.C n sign ky = ((y.sign == sign) && decide (y.ky = ky)) by unfold isB; rw [hnd])
    have q0 := H0.out.p2
    have q1 := H0.out.c1
    rw [eA] at q1
    have q2 := hNd.c0
    have hlt : (n : Int) < k.C.nodes.length := by omega
    clear hnd hy eA
    by_cases hs : y.sign = sign
    · have d3 : (y.sign == sign) = true := by simp [hs]
      have HN := Lib.hid hNd
      have HB := Lib.hid hb0
      clear hs hNd hb0
      go_enter Try.func15, Try.ntmps15
      go_wp2_with fail
      generalize w.alloc (Obj.cells #[.int .i64 ky.kind, .int .i64 ky.name, .int .i64 ky.plc.rule, .int .i64 ky.plc.conj, .int .i64 ky.plc.pos, .int .i64 ky.i, .int .i64 ky.j] 70) = w0 at HB B0 H0 q0 q1 q2 HN ⊢
      have x0 : w0.cell? ⟨w.heap.size, 0, none⟩ = some (.int .i64 ky.kind) := blk_cell B0 0
      have x1 : w0.cell? ⟨w.heap.size, 1, none⟩ = some (.int .i64 ky.name) := blk_cell B0 1
      have x2 : w0.cell? ⟨w.heap.size, 2, none⟩ = some (.int .i64 ky.plc.rule) := blk_cell B0 2
      have x3 : w0.cell? ⟨w.heap.size, 3, none⟩ = some (.int .i64 ky.plc.conj) := blk_cell B0 3
      have x4 : w0.cell? ⟨w.heap.size, 4, none⟩ = some (.int .i64 ky.plc.pos) := blk_cell B0 4
      have x5 : w0.cell? ⟨w.heap.size, 5, none⟩ = some (.int .i64 ky.i) := blk_cell B0 5
      have x6 : w0.cell? ⟨w.heap.size, 6, none⟩ = some (.int .i64 ky.j) := blk_cell B0 6
      have q0 := Lib.hid q0
      have q1 := Lib.hid q1
      have q2 := Lib.hid q2
      have X := Lib.hid (And.intro x0 (And.intro x1 (And.intro x2 (And.intro x3 (And.intro x4 (And.intro x5 x6))))))
      clear x0 x1 x2 x3 x4 x5 x6
      have KE : ∀ w, (binOp .eql 70 (kyV y.ky) (.agg #[.int .i64 ky.kind, .int .i64 ky.name, .int .i64 ky.plc.rule, .int .i64 ky.plc.conj, .int .i64 ky.plc.pos, .int .i64 ky.i, .int .i64 ky.j])).run Try.prog w = .ok (.bool (decide (y.ky = ky))) w := run_ky_eql y.ky ky
      have KG : ∀ (a b : Operand) w, (eqGuard .eql 70 a b (kyV y.ky) (.agg #[.int .i64 ky.kind, .int .i64 ky.name, .int .i64 ky.plc.rule, .int .i64 ky.plc.conj, .int .i64 ky.plc.pos, .int .i64 ky.i, .int .i64 ky.j])).run Try.prog w = .ok () w := fun a b w => run_ky_guard _ _ _ _ _ w
      obtain ⟨be, hbe⟩ : ∃ be, be = decide (y.ky = ky) := ⟨_, rfl⟩
      rw [← hbe] at KE HI
      have HBE := Lib.hid hbe
      clear hbe
      refine wp_region_below (by kernel_rfl) (by kernel_rfl) ?_
      repeat (first
        | (refine qv_skip (by rfl) ?_; simp only [Act.put, List.setIfInBounds_toArray, List.set_cons_zero, List.set_cons_succ])
        | (refine qv_val' (by rfl) ?_; apply Exists.intro; refine ⟨fun w5 hC => ?_, ?_⟩; (have r0 := below_cell hC q0.out; have r1 := below_cell hC q1.out; have r2 := below_cell hC q2.out; have y0 := below_cell hC X.out.1; have y1 := below_cell hC X.out.2.1; have y2 := below_cell hC X.out.2.2.1; have y3 := below_cell hC X.out.2.2.2.1; have y4 := below_cell hC X.out.2.2.2.2.1; have y5 := below_cell hC X.out.2.2.2.2.2.1; have y6 := below_cell hC X.out.2.2.2.2.2.2; go_simp; rfl); simp only [Act.put, List.setIfInBounds_toArray, List.set_cons_zero, List.set_cons_succ])
        | (refine qv_call' (by rfl) ?_; apply Exists.intro; apply Exists.intro; apply Exists.intro; refine ⟨fun w5 hC => ?_, fun w5 hC => ?_, ?_⟩; (go_simp; first | rfl | exact ⟨rfl, rfl⟩); (go_at_call 24; exact calls_in hC (keyOf_any (HN.out.mono hC))); simp only [Act.put, List.setIfInBounds_toArray, List.set_cons_zero, List.set_cons_succ]))
      refine qv_nil ?_
      intro w5 hC
      have HB5 := Lib.hid (below_trans HB.out hC)
      clear hC
      go_wp2_with fail
      go_ret
      exact ⟨by rw [HI.out, d3]; rfl, HB5.out⟩
    · have d3 : (y.sign == sign) = false := by simpa using hs
      have HZ := Lib.hid (show isB k.C n sign ky = false by rw [HI.out, d3]; rfl)
      clear hs hNd
      go_enter Try.func15, Try.ntmps15
      go_wp2_with fail
      generalize w.alloc (Obj.cells #[.int .i64 ky.kind, .int .i64 ky.name, .int .i64 ky.plc.rule, .int .i64 ky.plc.conj, .int .i64 ky.plc.pos, .int .i64 ky.i, .int .i64 ky.j] 70) = w0 at hb0 B0 H0 q0 q1 q2 ⊢
      go_quiet (fail)
      go_wp2
      go_ret
      exact ⟨by rw [HZ.out]; rfl, pw_below_drewN hb0 _⟩
end Go.Proofs.Ytfmfoiecphhhiaa
