/-
  H2: check's keys, seqs.Is, the checker's is, shape: what they answer.
-/
import Derived.Test.YtfmfoiecphhhiaaHe
import Derived.Test.YtfmfoiecphhhiaaA3
import Derived.Test.YtfmfoiecphhhiaaU1
import Derived.WalkSpells
import Derived.Deep.QuietTactic
import Derived.BigQuiet
import Derived.Lib.Hide
import Derived.RegionTactic
import Derived.ChangeAlike
import Derived.WalkLawsBesides
import Derived.Deep.RegionHeld3
import Derived.BigRegion
import Derived.StillTailTactics
import Derived.Outline
set_option linter.unusedSimpArgs false
set_option linter.unusedVariables false
namespace Go.Proofs.Ytfmfoiecphhhiaa
open Go.RowKit

theorem ky_fields : (Try.prog.fieldsOf 70).toList.map (fun f => (f.name == "_", f.type, f.offset)) = [(false, 3, 0), (false, 3, 1), (false, 34, 2), (false, 3, 5), (false, 3, 6)] := by kernel_rfl
theorem ky_held : Try.prog.stoodInHeld 70 = false := by kernel_rfl
theorem ky_under : Try.prog.underlying 70 = some (.struct (Try.prog.fieldsOf 70)) := by kernel_rfl
theorem ky_guard : Try.prog.eqGuardType Try.prog.depth 70 = false := by kernel_rfl
theorem run_ky_guard (op : BinOp) (x y : Operand) (a b : Ky) (w : World) : (eqGuard op 70 x y (kyV a) (kyV b)).run Try.prog w = .ok () w := by
  unfold kyV
  exact run_eqGuard_agg w op 70 x y _ _ ky_guard
theorem run_ky_eql (a b : Ky) (w : World) : (binOp .eql 70 (kyV a) (kyV b)).run Try.prog w = .ok (.bool (decide (a = b))) w := by
  have := eqKy ky_fields ky_held ky_under 9997 a b w
  unfold kyV at this ⊢
  rw [run_eql_struct, this]; rfl
set_option maxRecDepth 100000 in
theorem rest_key (p : Plc) (i j : Int) (w : World) : Calls Try.prog 58 #[plV p, .int .i64 i, .int .i64 j] w fun e w' => e = .returned (kyV (seqKey p i j)) ∧ Below w.heap.size w w' := by
  unfold plV
  go_enter Try.func58, Try.ntmps58
  go_wp2
  refine bodyPost_ret (v := kyV (seqKey p i j)) (by simp [results, Try.results58, go_sem, kyV, seqKey]) rfl ?_
  exact ⟨rfl, by repeat (first | exact below_refl _ | apply below_alloc' | apply below_drew')⟩
theorem named_key (n i j : Int) (w : World) : Calls Try.prog 16 #[.int .i64 n, .int .i64 i, .int .i64 j] w fun e w' => e = .returned (kyV (nameKey n i j)) ∧ Below w.heap.size w w' := by
  go_enter Try.func16, Try.ntmps16
  go_wp2
  refine bodyPost_ret (v := kyV (nameKey n i j)) (by simp [results, Try.results16, go_sem, kyV, nameKey]) rfl ?_
  exact ⟨rfl, by repeat (first | exact below_refl _ | apply below_alloc' | apply below_drew')⟩
set_option maxRecDepth 100000 in
set_option maxHeartbeats 1000000 in
theorem keyOf_any {a : Addr} {x : Nod} {A : Option Addr} {c : Nat} {w : World} (h : NodAt w a x A c) : Calls Try.prog 24 #[.pointer (some a)] w fun e w' => e = .returned (kyV x.ky) ∧ Below w.heap.size w w' := by
  have q1 := h.c1
  have q2 := h.c2
  have q3 := h.c3
  have q4 := h.c4
  have q5 := h.c5
  have q6 := h.c6
  have q7 := h.c7
  have hb := h.blk
  go_enter Try.func24, Try.ntmps24
  go_wp2
  go_region
  all_goals
    go_wp2
    refine bodyPost_ret (v := kyV x.ky) (by simp [results, Try.results24, go_sem, kyV, Nod.ky]) rfl ?_
    exact ⟨rfl, by repeat (first | exact below_refl _ | apply below_alloc' | apply below_drew')⟩

set_option maxRecDepth 100000 in
set_option maxHeartbeats 1000000 in
theorem behind_any {a : Addr} {x : Nod} {A : Option Addr} {c : Nat} {w : World} (h : NodAt w a x A c) (hp : 0 ≤ x.plc.pos) (hq : x.plc.pos ≤ 1000) : Calls Try.prog 60 #[.pointer (some a)] w fun e w' => e = .returned (plV (behind x)) ∧ Below w.heap.size w w' := by
  have q3 := h.c3
  have q4 := h.c4
  have q5 := h.c5
  have hb := h.blk
  go_enter Try.func60, Try.ntmps60
  go_wp2
  refine bodyPost_ret (v := plV (behind x)) (by simp [results, Try.results60, go_sem, plV, behind]) rfl ?_
  exact ⟨rfl, by repeat (first | exact below_refl _ | apply below_alloc' | apply below_drew')⟩

set_option maxRecDepth 100000 in
set_option maxHeartbeats 4000000 in
theorem sIs_any {w : World} {g : Nat} {G : Gram} {A : Option Addr} {cR : Nat} (hR0 : w.cell? ⟨g, 2, none⟩ = some (.slice A G.rules.length cR)) (gR0 : rulRd.C w A G.rules) (B1 : G.rules.length ≤ 256) (B2 : ∀ (r : Nat) (x : Rul), G.rules[r]? = some x → x.conj.length ≤ 8) (B3 : ∀ (r : Nat) (x : Rul) (c : Nat) (y : Conj), G.rules[r]? = some x → x.conj[c]? = some y → y.seq.length ≤ 64) (r c q : Int) :
    Calls Try.prog 41 #[.pointer (some ⟨g, 0, none⟩), .agg #[.int .i64 r, .int .i64 c, .int .i64 q]] w
      fun e w' => e = .returned (.bool (placeB G.rules r c q)) ∧ Below w.heap.size w w' := by
  have hrl := B1
  have hb0 : Below w.heap.size w (w.alloc (Obj.cells #[Value.int .i64 r, Value.int .i64 c, Value.int .i64 q] 34)) := below_alloc' (below_refl w) _
  obtain ⟨ca0, sa0, gR⟩ := RulesAt.of (gR0.mono hb0)
  have hR := below_cell hb0 hR0
  have B0 := heap_alloc_new w (Obj.cells #[Value.int .i64 r, Value.int .i64 c, Value.int .i64 q] 34)
  generalize hw0 : w.alloc (Obj.cells #[Value.int .i64 r, Value.int .i64 c, Value.int .i64 q] 34) = w0 at hb0 gR hR B0
  have x0 : w0.cell? ⟨w.heap.size, 0, none⟩ = some (.int .i64 r) := blk_cell B0 0
  have x1 : w0.cell? ⟨w.heap.size, 1, none⟩ = some (.int .i64 c) := blk_cell B0 1
  have x2 : w0.cell? ⟨w.heap.size, 2, none⟩ = some (.int .i64 q) := blk_cell B0 2
  have HB := Lib.hid hb0
  clear hb0 B0 hR0 gR0
  by_cases h1 : 0 ≤ r
  · have d1 : decide (r < 0) = false := by simp; omega
    by_cases h2 : r < G.rules.length
    · have d2 : decide ((G.rules.length : Int) ≤ r) = false := by simp; omega
      obtain ⟨rn, rfl⟩ : ∃ rn : Nat, r = (rn : Int) := ⟨r.toNat, by omega⟩
      obtain ⟨x, hx⟩ : ∃ x, G.rules[rn]? = some x := ⟨_, List.getElem?_eq_getElem (by omega)⟩
      obtain ⟨ra, cC, era, lra, r0, r1⟩ := gR.rul rn x hx
      rw [era] at hR
      have hcn := B2 rn x hx
      by_cases h3 : 0 ≤ c
      · by_cases h4 : c < x.conj.length
        · obtain ⟨cn, rfl⟩ : ∃ cn : Nat, c = (cn : Int) := ⟨c.toNat, by omega⟩
          obtain ⟨y, hy⟩ : ∃ y, x.conj[cn]? = some y := ⟨_, List.getElem?_eq_getElem (by omega)⟩
          obtain ⟨ca, cS, eca, lca, c0, c1⟩ := gR.con rn x cn y hx hy
          rw [eca] at r1
          have hsn := B3 rn x cn y hx hy
          have HZ := Lib.hid (show ∀ q, placeB G.rules rn cn q = (decide (0 ≤ q) && decide (q ≤ y.seq.length)) from fun q => by simp [placeB, hx, hy])
          clear era eca hx hy
          by_cases h5 : 0 ≤ q
          · by_cases h6 : q ≤ y.seq.length
            · have hf : placeB G.rules rn cn q = true := by rw [HZ.out]; simp [h5, h6]
              have HF := Lib.hid hf
              clear hf HZ
              go_enter Try.func41, Try.ntmps41
              go_wp2_with fail
              try rw [hw0]
              clear hw0
              go_quiet (fail)
              go_wp2_with fail
              go_quiet (fail)
              go_wp2_with fail
              go_quiet (fail)
              go_wp2
              go_ret
              exact ⟨by rw [HF.out]; rfl, pw_below_drewN (pw_below_drewN (pw_below_drewN HB.out _) _) _⟩
            · have d6 : decide (q ≤ (y.seq.length : Int)) = false := by simp; omega
              have hf : placeB G.rules rn cn q = false := by rw [HZ.out]; simp [h5, h6]
              have HF := Lib.hid hf
              clear hf HZ
              go_enter Try.func41, Try.ntmps41
              go_wp2_with fail
              try rw [hw0]
              clear hw0
              go_quiet (fail)
              go_wp2_with fail
              go_quiet (fail)
              go_wp2_with fail
              go_quiet (fail)
              go_wp2
              go_ret
              exact ⟨by rw [HF.out]; rfl, pw_below_drewN (pw_below_drewN (pw_below_drewN HB.out _) _) _⟩
          · have d5 : decide (0 ≤ q) = false := by simp; omega
            have hf : placeB G.rules rn cn q = false := by rw [HZ.out]; simp [h5]
            have HF := Lib.hid hf
            clear hf HZ
            go_enter Try.func41, Try.ntmps41
            go_wp2_with fail
            try rw [hw0]
            clear hw0
            go_quiet (fail)
            go_wp2_with fail
            go_quiet (fail)
            go_wp2_with fail
            go_quiet (fail)
            go_wp2
            go_ret
            exact ⟨by rw [HF.out]; rfl, pw_below_drewN (pw_below_drewN (pw_below_drewN HB.out _) _) _⟩
        · have d4 : decide (c < (x.conj.length : Int)) = false := by simp; omega
          have hf : placeB G.rules rn c q = false := by
            simp only [placeB, Int.toNat_natCast, hx]
            rw [List.getElem?_eq_none (by omega)]
            simp
          have HF := Lib.hid hf
          clear hf era hx
          go_enter Try.func41, Try.ntmps41
          go_wp2_with fail
          try rw [hw0]
          clear hw0
          go_quiet (fail)
          go_wp2_with fail
          go_quiet (fail)
          go_wp2_with fail
          go_quiet (fail)
          go_wp2
          go_ret
          exact ⟨by rw [HF.out]; rfl, pw_below_drewN (pw_below_drewN (pw_below_drewN HB.out _) _) _⟩
      · have d3 : decide (0 ≤ c) = false := by simp; omega
        have hf : placeB G.rules rn c q = false := by simp [placeB, hx, h3]
        have HF := Lib.hid hf
        clear hf era hx
        go_enter Try.func41, Try.ntmps41
        go_wp2_with fail
        try rw [hw0]
        clear hw0
        go_quiet (fail)
        go_wp2_with fail
        go_quiet (fail)
        go_wp2_with fail
        go_quiet (fail)
        go_wp2
        go_ret
        exact ⟨by rw [HF.out]; rfl, pw_below_drewN (pw_below_drewN (pw_below_drewN HB.out _) _) _⟩
    · have hf : placeB G.rules r c q = false := by
        simp only [placeB]
        rw [List.getElem?_eq_none (by omega)]
        simp
      have HF := Lib.hid hf
      have d2 : (G.rules.length : Int) ≤ r := by omega
      clear hf h2
      go_enter Try.func41, Try.ntmps41
      go_wp2_with fail
      try rw [hw0]
      clear hw0
      go_quiet (fail)
      go_wp2
      go_ret
      exact ⟨by rw [HF.out]; rfl, pw_below_drewN HB.out _⟩
  · have hf : placeB G.rules r c q = false := by simp [placeB, h1]
    have HF := Lib.hid hf
    have d1 : r < 0 := by omega
    clear hf h1
    go_enter Try.func41, Try.ntmps41
    go_wp2_with fail
    try rw [hw0]
    clear hw0
    go_quiet (fail)
    go_wp2
    go_ret
    exact ⟨by rw [HF.out]; rfl, pw_below_drewN HB.out _⟩
end Go.Proofs.Ytfmfoiecphhhiaa
