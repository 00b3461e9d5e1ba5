/-
  I4: a maker of proofs as it lies in memory; its Rank, Root; ways.rest; mean's Holds.
-/
import Derived.Test.YtbidpeggdhkahaaI2
import Derived.Test.YtbidpeggdhkahaaMc
import Derived.Test.YtbidpeggdhkahaaM7
import Derived.Test.YtbidpeggdhkahaaU1
import Derived.WalkSpells
import Derived.Deep.QuietTactic
import Derived.BigQuiet
import Derived.Lib.Hide
import Derived.RegionTactic
import Derived.ChangeAlike
import Derived.WalkLawsBesides
import Derived.Deep.RegionHeld3
import Derived.BigRegion
import Derived.StillTailTactics
import Derived.Outline
set_option linter.unusedSimpArgs false
set_option linter.unusedVariables false
namespace Go.Proofs.Ytbidpeggdhkahaa
open Go.RowKit

/-- A maker: at block p, its grammar at block g; its table. -/
structure MK where
  p : Nat
  g : Nat
  t : TS
  fin : Rk × Rk
  full : Bool
  A : Option Addr
  c : Nat
/-- Its ranks. -/
def MK.R (m : MK) : Ky → Int := rankV m.t.G m.t.W m.fin.1 (fun r c pos i j => m.fin.2 (offG m.t.G r c + pos) i j)
structure MKAt (w : World) (m : MK) : Prop where
  m0 : w.cell? ⟨m.p, 0, none⟩ = some (.pointer (some ⟨m.g, 0, none⟩))
  m1 : w.cell? ⟨m.p, 1, none⟩ = some (.string m.t.W)
  m2 : w.cell? ⟨m.p, 2, none⟩ = some (.pointer (some ⟨m.t.p, 0, none⟩))
  m3 : w.cell? ⟨m.p, 3, none⟩ = some (.bool m.full)
  g0 : w.cell? ⟨m.g, 0, none⟩ = some (.int .i64 m.t.G.start)
  g2 : w.cell? ⟨m.g, 2, none⟩ = some (.slice m.A m.t.G.rules.length m.c)
  gR : rulRd.C w m.A m.t.G.rules
  St : Stat w m.t
  Rw : Rows w m.t m.fin.1 m.fin.2
structure MK.Fits (m : MK) : Prop where
  H : Law m.t
  sol : Sol m.t m.fin
  may : MayG m.t.G
  cap : m.t.G.rules.length ≤ m.c
  cap' : m.c ≤ 9223372036854775807
theorem MKAt.mono {w w' : World} {m : MK} (h : MKAt w m) (hb : Below w.heap.size w w') : MKAt w' m :=
  ⟨below_cell hb h.m0, below_cell hb h.m1, below_cell hb h.m2, below_cell hb h.m3, below_cell hb h.g0, below_cell hb h.g2, h.gR.mono hb, h.St.below hb, h.Rw.below hb⟩
theorem MK.Fits.rank_name {m : MK} (F : m.Fits) (k : Ky) (hk : k.kind = 0) : m.R k = m.t.rank m.fin.1 k.name k.i k.j := by
  unfold MK.R rankV TS.rank nameK spanB spanV TS.K
  rw [if_pos hk]
theorem MK.Fits.rank_seq {m : MK} (F : m.Fits) (k : Ky) (hk : k.kind ≠ 0) : m.R k = m.t.rrank m.fin.2 k.plc.rule k.plc.conj k.plc.pos k.i k.j := by
  unfold MK.R rankV TS.rrank spanB spanV
  rw [if_neg hk, F.H.off]
theorem MK.Fits.view {m : MK} (F : m.Fits) : View m.t.G.rules m.t.G.names.length (fun i => btz m.t.W i) m.t.W.size m.fin.1 (fun r c pos i j => m.fin.2 (offG m.t.G r c + pos) i j) := by
  have V := F.sol.view F.H (rs := m.t.G.rules) (K := m.t.G.names.length) (δ := 0) (hi := m.t.W.size) (fun _ _ h => h) (Nat.le_refl _) (fun _ _ h _ => h) (by omega) (by omega)
  simp only [Int.add_zero] at V
  rw [F.H.off] at V
  exact V
theorem MK.Fits.ok {m : MK} (F : m.Fits) : RkOK m.R m.t.G m.t.W := rkOK F.may F.view

/-- A key in a block of its own. -/
def kyO (k : Ky) : Obj := .cells #[.int .i64 k.kind, .int .i64 k.name, .int .i64 k.plc.rule, .int .i64 k.plc.conj, .int .i64 k.plc.pos, .int .i64 k.i, .int .i64 k.j] 59 (0, 0)
structure KyAt (w : World) (a : Addr) (k : Ky) : Prop where
  c0 : w.cell? a = some (.int .i64 k.kind)
  c1 : w.cell? ⟨a.block, a.off + 1, none⟩ = some (.int .i64 k.name)
  c2 : w.cell? ⟨a.block, a.off + 2, none⟩ = some (.int .i64 k.plc.rule)
  c3 : w.cell? ⟨a.block, a.off + 3, none⟩ = some (.int .i64 k.plc.conj)
  c4 : w.cell? ⟨a.block, a.off + 4, none⟩ = some (.int .i64 k.plc.pos)
  c5 : w.cell? ⟨a.block, a.off + 5, none⟩ = some (.int .i64 k.i)
  c6 : w.cell? ⟨a.block, a.off + 6, none⟩ = some (.int .i64 k.j)
theorem KyAt.mono {w w' : World} {a : Addr} {k : Ky} (h : KyAt w a k) (hb : Below w.heap.size w w') : KyAt w' a k :=
  ⟨below_cell hb h.c0, below_cell hb h.c1, below_cell hb h.c2, below_cell hb h.c3, below_cell hb h.c4, below_cell hb h.c5, below_cell hb h.c6⟩
theorem kyAt_blk {w : World} {b : Nat} {k : Ky} (h : w.heap[b]? = some (kyO k)) : KyAt w ⟨b, 0, none⟩ k :=
  ⟨blk_cell h 0, by simpa using blk_cell h 1, by simpa using blk_cell h 2, by simpa using blk_cell h 3, by simpa using blk_cell h 4, by simpa using blk_cell h 5, by simpa using blk_cell h 6⟩

set_option maxRecDepth 100000 in
set_option maxHeartbeats 2000000 in
/-- (*ways.Maker).Rank. -/
theorem mkRank {w : World} {m : MK} (h : MKAt w m) (F : m.Fits) (k : Ky) : Calls Try.prog 14 #[.pointer (some ⟨m.p, 0, none⟩), kyV k] w fun e w' => e = .returned (.int .i64 (m.R k)) ∧ Below w.heap.size w w' := by
  have hb0 : Below w.heap.size w (w.alloc (kyO k)) := below_alloc' (below_refl w) _
  have H0 := Lib.hid (h.mono hb0)
  have B0 := heap_alloc_new w (kyO k)
  obtain ⟨b0, hb⟩ : ∃ b0, b0 = w.heap.size := ⟨_, rfl⟩
  unfold kyV
  by_cases hk : k.kind = 0
  · have d0 : (k.kind == 0) = true := by simpa using hk
    have HR := Lib.hid (F.rank_name k hk)
    clear hk
    go_enter Try.func14, Try.ntmps14
    go_upto_region 2 with fail
    change Code.wp _ _ _ _ (w.alloc (kyO k))
    rw [← hb] at B0 ⊢
    generalize w.alloc (kyO k) = w0 at hb0 H0 B0 ⊢
    have HB0 := Lib.hid hb0
    have K := kyAt_blk B0
    have K1 := Lib.hid K.c1
    have K2 := Lib.hid K.c2
    have K3 := Lib.hid K.c3
    have K4 := Lib.hid K.c4
    have K5 := Lib.hid K.c5
    have K6 := Lib.hid K.c6
    have M2 := Lib.hid H0.out.m2
    clear hb0 B0 hb K
    refine wp_region_below (by kernel_rfl) (by kernel_rfl) ?_
    repeat (first
      | (refine qv_skip (by rfl) ?_; simp only [Act.put, List.setIfInBounds_toArray, List.set_cons_zero, List.set_cons_succ])
      | (refine qv_val' (by rfl) ?_; apply Exists.intro; refine ⟨fun w5 hC => ?_, ?_⟩; (have qqr0 := below_cell hC K1.out; have qqr1 := below_cell hC K5.out; have qqr2 := below_cell hC K6.out; have qqr3 := below_cell hC M2.out; go_simp; rfl); simp only [Act.put, List.setIfInBounds_toArray, List.set_cons_zero, List.set_cons_succ])
      | (refine qv_call' (by rfl) ?_; apply Exists.intro; apply Exists.intro; apply Exists.intro; refine ⟨fun w5 hC => ?_, fun w5 hC => ?_, ?_⟩; (go_simp; first | rfl | exact ⟨rfl, rfl⟩); (first | (go_at_call 19; exact calls_in hC (rank_any (H0.out.mono hC).St F.H.F (H0.out.mono hC).Rw k.name k.i k.j))); simp only [Act.put, List.setIfInBounds_toArray, List.set_cons_zero, List.set_cons_succ]))
    refine qv_nil ?_
    intro w5 hC
    have HB5 := Lib.hid hC
    clear hC
    go_wp2_with fail
    go_ret
    exact ⟨by rw [HR.out]; rfl, below_then HB0.out HB5.out⟩
  · have d0 : (k.kind == 0) = false := by simpa using hk
    have HR := Lib.hid (F.rank_seq k hk)
    clear hk
    go_enter Try.func14, Try.ntmps14
    go_upto_region 3 with fail
    change Code.wp _ _ _ _ (w.alloc (kyO k))
    rw [← hb] at B0 ⊢
    generalize w.alloc (kyO k) = w0 at hb0 H0 B0 ⊢
    have HB0 := Lib.hid hb0
    have K := kyAt_blk B0
    have K1 := Lib.hid K.c1
    have K2 := Lib.hid K.c2
    have K3 := Lib.hid K.c3
    have K4 := Lib.hid K.c4
    have K5 := Lib.hid K.c5
    have K6 := Lib.hid K.c6
    have M2 := Lib.hid H0.out.m2
    clear hb0 B0 hb K
    refine wp_region_below (by kernel_rfl) (by kernel_rfl) ?_
    repeat (first
      | (refine qv_skip (by rfl) ?_; simp only [Act.put, List.setIfInBounds_toArray, List.set_cons_zero, List.set_cons_succ])
      | (refine qv_val' (by rfl) ?_; apply Exists.intro; refine ⟨fun w5 hC => ?_, ?_⟩; (have qqr0 := below_cell hC K2.out; have qqr1 := below_cell hC K3.out; have qqr2 := below_cell hC K4.out; have qqr3 := below_cell hC K5.out; have qqr4 := below_cell hC K6.out; have qqr5 := below_cell hC M2.out; go_simp; rfl); simp only [Act.put, List.setIfInBounds_toArray, List.set_cons_zero, List.set_cons_succ])
      | (refine qv_call' (by rfl) ?_; apply Exists.intro; apply Exists.intro; apply Exists.intro; refine ⟨fun w5 hC => ?_, fun w5 hC => ?_, ?_⟩; (go_simp; first | rfl | exact ⟨rfl, rfl⟩); (first | (go_at_call 20; exact calls_in hC (restRank_any (H0.out.mono hC).St F.H.F (H0.out.mono hC).Rw k.plc.rule k.plc.conj k.plc.pos k.i k.j))); simp only [Act.put, List.setIfInBounds_toArray, List.set_cons_zero, List.set_cons_succ]))
    refine qv_nil ?_
    intro w5 hC
    have HB5 := Lib.hid hC
    clear hC
    go_wp2_with fail
    go_ret
    exact ⟨by rw [HR.out]; rfl, below_then HB0.out HB5.out⟩

set_option maxRecDepth 100000 in
theorem wRest (p : Plc) (i j : Int) (w : World) : Calls Try.prog 38 #[plV p, .int .i64 i, .int .i64 j] w fun e w' => e = .returned (kyV (seqKey p i j)) ∧ Below w.heap.size w w' := by
  unfold plV
  go_enter Try.func38, Try.ntmps38
  go_wp2
  refine bodyPost_ret (v := kyV (seqKey p i j)) (by simp [results, Try.results38, go_sem, kyV, seqKey]) rfl ?_
  exact ⟨rfl, by repeat (first | exact below_refl _ | apply below_alloc' | apply below_drew')⟩

set_option maxRecDepth 100000 in
set_option maxHeartbeats 2000000 in
theorem mkRoot {w : World} {m : MK} (h : MKAt w m) : Calls Try.prog 15 #[.pointer (some ⟨m.p, 0, none⟩)] w fun e w' => e = .returned (kyV (nameKey m.t.G.start 0 m.t.W.size)) ∧ Below w.heap.size w w' := by
  have m0 := h.m0
  have m1 := h.m1
  have g0 := h.g0
  have hb0 : ∀ o, Below w.heap.size w (w.alloc o) := fun o => below_alloc' (below_refl w) o
  have n0 : ∀ o, (w.alloc o).cell? ⟨m.p, 0, none⟩ = some (.pointer (some ⟨m.g, 0, none⟩)) := fun o => below_cell (hb0 o) m0
  have n1 : ∀ o, (w.alloc o).cell? ⟨m.p, 1, none⟩ = some (.string m.t.W) := fun o => below_cell (hb0 o) m1
  have n2 : ∀ o, (w.alloc o).cell? ⟨m.g, 0, none⟩ = some (.int .i64 m.t.G.start) := fun o => below_cell (hb0 o) g0
  clear h
  go_enter Try.func15, Try.ntmps15
  go_wp2_with fail
  go_region_law (fail)
  all_goals
    go_wp2
    refine bodyPost_ret (v := kyV (nameKey m.t.G.start 0 m.t.W.size)) (by simp [results, Try.results15, go_sem, kyV, nameKey]) rfl ?_
    exact ⟨rfl, by repeat (first | exact below_refl _ | apply below_alloc' | apply below_drew')⟩

set_option maxHeartbeats 1000000 in
/-- (*mean.Table).Holds, in a maker's words. -/
theorem mHolds {w : World} {m : MK} (h : MKAt w m) (F : m.Fits) {r : Nat} {x : Rul} (hx : m.t.G.rules[r]? = some x) {k : Ky} (i0 : 0 ≤ k.i) (ij : k.i ≤ k.j) (j1 : k.j ≤ m.t.W.size) :
    Calls Try.prog 37 #[.pointer (some ⟨m.t.p, 0, none⟩), .int .i64 r, .int .i64 k.i, .int .i64 k.j] w fun e w' => e = .returned (.bool (holdsK m.R k r x)) ∧ Below w.heap.size w w' := by
  have C := Lib.hid (rule_any h.St F.H.F h.Rw hx i0 ij j1)
  have HV := Lib.hid (show decide (0 < ruleF m.t m.fin.2 r x.conj k.i k.j) = holdsK m.R k r x by
    have hB := F.H.big
    have T := F.sol.inv.tot
    have h1 := ruleF_pos (t := m.t) (r := r) (cs := x.conj) (i := k.i) (j := k.j) hB T.2
    have h2 := holdsK_iff (N := m.fin.1) (P := fun r c pos i j => m.fin.2 (offG m.t.G r c + pos) i j) (W := m.t.W) (k := k) hx i0 ij j1
    rw [F.H.off] at h1
    have h3 : 0 < ruleF m.t m.fin.2 r x.conj k.i k.j ↔ holdsK m.R k r x = true := h1.trans h2.symm
    cases hh : holdsK m.R k r x with
    | true => exact decide_eq_true (h3.2 hh)
    | false => exact decide_eq_false (fun h => by rw [h3.1 h] at hh; cases hh))
  clear h
  go_enter Try.func37, Try.ntmps37
  go_wp2_with (go_at_call 50; refine C.out.mono ?_; rintro e w' ⟨rfl, hb⟩; have HB := Lib.hid hb; clear hb)
  go_ret
  exact ⟨by rw [← HV.out]; rfl, HB.out⟩
end Go.Proofs.Ytbidpeggdhkahaa
