/-
  F4: slices.AppendSeq, Collect, SortedFunc over the keys of a map of edges.
-/
import Derived.Test.YtmccdakmdcdbeaaF3
set_option linter.unusedSimpArgs false
set_option linter.unusedVariables false
namespace Go.Proofs.Ytmccdakmdcdbeaa
open Go.RowKit Go.Sort Go.Maps Go.Shelf
attribute [local go_sem] Oper.semAt_some

def encEs (xs : List Edg) : List Value := (xs.map encE).flatten
theorem encEs_snoc (xs : List Edg) (e : Edg) : encEs (xs ++ [e]) = encEs xs ++ [.int .i64 e.fr, .int .i64 e.to, .bool e.neg] := by simp [encEs, encE]
theorem infoEdge : (Try.prog.info? 81).map (fun i => (i.zero, i.size, i.bytes)) = some (some (.agg #[.int .i64 0, .int .i64 0, .bool false]), 3, 24) := by kernel_rfl
theorem cells_new (w : World) (cs : Array Value) (t : TypeId) : ∀ (j : Nat) (u : Value), cs.toList[j]? = some u → (w.alloc (.cells cs t)).cell? ((⟨w.heap.size, 0, none⟩ : Addr).add j) = some u := by
  intro j u hj
  rw [add_plain, Nat.zero_add, blk_cell (heap_alloc_new w _)]
  simpa using hj
/-- An edge in a box. -/
def BoxE (W : World) (B : Nat) (e : Edg) : Prop := W.heap[B]? = some (.cells #[.int .i64 e.fr, .int .i64 e.to, .bool e.neg] 81 (0, 0))
theorem boxE_own (B : Nat) (e : Edg) : Go.Own (fun (_ : Unit) W => BoxE W B e) := fun _ X Y row hs hg hrow => by
  unfold BoxE at hs ⊢
  refine (hg.block B (Array.getElem?_eq_some_iff.1 hs).1 (fun e' => ?_)).trans hs
  obtain ⟨o, ho, hc⟩ := hrow B e'.symm
  rw [hs] at ho
  cases ho
  cases hc
set_option maxRecDepth 100000 in
set_option maxHeartbeats 2000000 in
theorem appendSeq_in (n : Nat) (hn : 3 ≤ n) (Bm b : Nat) (L0 : List Edg) (hs : Small L0) (w : World) (hBm : Bm < w.heap.size) (hm : w.cell? ⟨Bm, 0, none⟩ = some (.map (some b))) (hown : EMap w b L0) (hl : L0.length ≤ 1000000) :
    CallsIn Fence.wide n Try.prog 67 #[.slice none 0 0, .func (.func 57) #[] #[.pointer (some ⟨Bm, 0, none⟩)]] w
      fun e W' => ∃ (v : Value) (xs : List Edg), e = .returned v ∧ (∀ x, x ∈ xs ↔ x ∈ L0) ∧ xs.length ≤ L0.length ∧ W'.ownsRow w.heap.size 81 3 v xs.length (encEs xs) ∧ Below w.heap.size w W' := by
  have h1 : 1 ≤ n := by omega
  have hsz := size_setE L0
  obtain ⟨i0, hi, hz0, hz1, hz2⟩ := info_parts infoEdge
  refine callsIn_of_wp_marks Try.func67 rfl trivial ?_ rfl
  simp only [Try.ntmps67, List.size_toArray, List.length_cons, List.length_nil, Nat.reduceAdd, Nat.reduceSub, Array.replicate_succ, Array.replicate_zero, List.push_toArray, List.append_toArray, List.nil_append, List.cons_append]
  gi_wp2
  have bO := Boxed.new w 76 (.slice none 0 0)
  have hB0 : Below w.heap.size w (w.alloc (.cells #[.slice none 0 0] 76)) := (Below.refl _ w).alloc (Nat.le_refl _) _
  have hown1 := hown.below hB0
  have hm1 : (w.alloc (.cells #[.slice none 0 0] 76)).cell? ⟨Bm, 0, none⟩ = some (.map (some b)) := below_cell hB0 hm
  refine wpIn_rangeFunc_ownH rfl h1 (gf := 57) (lb := #[.pointer (some ⟨Bm, 0, none⟩)]) rfl trivial (enters_of Try.func57 (by kernel_rfl) rfl)
    (keys_stops (n - 1) (by omega) Bm b L0 hs (w.alloc (.cells #[.slice none 0 0] 76)) (by simp; omega) hm1 hown1) walksK_t walksK_b (Below.refl _ _) (fun _ => rfl)
    (fun pre W => (∃ v, Boxed W w.heap.size 76 v ∧ W.ownsRow w.heap.size 81 3 v pre.length (encEs pre) ∧ True) ∧ pre.length ≤ L0.length ∧ Below w.heap.size w W)
    (fun _ _ _ => False)
    (OwnFrom.and (Go.Own.from (holdsRow_own w.heap.size w.heap.size 76 81 3 (fun pre => List.length pre) encEs (fun _ _ => True)) _) (OwnFrom.and (ownFrom_pure _ _) (ownFrom_below (Nat.le_refl _) (by simp))))
    (fun _ _ _ _ _ hs _ _ => hs)
    ⟨⟨_, bO, World.ownsRow_nil _ _ _ _, trivial⟩, by simp, hB0⟩
    (fun x a' W => ∃ Bx, w.heap.size < Bx ∧ BoxE W Bx x ∧ a' = { tmps := #[.slice none 0 0, .func (.func 57) #[] #[.pointer (some ⟨Bm, 0, none⟩)], .pointer (some ⟨w.heap.size, 0, none⟩), undef, .slice none 0 0, .pointer (some ⟨Bx, 0, none⟩), .func (.func 57) #[] #[.pointer (some ⟨Bm, 0, none⟩)], edgV x, undef, undef, undef, undef, undef], defers := [] })
    (fun x a' _ X Y row hs hg hr => by obtain ⟨Bx, h1, h2, h3⟩ := hs; exact ⟨Bx, h1, boxE_own Bx x () X Y row h2 hg (fun r e => (hr r e).2), h3⟩)
    ?assign ?body ?done ?stop
  case assign =>
    rintro l pre x W K ⟨⟨v, hv, hrow, -⟩, hpl, hB⟩ hK
    dsimp only [edgV] at hK ⊢
    have hlt := hv.lt
    gi_wp2
    exact hK _ _ ((KeepsOthers.alloc _ _).from _) (KeepsWalks.alloc _ _) ⟨⟨v, hv.alloc _, hrow.alloc _, trivial⟩, hpl, hB.alloc hB.size _⟩ ⟨W.heap.size, hlt, heap_alloc_new W _, rfl⟩
  case body =>
    rintro l pre x a' W hl ⟨r, hr⟩ ⟨⟨v, hv, hrow, -⟩, hpl, hB⟩ ⟨Bx, hBx, bX, rfl⟩ hlen
    have hc := hv.cell
    have hf := hv.frozen
    have x0 : W.cell? ⟨Bx, 0, none⟩ = some (.int .i64 x.fr) := blk_cell bX 0
    have x1 : W.cell? ⟨Bx, 1, none⟩ = some (.int .i64 x.to) := blk_cell bX 1
    have x2 : W.cell? ⟨Bx, 2, none⟩ = some (.bool x.neg) := blk_cell bX 2
    have hx := blk_lt bX
    gi_wp2_with (gi_at_builtin; refine wpListIn_append_own _ rfl _ _ 76 rfl w.heap.size 81 i0 (.agg #[.int .i64 0, .int .i64 0, .bool false]) 3 24 Try.underlying76 hi hz0 hz1 hz2 rfl (by decide) _ _ _ rfl (hrow.alloc _) ⟨W.heap.size, 0, none⟩ 1 1 [.int .i64 x.fr, .int .i64 x.to, .bool x.neg] rfl rfl (cells_new W #[.int .i64 x.fr, .int .i64 x.to, .bool x.neg] 81) (by simp [Value.oneCell']) (by unfold maxLen; omega) (by omega) (by have := hB.size; simp; omega) ?_; intro v' w1 hown' hgrow _; obtain ⟨g', cap', rfl⟩ := ownsRow_succ hown'; obtain ⟨hv1, hv2, hr2, hk2, hb2⟩ := hv.appended (by decide) hrow hB.size (Nat.le_refl _) hown' hgrow; have hc1 := hv1.cell; have hf1 := hv1.frozen)
    exact ⟨hk2.from _, hk2.walks, ⟨_, hv2, by rw [encEs_snoc]; simpa using hr2, trivial⟩, by simp; omega, hB.trans hb2⟩
  case done =>
    rintro D ys W hD hS ⟨⟨v, hv, hrow, -⟩, hpl, hB⟩ hK
    have hc := hv.cell
    gi_wp2
    refine ⟨by simp, .inl ⟨_, _, rfl, run_takeDeferred hK, ?_⟩⟩
    exact ⟨_, results_tmp rfl _ _ _, v, ys, rfl, hS, hpl, ownsRow_putObj hrow _ hK rfl, hB.trans (belowK_b (w := w) (Nat.le_refl _) W D _ _ (by simp at hD; omega) hK rfl rfl)⟩
  case stop =>
    rintro D c pre W _ _ h _
    exact h.elim
/-- What the keys are collected into. -/
def CollPost (w : World) (L0 : List Edg) (e : Ending) (W' : World) : Prop :=
  ∃ (v : Value) (xs : List Edg), e = .returned v ∧ (∀ x, x ∈ xs ↔ x ∈ L0) ∧ xs.length ≤ L0.length ∧ W'.ownsRow w.heap.size 81 3 v xs.length (encEs xs) ∧ Below w.heap.size w W'
set_option maxHeartbeats 1000000 in
theorem collect_in (n : Nat) (hn : 4 ≤ n) (Bm b : Nat) (L0 : List Edg) (hs : Small L0) (w : World) (hBm : Bm < w.heap.size) (hm : w.cell? ⟨Bm, 0, none⟩ = some (.map (some b))) (hown : EMap w b L0) (hl : L0.length ≤ 1000000) :
    CallsIn Fence.wide n Try.prog 55 #[.func (.func 57) #[] #[.pointer (some ⟨Bm, 0, none⟩)]] w (CollPost w L0) := by
  have h1 : 1 ≤ n := by omega
  have hF : Fence.wide.fn 67 := trivial
  have CA := Lib.hid (appendSeq_in (n - 1) (by omega) Bm b L0 hs w hBm hm hown hl)
  refine callsIn_of_wp Try.func55 rfl trivial ?_ rfl
  simp only [Try.ntmps55, List.size_toArray, List.length_cons, List.length_nil, Nat.reduceAdd, Nat.reduceSub, Array.replicate_succ, Array.replicate_zero, List.push_toArray, List.append_toArray, List.nil_append, List.cons_append]
  gi_wp2_with (gi_at_call 67; refine CA.out.mono ?_; rintro e w' ⟨v, xs, rfl, hS, hxl, hrow, hb⟩)
  go_ret
  exact ⟨v, xs, rfl, hS, hxl, hrow, hb⟩
theorem collect_any (Bm b : Nat) (L0 : List Edg) (hs : Small L0) (w : World) (hBm : Bm < w.heap.size) (hm : w.cell? ⟨Bm, 0, none⟩ = some (.map (some b))) (hown : EMap w b L0) (hl : L0.length ≤ 1000000) :
    Calls Try.prog 55 #[.func (.func 57) #[] #[.pointer (some ⟨Bm, 0, none⟩)]] w (CollPost w L0) :=
  callsIn_wide.1 (collect_in 4 (Nat.le_refl _) Bm b L0 hs w hBm hm hown hl)
theorem keys_any (mb : Option Nat) (w : World) :
    Calls Try.prog 46 #[.map mb] w fun e w' => e = .returned (.func (.func 57) #[] #[.pointer (some ⟨w.heap.size, 0, none⟩)]) ∧ w' = w.alloc (.cells #[.map mb] 86) :=
  callsIn_wide.1 (keys_in 4 mb w)
end Go.Proofs.Ytmccdakmdcdbeaa
