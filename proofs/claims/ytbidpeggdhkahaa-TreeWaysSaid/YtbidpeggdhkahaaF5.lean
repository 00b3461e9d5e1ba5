/-
  F2: edges as a map's keys.
  F3: maps.Keys over edges: its iterator gives each key once.
  F4: slices.AppendSeq, Collect, SortedFunc over the keys of a map of edges.
  F6: the walk of deps.Edges: its map holds all edges; then the tail (keys, sorted).
  F7: the walk of deps.Edges, given what slices.SortedFunc answers.
  F5: slices.SortedFunc over the keys of a map of edges: a slice of all of them.
-/
import Derived.Test.YtbidpeggdhkahaaF1
import Derived.DeepKeys5
import Derived.Maps.Own
import Derived.Maps.Views
import Derived.Maps.Range
import Derived.RangeFuncNested
import Derived.RangeFuncBox
import Derived.RangeFuncCalls
import Derived.RangeFuncLeaves
import Derived.RangeFuncStops
import Derived.RangeFuncBound
import Derived.Sort.MapsRangeIn
import Derived.Sort.KeysCollected
import Derived.Shelf.Abstract
import Derived.WalkKit
import Derived.OwnWalkIn
import Derived.TacticsInMore
import Derived.RegionIn
import Derived.LoopNIn
import Derived.LoopIn
import Derived.Maps.AppendAt
import Derived.Test.YtbidpeggdhkahaaW4
import Derived.Shelf.SlSortCmp.NoneTotal
set_option linter.unusedSimpArgs false
set_option linter.unusedVariables false
namespace Go.Proofs.Ytbidpeggdhkahaa
open Go.RowKit Go.Sort Go.Maps

def triV (x : Int × Int × Bool) : Value := .agg #[.int .i64 x.1, .int .i64 x.2.1, .bool x.2.2]
def edgV (e : Edg) : Value := .agg #[.int .i64 e.fr, .int .i64 e.to, .bool e.neg]
def litE (e : Edg) : Lit := .string (keyBytes [.int .i64 e.fr, .int .i64 e.to, .bool e.neg])
theorem edgeLaw : Keyed Try.prog 100 := Keyed.of_law (deep_law (m := 2) (by omega) (by kernel_rfl) (by kernel_rfl) (by kernel_rfl))
theorem edge_cells : Try.prog.cellsOf 100 = 3 := by kernel_rfl
theorem edge_cells3 : Try.prog.cellsOf 3 = 1 := by kernel_rfl
theorem edge_cells4 : Try.prog.cellsOf 4 = 1 := by kernel_rfl
theorem edge_key : Try.prog.keyType 100 = true := by kernel_rfl
theorem edge_lits (e : Edg) (h1 : e.fr < 64) (h2 : e.to < 64) (d : Nat) : Try.prog.keyLits (d + 2) 100 [.int .i64 e.fr, .int .i64 e.to, .bool e.neg] = some [.int .i64 e.fr, .int .i64 e.to, .bool e.neg] := by
  have w1 : (Lit.int .i64 (e.fr : Int)).wf = true := by simp [Lit.wf, IntKind.min, IntKind.max, IntKind.bits, IntKind.signed]; omega
  have w2 : (Lit.int .i64 (e.to : Int)).wf = true := by simp [Lit.wf, IntKind.min, IntKind.max, IntKind.bits, IntKind.signed]; omega
  unfold Program.keyLits
  simp only [Try.underlying100]
  simp [edge_cells, edge_cells3, edge_cells4, Program.keyLits, Try.underlying3, Try.underlying4, w1, w2]
theorem keyOf_edge (e : Edg) (h1 : e.fr < 64) (h2 : e.to < 64) : keyOf Try.prog 100 (edgV e) = some (litE e) := by
  have h0 : decide (1 ≤ Try.prog.types.size) = true := by kernel_rfl
  have h0' := of_decide_eq_true h0
  obtain ⟨d, hd⟩ : ∃ d, Try.prog.types.size = d + 1 := ⟨Try.prog.types.size - 1, by omega⟩
  unfold keyOf edgV
  rw [Try.underlying100]
  simp only [edge_key, Value.formed, Try.underlying100, edge_cells, Value.cells, hd]
  rw [edge_lits e h1 h2 d]
  rfl
theorem lits_int {d : Nat} {a : Value} {l : List Lit} (h : Try.prog.keyLits (d + 1) 3 [a] = some l) : ∃ n, a = .int .i64 n := by
  unfold Program.keyLits at h
  simp only [Try.underlying3] at h
  cases a with
  | int q n =>
    by_cases e : q = .i64 ∧ (Lit.int .i64 n).wf = true
    · obtain ⟨rfl, -⟩ := e
      exact ⟨n, rfl⟩
    · simp [e] at h
  | _ => simp at h
theorem lits_bool {d : Nat} {a : Value} {l : List Lit} (h : Try.prog.keyLits (d + 1) 4 [a] = some l) : ∃ n, a = .bool n := by
  unfold Program.keyLits at h
  simp only [Try.underlying4] at h
  cases a with
  | bool n => exact ⟨n, rfl⟩
  | _ => simp at h
theorem keyOf_tri {key : Value} {kl : Lit} (h : keyOf Try.prog 100 key = some kl) : ∃ x, key = triV x := by
  have h0 : decide (1 ≤ Try.prog.types.size) = true := by kernel_rfl
  have h0' := of_decide_eq_true h0
  obtain ⟨d, hd⟩ : ∃ d, Try.prog.types.size = d + 1 := ⟨Try.prog.types.size - 1, by omega⟩
  unfold keyOf at h
  simp only [Try.underlying100, edge_key, hd] at h
  cases key with
  | agg cs =>
    simp only [Value.cells] at h
    split at h
    · rename_i hf
      unfold Program.keyLits at h
      simp only [Try.underlying100] at h
      cases cs with
      | mk l =>
        have hl : l.length = 3 := by simpa [Value.formed, Try.underlying100, edge_cells] using hf
        rcases l with _ | ⟨a, _ | ⟨b, _ | ⟨c, _ | ⟨d, l⟩⟩⟩⟩
        · simp at hl
        · simp at hl
        · simp at hl
        · cases h1 : Try.prog.keyLits (d + 1) 3 [a] with
          | none => simp [edge_cells, edge_cells3, edge_cells4, h1] at h
          | some l1 =>
            cases h2 : Try.prog.keyLits (d + 1) 3 [b] with
            | none => simp [edge_cells, edge_cells3, edge_cells4, h1, h2] at h
            | some l2 =>
              cases h3 : Try.prog.keyLits (d + 1) 4 [c] with
              | none => simp [edge_cells, edge_cells3, edge_cells4, h1, h2, h3] at h
              | some l3 =>
                obtain ⟨n1, rfl⟩ := lits_int h1
                obtain ⟨n2, rfl⟩ := lits_int h2
                obtain ⟨n3, rfl⟩ := lits_bool h3
                exact ⟨(n1, n2, n3), rfl⟩
        · simp at hl
    · cases h
  | _ => simp [Value.formed, Try.underlying100] at h
theorem litE_key (e : Edg) : WideAt.IsKeyLit (litE e) := by simp [WideAt.IsKeyLit, litE]
theorem litE_inj {a b : Edg} (ha : a.fr < 64 ∧ a.to < 64) (hb : b.fr < 64 ∧ b.to < 64) (h : litE a = litE b) : a = b := by
  have h1 := keyOf_edge a ha.1 ha.2
  have h2 := keyOf_edge b hb.1 hb.2
  rw [← h] at h2
  have h3 := edgeLaw.inj h1 h2
  unfold edgV at h3
  obtain ⟨a1, a2, a3⟩ := a
  obtain ⟨b1, b2, b3⟩ := b
  simp at h3
  obtain ⟨e1, e2, e3⟩ := h3
  have e1' : a1 = b1 := by omega
  have e2' : a2 = b2 := by omega
  rw [e1', e2', e3]
/-- A set of edges, as a map. -/
def setE (L : List Edg) : DataW Unit := setOf (.lit (.bool true)) (L.map litE)
theorem setE_snoc (L : List Edg) (e : Edg) : setE (L ++ [e]) = (setE L).put (litE e) (.lit (.bool true)) := by
  unfold setE
  rw [List.map_append, List.map_cons, List.map_nil, setOf_snoc]
theorem has_setE (L : List Edg) (k : Lit) : has (setE L) k = true ↔ ∃ e ∈ L, (litE e).sameKey k = true := by
  unfold setE
  rw [has_setOf _ _ _ (by intro x hx; obtain ⟨e, _, rfl⟩ := List.mem_map.1 hx; exact litE_key e)]
  simp
theorem addKey_le (xs : List Lit) : ∀ acc : List Lit, (xs.foldl addKey acc).length ≤ acc.length + xs.length := by
  induction xs with
  | nil => intro acc; simp
  | cons x xs ih =>
    intro acc
    have h1 := ih (addKey acc x)
    have h2 : (addKey acc x).length ≤ acc.length + 1 := by unfold addKey; split <;> simp
    simp only [List.foldl_cons, List.length_cons]
    omega
theorem size_setE (L : List Edg) : Maps.size (setE L) ≤ L.length := by
  unfold setE
  rw [size_setOf _ _ (by intro x hx; obtain ⟨e, _, rfl⟩ := List.mem_map.1 hx; exact litE_key e)]
  have := addKey_le (L.map litE) []
  simpa using this
/-- The map in memory. -/
def EMap (w : World) (b : Nat) (L : List Edg) : Prop := w.ownsMap Try.prog 100 (plainElem (H := Unit) Try.prog 4) b L.length (setE L)
end Go.Proofs.Ytbidpeggdhkahaa

set_option linter.unusedSimpArgs false
set_option linter.unusedVariables false
namespace Go.Proofs.Ytbidpeggdhkahaa
open Go.RowKit Go.Sort Go.Maps Go.Shelf
attribute [local go_sem] Oper.semAt_some

/-- What has come, of the map's keys. -/
def CollE (L0 : List Edg) (left : Lit → Bool) (ss : List Edg) : Prop := ss.Nodup ∧ ∀ e : Edg, e ∈ ss ↔ e ∈ L0 ∧ left (litE e) = false
def Small (L : List Edg) : Prop := ∀ e ∈ L, e.fr < 64 ∧ e.to < 64
theorem same_litE {a b : Edg} : (litE a).sameKey (litE b) = true ↔ litE a = litE b := by
  unfold litE
  simp [Lit.sameKey]
theorem has_litE {L : List Edg} {e : Edg} (h : e ∈ L) : has (setE L) (litE e) = true := (has_setE L _).2 ⟨e, h, same_litE.2 rfl⟩
theorem CollE.start (L0 : List Edg) : CollE L0 (has (setE L0)) [] := by
  refine ⟨List.nodup_nil, fun e => ⟨fun h => by simp at h, fun ⟨h1, h2⟩ => ?_⟩⟩
  rw [has_litE h1] at h2
  cases h2
theorem CollE.step {L0 : List Edg} {left : Lit → Bool} {ss : List Edg} (h : CollE L0 left ss) (hs : Small L0) {e : Edg} (he : e ∈ L0) (hl : left (litE e) = true) : CollE L0 (fun z => left z && !z.sameKey (litE e)) (ss ++ [e]) := by
  have hnew : e ∉ ss := fun hx => by have := ((h.2 e).1 hx).2; rw [hl] at this; cases this
  refine ⟨List.nodup_append.2 ⟨h.1, by simp, fun a ha b hb => by simp at hb; subst hb; exact fun e' => hnew (e' ▸ ha)⟩, fun y => ?_⟩
  by_cases hy : y = e
  · subst hy
    simp [he, same_litE.2 rfl]
  · simp only [List.mem_append, List.mem_singleton, hy, or_false, h.2 y]
    constructor
    · rintro ⟨h1, h2⟩
      exact ⟨h1, by simp [h2]⟩
    · rintro ⟨h1, h2⟩
      refine ⟨h1, ?_⟩
      have h3 : (litE y).sameKey (litE e) = false := by
        rw [Bool.eq_false_iff]
        intro h4
        exact hy (litE_inj (hs y h1) (hs e he) (same_litE.1 h4))
      simpa [h3] using h2
theorem CollE.done {L0 : List Edg} {left : Lit → Bool} {ss : List Edg} (h : CollE L0 left ss) (hl : ∀ kl, left kl = false) : ∀ e, e ∈ ss ↔ e ∈ L0 := fun e => by rw [h.2 e, hl]; simp
/-- A key that is still to come is an edge of the list. -/
theorem edge_of_key {L0 : List Edg} (hs : Small L0) {x : Int × Int × Bool} {kl : Lit} (hk : keyOf Try.prog 100 (triV x) = some kl) (hh : has (setE L0) kl = true) : ∃ e ∈ L0, kl = litE e ∧ triV x = edgV e := by
  obtain ⟨e, he, h1⟩ := (has_setE L0 kl).1 hh
  have h2 : litE e = kl := WideAt.sameKey_eq h1
  subst h2
  have h3 := keyOf_edge e (hs e he).1 (hs e he).2
  exact ⟨e, he, rfl, edgeLaw.inj hk h3⟩

structure BoolV where
  b : Bool
structure TriV where
  x : Int × Int × Bool
set_option maxRecDepth 100000 in
theorem plainBool_inv {v : Value} {y : DataW Unit × List MemPlace} (h : plainElem (H := Unit) Try.prog 4 v = some y) : ∃ c : BoolV, v = .bool c.b := by
  unfold plainElem at h
  rw [Try.underlying4] at h
  cases v with
  | bool c => exact ⟨⟨c⟩, rfl⟩
  | _ => cases h
def KeysRel (W : World) (b : Nat) (L0 : List Edg) (J : List Edg → World → Prop) (wr : World) : Prop :=
  ∃ (left : Lit → Bool) (cnt : Nat) (ss : List Edg), wr.ranges Try.prog 100 (plainElem (H := Unit) Try.prog 4) b W.heap.size L0.length (setE L0) left cnt ∧ ss.length + cnt ≤ Maps.size (setE L0) ∧ CollE L0 left ss ∧ J ss wr
set_option maxRecDepth 100000 in
set_option maxHeartbeats 2000000 in
theorem keysIt_in (n : Nat) (hn : 1 ≤ n) (l Bm b : Nat) (L0 : List Edg) (hs : Small L0) (J Jx : List Edg → World → Prop)
    (hY : ∀ pre x W, J pre W → pre.length < Maps.size (setE L0) → YieldAt Fence.wide (n - 1) Try.prog l #[edgV x] W fun e W' => (e = .returned (.bool true) ∧ J (pre ++ [x]) W' ∧ KeepsWalks W W') ∨ (e = .returned (.bool false) ∧ Jx (pre ++ [x]) W'))
    (W : World) (hJ : AbidesFrom W.heap.size J) (hm : W.cell? ⟨Bm, 0, none⟩ = some (.map (some b))) (hown : EMap W b L0) (h0 : J [] W) :
    CallsIn Fence.wide n Try.prog 57 #[.func (.yield l) #[] #[], .pointer (some ⟨Bm, 0, none⟩)] W fun e W' => (∃ v, e = .returned v) ∧ ((∃ xs, (∀ e, e ∈ xs ↔ e ∈ L0) ∧ J xs W') ∨ (∃ pre, True ∧ Jx pre W')) := by
  refine callsIn_of_wp Try.func57 rfl trivial ?_ rfl
  simp only [Try.ntmps57, List.size_toArray, List.length_cons, List.length_nil, Nat.reduceAdd, Nat.reduceSub, Array.replicate_succ, Array.replicate_zero, List.push_toArray, List.append_toArray, List.nil_append, List.cons_append]
  gi_wp2_with (first
    | (gi_at_range; refine wpListIn_range_own _ rfl _ 109 rfl 100 4 edgeLaw Try.underlying109 _ b _ _ rfl hown ?_; intro w0 hrg0 hg0 hs0)
    | gi_in)
  go_frame
  gi_loopw [3] (fun _ wr => KeysRel W b L0 J wr) (fun _ wr => wr.rangeLeft b W.heap.size)
  case atStart =>
    exact ⟨_, _, [], hrg0, by simp, CollE.start L0, hJ [] W w0 none h0 hg0 (fun r e => by cases e)⟩
  case round =>
    obtain ⟨left, cnt, ss, hrg, hcs, hC, hJs⟩ := hrel
    gi_wp2_with (first
      | (gi_at_next; refine wpListIn_next_ranges _ rfl _ rfl 100 edgeLaw (plainElem (H := Unit) Try.prog 4) (fun x : TriV => triV x.x) (fun c : BoolV => Value.bool c.b) (fun key kl hk => by obtain ⟨x, hx⟩ := keyOf_tri hk; exact ⟨⟨x⟩, hx⟩) (fun v y hv => plainBool_inv hv) b W.heap.size _ _ _ _ rfl hrg ?_ ?_)
      | gi_in)
    · intro hc0 hl0
      gi_wp2
      go_end0
      exact ⟨⟨_, rfl⟩, .inl ⟨ss, hC.done hl0, hJs⟩⟩
    · intro x c kl yd yp w2 cnt2 hkey hlk hv hat hrg2 hlt hg2 hs2 hen
      obtain ⟨e0, he0, rfl, hx⟩ := edge_of_key hs hkey (has_true_of_atKey hat)
      rw [hx] at hen ⊢
      have hJ2 : J ss w2 := hJ ss wr w2 (some W.heap.size) hJs hg2 (fun r e => by cases e; exact ⟨Nat.le_refl _, hrg.iter_walk⟩)
      have hJ3 : J ss (w2.alloc (Obj.cells #[Value.int .i64 e0.fr, Value.int .i64 e0.to, Value.bool e0.neg] 100)) := hJ ss w2 _ none hJ2 (World.grownBy_alloc w2 _ none) (fun r e => by cases e)
      obtain ⟨fn, tmps, assign, body, hy, hR⟩ := hY ss e0 _ hJ3 (by omega)
      have hC' := hC.step hs he0 hlk
      clear hs2 hx hkey hat hv
      dsimp only [edgV] at hy hR hen ⊢
      gi_wp2
      refine hR.mono ?_
      rintro e W3 (⟨rfl, hJ4, hk3⟩ | ⟨rfl, hJx4⟩)
      · gi_wp2
        have hrg3 := (hrg2.alloc (Obj.cells #[Value.int .i64 e0.fr, Value.int .i64 e0.to, Value.bool e0.neg] 100)).of_walks hk3
        go_roundw
        case rel => exact ⟨_, cnt2, ss ++ [e0], hrg3, by simp; omega, hC', hJ4⟩
        case measure => rw [hrg3.left_eq, hrg.left_eq]; exact hlt
      · gi_wp2
        refine bodyPost_ret (results_none rfl _ _ _) rfl ?_
        exact ⟨⟨_, rfl⟩, .inr ⟨ss ++ [e0], trivial, hJx4⟩⟩
set_option maxHeartbeats 1000000 in
/-- maps.Keys: the map is boxed, the function value holds the box. -/
theorem keys_in (n : Nat) (mb : Option Nat) (w : World) :
    CallsIn Fence.wide n Try.prog 44 #[.map mb] w fun e w' => e = .returned (.func (.func 57) #[] #[.pointer (some ⟨w.heap.size, 0, none⟩)]) ∧ w' = w.alloc (.cells #[.map mb] 109) := by
  refine callsIn_of_wp Try.func44 rfl trivial ?_ rfl
  simp only [Try.ntmps44, List.size_toArray, List.length_cons, List.length_nil, Nat.reduceAdd, Nat.reduceSub, Array.replicate_succ, Array.replicate_zero, List.push_toArray, List.append_toArray, List.nil_append, List.cons_append]
  gi_wp2
  go_ret
  exact ⟨rfl, rfl⟩
theorem EMap.below {w w' : World} {b : Nat} {L : List Edg} (h : EMap w b L) (hb : Below w.heap.size w w') : EMap w' b L := by
  have hbl := World.ownsMap.lt h
  obtain ⟨es, clock, h1, Ft, h2, hD⟩ := h
  exact ⟨es, clock, (hb.block b hbl).trans h1, Ft, h2, hD⟩
/-- The value is an iterator over the map's keys, in the world behind the call. -/
theorem keys_stops (n : Nat) (hn : 1 ≤ n) (Bm b : Nat) (L0 : List Edg) (hs : Small L0) (w : World) (hBm : Bm < w.heap.size) (hm : w.cell? ⟨Bm, 0, none⟩ = some (.map (some b))) (hown : EMap w b L0) :
    SeqStopsK Fence.wide n Try.prog 57 #[.pointer (some ⟨Bm, 0, none⟩)] (fun e : Edg => #[edgV e]) KeepsWalks (fun xs => ∀ e, e ∈ xs ↔ e ∈ L0) (fun _ => True) (Maps.size (setE L0)) w := fun l J Jx W hW hJ _ hY h0 =>
  keysIt_in n hn l Bm b L0 hs J Jx hY W hJ ((hW.cell (p := ⟨Bm, 0, none⟩) hBm).trans hm) (hown.below hW) h0
end Go.Proofs.Ytbidpeggdhkahaa

set_option linter.unusedSimpArgs false
set_option linter.unusedVariables false
namespace Go.Proofs.Ytbidpeggdhkahaa
open Go.RowKit Go.Sort Go.Maps Go.Shelf
attribute [local go_sem] Oper.semAt_some

def encEs (xs : List Edg) : List Value := (xs.map encE).flatten
theorem encEs_snoc (xs : List Edg) (e : Edg) : encEs (xs ++ [e]) = encEs xs ++ [.int .i64 e.fr, .int .i64 e.to, .bool e.neg] := by simp [encEs, encE]
theorem infoEdge : (Try.prog.info? 100).map (fun i => (i.zero, i.size, i.bytes)) = some (some (.agg #[.int .i64 0, .int .i64 0, .bool false]), 3, 24) := by kernel_rfl
theorem cells_new (w : World) (cs : Array Value) (t : TypeId) : ∀ (j : Nat) (u : Value), cs.toList[j]? = some u → (w.alloc (.cells cs t)).cell? ((⟨w.heap.size, 0, none⟩ : Addr).add j) = some u := by
  intro j u hj
  rw [add_plain, Nat.zero_add, blk_cell (heap_alloc_new w _)]
  simpa using hj
/-- An edge in a box. -/
def BoxE (W : World) (B : Nat) (e : Edg) : Prop := W.heap[B]? = some (.cells #[.int .i64 e.fr, .int .i64 e.to, .bool e.neg] 100 (0, 0))
theorem boxE_own (B : Nat) (e : Edg) : Go.Own (fun (_ : Unit) W => BoxE W B e) := fun _ X Y row hs hg hrow => by
  unfold BoxE at hs ⊢
  refine (hg.block B (Array.getElem?_eq_some_iff.1 hs).1 (fun e' => ?_)).trans hs
  obtain ⟨o, ho, hc⟩ := hrow B e'.symm
  rw [hs] at ho
  cases ho
  cases hc
set_option maxRecDepth 100000 in
set_option maxHeartbeats 2000000 in
theorem appendSeq_in (n : Nat) (hn : 3 ≤ n) (Bm b : Nat) (L0 : List Edg) (hs : Small L0) (w : World) (hBm : Bm < w.heap.size) (hm : w.cell? ⟨Bm, 0, none⟩ = some (.map (some b))) (hown : EMap w b L0) (hl : L0.length ≤ 1000000) :
    CallsIn Fence.wide n Try.prog 68 #[.slice none 0 0, .func (.func 57) #[] #[.pointer (some ⟨Bm, 0, none⟩)]] w
      fun e W' => ∃ (v : Value) (xs : List Edg), e = .returned v ∧ (∀ x, x ∈ xs ↔ x ∈ L0) ∧ xs.length ≤ L0.length ∧ W'.ownsRow w.heap.size 100 3 v xs.length (encEs xs) ∧ Below w.heap.size w W' := by
  have h1 : 1 ≤ n := by omega
  have hsz := size_setE L0
  obtain ⟨i0, hi, hz0, hz1, hz2⟩ := info_parts infoEdge
  refine callsIn_of_wp_marks Try.func68 rfl trivial ?_ rfl
  simp only [Try.ntmps68, List.size_toArray, List.length_cons, List.length_nil, Nat.reduceAdd, Nat.reduceSub, Array.replicate_succ, Array.replicate_zero, List.push_toArray, List.append_toArray, List.nil_append, List.cons_append]
  gi_wp2
  have bO := Boxed.new w 95 (.slice none 0 0)
  have hB0 : Below w.heap.size w (w.alloc (.cells #[.slice none 0 0] 95)) := (Below.refl _ w).alloc (Nat.le_refl _) _
  have hown1 := hown.below hB0
  have hm1 : (w.alloc (.cells #[.slice none 0 0] 95)).cell? ⟨Bm, 0, none⟩ = some (.map (some b)) := below_cell hB0 hm
  refine wpIn_rangeFunc_ownH rfl h1 (gf := 57) (lb := #[.pointer (some ⟨Bm, 0, none⟩)]) rfl trivial (enters_of Try.func57 (by kernel_rfl) rfl)
    (keys_stops (n - 1) (by omega) Bm b L0 hs (w.alloc (.cells #[.slice none 0 0] 95)) (by simp; omega) hm1 hown1) walksK_t walksK_b (Below.refl _ _) (fun _ => rfl)
    (fun pre W => (∃ v, Boxed W w.heap.size 95 v ∧ W.ownsRow w.heap.size 100 3 v pre.length (encEs pre) ∧ True) ∧ pre.length ≤ L0.length ∧ Below w.heap.size w W)
    (fun _ _ _ => False)
    (OwnFrom.and (Go.Own.from (holdsRow_own w.heap.size w.heap.size 95 100 3 (fun pre => List.length pre) encEs (fun _ _ => True)) _) (OwnFrom.and (ownFrom_pure _ _) (ownFrom_below (Nat.le_refl _) (by simp))))
    (fun _ _ _ _ _ hs _ _ => hs)
    ⟨⟨_, bO, World.ownsRow_nil _ _ _ _, trivial⟩, by simp, hB0⟩
    (fun x a' W => ∃ Bx, w.heap.size < Bx ∧ BoxE W Bx x ∧ a' = { tmps := #[.slice none 0 0, .func (.func 57) #[] #[.pointer (some ⟨Bm, 0, none⟩)], .pointer (some ⟨w.heap.size, 0, none⟩), undef, .slice none 0 0, .pointer (some ⟨Bx, 0, none⟩), .func (.func 57) #[] #[.pointer (some ⟨Bm, 0, none⟩)], edgV x, undef, undef, undef, undef, undef], defers := [] })
    (fun x a' _ X Y row hs hg hr => by obtain ⟨Bx, h1, h2, h3⟩ := hs; exact ⟨Bx, h1, boxE_own Bx x () X Y row h2 hg (fun r e => (hr r e).2), h3⟩)
    ?assign ?body ?done ?stop
  case assign =>
    rintro l pre x W K ⟨⟨v, hv, hrow, -⟩, hpl, hB⟩ hK
    dsimp only [edgV] at hK ⊢
    have hlt := hv.lt
    gi_wp2
    exact hK _ _ ((KeepsOthers.alloc _ _).from _) (KeepsWalks.alloc _ _) ⟨⟨v, hv.alloc _, hrow.alloc _, trivial⟩, hpl, hB.alloc hB.size _⟩ ⟨W.heap.size, hlt, heap_alloc_new W _, rfl⟩
  case body =>
    rintro l pre x a' W hl ⟨r, hr⟩ ⟨⟨v, hv, hrow, -⟩, hpl, hB⟩ ⟨Bx, hBx, bX, rfl⟩ hlen
    have hc := hv.cell
    have hf := hv.frozen
    have x0 : W.cell? ⟨Bx, 0, none⟩ = some (.int .i64 x.fr) := blk_cell bX 0
    have x1 : W.cell? ⟨Bx, 1, none⟩ = some (.int .i64 x.to) := blk_cell bX 1
    have x2 : W.cell? ⟨Bx, 2, none⟩ = some (.bool x.neg) := blk_cell bX 2
    have hx := blk_lt bX
    gi_wp2_with (gi_at_builtin; refine wpListIn_append_own _ rfl _ _ 95 rfl w.heap.size 100 i0 (.agg #[.int .i64 0, .int .i64 0, .bool false]) 3 24 Try.underlying95 hi hz0 hz1 hz2 rfl (by decide) _ _ _ rfl (hrow.alloc _) ⟨W.heap.size, 0, none⟩ 1 1 [.int .i64 x.fr, .int .i64 x.to, .bool x.neg] rfl rfl (cells_new W #[.int .i64 x.fr, .int .i64 x.to, .bool x.neg] 100) (by simp [Value.oneCell']) (by unfold maxLen; omega) (by omega) (by have := hB.size; simp; omega) ?_; intro v' w1 hown' hgrow _; obtain ⟨g', cap', rfl⟩ := ownsRow_succ hown'; obtain ⟨hv1, hv2, hr2, hk2, hb2⟩ := hv.appended (by decide) hrow hB.size (Nat.le_refl _) hown' hgrow; have hc1 := hv1.cell; have hf1 := hv1.frozen)
    exact ⟨hk2.from _, hk2.walks, ⟨_, hv2, by rw [encEs_snoc]; simpa using hr2, trivial⟩, by simp; omega, hB.trans hb2⟩
  case done =>
    rintro D ys W hD hS ⟨⟨v, hv, hrow, -⟩, hpl, hB⟩ hK
    have hc := hv.cell
    gi_wp2
    refine ⟨by simp, .inl ⟨_, _, rfl, run_takeDeferred hK, ?_⟩⟩
    exact ⟨_, results_tmp rfl _ _ _, v, ys, rfl, hS, hpl, ownsRow_putObj hrow _ hK rfl, hB.trans (belowK_b (w := w) (Nat.le_refl _) W D _ _ (by simp at hD; omega) hK rfl rfl)⟩
  case stop =>
    rintro D c pre W _ _ h _
    exact h.elim
/-- What the keys are collected into. -/
def CollPost (w : World) (L0 : List Edg) (e : Ending) (W' : World) : Prop :=
  ∃ (v : Value) (xs : List Edg), e = .returned v ∧ (∀ x, x ∈ xs ↔ x ∈ L0) ∧ xs.length ≤ L0.length ∧ W'.ownsRow w.heap.size 100 3 v xs.length (encEs xs) ∧ Below w.heap.size w W'
set_option maxHeartbeats 1000000 in
theorem collect_in (n : Nat) (hn : 4 ≤ n) (Bm b : Nat) (L0 : List Edg) (hs : Small L0) (w : World) (hBm : Bm < w.heap.size) (hm : w.cell? ⟨Bm, 0, none⟩ = some (.map (some b))) (hown : EMap w b L0) (hl : L0.length ≤ 1000000) :
    CallsIn Fence.wide n Try.prog 55 #[.func (.func 57) #[] #[.pointer (some ⟨Bm, 0, none⟩)]] w (CollPost w L0) := by
  have h1 : 1 ≤ n := by omega
  have hF : Fence.wide.fn 68 := trivial
  have CA := Lib.hid (appendSeq_in (n - 1) (by omega) Bm b L0 hs w hBm hm hown hl)
  refine callsIn_of_wp Try.func55 rfl trivial ?_ rfl
  simp only [Try.ntmps55, List.size_toArray, List.length_cons, List.length_nil, Nat.reduceAdd, Nat.reduceSub, Array.replicate_succ, Array.replicate_zero, List.push_toArray, List.append_toArray, List.nil_append, List.cons_append]
  gi_wp2_with (gi_at_call 68; refine CA.out.mono ?_; rintro e w' ⟨v, xs, rfl, hS, hxl, hrow, hb⟩)
  go_ret
  exact ⟨v, xs, rfl, hS, hxl, hrow, hb⟩
theorem collect_any (Bm b : Nat) (L0 : List Edg) (hs : Small L0) (w : World) (hBm : Bm < w.heap.size) (hm : w.cell? ⟨Bm, 0, none⟩ = some (.map (some b))) (hown : EMap w b L0) (hl : L0.length ≤ 1000000) :
    Calls Try.prog 55 #[.func (.func 57) #[] #[.pointer (some ⟨Bm, 0, none⟩)]] w (CollPost w L0) :=
  callsIn_wide.1 (collect_in 4 (Nat.le_refl _) Bm b L0 hs w hBm hm hown hl)
theorem keys_any (mb : Option Nat) (w : World) :
    Calls Try.prog 44 #[.map mb] w fun e w' => e = .returned (.func (.func 57) #[] #[.pointer (some ⟨w.heap.size, 0, none⟩)]) ∧ w' = w.alloc (.cells #[.map mb] 109) :=
  callsIn_wide.1 (keys_in 4 mb w)
end Go.Proofs.Ytbidpeggdhkahaa

set_option linter.unusedSimpArgs false
set_option linter.unusedVariables false
namespace Go.Proofs.Ytbidpeggdhkahaa
open Go.RowKit Go.Sort Go.Maps

def ruleEdges (r : Rul) : List Edg := r.conj.flatMap (conjEdges r.head)
def symEdges (h : Int) (neg : Bool) (ss : List Sym) : List Edg := ss.filterMap (fun s => if 0 ≤ s.name then some ⟨h.toNat, s.name.toNat, neg⟩ else none)
def L1 (G : Gram) (r : Nat) : List Edg := (G.rules.take r).flatMap ruleEdges
def L2 (G : Gram) (r : Nat) (x : Rul) (c : Nat) : List Edg := L1 G r ++ (x.conj.take c).flatMap (conjEdges x.head)
def L3 (G : Gram) (r : Nat) (x : Rul) (c : Nat) (y : Conj) (k : Nat) : List Edg := L2 G r x c ++ symEdges x.head y.neg (y.seq.take k)
theorem L1_all (G : Gram) : L1 G G.rules.length = edgesOf G := by unfold L1 edgesOf; rw [List.take_length]; rfl
theorem L2_zero (G : Gram) (r : Nat) (x : Rul) : L2 G r x 0 = L1 G r := by simp [L2]
theorem L2_all {G : Gram} {r : Nat} {x : Rul} (h : G.rules[r]? = some x) : L2 G r x x.conj.length = L1 G (r + 1) := by
  unfold L2 L1
  rw [List.take_length, take_snoc h, List.flatMap_append]
  simp [ruleEdges]
theorem L3_zero (G : Gram) (r : Nat) (x : Rul) (c : Nat) (y : Conj) : L3 G r x c y 0 = L2 G r x c := by simp [L3, symEdges]
theorem L3_all {G : Gram} {r : Nat} {x : Rul} {c : Nat} {y : Conj} (h : x.conj[c]? = some y) : L3 G r x c y y.seq.length = L2 G r x (c + 1) := by
  unfold L3 L2
  rw [List.take_length, take_snoc h, List.flatMap_append]
  simp [conjEdges, symEdges]
theorem L3_yes {G : Gram} {r : Nat} {x : Rul} {c : Nat} {y : Conj} {k : Nat} {s : Sym} (h : y.seq[k]? = some s) (h0 : 0 ≤ s.name) : L3 G r x c y (k + 1) = L3 G r x c y k ++ [⟨x.head.toNat, s.name.toNat, y.neg⟩] := by
  unfold L3 symEdges
  rw [take_snoc h, List.filterMap_append]
  simp [h0]
theorem L3_no {G : Gram} {r : Nat} {x : Rul} {c : Nat} {y : Conj} {k : Nat} {s : Sym} (h : y.seq[k]? = some s) (h0 : ¬ 0 ≤ s.name) : L3 G r x c y (k + 1) = L3 G r x c y k := by
  unfold L3 symEdges
  rw [take_snoc h, List.filterMap_append]
  simp [h0]
def OnB (b : Nat) : Nat → Prop := fun k => k = b
theorem EMap.put {w : World} {b : Nat} {L : List Edg} {e : Edg} (h : w.ownsMap Try.prog 100 (plainElem (H := Unit) Try.prog 4) b (L.length + 1) ((setE L).put (litE e) (.lit (.bool true)))) : EMap w b (L ++ [e]) := by
  unfold EMap
  rw [setE_snoc, List.length_append]
  exact h
structure EdIn (w1 wX wr : World) (b : Nat) (L : List Edg) (n : Nat) : Prop where
  map : EMap wr b L
  len : L.length ≤ n
  below : Below w1.heap.size w1 wr
  upd : Upd (OnB b) wX wr
def EdRel1 (w1 wX : World) (G : Gram) (b : Nat) (cnt : Value) (wr : World) : Prop := ∃ r : Nat, cnt = .int .i64 r ∧ r ≤ G.rules.length ∧ EdIn w1 wX wr b (L1 G r) (512 * r)
def EdRel2 (w1 wX : World) (G : Gram) (b r : Nat) (x : Rul) (cnt : Value) (wr : World) : Prop := ∃ c : Nat, cnt = .int .i64 c ∧ c ≤ x.conj.length ∧ EdIn w1 wX wr b (L2 G r x c) (512 * r + 64 * c)
def EdRel3 (w1 wX : World) (G : Gram) (b r : Nat) (x : Rul) (c : Nat) (y : Conj) (cnt : Value) (wr : World) : Prop := ∃ k : Nat, cnt = .int .i64 k ∧ k ≤ y.seq.length ∧ EdIn w1 wX wr b (L3 G r x c y k) (512 * r + 64 * c + k)
theorem EMap.upd {w w' : World} {b : Nat} {L : List Edg} (h : EMap w b L) (hb : Below w.heap.size w w') : EMap w' b L := h.below hb
theorem EdIn.below' {w1 wX wr w' : World} {b n : Nat} {L : List Edg} (h : EdIn w1 wX wr b L n) (hb : Below wr.heap.size wr w') : EdIn w1 wX w' b L n :=
  ⟨h.map.below hb, h.len, h.below.trans (hb.mono h.below.size), h.upd.trans (Upd.of_below hb)⟩
theorem EdIn.now {w1 wX wr : World} {b n : Nat} {L : List Edg} (h : EdIn w1 wX wr b L n) : EdIn w1 wr wr b L n := ⟨h.map, h.len, h.below, Upd.refl _ _⟩
theorem EdIn.of {w1 wX wY wr : World} {b n : Nat} {L : List Edg} (h : EdIn w1 wY wr b L n) (hu : Upd (OnB b) wX wY) : EdIn w1 wX wr b L n := ⟨h.map, h.len, h.below, hu.trans h.upd⟩
theorem EdIn.le {w1 wX wr : World} {b n m : Nat} {L : List Edg} (h : EdIn w1 wX wr b L n) (hm : n ≤ m) : EdIn w1 wX wr b L m := ⟨h.map, Nat.le_trans h.len hm, h.below, h.upd⟩
theorem EdIn.wider {w1 wX wr : World} {b n : Nat} {L : List Edg} (h : EdIn w1 wX wr b L n) : EdIn w1 wX wr b L (n + 1) := h.le (Nat.le_succ n)
theorem EdIn.put {w1 wX wr w' : World} {b n : Nat} {L : List Edg} {e : Edg} (h : EdIn w1 wX wr b L n) (hb : w1.heap.size ≤ b) (hg : wr.grownBy w' (some b)) (hm : EMap w' b (L ++ [e])) : EdIn w1 wX w' b (L ++ [e]) (n + 1) :=
  ⟨hm, by have := h.len; simp; omega, h.below.grown hg h.below.size (fun k e => by cases e; exact hb), h.upd.trans ((Upd.of_grown hg).mono (fun k e => by cases e; rfl))⟩
theorem keyOf_parts {h n : Int} {neg : Bool} (h0 : 0 ≤ h) (h1 : h < 64) (n0 : 0 ≤ n) (n1 : n < 64) : keyOf Try.prog 100 (.agg #[.int .i64 h, .int .i64 n, .bool neg]) = some (litE ⟨h.toNat, n.toNat, neg⟩) := by
  have hk := keyOf_edge ⟨h.toNat, n.toNat, neg⟩ (by simp only; omega) (by simp only; omega)
  unfold edgV at hk
  rw [show ((h.toNat : Nat) : Int) = h by omega, show ((n.toNat : Nat) : Int) = n by omega] at hk
  exact hk
def SortedPost (w : World) (L0 : List Edg) (e : Ending) (W' : World) : Prop :=
  ∃ (A : Option Addr) (c : Nat) (xs : List Edg), e = .returned (.slice A xs.length c) ∧ edgRd.C W' A xs ∧ (∀ x, x ∈ xs ↔ x ∈ L0) ∧ xs.length ≤ L0.length ∧ Below w.heap.size w W'
end Go.Proofs.Ytbidpeggdhkahaa

set_option linter.unusedSimpArgs false
set_option linter.unusedVariables false
namespace Go.Proofs.Ytbidpeggdhkahaa
open Go.RowKit Go.Sort Go.Maps

set_option maxRecDepth 100000 in
set_option maxHeartbeats 4000000 in
theorem edges_of {w : World} (G : Gram) {A A' : Option Addr} {c c' : Nat} (n1 : G.names.length ≤ c) (n2 : c ≤ 9223372036854775807) (n3 : Rd.str.C w A G.names) (n4 : G.rules.length ≤ c') (n5 : c' ≤ 9223372036854775807) (n6 : rulRd.C w A' G.rules)
    (hSF : ∀ (Bm b : Nat) (L0 : List Edg) (w : World), Small L0 → Bm < w.heap.size → w.cell? ⟨Bm, 0, none⟩ = some (.map (some b)) → EMap w b L0 → L0.length ≤ 1000000 →
      Calls Try.prog 43 #[.func (.func 57) #[] #[.pointer (some ⟨Bm, 0, none⟩)], .func (.func 45) #[] #[]] w (SortedPost w L0)) :
    Calls Try.prog 33 #[.agg #[.int .i64 G.start, .slice A G.names.length c, .slice A' G.rules.length c']] w (EdgesPost w G) := by
  have HSF := Lib.hid hSF
  clear hSF
  have hmm := @run_makeMap Try.prog
  have hb0 : Below w.heap.size w (w.alloc (Obj.cells #[Value.int .i64 G.start, Value.slice A G.names.length c, Value.slice A' G.rules.length c'] 25)) := below_alloc' (below_refl w) _
  have B0 := heap_alloc_new w (Obj.cells #[Value.int .i64 G.start, Value.slice A G.names.length c, Value.slice A' G.rules.length c'] 25)
  have CM := Lib.hid (may_any (G := G) n2 n1 (n3.mono hb0) n4 n5 (n6.mono hb0))
  have N6 := Lib.hid (n6.mono hb0)
  clear n6 n3
  cases hm : mayB G with
  | false =>
    rw [hm] at CM
    have HM := Lib.hid hm
    clear hm hmm
    go_enter Try.func33, Try.ntmps33
    go_wp2_with fail
    refine CM.out.mono ?_
    rintro e w1 ⟨rfl, hb1⟩
    have HB1 := Lib.hid (below_then hb0 hb1)
    clear hb1 hb0 B0
    go_wp2_with fail
    go_ret2
    exact ⟨HB1.out, .inl ⟨HM.out, rfl⟩⟩
  | true =>
    rw [hm] at CM
    have M := mayG hm
    have HM := Lib.hid hm
    clear hm
    go_enter Try.func33, Try.ntmps33
    go_wp2_with fail
    refine CM.out.mono ?_
    clear CM
    generalize w.alloc (Obj.cells #[Value.int .i64 G.start, Value.slice A G.names.length c, Value.slice A' G.rules.length c'] 25) = w0 at hb0 B0 N6 ⊢
    rintro e w1 ⟨rfl, hb1⟩
    have HB1 := Lib.hid (below_then hb0 hb1)
    have N1 := Lib.hid (N6.out.mono hb1)
    have b1 := blk_below B0 hb1
    have z2 : w1.cell? ⟨w.heap.size, 2, none⟩ = some (.slice A' G.rules.length c') := blk_cell b1 2
    have hl1 := blk_lt b1
    clear hb1 hb0 B0 b1 N6
    go_wp2_with fail
    obtain ⟨b, hbE⟩ : ∃ b, b = w1.heap.size := ⟨_, rfl⟩
    have hm0 : EdIn w1 (w1.alloc (Obj.map #[] 0)) (w1.alloc (Obj.map #[] 0)) b (L1 G 0) (512 * 0) := ⟨by rw [hbE]; exact World.ownsMap_made _ _ _ _, by simp [L1], below_alloc' (below_refl _) _, Upd.refl _ _⟩
    have hwX : b < (w1.alloc (Obj.map #[] 0)).heap.size := by rw [hbE]; simp
    have hbw : w1.heap.size ≤ b := Nat.le_of_eq hbE.symm
    rw [← hbE]
    generalize w1.alloc (Obj.map #[] 0) = wX at hm0 hwX ⊢
    have HBE := Lib.hid hbE
    clear hbE hmm hl1 z2
    go_loopw [18] (fun cnt wr => EdRel1 w1 wX G b cnt wr) (fun cnt _ => G.rules.length - (intOf cnt).toNat)
    case atStart => exact ⟨0, rfl, Nat.zero_le _, hm0⟩
    case round =>
      clear hm0
      obtain ⟨r, rfl, hr, hin⟩ := hrel
      have HIN := Lib.hid hin
      clear hin
      by_cases hltr : r < G.rules.length
      · obtain ⟨x, hx⟩ : ∃ x, G.rules[r]? = some x := ⟨_, List.getElem?_eq_getElem hltr⟩
        obtain ⟨ad, Ac, cc, eA, -, q0, q1, l3, l4, hCC⟩ := rul_at N1.out hx
        subst eA
        have HCC := Lib.hid hCC
        have q0 := below_cell HIN.out.below q0
        have q1 := below_cell HIN.out.below q1
        have hki : (r : Int) < G.rules.length := by omega
        have hcj := (M.conj r x hx).2
        have hhd := M.head r x hx
        have h64 := M.K64
        have HX := Lib.hid hx
        have hba := below_alloc' (below_refl wr) (Obj.cells #[Value.int .i64 x.head, Value.slice Ac x.conj.length cc] 29)
        have B6 := heap_alloc_new wr (Obj.cells #[Value.int .i64 x.head, Value.slice Ac x.conj.length cc] 29)
        have HI6 := Lib.hid (HIN.out.below' hba)
        clear hx hCC
        go_wp2_with fail
        clear q0 q1
        obtain ⟨p6, hp6⟩ : ∃ p6, p6 = wr.heap.size := ⟨_, rfl⟩
        have hbp6 : b < p6 := by have h1 := HIN.out.upd.size; omega
        rw [← hp6] at B6 ⊢
        generalize wr.alloc (Obj.cells #[Value.int .i64 x.head, Value.slice Ac x.conj.length cc] 29) = w6 at hba B6 HI6 ⊢
        have HB6 := Lib.hid B6
        clear B6 hba hp6
        go_loopw [25] (fun cnt wr' => EdRel2 w1 w6 G b r x cnt wr') (fun cnt _ => x.conj.length - (intOf cnt).toNat)
        case atStart => exact ⟨0, rfl, Nat.zero_le _, by rw [L2_zero]; exact HI6.out.now⟩
        case round =>
          obtain ⟨k2, rfl, hk2, hin⟩ := hrel
          have HIN2 := Lib.hid hin
          clear hin
          have v1 := HIN2.out.upd.cell (blk_cell HB6.out 1) (by show ¬ p6 = b; omega)
          by_cases hlt2 : k2 < x.conj.length
          · obtain ⟨y, hy⟩ : ∃ y, x.conj[k2]? = some y := ⟨_, List.getElem?_eq_getElem hlt2⟩
            obtain ⟨ad2, As, cs, eA2, -, r0, r1, m3, m4, hSC⟩ := conj_at HCC.out hy
            subst eA2
            have HSC := Lib.hid hSC
            have r0 := below_cell HIN2.out.below r0
            have r1 := below_cell HIN2.out.below r1
            have hki2 : (k2 : Int) < x.conj.length := by omega
            have hsq := M.seq r x k2 y HX.out hy
            have HY := Lib.hid hy
            have hba := below_alloc' (below_refl wr) (Obj.cells #[Value.bool y.neg, Value.slice As y.seq.length cs] 32)
            have B8 := heap_alloc_new wr (Obj.cells #[Value.bool y.neg, Value.slice As y.seq.length cs] 32)
            have HI8 := Lib.hid (HIN2.out.below' hba)
            clear hy hSC
            go_wp2_with fail
            clear r0 r1 v1
            obtain ⟨p8, hp8⟩ : ∃ p8, p8 = wr.heap.size := ⟨_, rfl⟩
            have hlt6 : p6 < wr.heap.size := by have h1 := HIN2.out.upd.size; have h2 := blk_lt HB6.out; omega
            have hbp8 : b < p8 := by omega
            have hp68 : p6 < p8 := by omega
            rw [← hp8] at B8 ⊢
            generalize wr.alloc (Obj.cells #[Value.bool y.neg, Value.slice As y.seq.length cs] 32) = w8 at hba B8 HI8 ⊢
            have HB8 := Lib.hid B8
            clear B8 hba hp8 hlt6
            go_loopw [32] (fun cnt wr' => EdRel3 w1 w8 G b r x k2 y cnt wr') (fun cnt _ => y.seq.length - (intOf cnt).toNat)
            case atStart => exact ⟨0, rfl, Nat.zero_le _, by rw [L3_zero]; exact HI8.out.now⟩
            case round =>
              obtain ⟨k3, rfl, hk3, hin⟩ := hrel
              have HIN3 := Lib.hid hin
              clear hin
              by_cases hlt3 : k3 < y.seq.length
              · obtain ⟨s, hsy⟩ : ∃ s, y.seq[k3]? = some s := ⟨_, List.getElem?_eq_getElem hlt3⟩
                obtain ⟨ad3, eA3, -, s0, s1, s2⟩ := sym_at HSC.out hsy
                subst eA3
                have s0 := below_cell HIN3.out.below s0
                have s1 := below_cell HIN3.out.below s1
                have s2 := below_cell HIN3.out.below s2
                have hki3 : (k3 : Int) < y.seq.length := by omega
                have hsb := symB_lt (M.sym r x k2 y k3 s HX.out HY.out hsy) (by have := M.K1; omega)
                have hba := below_alloc' (below_refl wr) (Obj.cells #[Value.int .i64 s.name, Value.int .i64 s.lo, Value.int .i64 s.hi] 44)
                have HI10 := Lib.hid (HIN3.out.below' hba)
                have HS := Lib.hid hsy
                clear hsy
                by_cases h0 : 0 ≤ s.name
                · have d0 : decide (0 ≤ s.name) = true := by simp [h0]
                  have u6 := below_cell hba (HIN3.out.upd.cell (HI8.out.upd.cell (blk_cell HB6.out 0) (by show ¬ p6 = b; omega)) (by show ¬ p6 = b; omega))
                  have u8 := below_cell hba (HIN3.out.upd.cell (blk_cell HB8.out 0) (by show ¬ p8 = b; omega))
                  have HK := Lib.hid (keyOf_parts (neg := y.neg) hhd.1 (by omega) h0 (by omega))
                  have hln := HI10.out.len
                  have hrl := M.rules
                  clear hba
                  go_wp2_with (at_mapUpdate; refine wpList_mapUpdate_own _ rfl _ _ _ 109 rfl 100 4 edgeLaw Try.underlying109 _ b _ _ rfl HI10.out.map (by unfold maxLen; omega) _ _ _ rfl rfl HK.out _ [] (plainElem_bool Try.underlying4 true) ?_; intro w9 hown9 hgrow9)
                  go_roundw
                  case rel => exact ⟨k3 + 1, by go_num, hlt3, by rw [L3_yes HS.out h0]; exact HI10.out.put hbw hgrow9 (EMap.put hown9)⟩
                  case measure => simp [intOf]; omega
                · have d0 : decide (0 ≤ s.name) = false := by simp [h0]
                  go_wp2_with fail
                  go_roundw
                  case rel => exact ⟨k3 + 1, by go_num, hlt3, by rw [L3_no HS.out h0]; exact HI10.out.wider⟩
                  case measure => simp [intOf]; omega
              · have hke : k3 = y.seq.length := by omega
                go_wp2_with fail
                go_roundw
                case rel =>
                  refine ⟨k2 + 1, by go_num, hlt2, ?_⟩
                  have h1 := HIN3.out.of HI8.out.upd
                  rw [hke, L3_all HY.out] at h1
                  exact h1.le (by omega)
                case measure => simp [intOf]; omega
          · have hke : k2 = x.conj.length := by omega
            go_wp2_with fail
            go_roundw
            case rel =>
              refine ⟨r + 1, by go_num, hltr, ?_⟩
              have h1 := (HIN2.out.of HI6.out.upd)
              rw [hke, L2_all HX.out] at h1
              exact h1.le (by omega)
            case measure => simp [intOf]; omega
      · have hke : r = G.rules.length := by omega
        have hmap := HIN.out.map
        have hlen := HIN.out.len
        rw [hke, L1_all] at hmap hlen
        have hsm : Small (edgesOf G) := fun e he => by have := edgesIn_of M e he; have := M.K64; omega
        have hrl := M.rules
        have HB2 := Lib.hid HIN.out.below
        have hbA := below_alloc' (below_refl wr) (.cells #[.map (some b)] 109)
        have CS := Lib.hid (HSF.out wr.heap.size b (edgesOf G) (wr.alloc (.cells #[.map (some b)] 109)) hsm (by simp) (blk_cell (heap_alloc_new wr _) 0) (hmap.below hbA) (by omega))
        have HBA := Lib.hid hbA
        clear hmap HSF HIN hbA
        go_wp2_with (first
          | (go_at_call 44; refine (keys_any (some b) _).mono ?_; rintro e w' ⟨rfl, rfl⟩)
          | (go_at_call 43; refine CS.out.mono ?_; rintro e w' ⟨Ax, cx, xs, rfl, hCx, hxs, hxl, hbx⟩; have HBX := Lib.hid hbx; have HCX := Lib.hid hCx; have HXS := Lib.hid hxs; clear hbx hCx hxs))
        go_ret2
        exact ⟨below_then HB1.out (below_then HB2.out (below_then HBA.out HBX.out)), .inr ⟨HM.out, Ax, cx, xs, rfl, HCX.out, by omega, HXS.out⟩⟩
end Go.Proofs.Ytbidpeggdhkahaa

set_option linter.unusedSimpArgs false
set_option linter.unusedVariables false
namespace Go.Proofs.Ytbidpeggdhkahaa
open Go.RowKit Go.Sort Go.Maps Go.Shelf

theorem encE_len (xs : List Edg) : ∀ cs ∈ xs.map encE, cs.length = 3 := by
  intro cs h
  obtain ⟨e, -, rfl⟩ := List.mem_map.1 h
  rfl
theorem holdsK_block {w : World} {g : Nat} {cur : Array Value} {t : TypeId} {xs : List Edg} (hb : w.heap[g]? = some (.cells cur t (0, 0))) (ht : cur.toList.take (xs.length * 3) = encEs xs) : HoldsK encE 3 w g 0 xs.toArray := by
  intro j hj
  rw [size_flatK] at hj
  have hj' : j < xs.length * 3 := by simpa using hj
  refine ⟨?_, by simp [World.frozen?, hb]⟩
  rw [blk_cell hb, Nat.zero_add, get_flatK _ _ _ _ hj]
  have hi : j / 3 < xs.length := by omega
  have h1 : (xs.map encE)[j / 3]? = some (encE xs[j / 3]) := by simp [List.getElem?_eq_getElem hi]
  have hm : j % 3 < (encE xs[j / 3]).length := Nat.mod_lt _ (by omega)
  have h2 := flatten_get (encE_len xs) h1 (List.getElem?_eq_getElem hm)
  rw [show j / 3 * 3 + j % 3 = j by omega] at h2
  have h3 : (cur.toList.take (xs.length * 3))[j]? = (encEs xs)[j]? := by rw [ht]
  rw [List.getElem?_take_of_lt hj'] at h3
  rw [← Array.getElem?_toList, h3]
  show (encEs xs)[j]? = some (id _)
  unfold encEs
  rw [h2]
  have h4 : xs.toArray[j / 3]! = xs[j / 3] := by simp [hi]
  rw [h4, id, getElem!_pos (encE xs[j / 3]) (j % 3) hm]
theorem readE {w : World} {g : Nat} {d : Array Edg} (h : HoldsK encE 3 w g 0 d) : edgRd.C w (some ⟨g, 0, none⟩) d.toList := by
  intro i x hx
  have hi : i < d.size := by simpa using (List.getElem?_eq_some_iff.1 hx).1
  have hxi : d[i]! = x := by
    rw [getElem!_pos d i hi]
    have := (List.getElem?_eq_some_iff.1 hx).2
    simpa using this
  refine ⟨_, encE x, rfl, edgRd_mk w x, fun j u hu => ?_⟩
  have hj : j < 3 := by simpa [encE] using (List.getElem?_eq_some_iff.1 hu).1
  have h1 := (HoldsK.cell (enc := encE) (k := 3) h hi hj).1
  rw [add_plain, show edgRd.sz = 3 from rfl, ← Nat.add_assoc, h1, hxi]
  have hj' : j < (encE x).length := hj
  rw [getElem!_pos (encE x) j hj']
  exact congrArg some (List.getElem?_eq_some_iff.1 hu).2
theorem grownBy_sortK {w : World} {g n : Nat} {os : Array Obj} (d : Array Edg) : w.grownBy (sortWorldK encE 3 w g 0 n d os) (some g) := by
  unfold sortWorldK putRowK
  refine ⟨rfl, rfl, rfl, by simp, fun k hk hne => ?_⟩
  rw [heap_grow_old _ _ (by simpa using hk)]
  have : g ≠ k := fun e => hne (by rw [e])
  simp [putRow, mapBlock, Sort.ahead, Array.getElem?_modify, this]
theorem permIn_perm {d d' : Array Edg} (h : PermIn 0 d.size d d') : d'.toList.Perm d.toList := by
  obtain ⟨h1, -, h3⟩ := h
  have e1 : d.extract 0 d.size = d := by simp
  have e2 : d'.extract 0 d.size = d' := by rw [← h1]; simp
  rw [e1, e2] at h3
  exact h3
theorem sort_none (cap : Nat) (p : Option Addr) (fv : Value) (w : World) : Calls Try.prog 56 #[.slice p 0 cap, fv] w fun e w' => e = .returned (.tuple #[]) ∧ w' = w :=
  AnyF.slices_SortFunc_none sortEdge p cap fv w
set_option maxHeartbeats 1000000 in
theorem sortedFunc_any (Bm b : Nat) (L0 : List Edg) (hs : Small L0) (w : World) (hBm : Bm < w.heap.size) (hm : w.cell? ⟨Bm, 0, none⟩ = some (.map (some b))) (hown : EMap w b L0) (hl : L0.length ≤ 1000000) :
    Calls Try.prog 43 #[.func (.func 57) #[] #[.pointer (some ⟨Bm, 0, none⟩)], .func (.func 45) #[] #[]] w (SortedPost w L0) := by
  have CC := Lib.hid (collect_any Bm b L0 hs w hBm hm hown hl)
  clear hm hown
  go_enter Try.func43, Try.ntmps43
  go_wp2_with fail
  refine CC.out.mono ?_
  rintro e w1 ⟨v, xs, rfl, hS, hxl, hrow, hb⟩
  rcases hrow.2 with ⟨rfl, hz⟩ | ⟨gb, cap, cur, rfl, hbase, hgb, r1, r2, r3, r4⟩
  · have hss : xs = [] := List.eq_nil_of_length_eq_zero hz
    subst hss
    have HB := Lib.hid hb
    clear hb hrow
    go_wp2_with (go_at_call 56; refine (sort_none 0 none _ _).mono ?_; rintro e w' ⟨rfl, rfl⟩)
    go_ret
    exact ⟨none, 0, [], rfl, Rd.C.nil _ _ _, hS, by simp, HB.out⟩
  · have hH := holdsK_block hgb r4
    have hgl := blk_lt hgb
    have cS := Lib.hid (sort_any gb 0 cap xs.toArray w1 hH hgl (by simp; omega))
    rw [List.size_toArray] at cS
    have HB := Lib.hid hb
    have HH := Lib.hid hH
    clear hb hrow r4 hH hgb
    go_wp2_with (go_at_call 56; refine cS.out.mono ?_; rintro e w' ⟨rfl, d', nn, os, hp, hw⟩; have HP := Lib.hid hp; have HW := Lib.hid hw; clear hp hw)
    go_ret
    have hp := permIn_perm (d := xs.toArray) (d' := d') (by rw [List.size_toArray]; exact HP.out)
    have hlen : d'.toList.length = xs.length := by rw [hp.length_eq]
    have hds : d'.size = xs.length := by rw [← hlen]; simp
    refine ⟨some ⟨gb, 0, none⟩, cap, d'.toList, by rw [hlen]; rfl, ?_, fun x => by rw [hp.mem_iff]; simpa using hS x, by rw [hlen]; exact hxl, ?_⟩
    · rw [HW.out]
      exact readE (holdsK_sortWorldK_c encE 3 w1 gb 0 xs.toArray d' nn os HH.out hgl (by simp [hds]))
    · rw [HW.out]
      exact HB.out.grown (grownBy_sortK d') HB.out.size (fun j hj => by cases hj; exact hbase)
theorem edges_any {w : World} (G : Gram) {A A' : Option Addr} {c c' : Nat} (n1 : G.names.length ≤ c) (n2 : c ≤ 9223372036854775807) (n3 : Rd.str.C w A G.names) (n4 : G.rules.length ≤ c') (n5 : c' ≤ 9223372036854775807) (n6 : rulRd.C w A' G.rules) :
    Calls Try.prog 33 #[.agg #[.int .i64 G.start, .slice A G.names.length c, .slice A' G.rules.length c']] w (EdgesPost w G) :=
  edges_of G n1 n2 n3 n4 n5 n6 (fun Bm b L0 w hs hB hm ho hl => sortedFunc_any Bm b L0 hs w hB hm ho hl)
/-- strata.Strata whole. -/
theorem strata_whole {w : World} (G : Gram) {A A' : Option Addr} {c c' : Nat} (n1 : G.names.length ≤ c) (n2 : c ≤ 9223372036854775807) (n3 : Rd.str.C w A G.names) (n4 : G.rules.length ≤ c') (n5 : c' ≤ 9223372036854775807) (n6 : rulRd.C w A' G.rules) :
    Calls Try.prog 23 #[.agg #[.int .i64 G.start, .slice A G.names.length c, .slice A' G.rules.length c']] w (StrataPost w (RefG G) (GoodLev G)) :=
  strata_any G n1 n2 (fun w' hb => edges_any G n1 n2 (n3.mono hb) n4 n5 (n6.mono hb))
end Go.Proofs.Ytbidpeggdhkahaa
