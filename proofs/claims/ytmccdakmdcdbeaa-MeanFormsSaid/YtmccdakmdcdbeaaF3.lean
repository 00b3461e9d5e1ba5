/-
  F3: maps.Keys over edges: its iterator gives each key once.
-/
import Derived.Test.YtmccdakmdcdbeaaF2
import Derived.RangeFuncNested
import Derived.RangeFuncBox
import Derived.RangeFuncCalls
import Derived.RangeFuncLeaves
import Derived.RangeFuncStops
import Derived.RangeFuncBound
import Derived.Sort.MapsRangeIn
import Derived.Sort.KeysCollected
import Derived.Shelf.Abstract
import Derived.WalkKit
import Derived.OwnWalkIn
import Derived.TacticsInMore
import Derived.RegionIn
import Derived.LoopNIn
import Derived.LoopIn
import Derived.Maps.AppendAt
set_option linter.unusedSimpArgs false
set_option linter.unusedVariables false
namespace Go.Proofs.Ytmccdakmdcdbeaa
open Go.RowKit Go.Sort Go.Maps Go.Shelf
attribute [local go_sem] Oper.semAt_some

/-- What has come, of the map's keys. -/
def CollE (L0 : List Edg) (left : Lit → Bool) (ss : List Edg) : Prop := ss.Nodup ∧ ∀ e : Edg, e ∈ ss ↔ e ∈ L0 ∧ left (litE e) = false
def Small (L : List Edg) : Prop := ∀ e ∈ L, e.fr < 64 ∧ e.to < 64
theorem same_litE {a b : Edg} : (litE a).sameKey (litE b) = true ↔ litE a = litE b := by
  unfold litE
  simp [Lit.sameKey]
theorem has_litE {L : List Edg} {e : Edg} (h : e ∈ L) : has (setE L) (litE e) = true := (has_setE L _).2 ⟨e, h, same_litE.2 rfl⟩
theorem CollE.start (L0 : List Edg) : CollE L0 (has (setE L0)) [] := by
  refine ⟨List.nodup_nil, fun e => ⟨fun h => by simp at h, fun ⟨h1, h2⟩ => ?_⟩⟩
  rw [has_litE h1] at h2
  cases h2
theorem CollE.step {L0 : List Edg} {left : Lit → Bool} {ss : List Edg} (h : CollE L0 left ss) (hs : Small L0) {e : Edg} (he : e ∈ L0) (hl : left (litE e) = true) : CollE L0 (fun z => left z && !z.sameKey (litE e)) (ss ++ [e]) := by
  have hnew : e ∉ ss := fun hx => by have := ((h.2 e).1 hx).2; rw [hl] at this; cases this
  refine ⟨List.nodup_append.2 ⟨h.1, by simp, fun a ha b hb => by simp at hb; subst hb; exact fun e' => hnew (e' ▸ ha)⟩, fun y => ?_⟩
  by_cases hy : y = e
  · subst hy
    simp [he, same_litE.2 rfl]
  · simp only [List.mem_append, List.mem_singleton, hy, or_false, h.2 y]
    constructor
    · rintro ⟨h1, h2⟩
      exact ⟨h1, by simp [h2]⟩
    · rintro ⟨h1, h2⟩
      refine ⟨h1, ?_⟩
      have h3 : (litE y).sameKey (litE e) = false := by
        rw [Bool.eq_false_iff]
        intro h4
        exact hy (litE_inj (hs y h1) (hs e he) (same_litE.1 h4))
      simpa [h3] using h2
theorem CollE.done {L0 : List Edg} {left : Lit → Bool} {ss : List Edg} (h : CollE L0 left ss) (hl : ∀ kl, left kl = false) : ∀ e, e ∈ ss ↔ e ∈ L0 := fun e => by rw [h.2 e, hl]; simp
/-- A key that is still to come is an edge of the list. -/
theorem edge_of_key {L0 : List Edg} (hs : Small L0) {x : Int × Int × Bool} {kl : Lit} (hk : keyOf Try.prog 81 (triV x) = some kl) (hh : has (setE L0) kl = true) : ∃ e ∈ L0, kl = litE e ∧ triV x = edgV e := by
  obtain ⟨e, he, h1⟩ := (has_setE L0 kl).1 hh
  have h2 : litE e = kl := WideAt.sameKey_eq h1
  subst h2
  have h3 := keyOf_edge e (hs e he).1 (hs e he).2
  exact ⟨e, he, rfl, edgeLaw.inj hk h3⟩

structure BoolV where
  b : Bool
structure TriV where
  x : Int × Int × Bool
set_option maxRecDepth 100000 in
theorem plainBool_inv {v : Value} {y : DataW Unit × List MemPlace} (h : plainElem (H := Unit) Try.prog 4 v = some y) : ∃ c : BoolV, v = .bool c.b := by
  unfold plainElem at h
  rw [Try.underlying4] at h
  cases v with
  | bool c => exact ⟨⟨c⟩, rfl⟩
  | _ => cases h
def KeysRel (W : World) (b : Nat) (L0 : List Edg) (J : List Edg → World → Prop) (wr : World) : Prop :=
  ∃ (left : Lit → Bool) (cnt : Nat) (ss : List Edg), wr.ranges Try.prog 81 (plainElem (H := Unit) Try.prog 4) b W.heap.size L0.length (setE L0) left cnt ∧ ss.length + cnt ≤ Maps.size (setE L0) ∧ CollE L0 left ss ∧ J ss wr
set_option maxRecDepth 100000 in
set_option maxHeartbeats 2000000 in
theorem keysIt_in (n : Nat) (hn : 1 ≤ n) (l Bm b : Nat) (L0 : List Edg) (hs : Small L0) (J Jx : List Edg → World → Prop)
    (hY : ∀ pre x W, J pre W → pre.length < Maps.size (setE L0) → YieldAt Fence.wide (n - 1) Try.prog l #[edgV x] W fun e W' => (e = .returned (.bool true) ∧ J (pre ++ [x]) W' ∧ KeepsWalks W W') ∨ (e = .returned (.bool false) ∧ Jx (pre ++ [x]) W'))
    (W : World) (hJ : AbidesFrom W.heap.size J) (hm : W.cell? ⟨Bm, 0, none⟩ = some (.map (some b))) (hown : EMap W b L0) (h0 : J [] W) :
    CallsIn Fence.wide n Try.prog 57 #[.func (.yield l) #[] #[], .pointer (some ⟨Bm, 0, none⟩)] W fun e W' => (∃ v, e = .returned v) ∧ ((∃ xs, (∀ e, e ∈ xs ↔ e ∈ L0) ∧ J xs W') ∨ (∃ pre, True ∧ Jx pre W')) := by
  refine callsIn_of_wp Try.func57 rfl trivial ?_ rfl
  simp only [Try.ntmps57, List.size_toArray, List.length_cons, List.length_nil, Nat.reduceAdd, Nat.reduceSub, Array.replicate_succ, Array.replicate_zero, List.push_toArray, List.append_toArray, List.nil_append, List.cons_append]
  gi_wp2_with (first
    | (gi_at_range; refine wpListIn_range_own _ rfl _ 86 rfl 81 4 edgeLaw Try.underlying86 _ b _ _ rfl hown ?_; intro w0 hrg0 hg0 hs0)
    | gi_in)
  go_frame
  gi_loopw [3] (fun _ wr => KeysRel W b L0 J wr) (fun _ wr => wr.rangeLeft b W.heap.size)
  case atStart =>
    exact ⟨_, _, [], hrg0, by simp, CollE.start L0, hJ [] W w0 none h0 hg0 (fun r e => by cases e)⟩
  case round =>
    obtain ⟨left, cnt, ss, hrg, hcs, hC, hJs⟩ := hrel
    gi_wp2_with (first
      | (gi_at_next; refine wpListIn_next_ranges _ rfl _ rfl 81 edgeLaw (plainElem (H := Unit) Try.prog 4) (fun x : TriV => triV x.x) (fun c : BoolV => Value.bool c.b) (fun key kl hk => by obtain ⟨x, hx⟩ := keyOf_tri hk; exact ⟨⟨x⟩, hx⟩) (fun v y hv => plainBool_inv hv) b W.heap.size _ _ _ _ rfl hrg ?_ ?_)
      | gi_in)
    · intro hc0 hl0
      gi_wp2
      go_end0
      exact ⟨⟨_, rfl⟩, .inl ⟨ss, hC.done hl0, hJs⟩⟩
    · intro x c kl yd yp w2 cnt2 hkey hlk hv hat hrg2 hlt hg2 hs2 hen
      obtain ⟨e0, he0, rfl, hx⟩ := edge_of_key hs hkey (has_true_of_atKey hat)
      rw [hx] at hen ⊢
      have hJ2 : J ss w2 := hJ ss wr w2 (some W.heap.size) hJs hg2 (fun r e => by cases e; exact ⟨Nat.le_refl _, hrg.iter_walk⟩)
      have hJ3 : J ss (w2.alloc (Obj.cells #[Value.int .i64 e0.fr, Value.int .i64 e0.to, Value.bool e0.neg] 81)) := hJ ss w2 _ none hJ2 (World.grownBy_alloc w2 _ none) (fun r e => by cases e)
      obtain ⟨fn, tmps, assign, body, hy, hR⟩ := hY ss e0 _ hJ3 (by omega)
      have hC' := hC.step hs he0 hlk
      clear hs2 hx hkey hat hv
      dsimp only [edgV] at hy hR hen ⊢
      gi_wp2
      refine hR.mono ?_
      rintro e W3 (⟨rfl, hJ4, hk3⟩ | ⟨rfl, hJx4⟩)
      · gi_wp2
        have hrg3 := (hrg2.alloc (Obj.cells #[Value.int .i64 e0.fr, Value.int .i64 e0.to, Value.bool e0.neg] 81)).of_walks hk3
        go_roundw
        case rel => exact ⟨_, cnt2, ss ++ [e0], hrg3, by simp; omega, hC', hJ4⟩
        case measure => rw [hrg3.left_eq, hrg.left_eq]; exact hlt
      · gi_wp2
        refine bodyPost_ret (results_none rfl _ _ _) rfl ?_
        exact ⟨⟨_, rfl⟩, .inr ⟨ss ++ [e0], trivial, hJx4⟩⟩
set_option maxHeartbeats 1000000 in
/-- maps.Keys: the map is boxed, the function value holds the box. -/
theorem keys_in (n : Nat) (mb : Option Nat) (w : World) :
    CallsIn Fence.wide n Try.prog 46 #[.map mb] w fun e w' => e = .returned (.func (.func 57) #[] #[.pointer (some ⟨w.heap.size, 0, none⟩)]) ∧ w' = w.alloc (.cells #[.map mb] 86) := by
  refine callsIn_of_wp Try.func46 rfl trivial ?_ rfl
  simp only [Try.ntmps46, List.size_toArray, List.length_cons, List.length_nil, Nat.reduceAdd, Nat.reduceSub, Array.replicate_succ, Array.replicate_zero, List.push_toArray, List.append_toArray, List.nil_append, List.cons_append]
  gi_wp2
  go_ret
  exact ⟨rfl, rfl⟩
theorem EMap.below {w w' : World} {b : Nat} {L : List Edg} (h : EMap w b L) (hb : Below w.heap.size w w') : EMap w' b L := by
  have hbl := World.ownsMap.lt h
  obtain ⟨es, clock, h1, Ft, h2, hD⟩ := h
  exact ⟨es, clock, (hb.block b hbl).trans h1, Ft, h2, hD⟩
/-- The value is an iterator over the map's keys, in the world behind the call. -/
theorem keys_stops (n : Nat) (hn : 1 ≤ n) (Bm b : Nat) (L0 : List Edg) (hs : Small L0) (w : World) (hBm : Bm < w.heap.size) (hm : w.cell? ⟨Bm, 0, none⟩ = some (.map (some b))) (hown : EMap w b L0) :
    SeqStopsK Fence.wide n Try.prog 57 #[.pointer (some ⟨Bm, 0, none⟩)] (fun e : Edg => #[edgV e]) KeepsWalks (fun xs => ∀ e, e ∈ xs ↔ e ∈ L0) (fun _ => True) (Maps.size (setE L0)) w := fun l J Jx W hW hJ _ hY h0 =>
  keysIt_in n hn l Bm b L0 hs J Jx hY W hJ ((hW.cell (p := ⟨Bm, 0, none⟩) hBm).trans hm) (hown.below hW) h0
end Go.Proofs.Ytmccdakmdcdbeaa
