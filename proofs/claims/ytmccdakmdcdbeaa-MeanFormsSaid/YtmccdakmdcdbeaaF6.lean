/-
  F6: the walk of deps.Edges: its map holds all edges; then the tail (keys, sorted).
-/
import Derived.Test.YtmccdakmdcdbeaaF4
set_option linter.unusedSimpArgs false
set_option linter.unusedVariables false
namespace Go.Proofs.Ytmccdakmdcdbeaa
open Go.RowKit Go.Sort Go.Maps

def ruleEdges (r : Rul) : List Edg := r.conj.flatMap (conjEdges r.head)
def symEdges (h : Int) (neg : Bool) (ss : List Sym) : List Edg := ss.filterMap (fun s => if 0 ≤ s.name then some ⟨h.toNat, s.name.toNat, neg⟩ else none)
def L1 (G : Gram) (r : Nat) : List Edg := (G.rules.take r).flatMap ruleEdges
def L2 (G : Gram) (r : Nat) (x : Rul) (c : Nat) : List Edg := L1 G r ++ (x.conj.take c).flatMap (conjEdges x.head)
def L3 (G : Gram) (r : Nat) (x : Rul) (c : Nat) (y : Conj) (k : Nat) : List Edg := L2 G r x c ++ symEdges x.head y.neg (y.seq.take k)
theorem L1_all (G : Gram) : L1 G G.rules.length = edgesOf G := by unfold L1 edgesOf; rw [List.take_length]; rfl
theorem L2_zero (G : Gram) (r : Nat) (x : Rul) : L2 G r x 0 = L1 G r := by simp [L2]
theorem L2_all {G : Gram} {r : Nat} {x : Rul} (h : G.rules[r]? = some x) : L2 G r x x.conj.length = L1 G (r + 1) := by
  unfold L2 L1
  rw [List.take_length, take_snoc h, List.flatMap_append]
  simp [ruleEdges]
theorem L3_zero (G : Gram) (r : Nat) (x : Rul) (c : Nat) (y : Conj) : L3 G r x c y 0 = L2 G r x c := by simp [L3, symEdges]
theorem L3_all {G : Gram} {r : Nat} {x : Rul} {c : Nat} {y : Conj} (h : x.conj[c]? = some y) : L3 G r x c y y.seq.length = L2 G r x (c + 1) := by
  unfold L3 L2
  rw [List.take_length, take_snoc h, List.flatMap_append]
  simp [conjEdges, symEdges]
theorem L3_yes {G : Gram} {r : Nat} {x : Rul} {c : Nat} {y : Conj} {k : Nat} {s : Sym} (h : y.seq[k]? = some s) (h0 : 0 ≤ s.name) : L3 G r x c y (k + 1) = L3 G r x c y k ++ [⟨x.head.toNat, s.name.toNat, y.neg⟩] := by
  unfold L3 symEdges
  rw [take_snoc h, List.filterMap_append]
  simp [h0]
theorem L3_no {G : Gram} {r : Nat} {x : Rul} {c : Nat} {y : Conj} {k : Nat} {s : Sym} (h : y.seq[k]? = some s) (h0 : ¬ 0 ≤ s.name) : L3 G r x c y (k + 1) = L3 G r x c y k := by
  unfold L3 symEdges
  rw [take_snoc h, List.filterMap_append]
  simp [h0]
def OnB (b : Nat) : Nat → Prop := fun k => k = b
theorem EMap.put {w : World} {b : Nat} {L : List Edg} {e : Edg} (h : w.ownsMap Try.prog 81 (plainElem (H := Unit) Try.prog 4) b (L.length + 1) ((setE L).put (litE e) (.lit (.bool true)))) : EMap w b (L ++ [e]) := by
  unfold EMap
  rw [setE_snoc, List.length_append]
  exact h
structure EdIn (w1 wX wr : World) (b : Nat) (L : List Edg) (n : Nat) : Prop where
  map : EMap wr b L
  len : L.length ≤ n
  below : Below w1.heap.size w1 wr
  upd : Upd (OnB b) wX wr
def EdRel1 (w1 wX : World) (G : Gram) (b : Nat) (cnt : Value) (wr : World) : Prop := ∃ r : Nat, cnt = .int .i64 r ∧ r ≤ G.rules.length ∧ EdIn w1 wX wr b (L1 G r) (512 * r)
def EdRel2 (w1 wX : World) (G : Gram) (b r : Nat) (x : Rul) (cnt : Value) (wr : World) : Prop := ∃ c : Nat, cnt = .int .i64 c ∧ c ≤ x.conj.length ∧ EdIn w1 wX wr b (L2 G r x c) (512 * r + 64 * c)
def EdRel3 (w1 wX : World) (G : Gram) (b r : Nat) (x : Rul) (c : Nat) (y : Conj) (cnt : Value) (wr : World) : Prop := ∃ k : Nat, cnt = .int .i64 k ∧ k ≤ y.seq.length ∧ EdIn w1 wX wr b (L3 G r x c y k) (512 * r + 64 * c + k)
theorem EMap.upd {w w' : World} {b : Nat} {L : List Edg} (h : EMap w b L) (hb : Below w.heap.size w w') : EMap w' b L := h.below hb
theorem EdIn.below' {w1 wX wr w' : World} {b n : Nat} {L : List Edg} (h : EdIn w1 wX wr b L n) (hb : Below wr.heap.size wr w') : EdIn w1 wX w' b L n :=
  ⟨h.map.below hb, h.len, h.below.trans (hb.mono h.below.size), h.upd.trans (Upd.of_below hb)⟩
theorem EdIn.now {w1 wX wr : World} {b n : Nat} {L : List Edg} (h : EdIn w1 wX wr b L n) : EdIn w1 wr wr b L n := ⟨h.map, h.len, h.below, Upd.refl _ _⟩
theorem EdIn.of {w1 wX wY wr : World} {b n : Nat} {L : List Edg} (h : EdIn w1 wY wr b L n) (hu : Upd (OnB b) wX wY) : EdIn w1 wX wr b L n := ⟨h.map, h.len, h.below, hu.trans h.upd⟩
theorem EdIn.le {w1 wX wr : World} {b n m : Nat} {L : List Edg} (h : EdIn w1 wX wr b L n) (hm : n ≤ m) : EdIn w1 wX wr b L m := ⟨h.map, Nat.le_trans h.len hm, h.below, h.upd⟩
theorem EdIn.wider {w1 wX wr : World} {b n : Nat} {L : List Edg} (h : EdIn w1 wX wr b L n) : EdIn w1 wX wr b L (n + 1) := h.le (Nat.le_succ n)
theorem EdIn.put {w1 wX wr w' : World} {b n : Nat} {L : List Edg} {e : Edg} (h : EdIn w1 wX wr b L n) (hb : w1.heap.size ≤ b) (hg : wr.grownBy w' (some b)) (hm : EMap w' b (L ++ [e])) : EdIn w1 wX w' b (L ++ [e]) (n + 1) :=
  ⟨hm, by have := h.len; simp; omega, h.below.grown hg h.below.size (fun k e => by cases e; exact hb), h.upd.trans ((Upd.of_grown hg).mono (fun k e => by cases e; rfl))⟩
theorem keyOf_parts {h n : Int} {neg : Bool} (h0 : 0 ≤ h) (h1 : h < 64) (n0 : 0 ≤ n) (n1 : n < 64) : keyOf Try.prog 81 (.agg #[.int .i64 h, .int .i64 n, .bool neg]) = some (litE ⟨h.toNat, n.toNat, neg⟩) := by
  have hk := keyOf_edge ⟨h.toNat, n.toNat, neg⟩ (by simp only; omega) (by simp only; omega)
  unfold edgV at hk
  rw [show ((h.toNat : Nat) : Int) = h by omega, show ((n.toNat : Nat) : Int) = n by omega] at hk
  exact hk
def SortedPost (w : World) (L0 : List Edg) (e : Ending) (W' : World) : Prop :=
  ∃ (A : Option Addr) (c : Nat) (xs : List Edg), e = .returned (.slice A xs.length c) ∧ edgRd.C W' A xs ∧ (∀ x, x ∈ xs ↔ x ∈ L0) ∧ xs.length ≤ L0.length ∧ Below w.heap.size w W'
end Go.Proofs.Ytmccdakmdcdbeaa
