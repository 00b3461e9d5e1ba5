/-
  A7: words on ranges and lists gone through.
-/
import Derived.Test.YtbidpeggdhkahaaGreatA3
set_option linter.unusedSimpArgs false
set_option linter.unusedVariables false
namespace Go.Proofs.YtbidpeggdhkahaaGreat
open Go.RowKit

theorem range_bad {f : Nat → Bool} {n q : Nat} (hq : q < n) (h : f q = false) : (List.range n).all f = false := by
  rw [Bool.eq_false_iff]
  intro hh
  rw [List.all_eq_true] at hh
  rw [hh q (List.mem_range.2 hq)] at h
  cases h
theorem range_succ_all (f : Nat → Bool) (n : Nat) : (List.range (n + 1)).all f = ((List.range n).all f && f n) := by
  rw [List.range_succ, List.all_append]; simp
theorem any_take {α : Type} {l : List α} {p : α → Bool} {k : Nat} {y : α} (hx : l[k]? = some y) : (l.take (k + 1)).any p = ((l.take k).any p || p y) := by
  rw [List.take_add_one, hx, List.any_append]; simp
theorem any_good {α : Type} {l : List α} {p : α → Bool} {k : Nat} {y : α} (hx : l[k]? = some y) (hy : p y = true) : l.any p = true := List.any_eq_true.2 ⟨y, List.mem_of_getElem? hx, hy⟩
def AllTo {α : Type} (l : List α) (p : α → Bool) (w : World) (cnt : Value) (wr : World) : Prop := ∃ i : Nat, cnt = .int .i64 i ∧ i ≤ l.length ∧ (l.take i).all p = true ∧ Below w.heap.size w wr
def NoneTo {α : Type} (l : List α) (p : α → Bool) (w : World) (cnt : Value) (wr : World) : Prop := ∃ i : Nat, cnt = .int .i64 i ∧ i ≤ l.length ∧ (l.take i).any p = false ∧ Below w.heap.size w wr
def RangeTo (n : Nat) (f : Nat → Bool) (w : World) (cnt : Value) (wr : World) : Prop := ∃ i : Nat, cnt = .int .i64 i ∧ i ≤ n ∧ (List.range i).all f = true ∧ Below w.heap.size w wr
end Go.Proofs.YtbidpeggdhkahaaGreat
