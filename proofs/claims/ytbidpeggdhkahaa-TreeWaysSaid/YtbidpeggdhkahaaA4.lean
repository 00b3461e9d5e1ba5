/-
  A4: rows of new blocks; how literal grammars lie; templelaw0.Num.
-/
import Derived.Test.YtbidpeggdhkahaaA3
import Derived.Laws.Bits64b
import Derived.Laws.IdiomStrings
set_option linter.unusedSimpArgs false
set_option linter.unusedVariables false
namespace Go.Proofs.Ytbidpeggdhkahaa
open Go.RowKit

/-- A grammar handed back. -/
def GramPost (w : World) (G : Gram) (e : Ending) (w' : World) : Prop :=
  Below w.heap.size w w' ∧ ∃ (A : Option Addr) (c : Nat) (A' : Option Addr) (c' : Nat), e = .returned (.agg #[.int .i64 G.start, .slice A G.names.length c, .slice A' G.rules.length c']) ∧
    G.names.length ≤ c ∧ c ≤ 9223372036854775807 ∧ Rd.str.C w' A G.names ∧ G.rules.length ≤ c' ∧ c' ≤ 9223372036854775807 ∧ rulRd.C w' A' G.rules
theorem num_any (x : Int) (w : World) : Calls Try.prog 9 #[.int .i64 x] w fun e w' => e = .returned (.int .i64 x) ∧ w' = w := by
  go_enter Try.func9, Try.ntmps9
  go_wp2
  go_ret
  exact ⟨rfl, rfl⟩
/-- New blocks, one behind the other. -/
def allocs (w : World) : List Obj → World
  | [] => w
  | o :: os => allocs (w.alloc o) os
theorem allocs_below {w : World} : ∀ (os : List Obj) {W : World}, Below w.heap.size w W → Below w.heap.size w (allocs W os) := by
  intro os
  induction os with
  | nil => intro W h; exact h
  | cons o os ih => intro W h; exact ih (below_alloc' h o)
theorem allocs_old : ∀ (os : List Obj) (w : World) (k : Nat), k < w.heap.size → (allocs w os).heap[k]? = w.heap[k]? := by
  intro os
  induction os with
  | nil => intro w k _; rfl
  | cons o os ih =>
    intro w k hk
    rw [allocs, ih _ _ (by simp; omega)]
    exact heap_alloc_old w o hk
theorem allocs_heap : ∀ (os : List Obj) (w : World) (k : Nat) (o : Obj), os[k]? = some o → (allocs w os).heap[w.heap.size + k]? = some o := by
  intro os
  induction os with
  | nil => intro w k o h; simp at h
  | cons o' os ih =>
    intro w k o h
    cases k with
    | zero =>
      simp at h
      subst h
      rw [allocs, Nat.add_zero, allocs_old _ _ _ (by simp)]
      exact heap_alloc_new w o'
    | succ k =>
      have h1 := ih (w.alloc o') k o (by simpa using h)
      rw [World.size_alloc] at h1
      rw [allocs, show w.heap.size + (k + 1) = w.heap.size + 1 + k by omega]
      exact h1
def AllK {α : Type} (d : Rd α) (w : World) : List α → List (List Value) → Prop
  | [], [] => True
  | x :: xs, cs :: css => (d.K w x cs ∧ cs.length = d.sz) ∧ AllK d w xs css
  | _, _ => False
theorem AllK.get {α : Type} {d : Rd α} {w : World} : ∀ {xs : List α} {css : List (List Value)}, AllK d w xs css → (∀ cs ∈ css, cs.length = d.sz) ∧ ∀ (i : Nat) (x : α), xs[i]? = some x → ∃ cs, css[i]? = some cs ∧ d.K w x cs := by
  intro xs
  induction xs with
  | nil =>
    intro css h
    cases css with
    | nil => exact ⟨fun cs h => by simp at h, fun i x h => by simp at h⟩
    | cons c css => exact h.elim
  | cons x xs ih =>
    intro css h
    cases css with
    | nil => exact h.elim
    | cons c css =>
      obtain ⟨⟨h1, h2⟩, h3⟩ := h
      obtain ⟨h4, h5⟩ := ih h3
      refine ⟨fun cs hc => ?_, fun i y hy => ?_⟩
      · rcases List.mem_cons.1 hc with rfl | hc
        · exact h2
        · exact h4 cs hc
      · cases i with
        | zero => simp at hy; subst hy; exact ⟨c, rfl, h1⟩
        | succ i => exact h5 i y (by simpa using hy)
/-- A block's cells, read as a row. -/
theorem C_blk {α : Type} {d : Rd α} {w : World} {b : Nat} {cur : Array Value} {t : TypeId} {xs : List α} (css : List (List Value)) (hb : w.heap[b]? = some (.cells cur t (0, 0))) (hc : cur = css.flatten.toArray) (h : AllK d w xs css) : d.C w (some ⟨b, 0, none⟩) xs := by
  obtain ⟨h1, h2⟩ := h.get
  intro i x hx
  obtain ⟨cs, hcs, hK⟩ := h2 i x hx
  refine ⟨_, cs, rfl, hK, fun j u hu => ?_⟩
  rw [add_plain, blk_cell hb, hc]
  have h3 := flatten_get h1 hcs hu
  simpa [Nat.add_assoc] using h3
def symC (s : Sym) : List Value := [.int .i64 s.name, .int .i64 s.lo, .int .i64 s.hi]
def symO (ss : List Sym) : Obj := .cells (ss.flatMap symC).toArray 44 (0, 0)
theorem symO_C {w : World} {b : Nat} {ss : List Sym} (h : w.heap[b]? = some (symO ss)) : symRd.C w (some ⟨b, 0, none⟩) ss := by
  refine C_blk (ss.map symC) h (by rw [List.flatMap_def]) ?_
  clear h
  induction ss with
  | nil => trivial
  | cons s ss ih => exact ⟨⟨symRd_mk w s, rfl⟩, ih⟩
end Go.Proofs.Ytbidpeggdhkahaa
