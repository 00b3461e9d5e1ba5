/-
  K1: templelaw11.Pairs, templelaw0.Num.
-/
import Derived.Test.YtmccdakmdcdbeaaP7
import Derived.Test.YtmccdakmdcdbeaaP9
set_option linter.unusedSimpArgs false
set_option linter.unusedVariables false
namespace Go.Proofs.Ytmccdakmdcdbeaa
open Go.RowKit

/-- A grammar handed back. -/
def GramPost (w : World) (G : Gram) (e : Ending) (w' : World) : Prop :=
  Below w.heap.size w w' ∧ ∃ (A : Option Addr) (c : Nat) (A' : Option Addr) (c' : Nat), e = .returned (.agg #[.int .i64 G.start, .slice A G.names.length c, .slice A' G.rules.length c']) ∧
    G.names.length ≤ c ∧ c ≤ 9223372036854775807 ∧ Rd.str.C w' A G.names ∧ G.rules.length ≤ c' ∧ c' ≤ 9223372036854775807 ∧ rulRd.C w' A' G.rules
theorem num_any (x : Int) (w : World) : Calls Try.prog 15 #[.int .i64 x] w fun e w' => e = .returned (.int .i64 x) ∧ w' = w := by
  go_enter Try.func15, Try.ntmps15
  go_wp2
  go_ret
  exact ⟨rfl, rfl⟩
/-- New blocks, one behind the other. -/
def allocs (w : World) : List Obj → World
  | [] => w
  | o :: os => allocs (w.alloc o) os
theorem allocs_below {w : World} : ∀ (os : List Obj) {W : World}, Below w.heap.size w W → Below w.heap.size w (allocs W os) := by
  intro os
  induction os with
  | nil => intro W h; exact h
  | cons o os ih => intro W h; exact ih (below_alloc' h o)
theorem allocs_old : ∀ (os : List Obj) (w : World) (k : Nat), k < w.heap.size → (allocs w os).heap[k]? = w.heap[k]? := by
  intro os
  induction os with
  | nil => intro w k _; rfl
  | cons o os ih =>
    intro w k hk
    rw [allocs, ih _ _ (by simp; omega)]
    exact heap_alloc_old w o hk
theorem allocs_heap : ∀ (os : List Obj) (w : World) (k : Nat) (o : Obj), os[k]? = some o → (allocs w os).heap[w.heap.size + k]? = some o := by
  intro os
  induction os with
  | nil => intro w k o h; simp at h
  | cons o' os ih =>
    intro w k o h
    cases k with
    | zero =>
      simp at h
      subst h
      rw [allocs, Nat.add_zero, allocs_old _ _ _ (by simp)]
      exact heap_alloc_new w o'
    | succ k =>
      have h1 := ih (w.alloc o') k o (by simpa using h)
      rw [World.size_alloc] at h1
      rw [allocs, show w.heap.size + (k + 1) = w.heap.size + 1 + k by omega]
      exact h1
def AllK {α : Type} (d : Rd α) (w : World) : List α → List (List Value) → Prop
  | [], [] => True
  | x :: xs, cs :: css => (d.K w x cs ∧ cs.length = d.sz) ∧ AllK d w xs css
  | _, _ => False
theorem AllK.get {α : Type} {d : Rd α} {w : World} : ∀ {xs : List α} {css : List (List Value)}, AllK d w xs css → (∀ cs ∈ css, cs.length = d.sz) ∧ ∀ (i : Nat) (x : α), xs[i]? = some x → ∃ cs, css[i]? = some cs ∧ d.K w x cs := by
  intro xs
  induction xs with
  | nil =>
    intro css h
    cases css with
    | nil => exact ⟨fun cs h => by simp at h, fun i x h => by simp at h⟩
    | cons c css => exact h.elim
  | cons x xs ih =>
    intro css h
    cases css with
    | nil => exact h.elim
    | cons c css =>
      obtain ⟨⟨h1, h2⟩, h3⟩ := h
      obtain ⟨h4, h5⟩ := ih h3
      refine ⟨fun cs hc => ?_, fun i y hy => ?_⟩
      · rcases List.mem_cons.1 hc with rfl | hc
        · exact h2
        · exact h4 cs hc
      · cases i with
        | zero => simp at hy; subst hy; exact ⟨c, rfl, h1⟩
        | succ i => exact h5 i y (by simpa using hy)
/-- A block's cells, read as a row. -/
theorem C_blk {α : Type} {d : Rd α} {w : World} {b : Nat} {cur : Array Value} {t : TypeId} {xs : List α} (css : List (List Value)) (hb : w.heap[b]? = some (.cells cur t (0, 0))) (hc : cur = css.flatten.toArray) (h : AllK d w xs css) : d.C w (some ⟨b, 0, none⟩) xs := by
  obtain ⟨h1, h2⟩ := h.get
  intro i x hx
  obtain ⟨cs, hcs, hK⟩ := h2 i x hx
  refine ⟨_, cs, rfl, hK, fun j u hu => ?_⟩
  rw [add_plain, blk_cell hb, hc]
  have h3 := flatten_get h1 hcs hu
  simpa [Nat.add_assoc] using h3
def symC (s : Sym) : List Value := [.int .i64 s.name, .int .i64 s.lo, .int .i64 s.hi]
def symO (ss : List Sym) : Obj := .cells (ss.flatMap symC).toArray 44 (0, 0)
theorem symO_C {w : World} {b : Nat} {ss : List Sym} (h : w.heap[b]? = some (symO ss)) : symRd.C w (some ⟨b, 0, none⟩) ss := by
  refine C_blk (ss.map symC) h (by rw [List.flatMap_def]) ?_
  clear h
  induction ss with
  | nil => trivial
  | cons s ss ih => exact ⟨⟨symRd_mk w s, rfl⟩, ih⟩
def pairsObjs (n : Nat) : List Obj := [
  .cells #[.int .i64 0, .slice (some ⟨n + 5, 0, none⟩) 2 2, .slice (some ⟨n + 14, 0, none⟩) 4 4] 25 (0, 0),
  symO [syA], symO [syB], symO [syS], symO [syX],
  .cells #[.string ⟨#[83]⟩, .string ⟨#[88]⟩] 9 (0, 0),
  symO [syA, syS, syB], symO [syX],
  .cells #[.bool false, .slice (some ⟨n + 6, 0, none⟩) 3 3, .bool true, .slice (some ⟨n + 7, 0, none⟩) 1 1] 48 (0, 0),
  .cells #[.bool false, .slice none 0 0] 48 (0, 0),
  symO [syA],
  .cells #[.bool false, .slice (some ⟨n + 10, 0, none⟩) 1 1] 48 (0, 0),
  symO [syX, syX],
  .cells #[.bool false, .slice (some ⟨n + 12, 0, none⟩) 2 2] 48 (0, 0),
  .cells #[.int .i64 0, .slice (some ⟨n + 8, 0, none⟩) 2 2, .int .i64 0, .slice (some ⟨n + 9, 0, none⟩) 1 1, .int .i64 1, .slice (some ⟨n + 11, 0, none⟩) 1 1, .int .i64 1, .slice (some ⟨n + 13, 0, none⟩) 1 1] 53 (0, 0)]
theorem pairs_lie (w : World) : Rd.str.C (allocs w (pairsObjs w.heap.size)) (some ⟨w.heap.size + 5, 0, none⟩) pairsG.names ∧ rulRd.C (allocs w (pairsObjs w.heap.size)) (some ⟨w.heap.size + 14, 0, none⟩) pairsG.rules := by
  have H : ∀ k o, (pairsObjs w.heap.size)[k]? = some o → (allocs w (pairsObjs w.heap.size)).heap[w.heap.size + k]? = some o := fun k o h => allocs_heap _ _ _ _ h
  generalize allocs w (pairsObjs w.heap.size) = W at H
  have c6 := symO_C (H 6 _ rfl)
  have c7 := symO_C (H 7 _ rfl)
  have c10 := symO_C (H 10 _ rfl)
  have c12 := symO_C (H 12 _ rfl)
  have d8 : conjRd.C W (some ⟨w.heap.size + 8, 0, none⟩) [⟨false, [syA, syS, syB]⟩, ⟨true, [syX]⟩] := C_blk [[.bool false, .slice (some ⟨w.heap.size + 6, 0, none⟩) 3 3], [.bool true, .slice (some ⟨w.heap.size + 7, 0, none⟩) 1 1]] (H 8 _ rfl) rfl ⟨⟨conjRd_mk (x := ⟨false, [syA, syS, syB]⟩) (by decide) (by decide) c6, rfl⟩, ⟨conjRd_mk (x := ⟨true, [syX]⟩) (by decide) (by decide) c7, rfl⟩, trivial⟩
  have d9 : conjRd.C W (some ⟨w.heap.size + 9, 0, none⟩) [⟨false, []⟩] := C_blk [[.bool false, .slice none 0 0]] (H 9 _ rfl) rfl ⟨⟨conjRd_mk (x := ⟨false, []⟩) (by decide) (by decide) (Rd.C.nil _ _ _), rfl⟩, trivial⟩
  have d11 : conjRd.C W (some ⟨w.heap.size + 11, 0, none⟩) [⟨false, [syA]⟩] := C_blk [[.bool false, .slice (some ⟨w.heap.size + 10, 0, none⟩) 1 1]] (H 11 _ rfl) rfl ⟨⟨conjRd_mk (x := ⟨false, [syA]⟩) (by decide) (by decide) c10, rfl⟩, trivial⟩
  have d13 : conjRd.C W (some ⟨w.heap.size + 13, 0, none⟩) [⟨false, [syX, syX]⟩] := C_blk [[.bool false, .slice (some ⟨w.heap.size + 12, 0, none⟩) 2 2]] (H 13 _ rfl) rfl ⟨⟨conjRd_mk (x := ⟨false, [syX, syX]⟩) (by decide) (by decide) c12, rfl⟩, trivial⟩
  constructor
  · exact C_blk [[.string ⟨#[83]⟩], [.string ⟨#[88]⟩]] (H 5 _ rfl) rfl ⟨⟨rfl, rfl⟩, ⟨rfl, rfl⟩, trivial⟩
  · exact C_blk [[.int .i64 0, .slice (some ⟨w.heap.size + 8, 0, none⟩) 2 2], [.int .i64 0, .slice (some ⟨w.heap.size + 9, 0, none⟩) 1 1], [.int .i64 1, .slice (some ⟨w.heap.size + 11, 0, none⟩) 1 1], [.int .i64 1, .slice (some ⟨w.heap.size + 13, 0, none⟩) 1 1]] (H 14 _ rfl) rfl
      ⟨⟨rulRd_mk (x := ⟨0, [⟨false, [syA, syS, syB]⟩, ⟨true, [syX]⟩]⟩) (by decide) (by decide) d8, rfl⟩, ⟨rulRd_mk (x := ⟨0, [⟨false, []⟩]⟩) (by decide) (by decide) d9, rfl⟩, ⟨rulRd_mk (x := ⟨1, [⟨false, [syA]⟩]⟩) (by decide) (by decide) d11, rfl⟩, ⟨rulRd_mk (x := ⟨1, [⟨false, [syX, syX]⟩]⟩) (by decide) (by decide) d13, rfl⟩, trivial⟩
set_option maxRecDepth 100000 in
set_option maxHeartbeats 2000000 in
theorem pairs_any (w : World) : Calls Try.prog 22 #[] w (GramPost w pairsG) := by
  go_enter Try.func22, Try.ntmps22
  go_wp2_with fail
  refine bodyPost_ret (v := .agg #[.int .i64 0, .slice (some ⟨w.heap.size + 5, 0, none⟩) 2 2, .slice (some ⟨w.heap.size + 14, 0, none⟩) 4 4]) (by simp [results, Try.results22, go_sem]) rfl ?_
  change GramPost w pairsG _ (allocs w (pairsObjs w.heap.size))
  obtain ⟨h1, h2⟩ := pairs_lie w
  exact ⟨allocs_below _ (below_refl w), _, 2, _, 4, rfl, by decide, by decide, h1, by decide, by decide, h2⟩
end Go.Proofs.Ytmccdakmdcdbeaa
