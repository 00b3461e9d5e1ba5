/-
  F2: edges as a map's keys.
-/
import Derived.Test.YtmccdakmdcdbeaaF1
import Derived.DeepKeys5
import Derived.Maps.Own
import Derived.Maps.Views
import Derived.Maps.Range
set_option linter.unusedSimpArgs false
set_option linter.unusedVariables false
namespace Go.Proofs.Ytmccdakmdcdbeaa
open Go.RowKit Go.Sort Go.Maps

def triV (x : Int × Int × Bool) : Value := .agg #[.int .i64 x.1, .int .i64 x.2.1, .bool x.2.2]
def edgV (e : Edg) : Value := .agg #[.int .i64 e.fr, .int .i64 e.to, .bool e.neg]
def litE (e : Edg) : Lit := .string (keyBytes [.int .i64 e.fr, .int .i64 e.to, .bool e.neg])
theorem edgeLaw : Keyed Try.prog 81 := Keyed.of_law (deep_law (m := 2) (by omega) (by kernel_rfl) (by kernel_rfl) (by kernel_rfl))
theorem edge_cells : Try.prog.cellsOf 81 = 3 := by kernel_rfl
theorem edge_cells3 : Try.prog.cellsOf 3 = 1 := by kernel_rfl
theorem edge_cells4 : Try.prog.cellsOf 4 = 1 := by kernel_rfl
theorem edge_key : Try.prog.keyType 81 = true := by kernel_rfl
theorem edge_lits (e : Edg) (h1 : e.fr < 64) (h2 : e.to < 64) (d : Nat) : Try.prog.keyLits (d + 2) 81 [.int .i64 e.fr, .int .i64 e.to, .bool e.neg] = some [.int .i64 e.fr, .int .i64 e.to, .bool e.neg] := by
  have w1 : (Lit.int .i64 (e.fr : Int)).wf = true := by simp [Lit.wf, IntKind.min, IntKind.max, IntKind.bits, IntKind.signed]; omega
  have w2 : (Lit.int .i64 (e.to : Int)).wf = true := by simp [Lit.wf, IntKind.min, IntKind.max, IntKind.bits, IntKind.signed]; omega
  unfold Program.keyLits
  simp only [Try.underlying81]
  simp [edge_cells, edge_cells3, edge_cells4, Program.keyLits, Try.underlying3, Try.underlying4, w1, w2]
theorem keyOf_edge (e : Edg) (h1 : e.fr < 64) (h2 : e.to < 64) : keyOf Try.prog 81 (edgV e) = some (litE e) := by
  have h0 : decide (1 ≤ Try.prog.types.size) = true := by kernel_rfl
  have h0' := of_decide_eq_true h0
  obtain ⟨d, hd⟩ : ∃ d, Try.prog.types.size = d + 1 := ⟨Try.prog.types.size - 1, by omega⟩
  unfold keyOf edgV
  rw [Try.underlying81]
  simp only [edge_key, Value.formed, Try.underlying81, edge_cells, Value.cells, hd]
  rw [edge_lits e h1 h2 d]
  rfl
theorem lits_int {d : Nat} {a : Value} {l : List Lit} (h : Try.prog.keyLits (d + 1) 3 [a] = some l) : ∃ n, a = .int .i64 n := by
  unfold Program.keyLits at h
  simp only [Try.underlying3] at h
  cases a with
  | int q n =>
    by_cases e : q = .i64 ∧ (Lit.int .i64 n).wf = true
    · obtain ⟨rfl, -⟩ := e
      exact ⟨n, rfl⟩
    · simp [e] at h
  | _ => simp at h
theorem lits_bool {d : Nat} {a : Value} {l : List Lit} (h : Try.prog.keyLits (d + 1) 4 [a] = some l) : ∃ n, a = .bool n := by
  unfold Program.keyLits at h
  simp only [Try.underlying4] at h
  cases a with
  | bool n => exact ⟨n, rfl⟩
  | _ => simp at h
theorem keyOf_tri {key : Value} {kl : Lit} (h : keyOf Try.prog 81 key = some kl) : ∃ x, key = triV x := by
  have h0 : decide (1 ≤ Try.prog.types.size) = true := by kernel_rfl
  have h0' := of_decide_eq_true h0
  obtain ⟨d, hd⟩ : ∃ d, Try.prog.types.size = d + 1 := ⟨Try.prog.types.size - 1, by omega⟩
  unfold keyOf at h
  simp only [Try.underlying81, edge_key, hd] at h
  cases key with
  | agg cs =>
    simp only [Value.cells] at h
    split at h
    · rename_i hf
      unfold Program.keyLits at h
      simp only [Try.underlying81] at h
      cases cs with
      | mk l =>
        have hl : l.length = 3 := by simpa [Value.formed, Try.underlying81, edge_cells] using hf
        rcases l with _ | ⟨a, _ | ⟨b, _ | ⟨c, _ | ⟨d, l⟩⟩⟩⟩
        · simp at hl
        · simp at hl
        · simp at hl
        · cases h1 : Try.prog.keyLits (d + 1) 3 [a] with
          | none => simp [edge_cells, edge_cells3, edge_cells4, h1] at h
          | some l1 =>
            cases h2 : Try.prog.keyLits (d + 1) 3 [b] with
            | none => simp [edge_cells, edge_cells3, edge_cells4, h1, h2] at h
            | some l2 =>
              cases h3 : Try.prog.keyLits (d + 1) 4 [c] with
              | none => simp [edge_cells, edge_cells3, edge_cells4, h1, h2, h3] at h
              | some l3 =>
                obtain ⟨n1, rfl⟩ := lits_int h1
                obtain ⟨n2, rfl⟩ := lits_int h2
                obtain ⟨n3, rfl⟩ := lits_bool h3
                exact ⟨(n1, n2, n3), rfl⟩
        · simp at hl
    · cases h
  | _ => simp [Value.formed, Try.underlying81] at h
theorem litE_key (e : Edg) : WideAt.IsKeyLit (litE e) := by simp [WideAt.IsKeyLit, litE]
theorem litE_inj {a b : Edg} (ha : a.fr < 64 ∧ a.to < 64) (hb : b.fr < 64 ∧ b.to < 64) (h : litE a = litE b) : a = b := by
  have h1 := keyOf_edge a ha.1 ha.2
  have h2 := keyOf_edge b hb.1 hb.2
  rw [← h] at h2
  have h3 := edgeLaw.inj h1 h2
  unfold edgV at h3
  obtain ⟨a1, a2, a3⟩ := a
  obtain ⟨b1, b2, b3⟩ := b
  simp at h3
  obtain ⟨e1, e2, e3⟩ := h3
  have e1' : a1 = b1 := by omega
  have e2' : a2 = b2 := by omega
  rw [e1', e2', e3]
/-- A set of edges, as a map. -/
def setE (L : List Edg) : DataW Unit := setOf (.lit (.bool true)) (L.map litE)
theorem setE_snoc (L : List Edg) (e : Edg) : setE (L ++ [e]) = (setE L).put (litE e) (.lit (.bool true)) := by
  unfold setE
  rw [List.map_append, List.map_cons, List.map_nil, setOf_snoc]
theorem has_setE (L : List Edg) (k : Lit) : has (setE L) k = true ↔ ∃ e ∈ L, (litE e).sameKey k = true := by
  unfold setE
  rw [has_setOf _ _ _ (by intro x hx; obtain ⟨e, _, rfl⟩ := List.mem_map.1 hx; exact litE_key e)]
  simp
theorem addKey_le (xs : List Lit) : ∀ acc : List Lit, (xs.foldl addKey acc).length ≤ acc.length + xs.length := by
  induction xs with
  | nil => intro acc; simp
  | cons x xs ih =>
    intro acc
    have h1 := ih (addKey acc x)
    have h2 : (addKey acc x).length ≤ acc.length + 1 := by unfold addKey; split <;> simp
    simp only [List.foldl_cons, List.length_cons]
    omega
theorem size_setE (L : List Edg) : Maps.size (setE L) ≤ L.length := by
  unfold setE
  rw [size_setOf _ _ (by intro x hx; obtain ⟨e, _, rfl⟩ := List.mem_map.1 hx; exact litE_key e)]
  have := addKey_le (L.map litE) []
  simpa using this
/-- The map in memory. -/
def EMap (w : World) (b : Nat) (L : List Edg) : Prop := w.ownsMap Try.prog 81 (plainElem (H := Unit) Try.prog 4) b L.length (setE L)
end Go.Proofs.Ytmccdakmdcdbeaa
