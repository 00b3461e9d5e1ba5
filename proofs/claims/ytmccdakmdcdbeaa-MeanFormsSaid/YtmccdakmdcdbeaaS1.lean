/-
  S1: a queue of names: a slice that this call made, cut at its front.
-/
import Derived.Test.YtmccdakmdcdbeaaR1
set_option linter.unusedSimpArgs false
set_option linter.unusedVariables false
namespace Go.Proofs.Ytmccdakmdcdbeaa
open Go.RowKit

/-- The queue. -/
def QRow (w : World) (base : Nat) (v : Value) (xs : List Nat) : Prop :=
  ∃ (g off cap : Nat) (cur : Array Value), v = .slice (some ⟨g, off, none⟩) xs.length cap ∧ base ≤ g ∧ w.heap[g]? = some (.cells cur 3 (0, 0)) ∧ xs.length ≤ cap ∧ off + cap ≤ cur.size ∧ cap ≤ 9223372036854775807 ∧
    ∀ (i : Nat) (x : Nat), xs[i]? = some x → cur[off + i]? = some (.int .i64 x)
theorem run_append_q {w : World} {base : Nat} {v : Value} {xs : List Nat} (h : QRow w base v xs) (x b c : Nat) {tb ty : TypeId} {fr : Nat × Nat} (hA : w.heap[b]? = some (.cells #[.int .i64 x] tb fr)) (hb : base ≤ w.heap.size) (hlen : xs.length ≤ 1000) :
    ∃ v1 w1, (Builtin.append_ #[62, 62] ty #[v, .slice (some ⟨b, 0, none⟩) 1 c]).run Try.prog w = .ok v1 w1 ∧ QRow w1 base v1 (xs ++ [x]) ∧ w.grownBy w1 v.ownBlock ∧ (v1.ownBlock = v.ownBlock ∨ v1.ownBlock = some w.heap.size) := by
  obtain ⟨i0, hi, hz0, hz1, hz2⟩ := info_parts infoInt
  obtain ⟨g, off, cap, cur, rfl, hbg, hg, hnc, hcs, hcm, hx⟩ := h
  have hnews : ∀ j u, [Value.int .i64 x][j]? = some u → w.cell? ((⟨b, 0, none⟩ : Addr).add j) = some u := by
    intro j u hj
    rw [add_plain, Nat.zero_add, cell_of_row w b j _ tb fr hA]
    simpa using hj
  have hl : [Value.int .i64 x].length = 1 * i0.size := by rw [hz1]; rfl
  by_cases hroom : xs.length + 1 ≤ cap
  · have hf := run_firstCells_some (P := Try.prog) w i0.size 1 ⟨b, 0, none⟩ 1 c [.int .i64 x] hl hnews
    have hst := run_storeCells_at Try.prog g (off + xs.length) 3 [.int .i64 x] 0 cur w hg (by simp; omega) (by intro u hu; simp at hu; subst hu; rfl)
    simp only [Nat.add_zero] at hst
    obtain ⟨row, hrow⟩ : ∃ row : Array Value, row = (cur.toList.take (off + xs.length) ++ [Value.int .i64 x] ++ cur.toList.drop (off + xs.length + [Value.int .i64 (x : Int)].length)).toArray := ⟨_, rfl⟩
    rw [← hrow] at hst
    refine ⟨.slice (some ⟨g, off, none⟩) (xs.length + 1) cap, w.setRow g row, ?_, ⟨g, off, cap, row, by simp, hbg, setRow_heap w g cur _ 3 _ hg, by simpa using hroom, ?_, hcm, ?_⟩, ⟨rfl, rfl, rfl, by simp, fun k _ hk => setRow_other w g k _ (fun e => hk (by simp [Value.ownBlock, e]))⟩, .inl rfl⟩
    · simp [Builtin.append_, run_underlying Try.underlying62, sizeOf, typeInfo, hi, hz1, Builtin.lenOf, hroom, add_plain]
      simp [hz1] at hf
      simp [hf, hst]
    · rw [hrow]; simp; omega
    · intro i y hy
      rw [hrow]
      by_cases hi2 : i < xs.length
      · rw [List.getElem?_append_left hi2] at hy
        have h2 := hx i y hy
        rw [← Array.getElem?_toList] at h2
        simp only [List.getElem?_toArray, List.append_assoc]
        rw [List.getElem?_append_left (by simp; omega), List.getElem?_take, if_pos (by omega)]
        exact h2
      · rw [List.getElem?_append_right (by omega)] at hy
        have hi3 : i - xs.length = 0 := by
          have := (List.getElem?_eq_some_iff.1 hy).1
          simp at this
          omega
        rw [hi3] at hy
        simp at hy
        subst hy
        simp only [List.getElem?_toArray, List.append_assoc]
        rw [List.getElem?_append_right (by simp; omega)]
        have : off + i - (List.take (off + xs.length) cur.toList).length = 0 := by simp; omega
        rw [this]
        rfl
  · have holds : ∀ j u, (xs.map fun x : Nat => Value.int .i64 (x : Int))[j]? = some u → w.cell? ((⟨g, off, none⟩ : Addr).add j) = some u := by
      intro j u hj
      rw [List.getElem?_map] at hj
      cases hxj : xs[j]? with
      | none => rw [hxj] at hj; cases hj
      | some y =>
        rw [hxj] at hj
        simp at hj
        rw [add_plain, cell_of_row w g (off + j) cur _ (0, 0) hg, hx j y hxj, hj]
    have hr := run_append_grow (P := Try.prog) w 62 ty 3 i0 (.int .i64 0) Try.underlying62 hi hz0 ⟨g, off, none⟩ xs.length cap (xs.map fun x : Nat => Value.int .i64 (x : Int)) (by rw [hz1]; simp) holds ⟨b, 0, none⟩ 1 c [.int .i64 x] hl hnews (by omega) (by omega) (by rw [hz2]; have := nextslicecap_le (show cap < xs.length + 1 by omega); omega)
    have hge := grownCap_ge w (xs.length + 1) cap 3
    have hcm' := grownCap_le_maxLen w (xs.length + 1) cap 3 (by rw [maxLen_eq]; omega)
    refine ⟨_, _, hr, ⟨w.heap.size, 0, grownCap w (xs.length + 1) cap 3, _, by simp, hb, heap_alloc_new w.drew _, by simpa using hge, ?_, by rw [← maxLen_eq]; exact hcm', ?_⟩, ⟨rfl, rfl, rfl, by simp, fun k hk _ => heap_alloc_old w.drew _ hk⟩, .inr rfl⟩
    · simp only [Array.size_append, List.size_toArray, List.length_map, List.length_cons, List.length_nil, size_zeroCells]
      simp [Value.cells]
      omega
    · intro i y hy
      rw [Nat.zero_add, Array.getElem?_append_left (by simp at hy ⊢; have := (List.getElem?_eq_some_iff.1 hy).1; simp at this; omega)]
      rw [← Array.getElem?_toList]
      simp only [Array.toList_append]
      rw [show (xs.map fun x : Nat => Value.int .i64 (x : Int)) ++ [Value.int .i64 (x : Int)] = (xs ++ [x]).map (fun x : Nat => Value.int .i64 (x : Int)) by simp, List.getElem?_map, hy]
      rfl
theorem wp_append_q {w : World} {o : Oper} {a : Act} {K : Act → World → Prop} {Q : Exit → Act → World → Prop} {base : Nat} (s x : Operand) (ho : o.op = .call { callee := .builtin .append, args := #[s, x], argTypes := #[62, 62] })
    {v : Value} {xs : List Nat} (hs : a.eval s = v) (h : QRow w base v xs) (y b c : Nat) {tb : TypeId} {fr : Nat × Nat} (hx : a.eval x = .slice (some ⟨b, 0, none⟩) 1 c) (hA : w.heap[b]? = some (.cells #[.int .i64 y] tb fr)) (hb : base ≤ w.heap.size) (hlen : xs.length ≤ 1000)
    (hK : ∀ v1 w1, QRow w1 base v1 (xs ++ [y]) → w.grownBy w1 v.ownBlock → (v1.ownBlock = v.ownBlock ∨ v1.ownBlock = some w.heap.size) → K (a.put o.dst v1) w1) : o.wp Try.prog a w K Q := by
  obtain ⟨v1, w1, hr, h1, h2, h3⟩ := run_append_q (ty := o.type) h y b c hA hb hlen
  unfold Oper.wp execOp
  simp only [ho, resolve, invoke, builtin, Sem.run_bind, Sem.run_pure, Result.andThen_ok, List.map_toArray, List.map_cons, List.map_nil, hs, hx, hr]
  exact hK v1 w1 h1 h2 h3
theorem wpList_append_q {w : World} {ops : Array Oper} {rest : List Oper} {o : Oper} {a : Act} {Q : Exit → Act → World → Prop} (hgd : o.guard = none) {base : Nat} (s x : Operand) (ho : o.op = .call { callee := .builtin .append, args := #[s, x], argTypes := #[62, 62] })
    {v : Value} {xs : List Nat} (hs : a.eval s = v) (h : QRow w base v xs) (y b c : Nat) {tb : TypeId} {fr : Nat × Nat} (hx : a.eval x = .slice (some ⟨b, 0, none⟩) 1 c) (hA : w.heap[b]? = some (.cells #[.int .i64 y] tb fr)) (hb : base ≤ w.heap.size) (hlen : xs.length ≤ 1000)
    (hK : ∀ v1 w1, QRow w1 base v1 (xs ++ [y]) → w.grownBy w1 v.ownBlock → (v1.ownBlock = v.ownBlock ∨ v1.ownBlock = some w.heap.size) → wpList Try.prog ops Q rest (a.put o.dst v1) w1) : wpList Try.prog ops Q (o :: rest) a w :=
  wpList_plain hgd fun K' hK' => wp_append_q s x ho hs h y b c hx hA hb hlen (fun v1 w1 h1 h2 h3 => hK' _ _ (hK v1 w1 h1 h2 h3))
end Go.Proofs.Ytmccdakmdcdbeaa
