/-
  S1: a queue of names: a slice that this call made, cut at its front.
  S2: strata.steps: what holds between two rounds. No program in sight.
  S3: the walk of strata.steps.
-/
import Derived.Test.YtbidpeggdhkahaaR1
set_option linter.unusedSimpArgs false
set_option linter.unusedVariables false
namespace Go.Proofs.Ytbidpeggdhkahaa
open Go.RowKit

/-- The queue. -/
def QRow (w : World) (base : Nat) (v : Value) (xs : List Nat) : Prop :=
  ∃ (g off cap : Nat) (cur : Array Value), v = .slice (some ⟨g, off, none⟩) xs.length cap ∧ base ≤ g ∧ w.heap[g]? = some (.cells cur 3 (0, 0)) ∧ xs.length ≤ cap ∧ off + cap ≤ cur.size ∧ cap ≤ 9223372036854775807 ∧
    ∀ (i : Nat) (x : Nat), xs[i]? = some x → cur[off + i]? = some (.int .i64 x)
theorem run_append_q {w : World} {base : Nat} {v : Value} {xs : List Nat} (h : QRow w base v xs) (x b c : Nat) {tb ty : TypeId} {fr : Nat × Nat} (hA : w.heap[b]? = some (.cells #[.int .i64 x] tb fr)) (hb : base ≤ w.heap.size) (hlen : xs.length ≤ 1000) :
    ∃ v1 w1, (Builtin.append_ #[46, 46] ty #[v, .slice (some ⟨b, 0, none⟩) 1 c]).run Try.prog w = .ok v1 w1 ∧ QRow w1 base v1 (xs ++ [x]) ∧ w.grownBy w1 v.ownBlock ∧ (v1.ownBlock = v.ownBlock ∨ v1.ownBlock = some w.heap.size) := by
  obtain ⟨i0, hi, hz0, hz1, hz2⟩ := info_parts infoInt
  obtain ⟨g, off, cap, cur, rfl, hbg, hg, hnc, hcs, hcm, hx⟩ := h
  have hnews : ∀ j u, [Value.int .i64 x][j]? = some u → w.cell? ((⟨b, 0, none⟩ : Addr).add j) = some u := by
    intro j u hj
    rw [add_plain, Nat.zero_add, cell_of_row w b j _ tb fr hA]
    simpa using hj
  have hl : [Value.int .i64 x].length = 1 * i0.size := by rw [hz1]; rfl
  by_cases hroom : xs.length + 1 ≤ cap
  · have hf := run_firstCells_some (P := Try.prog) w i0.size 1 ⟨b, 0, none⟩ 1 c [.int .i64 x] hl hnews
    have hst := run_storeCells_at Try.prog g (off + xs.length) 3 [.int .i64 x] 0 cur w hg (by simp; omega) (by intro u hu; simp at hu; subst hu; rfl)
    simp only [Nat.add_zero] at hst
    obtain ⟨row, hrow⟩ : ∃ row : Array Value, row = (cur.toList.take (off + xs.length) ++ [Value.int .i64 x] ++ cur.toList.drop (off + xs.length + [Value.int .i64 (x : Int)].length)).toArray := ⟨_, rfl⟩
    rw [← hrow] at hst
    refine ⟨.slice (some ⟨g, off, none⟩) (xs.length + 1) cap, w.setRow g row, ?_, ⟨g, off, cap, row, by simp, hbg, setRow_heap w g cur _ 3 _ hg, by simpa using hroom, ?_, hcm, ?_⟩, ⟨rfl, rfl, rfl, by simp, fun k _ hk => setRow_other w g k _ (fun e => hk (by simp [Value.ownBlock, e]))⟩, .inl rfl⟩
    · simp [Builtin.append_, run_underlying Try.underlying46, sizeOf, typeInfo, hi, hz1, Builtin.lenOf, hroom, add_plain]
      simp [hz1] at hf
      simp [hf, hst]
    · rw [hrow]; simp; omega
    · intro i y hy
      rw [hrow]
      by_cases hi2 : i < xs.length
      · rw [List.getElem?_append_left hi2] at hy
        have h2 := hx i y hy
        rw [← Array.getElem?_toList] at h2
        simp only [List.getElem?_toArray, List.append_assoc]
        rw [List.getElem?_append_left (by simp; omega), List.getElem?_take, if_pos (by omega)]
        exact h2
      · rw [List.getElem?_append_right (by omega)] at hy
        have hi3 : i - xs.length = 0 := by
          have := (List.getElem?_eq_some_iff.1 hy).1
          simp at this
          omega
        rw [hi3] at hy
        simp at hy
        subst hy
        simp only [List.getElem?_toArray, List.append_assoc]
        rw [List.getElem?_append_right (by simp; omega)]
        have : off + i - (List.take (off + xs.length) cur.toList).length = 0 := by simp; omega
        rw [this]
        rfl
  · have holds : ∀ j u, (xs.map fun x : Nat => Value.int .i64 (x : Int))[j]? = some u → w.cell? ((⟨g, off, none⟩ : Addr).add j) = some u := by
      intro j u hj
      rw [List.getElem?_map] at hj
      cases hxj : xs[j]? with
      | none => rw [hxj] at hj; cases hj
      | some y =>
        rw [hxj] at hj
        simp at hj
        rw [add_plain, cell_of_row w g (off + j) cur _ (0, 0) hg, hx j y hxj, hj]
    have hr := run_append_grow (P := Try.prog) w 46 ty 3 i0 (.int .i64 0) Try.underlying46 hi hz0 ⟨g, off, none⟩ xs.length cap (xs.map fun x : Nat => Value.int .i64 (x : Int)) (by rw [hz1]; simp) holds ⟨b, 0, none⟩ 1 c [.int .i64 x] hl hnews (by omega) (by omega) (by rw [hz2]; have := nextslicecap_le (show cap < xs.length + 1 by omega); omega)
    have hge := grownCap_ge w (xs.length + 1) cap 3
    have hcm' := grownCap_le_maxLen w (xs.length + 1) cap 3 (by rw [maxLen_eq]; omega)
    refine ⟨_, _, hr, ⟨w.heap.size, 0, grownCap w (xs.length + 1) cap 3, _, by simp, hb, heap_alloc_new w.drew _, by simpa using hge, ?_, by rw [← maxLen_eq]; exact hcm', ?_⟩, ⟨rfl, rfl, rfl, by simp, fun k hk _ => heap_alloc_old w.drew _ hk⟩, .inr rfl⟩
    · simp only [Array.size_append, List.size_toArray, List.length_map, List.length_cons, List.length_nil, size_zeroCells]
      simp [Value.cells]
      omega
    · intro i y hy
      rw [Nat.zero_add, Array.getElem?_append_left (by simp at hy ⊢; have := (List.getElem?_eq_some_iff.1 hy).1; simp at this; omega)]
      rw [← Array.getElem?_toList]
      simp only [Array.toList_append]
      rw [show (xs.map fun x : Nat => Value.int .i64 (x : Int)) ++ [Value.int .i64 (x : Int)] = (xs ++ [x]).map (fun x : Nat => Value.int .i64 (x : Int)) by simp, List.getElem?_map, hy]
      rfl
theorem wp_append_q {w : World} {o : Oper} {a : Act} {K : Act → World → Prop} {Q : Exit → Act → World → Prop} {base : Nat} (s x : Operand) (ho : o.op = .call { callee := .builtin .append, args := #[s, x], argTypes := #[46, 46] })
    {v : Value} {xs : List Nat} (hs : a.eval s = v) (h : QRow w base v xs) (y b c : Nat) {tb : TypeId} {fr : Nat × Nat} (hx : a.eval x = .slice (some ⟨b, 0, none⟩) 1 c) (hA : w.heap[b]? = some (.cells #[.int .i64 y] tb fr)) (hb : base ≤ w.heap.size) (hlen : xs.length ≤ 1000)
    (hK : ∀ v1 w1, QRow w1 base v1 (xs ++ [y]) → w.grownBy w1 v.ownBlock → (v1.ownBlock = v.ownBlock ∨ v1.ownBlock = some w.heap.size) → K (a.put o.dst v1) w1) : o.wp Try.prog a w K Q := by
  obtain ⟨v1, w1, hr, h1, h2, h3⟩ := run_append_q (ty := o.type) h y b c hA hb hlen
  unfold Oper.wp execOp
  simp only [ho, resolve, invoke, builtin, Sem.run_bind, Sem.run_pure, Result.andThen_ok, List.map_toArray, List.map_cons, List.map_nil, hs, hx, hr]
  exact hK v1 w1 h1 h2 h3
theorem wpList_append_q {w : World} {ops : Array Oper} {rest : List Oper} {o : Oper} {a : Act} {Q : Exit → Act → World → Prop} (hgd : o.guard = none) {base : Nat} (s x : Operand) (ho : o.op = .call { callee := .builtin .append, args := #[s, x], argTypes := #[46, 46] })
    {v : Value} {xs : List Nat} (hs : a.eval s = v) (h : QRow w base v xs) (y b c : Nat) {tb : TypeId} {fr : Nat × Nat} (hx : a.eval x = .slice (some ⟨b, 0, none⟩) 1 c) (hA : w.heap[b]? = some (.cells #[.int .i64 y] tb fr)) (hb : base ≤ w.heap.size) (hlen : xs.length ≤ 1000)
    (hK : ∀ v1 w1, QRow w1 base v1 (xs ++ [y]) → w.grownBy w1 v.ownBlock → (v1.ownBlock = v.ownBlock ∨ v1.ownBlock = some w.heap.size) → wpList Try.prog ops Q rest (a.put o.dst v1) w1) : wpList Try.prog ops Q (o :: rest) a w :=
  wpList_plain hgd fun K' hK' => wp_append_q s x ho hs h y b c hx hA hb hlen (fun v1 w1 h1 h2 h3 => hK' _ _ (hK v1 w1 h1 h2 h3))
end Go.Proofs.Ytbidpeggdhkahaa

set_option linter.unusedSimpArgs false
set_option linter.unusedVariables false
namespace Go.Proofs.Ytbidpeggdhkahaa
open Go.RowKit

/-- A row of numbers. -/
def intArr (K : Nat) (F : Nat → Int) : Array Value := (Array.range K).map (fun i => Value.int .i64 (F i))
def intObj (K : Nat) (F : Nat → Int) : Obj := .cells (intArr K F) 3 (0, 0)
def updI (F : Nat → Int) (i : Nat) (v : Int) : Nat → Int := fun k => if k = i then v else F k
theorem intArr_set (K : Nat) (F : Nat → Int) (i : Nat) (v : Int) : (intArr K F).setIfInBounds i (.int .i64 v) = intArr K (updI F i v) := by
  apply Array.ext
  · simp [intArr]
  · intro j h1 h2
    simp only [intArr, Array.size_setIfInBounds, Array.size_map, Array.size_range] at h1
    simp [intArr, Array.getElem_setIfInBounds, updI, h1]
    by_cases h : i = j
    · subst h; simp
    · simp [h, Ne.symm h, fun e => h (Eq.symm e)]
theorem intArr_at {K i : Nat} (F : Nat → Int) (h : i < K) : (intArr K F)[i]? = some (.int .i64 (F i)) := by simp [intArr, h]
/-- How many names are not met yet. -/
def negs (F : Nat → Int) : Nat → Nat
  | 0 => 0
  | n + 1 => negs F n + (if F n < 0 then 1 else 0)
theorem negs_out {F : Nat → Int} {i : Nat} {v : Int} : ∀ {n : Nat}, n ≤ i → negs (updI F i v) n = negs F n := by
  intro n
  induction n with
  | zero => intro _; rfl
  | succ n ih =>
    intro h
    rw [negs, negs, ih (by omega)]
    have : ¬ n = i := by omega
    simp [updI, this]
theorem negs_upd {F : Nat → Int} {i : Nat} {v : Int} (hf : F i < 0) (hv : 0 ≤ v) : ∀ {n : Nat}, i < n → negs (updI F i v) n + 1 = negs F n := by
  intro n
  induction n with
  | zero => intro h; omega
  | succ n ih =>
    intro h
    rw [negs, negs]
    by_cases hi : n = i
    · subst hi
      rw [negs_out (Nat.le_refl _)]
      have : ¬ v < 0 := by omega
      simp [updI, hf, this]
    · have h1 := ih (by omega)
      simp only [updI, if_neg hi]
      omega
structure StepsInv (es : List Edg) (K fin : Nat) (F : Nat → Int) (xs : List Nat) : Prop where
  fin0 : F fin = 0
  low : ∀ i, i < K → -1 ≤ F i
  back : ∀ i, i < K → 0 ≤ F i → i = fin ∨ ∃ e ∈ es, e.fr = i ∧ 0 ≤ F e.to ∧ F e.to < F i
  high : ∀ i, i < K → F i + negs F K < K
  row : ∀ x ∈ xs, x < K ∧ 0 ≤ F x
  len : xs.length + negs F K ≤ K
theorem StepsInv.more {es : List Edg} {K fin : Nat} {F : Nat → Int} {xs : List Nat} (I : StepsInv es K fin F xs) (hE : EdgesIn K es) {e : Edg} (he : e ∈ es) (hx : e.to ∈ xs) (hn : F e.fr < 0) :
    StepsInv es K fin (updI F e.fr (F e.to + 1)) (xs ++ [e.fr]) := by
  have h1 := hE e he
  have h2 := I.row _ hx
  have hne : ∀ j, 0 ≤ F j → j ≠ e.fr := fun j hj e' => by rw [e'] at hj; omega
  have hkeep : ∀ j, 0 ≤ F j → updI F e.fr (F e.to + 1) j = F j := fun j hj => if_neg (hne j hj)
  have hng := negs_upd (v := F e.to + 1) hn (by omega) h1.1
  refine ⟨?_, ?_, ?_, ?_, ?_, ?_⟩
  · rw [hkeep fin (by rw [I.fin0]; omega)]; exact I.fin0
  · intro i hi
    unfold updI
    split
    · omega
    · exact I.low i hi
  · intro i hi h0
    by_cases hie : i = e.fr
    · refine .inr ⟨e, he, hie.symm, ?_, ?_⟩
      · rw [hkeep _ h2.2]; exact h2.2
      · rw [hkeep _ h2.2, hie]; simp [updI]; omega
    · have h3 : updI F e.fr (F e.to + 1) i = F i := if_neg hie
      rw [h3] at h0
      rcases I.back i hi h0 with h | ⟨d, hd, q1, q2, q3⟩
      · exact .inl h
      · exact .inr ⟨d, hd, q1, by rw [hkeep _ q2]; exact q2, by rw [hkeep _ q2, h3]; exact q3⟩
  · intro i hi
    have h3 := I.high i hi
    have h4 := I.high e.to h2.1
    unfold updI at hng ⊢
    split
    · omega
    · omega
  · intro x hxx
    rcases List.mem_append.1 hxx with hxx | hxx
    · have := I.row x hxx
      exact ⟨this.1, by rw [hkeep _ this.2]; exact this.2⟩
    · simp only [List.mem_singleton] at hxx
      subst hxx
      exact ⟨h1.1, by simp [updI]; omega⟩
  · have := I.len
    simp only [List.length_append, List.length_cons, List.length_nil]
    omega
theorem StepsInv.tail {es : List Edg} {K fin : Nat} {F : Nat → Int} {x : Nat} {xs : List Nat} (I : StepsInv es K fin F (x :: xs)) : StepsInv es K fin F xs :=
  ⟨I.fin0, I.low, I.back, I.high, fun y hy => I.row y (List.mem_cons_of_mem _ hy), by have := I.len; simp only [List.length_cons] at this; omega⟩
/-- What has left the queue has all that lead to it. -/
def Shut (es : List Edg) (F : Nat → Int) (xs : List Nat) : Prop := ∀ e ∈ es, 0 ≤ F e.to → e.to ∉ xs → 0 ≤ F e.fr
theorem Shut.more {es : List Edg} {F : Nat → Int} {xs : List Nat} (h : Shut es F xs) {i : Nat} {v : Int} (hn : F i < 0) (hv : 0 ≤ v) : Shut es (updI F i v) (xs ++ [i]) := by
  intro e he h0 hx
  simp only [List.mem_append, List.mem_singleton, not_or] at hx
  have h1 : updI F i v e.to = F e.to := if_neg hx.2
  rw [h1] at h0
  have h2 := h e he h0 hx.1
  unfold updI
  split
  · exact hv
  · exact h2
theorem Shut.tail {es : List Edg} {F : Nat → Int} {x : Nat} {xs : List Nat} (h : Shut es F (x :: xs)) (ha : ∀ e ∈ es, e.to = x → 0 ≤ F e.fr) : Shut es F xs := by
  intro e he h0 hx
  by_cases hxe : e.to = x
  · exact ha e he hxe
  · exact h e he h0 (by simp [hxe, hx])
theorem Shut.path {es : List Edg} {F : Nat → Int} (h : Shut es F []) {a b : Nat} (p : Path es a b) (hb : 0 ≤ F b) : 0 ≤ F a := by
  induction p with
  | refl => exact hb
  | step he _ ih => exact h _ he (ih hb) (by simp)
end Go.Proofs.Ytbidpeggdhkahaa

set_option linter.unusedSimpArgs false
set_option linter.unusedVariables false
namespace Go.Proofs.Ytbidpeggdhkahaa
open Go.RowKit

/-- What 'steps' leaves. -/
def StepsPost (w : World) (es : List Edg) (K fin : Nat) (e : Ending) (w' : World) : Prop :=
  ∃ (g : Nat) (F : Nat → Int), e = .returned (.slice (some ⟨g, 0, none⟩) K K) ∧ w.heap.size ≤ g ∧ w'.heap[g]? = some (intObj K F) ∧ Below w.heap.size w w' ∧ StepsInv es K fin F [] ∧ Shut es F []
def StepsRel1 (w : World) (es : List Edg) (K fin g gk : Nat) (row : Value) (wr : World) : Prop :=
  ∃ (F : Nat → Int) (xs : List Nat), gk = negs F K + xs.length ∧ wr.heap[g]? = some (intObj K F) ∧ QRow wr (g + 1) row xs ∧ Below w.heap.size w wr ∧ StepsInv es K fin F xs ∧ Shut es F xs
def StepsRel2 (w : World) (es : List Edg) (K fin g gk x : Nat) (row cnt : Value) (wr : World) : Prop :=
  ∃ (k : Nat) (F : Nat → Int) (xs : List Nat), cnt = .int .i64 k ∧ k ≤ es.length ∧ gk = negs F K + (x :: xs).length ∧ wr.heap[g]? = some (intObj K F) ∧ QRow wr (g + 1) row (x :: xs) ∧ Below w.heap.size w wr ∧ StepsInv es K fin F (x :: xs) ∧ Shut es F (x :: xs) ∧
    ∀ (i : Nat) (e : Edg), i < k → es[i]? = some e → e.to = x → 0 ≤ F e.fr
theorem negs_one (K fin : Nat) (h : fin < K) : negs (updI (fun _ => -1) fin 0) K + 1 = K := by
  have h1 := negs_upd (F := fun _ => -1) (i := fin) (v := 0) (by omega) (by omega) h
  have h2 : ∀ n, negs (fun _ => -1) n = n := by
    intro n
    induction n with
    | zero => rfl
    | succ n ih => rw [negs, ih]; rfl
  rw [h1, h2]
theorem steps_start {es : List Edg} {K fin : Nat} (h : fin < K) : StepsInv es K fin (updI (fun _ => -1) fin 0) [fin] := by
  have h1 := negs_one K fin h
  refine ⟨by simp [updI], ?_, ?_, ?_, ?_, by simp; omega⟩
  · intro i _; simp only [updI]; split <;> omega
  · intro i _ h0
    simp only [updI] at h0
    split at h0
    · left; assumption
    · omega
  · intro i _
    have h2 : updI (fun _ => -1) fin 0 i ≤ 0 := by simp only [updI]; split <;> omega
    omega
  · intro x hx; simp at hx; subst hx; exact ⟨h, by simp [updI]⟩
theorem steps_shut {es : List Edg} {fin : Nat} : Shut es (updI (fun _ => -1) fin 0) [fin] := by
  intro e _ h0 hx
  simp at hx
  simp [updI, hx] at h0
theorem QRow.new {w : World} {base b x : Nat} (h : w.heap[b]? = some (.cells #[.int .i64 x] 3 (0, 0))) (hb : base ≤ b) : QRow w base (.slice (some ⟨b, 0, none⟩) 1 1) [x] := by
  refine ⟨b, 0, 1, _, rfl, hb, h, by simp, by simp, by omega, ?_⟩
  intro i y hy
  cases i with
  | zero => simp at hy; subst hy; rfl
  | succ i => simp at hy
theorem QRow.kept {w w' : World} {base : Nat} {v : Value} {xs : List Nat} (h : QRow w base v xs) (hk : ∀ (b : Nat) (o : Obj), base ≤ b → w.heap[b]? = some o → w'.heap[b]? = some o) : QRow w' base v xs := by
  obtain ⟨g, off, cap, cur, rfl, hbg, hg, r⟩ := h
  exact ⟨g, off, cap, cur, rfl, hbg, hk _ _ hbg hg, r⟩
theorem QRow.below {w w' : World} {base : Nat} {v : Value} {xs : List Nat} (h : QRow w base v xs) (hb : Below w.heap.size w w') : QRow w' base v xs := h.kept fun _ _ _ hg => blk_below hg hb
theorem QRow.head {w : World} {base g off n cap x : Nat} {xs : List Nat} (h : QRow w base (.slice (some ⟨g, off, none⟩) n cap) (x :: xs)) : w.cell? ⟨g, off, none⟩ = some (.int .i64 x) := by
  obtain ⟨g', off', cap', cur, e, hbg, hg, h1, h2, h3, h4⟩ := h
  cases e
  rw [blk_cell hg]
  exact h4 0 x rfl
theorem QRow.tail1 {w : World} {base g off n cap x : Nat} {xs : List Nat} (h : QRow w base (.slice (some ⟨g, off, none⟩) n cap) (x :: xs)) (hc : ¬ cap = 1) : QRow w base (.slice (some ⟨g, off + 1, none⟩) xs.length (cap - 1)) xs := by
  obtain ⟨g', off', cap', cur, e, hbg, hg, h1, h2, h3, h4⟩ := h
  cases e
  simp only [List.length_cons] at h1
  refine ⟨g, off + 1, cap - 1, cur, rfl, hbg, hg, by omega, by omega, by omega, fun i y hy => ?_⟩
  have := h4 (i + 1) y (by simpa using hy)
  rw [show off + 1 + i = off + (i + 1) by omega]
  exact this
theorem QRow.tail0 {w : World} {base g off n cap x : Nat} {xs : List Nat} (h : QRow w base (.slice (some ⟨g, off, none⟩) n cap) (x :: xs)) (hc : cap = 1) : QRow w base (.slice (some ⟨g, off, none⟩) xs.length 0) xs := by
  obtain ⟨g', off', cap', cur, e, hbg, hg, h1, h2, h3, h4⟩ := h
  cases e
  simp only [List.length_cons] at h1
  have hx : xs = [] := List.eq_nil_of_length_eq_zero (by omega)
  subst hx
  exact ⟨g, off, 0, cur, rfl, hbg, hg, by simp, by omega, by omega, fun i y hy => by simp at hy⟩
theorem rep_int {w w' : World} {g K : Nat} {v : Int} (h : RepRow w g K K v w') : w'.heap[g]? = some (intObj K (fun _ => v)) := by
  obtain ⟨cur, hg, hl, hv, -, -⟩ := h
  rw [hg]
  unfold intObj
  congr 2
  apply Array.ext
  · simp [intArr, hl]
  · intro i h1 h2
    have hi : i < K := by simpa [intArr] using h2
    have := hv i hi
    rw [List.getElem?_eq_getElem (by omega)] at this
    simp [intArr]
    exact Option.some.inj this
set_option maxRecDepth 100000 in
set_option maxHeartbeats 2000000 in
theorem steps_any {w : World} {K fin : Nat} {es : List Edg} {A : Option Addr} {c : Nat} (hK : K ≤ 64) (hE : EdgesIn K es) (hC : edgRd.C w A es) (hl : es.length ≤ 9223372036854775807) (hf : fin < K) :
    Calls Try.prog 63 #[.int .i64 K, .slice A es.length c, .int .i64 fin] w (StepsPost w es K fin) := by
  have CR := Lib.hid (repeat_any (w := w.alloc (.cells #[.int .i64 (-1)] 3)) (K := K) (g := w.heap.size) (c := 1) (v := -1) hK (by omega) (blk_cell (heap_alloc_new w _) 0))
  have hb0 := below_alloc' (below_refl w) (.cells #[.int .i64 (-1)] 3)
  have hs0 : (w.alloc (.cells #[.int .i64 (-1)] 3)).heap.size = w.heap.size + 1 := by simp
  generalize hw0 : w.alloc (.cells #[.int .i64 (-1)] 3) = w0 at CR hb0 hs0
  have HB0 := Lib.hid hb0
  have HS0 := Lib.hid hs0
  clear hb0 hs0
  go_enter Try.func63, Try.ntmps63
  go_wp2_with (go_at_call 72; refine CR.out.mono ?_; rintro e w1 ⟨rfl, hr⟩; have HR := Lib.hid hr; have x0 := (blk_cell (rep_int hr) fin).trans (intArr_at _ hf); have f0 := blk_frozen (rep_int hr) fin; clear hr)
  have HI := Lib.hid (rep_int HR.out)
  have HBR : Hid (Below w0.heap.size w0 w1) := by obtain ⟨_, _, _, _, _, h⟩ := HR.out; exact h
  obtain ⟨g, hg⟩ : ∃ g, g = w0.heap.size := ⟨_, rfl⟩
  rw [← hg] at HI HS0 x0 f0 ⊢
  have HG := Lib.hid hg
  clear hg
  have hgl := blk_lt HI.out
  have HI2 := Lib.hid (blk_set HI.out fin (.int .i64 0))
  have hq := QRow.new (base := g + 1) (heap_alloc_new (w1.setCell ⟨g, fin, none⟩ (.int .i64 0)) (.cells #[.int .i64 fin] 3)) (by simp [World.setCell]; omega)
  have hr2 := blk_below HI2.out (below_alloc' (below_refl _) (.cells #[.int .i64 (fin : Int)] 3))
  rw [intArr_set] at hr2
  have hbw : Below w.heap.size w ((w1.setCell ⟨g, fin, none⟩ (.int .i64 0)).alloc (.cells #[.int .i64 (fin : Int)] 3)) := by
    refine Below.alloc (Below.setCell ((HB0.out).trans (HBR.out.mono HB0.out.size)) (by rw [HS0.out]; exact Nat.le_succ _) _) ?_ _
    have := HBR.out.size; have := HB0.out.size; simp [World.setCell]; omega
  rw [show (w1.setCell ⟨g, fin, none⟩ (.int .i64 0)).heap.size = w1.heap.size by simp [World.setCell]] at hq
  have HQ := Lib.hid hq
  have HR2 := Lib.hid hr2
  have HBW := Lib.hid hbw
  clear hq hr2 hbw x0 f0 HR HI HI2 CR hw0
  generalize (w1.setCell ⟨g, fin, none⟩ (.int .i64 0)).alloc (.cells #[.int .i64 (fin : Int)] 3) = wb at HQ HR2 HBW ⊢
  go_loopg [8] (negs (updI (fun _ => -1) fin 0) K + 1) (fun gk row wr => StepsRel1 w es K fin g gk row wr)
  case atStart => exact ⟨_, _, rfl, HR2.out, HQ.out, HBW.out, steps_start hf, steps_shut⟩
  case round =>
    clear HQ HR2 HBW HBR hgl
    obtain ⟨F, xs, rfl, hr, hq, hb, hi, hsh⟩ := hrel
    have HR := Lib.hid hr
    have HB := Lib.hid hb
    have HI := Lib.hid hi
    have HSH := Lib.hid hsh
    have HQ := Lib.hid hq
    obtain ⟨gq, off, cap, cur, rfl, hgq, hcq, hlc, hsz, hcm, hcx⟩ := hq
    have hlen := hi.len
    clear hr hb hi hsh
    cases xs with
    | nil =>
      go_wp2
      go_ret
      exact ⟨g, F, rfl, by have := HS0.out; omega, HR.out, HB.out, HI.out, HSH.out⟩
    | cons x rest =>
      have hpos : (0 : Int) < ((x :: rest).length : Int) := by simp
      clear hcq hcx hgq
      go_wp2_with fail
      go_loopw [8, 26] (fun row cnt wr => StepsRel2 w es K fin g (negs F K + (x :: rest).length) x row cnt wr) (fun _ cnt _ => es.length - (intOf cnt).toNat)
      case atStart => exact ⟨0, F, rest, rfl, Nat.zero_le _, rfl, HR.out, HQ.out, HB.out, HI.out, HSH.out, fun i e hi => by omega⟩
      case round =>
        clear HR HQ HB HI HSH
        obtain ⟨k, F', xs, rfl, hk, hgk, hr, hq, hb, hi, hsh, hall⟩ := hrel
        have HR := Lib.hid hr
        have HB := Lib.hid hb
        have HI := Lib.hid hi
        have HSH := Lib.hid hsh
        have HQ := Lib.hid hq
        have HGK := Lib.hid hgk
        have HALL := Lib.hid hall
        obtain ⟨gq, off, cap, cur, rfl, hgq, hcq, hlc, hsz, hcm, hcx⟩ := hq
        have hlen := hi.len
        have hx := hi.row x (by simp)
        clear hr hb hi hsh hall hgk
        by_cases hlt : k < es.length
        · obtain ⟨y, hy⟩ : ∃ y, es[k]? = some y := ⟨_, List.getElem?_eq_getElem hlt⟩
          obtain ⟨ad, eA, -, q0, q1, q2⟩ := edg_at (hC.mono HB.out) hy
          subst eA
          have hki : (k : Int) < es.length := by omega
          have hmem := List.mem_of_getElem? hy
          have hin := hE y hmem
          have hba := below_alloc' (below_refl wr) (Obj.cells #[Value.int .i64 y.fr, Value.int .i64 y.to, Value.bool y.neg] 100)
          have B8 := heap_alloc_new wr (Obj.cells #[Value.int .i64 y.fr, Value.int .i64 y.to, Value.bool y.neg] 100)
          have HY := Lib.hid hy
          clear hy
          go_wp2_with fail
          clear q0 q1 q2
          generalize wr.alloc (Obj.cells #[Value.int .i64 y.fr, Value.int .i64 y.to, Value.bool y.neg] 100) = w4 at hba B8 ⊢
          have R4 := Lib.hid (blk_below HR.out hba)
          have Q4 := Lib.hid (HQ.out.below hba)
          have B4 := Lib.hid (below_then HB.out hba)
          have c0 := Q4.out.head
          have s0 := blk_cell B8 0
          have s1 := blk_cell B8 1
          have o0 := (blk_cell R4.out y.fr).trans (intArr_at F' hin.1)
          have ox := (blk_cell R4.out x).trans (intArr_at F' hx.1)
          have fo := blk_frozen R4.out y.fr
          have i1 := hin.1
          have i2 := hx.1
          have hl4 := blk_lt B8
          clear hba B8
          by_cases hyx : y.to = x
          · have t1 : (((y.to : Nat) : Int) == (x : Int)) = true := by simp [hyx]
            by_cases hneg : F' y.fr < 0
            · have t2 : decide (F' y.fr < 0) = true := by simp [hneg]
              clear hcq hlc hsz hcx
              go_quiet (fail)
              go_wp2_with fail
              have R5 : (w4.drewN nq).heap[g]? = some (intObj K F') := R4.out
              have Q5 := Q4.out.kept (w' := w4.drewN nq) (fun _ _ _ h => h)
              have B5 := below_drewN' B4.out nq
              have c5 : (w4.drewN nq).cell? ⟨gq, off, none⟩ = some (.int .i64 x) := c0
              have s5 : (w4.drewN nq).cell? ⟨wr.heap.size, 0, none⟩ = some (.int .i64 y.fr) := s0
              have o5 : (w4.drewN nq).cell? ⟨g, x, none⟩ = some (.int .i64 (F' x)) := ox
              have o6 : (w4.drewN nq).cell? ⟨g, y.fr, none⟩ = some (.int .i64 (F' y.fr)) := o0
              have f5 : (w4.drewN nq).frozen? ⟨g, y.fr, none⟩ = false := fo
              clear c0 s0 s1 o0 ox fo R4 Q4 B4 hl4 t1 t2
              generalize w4.drewN nq = w5 at R5 Q5 B5 c5 s5 o5 o6 f5 ⊢
              have hhi := HI.out.high x hx.1
              have hfx : wrap64 (F' x + 1) = F' x + 1 := by unfold wrap64; omega
              have hwg := blk_lt R5
              go_region
              have HI7 := Lib.hid (show StepsInv es K fin (updI F' y.fr (F' x + 1)) (x :: (xs ++ [y.fr])) by
                have h7 := HI.out.more hE hmem (by rw [hyx]; simp) hneg
                rw [hyx] at h7
                exact h7)
              have HSH7 := Lib.hid (show Shut es (updI F' y.fr (F' x + 1)) (x :: (xs ++ [y.fr])) from HSH.out.more hneg (by omega))
              have HGK7 := Lib.hid (show negs F K + (x :: rest).length = negs (updI F' y.fr (F' x + 1)) K + (x :: (xs ++ [y.fr])).length by
                have h7 := HGK.out
                have h8 := negs_upd (F := F') (i := y.fr) (v := F' x + 1) hneg (by omega) i1
                simp only [List.length_cons, List.length_append, List.length_nil] at h7 ⊢
                omega)
              have HA7 := Lib.hid (show ∀ (i : Nat) (e : Edg), i < k + 1 → es[i]? = some e → e.to = x → 0 ≤ updI F' y.fr (F' x + 1) e.fr from fun i e hi he hex => by
                unfold updI
                split
                · omega
                · by_cases hik : i < k
                  · exact HALL.out i e hik he hex
                  · have : i = k := by omega
                    subst this
                    rw [HY.out] at he
                    cases he
                    contradiction)
              have R6 := Lib.hid (show ((w5.setCell ⟨g, y.fr, none⟩ (.int .i64 (F' x + 1))).drew).heap[g]? = some (intObj K (updI F' y.fr (F' x + 1))) by
                have h7 := blk_set R5 y.fr (.int .i64 (F' x + 1))
                rw [intArr_set] at h7
                exact h7)
              have Q6 := Lib.hid (Q5.kept (w' := (w5.setCell ⟨g, y.fr, none⟩ (.int .i64 (F' x + 1))).drew) (fun b o hb ho => (Below.heap_setCell w5 ⟨g, y.fr, none⟩ _ b (by intro e; rw [e] at hb; simp at hb; omega)).trans ho))
              have B6 := Lib.hid (below_drew' (below_setNew B5 (p := ⟨g, y.fr, none⟩) (by have := HS0.out; show _ ≤ g; omega) (.int .i64 (F' x + 1))))
              have hgwr := blk_lt HR.out
              have s6 : ((w5.setCell ⟨g, y.fr, none⟩ (.int .i64 (F' x + 1))).drew).cell? ⟨wr.heap.size, 0, none⟩ = some (.int .i64 y.fr) := keep_set s5 (by show g ≠ wr.heap.size; omega)
              clear R5 Q5 B5 c5 s5 o5 o6 f5 hwg
              generalize (w5.setCell ⟨g, y.fr, none⟩ (.int .i64 (F' x + 1))).drew = w6 at R6 Q6 B6 s6 ⊢
              have hb6 := B6.out.size
              have hg6 := blk_lt R6.out
              go_wp2_with (at_builtin; refine wpList_append_q rfl (base := g + 1) (.tmp 55) (.tmp 58) (by rfl) (v := .slice (some ⟨gq, off, none⟩) (x :: xs).length cap) (xs := x :: xs) (by rfl) (Q6.out.below (below_alloc' (below_refl _) _)) y.fr w6.heap.size 1 (by rfl) (heap_alloc_new w6 _) (by simp; omega) (by omega) ?_; intro v7 w7 q7 g7 t7; obtain ⟨gq7, off7, cap7, cur7, rfl, q71, -⟩ := id q7; have Q7 := Lib.hid (show QRow w7 (g + 1) (.slice (some ⟨gq7, off7, none⟩) (xs.length + 1 + 1) cap7) (x :: (xs ++ [y.fr])) by { have q8 := q7; rw [show (x :: xs ++ [y.fr]).length = xs.length + 1 + 1 by simp] at q8; exact q8 }); have G7 := Lib.hid g7; clear q7 g7 t7)
              go_roundw
              case rel =>
                (repeat apply Exists.intro)
                refine ⟨?_, rfl⟩
                exact ⟨k + 1, _, xs ++ [y.fr], by go_num, hlt, HGK7.out, blk_grown (blk_below R6.out (below_alloc' (below_refl _) _)) G7.out (by simp [Value.ownBlock]; omega), Q7.out, below_grown (below_alloc' B6.out _) G7.out (by intro b hb; simp [Value.ownBlock] at hb; have := HS0.out; omega), HI7.out, HSH7.out, HA7.out⟩
              case measure => simp [intOf]; omega
            · have t2 : decide (F' y.fr < 0) = false := by simp [hneg]
              have HA := Lib.hid (show ∀ (i : Nat) (e : Edg), i < k + 1 → es[i]? = some e → e.to = x → 0 ≤ F' e.fr from fun i e hi he hex => by
                by_cases hik : i < k
                · exact HALL.out i e hik he hex
                · have : i = k := by omega
                  subst this
                  rw [HY.out] at he
                  cases he
                  omega)
              go_quiet (fail)
              go_wp2_with fail
              go_roundw
              case rel => exact ⟨k + 1, F', xs, by go_num, hlt, HGK.out, R4.out, Q4.out.kept (fun _ _ _ h => h), below_drewN' B4.out _, HI.out, HSH.out, HA.out⟩
              case measure => simp [intOf]; omega
          · have t1 : (((y.to : Nat) : Int) == (x : Int)) = false := by simp; omega
            have HA := Lib.hid (show ∀ (i : Nat) (e : Edg), i < k + 1 → es[i]? = some e → e.to = x → 0 ≤ F' e.fr from fun i e hi he hex => by
              by_cases hik : i < k
              · exact HALL.out i e hik he hex
              · have : i = k := by omega
                subst this
                rw [HY.out] at he
                cases he
                exact absurd hex hyx)
            go_quiet (fail)
            go_wp2_with fail
            go_roundw
            case rel => exact ⟨k + 1, F', xs, by go_num, hlt, HGK.out, R4.out, Q4.out.kept (fun _ _ _ h => h), below_drewN' B4.out _, HI.out, HSH.out, HA.out⟩
            case measure => simp [intOf]; omega
        · have hke : k = es.length := by omega
          have c0 := HQ.out.head
          have HA := Lib.hid (show ∀ e ∈ es, e.to = x → 0 ≤ F' e.fr from fun e he hex => by
            obtain ⟨i, hi⟩ := List.getElem?_of_mem he
            exact HALL.out i e (by rw [hke]; exact (List.getElem?_eq_some_iff.1 hi).1) hi hex)
          clear hlc hcq hsz hcx
          go_wp2_with fail
          · go_roundg (negs F' K + xs.length)
            case rel => exact ⟨F', xs, rfl, HR.out, HQ.out.tail0 (by assumption), HB.out, HI.out.tail, HSH.out.tail HA.out⟩
            case measure => have := HGK.out; simp only [List.length_cons] at this ⊢; omega
          · go_roundg (negs F' K + xs.length)
            case rel => exact ⟨F', xs, rfl, HR.out, HQ.out.tail1 (by assumption), HB.out, HI.out.tail, HSH.out.tail HA.out⟩
            case measure => have := HGK.out; simp only [List.length_cons] at this ⊢; omega
end Go.Proofs.Ytbidpeggdhkahaa
