/-
  O1: a region whose last operation waits for all the others: the others by 'wpAnyH' with a condition that need not hold behind the last one.
-/
import Derived.Deep.RegionHeld3
set_option linter.unusedSimpArgs false
set_option linter.unusedVariables false
namespace Go.Proofs.Ytfmfoiecphhhiaa
open Go

/-- Each operation waits for earlier ones alone, and each but the last is waited for by a later one. -/
def lastB (ops : Array Oper) : Bool :=
  (List.range ops.size).all fun i => match ops[i]? with
    | none => true
    | some o => (o.after.all fun e => !Region.binds .any e || decide (e.on < i)) && (match o.guard with | none => true | some (g, _) => decide (g < i)) &&
      (i + 1 == ops.size || (List.range ops.size).any fun j => decide (i < j) && match ops[j]? with | none => false | some oj => oj.after.any fun e => Region.binds .any e && e.on == i)

theorem lastB_spec {ops : Array Oper} (h : lastB ops = true) {i : Nat} {o : Oper} (ho : ops[i]? = some o) :
    (∀ e ∈ o.after, Region.binds .any e = true → e.on < i) ∧ (∀ g b, o.guard = some (g, b) → g < i) ∧
    (i + 1 = ops.size ∨ ∃ j oj, i < j ∧ ops[j]? = some oj ∧ ∃ e ∈ oj.after, Region.binds .any e = true ∧ e.on = i) := by
  unfold lastB at h
  have hlt : i < ops.size := (Array.getElem?_eq_some_iff.1 ho).1
  have h1 := List.all_eq_true.1 h i (List.mem_range.2 hlt)
  simp only [ho, Bool.and_eq_true, Bool.or_eq_true, beq_iff_eq, List.any_eq_true, List.mem_range, decide_eq_true_eq] at h1
  obtain ⟨⟨h2, h3⟩, h4⟩ := h1
  refine ⟨fun e he hb => ?_, fun g b hg => ?_, ?_⟩
  · have := Array.all_eq_true_iff_forall_mem.1 h2 e he
    simpa [hb] using this
  · rw [hg] at h3; simpa using h3
  · rcases h4 with h4 | ⟨j, hj, hij, hw⟩
    · exact .inl h4
    · cases hoj : ops[j]? with
      | none => rw [hoj] at hw; cases hw
      | some oj =>
        rw [hoj] at hw
        obtain ⟨e, he, hb⟩ := Array.any_eq_true'.1 hw
        simp only [Bool.and_eq_true, beq_iff_eq] at hb
        exact .inr ⟨j, oj, hij, hoj, e, he, hb.1, hb.2⟩

/-- The post of what comes ahead of the last operation: the last one leads to Q. -/
def lastQ (P : Program) (ops : Array Oper) (n : Nat) (Q : Exit → Act → World → Prop) : Exit → Act → World → Prop
  | .normal, a, w => wpOp P ops Q n (Q .normal) a w
  | e, a, w => Q e a w

section
variable {P : Program} {ops : Array Oper} {Q : Exit → Act → World → Prop} {S : World → Prop}

theorem pop_get {n : Nat} (hn : ops.size = n + 1) (i : Nat) : ops.pop[i]? = if i < n then ops[i]? else none := by
  rw [Array.getElem?_pop]
  simp only [hn, Nat.add_sub_cancel]

theorem wpOp_pop {n i : Nat} (hn : ops.size = n + 1) (hb : lastB ops = true) (hi : i < n) {K : Act → World → Prop} {a : Act} {w : World}
    (h : wpOp P ops.pop (lastQ P ops n Q) i K a w) : wpOp P ops Q i K a w := by
  unfold wpOp at *
  rw [pop_get hn, if_pos hi] at h
  cases ho : ops[i]? with
  | none => rw [ho] at h; exact h
  | some o =>
    rw [ho] at h
    simp only at h ⊢
    have hw : Region.wanted o (yielded ops.pop a.tmps) = Region.wanted o (yielded ops a.tmps) := by
      unfold Region.wanted
      cases hg : o.guard with
      | none => rfl
      | some gb =>
        obtain ⟨g, b⟩ := gb
        have := (lastB_spec hb ho).2.1 g b hg
        simp only [yielded, pop_get hn, if_pos (Nat.lt_trans this hi)]
    rw [hw] at h
    split
    · rename_i hwt
      rw [if_pos hwt] at h
      refine h.imp (fun h => ?_) id
      unfold Oper.wp at *
      generalize (execOp a.eval o).run P w = r at *
      cases r with
      | ok m w' => cases m <;> simp only [Oper.upon] at h ⊢ <;> exact h
      | halt x w' => cases x <;> simp only [Oper.upon] at h ⊢ <;> exact h
    · rename_i hwt
      rw [if_neg hwt] at h
      exact h

theorem getD_push (l : Array Bool) (i : Nat) : (l.push false).getD i false = l.getD i false := by
  simp only [Array.getD_eq_getD_getElem?, Array.getElem?_push]
  split
  · rename_i h; subst h; simp
  · rfl

theorem getD_push_lt (l : Array Bool) {i : Nat} (h : i < l.size) (d : Bool) : (l.push false).getD i d = l.getD i d := by
  simp only [Array.getD_eq_getD_getElem?, Array.getElem?_push]
  split
  · rename_i h; omega
  · rfl

/-- What is listed lists what it waits for. -/
def Shutd (ops : Array Oper) (l : Array Bool) : Prop := ∀ i o, ops[i]? = some o → l.getD i false = true → ∀ e ∈ o.after, Region.binds .any e = true → l.getD e.on false = true

theorem shutd_set {l : Array Bool} {i : Nat} (h : Shutd ops l) (hi : i ∈ Region.ready .any ops l) : Shutd ops (l.setIfInBounds i true) := by
  obtain ⟨-, oi, hoi, hall⟩ := mem_ready.1 hi
  intro j o ho hj e he hb
  by_cases hij : i = j
  · subst hij
    rw [hoi] at ho
    injection ho with ho
    subst ho
    exact getD_set_true (hall e he hb)
  · rw [getD_set_ne false hij] at hj
    exact getD_set_true (h j o ho hj e he hb)

theorem ready_pop {n : Nat} {l : Array Bool} (hn : ops.size = n + 1) (hl : l.size = n) {j : Nat} (hj : j < n) : j ∈ Region.ready .any ops (l.push false) ↔ j ∈ Region.ready .any ops.pop l := by
  rw [mem_ready, mem_ready, pop_get hn, if_pos hj, getD_push_lt l (by omega)]
  simp only [getD_push]

/-- Where the last may come up, all else is listed. -/
theorem all_listed {n : Nat} {l : Array Bool} {on : Oper} (hn : ops.size = n + 1) (hb : lastB ops = true) (hc : Shutd ops l) (hon : ops[n]? = some on)
    (hr : ∀ e ∈ on.after, Region.binds .any e = true → l.getD e.on false = true) : ∀ k j, n - j = k → j < n → l.getD j false = true := by
  intro k
  induction k using Nat.strongRecOn with
  | ind k ih =>
    intro j hk hj
    have hlt : j < ops.size := by omega
    have hoj : ops[j]? = some ops[j] := Array.getElem?_eq_getElem hlt
    rcases (lastB_spec hb hoj).2.2 with h | ⟨i, oi, hij, hoi, e, he, hbe, hej⟩
    · omega
    · by_cases hin : i = n
      · subst hin
        rw [hon] at hoi
        injection hoi with hoi
        subst hoi
        exact hej ▸ hr e he hbe
      · have hi2 : i < ops.size := (Array.getElem?_eq_some_iff.1 hoi).1
        have h1 := ih (n - i) (by omega) i rfl (by omega)
        exact hej ▸ hc i oi hoi h1 e he hbe

/-- Where nothing of the others may come up, all of them are listed. -/
theorem all_listed' {n : Nat} {l : Array Bool} (hn : ops.size = n + 1) (hl : l.size = n) (hb : lastB ops = true) (hr : Region.ready .any ops.pop l = []) : ∀ j, j < n → l.getD j false = true := by
  intro j
  induction j using Nat.strongRecOn with
  | ind j ih =>
    intro hj
    have hlt : j < ops.size := by omega
    have hoj : ops[j]? = some ops[j] := Array.getElem?_eq_getElem hlt
    cases hd : l.getD j true with
    | true =>
      rw [Array.getD_eq_getD_getElem?, Array.getElem?_eq_getElem (by omega)] at hd
      rw [Array.getD_eq_getD_getElem?, Array.getElem?_eq_getElem (by omega)]
      exact hd
    | false =>
      exfalso
      have : j ∈ Region.ready .any ops.pop l := by
        rw [mem_ready, pop_get hn, if_pos hj]
        exact ⟨hd, _, hoj, fun e he hbe => ih e.on ((lastB_spec hb hoj).1 e he hbe) (Nat.lt_trans ((lastB_spec hb hoj).1 e he hbe) hj)⟩
      rw [hr] at this
      cases this

theorem getD_true_of {l : Array Bool} {j : Nat} (h : l.getD j false = true) : l.getD j true = true := by
  rw [Array.getD_eq_getD_getElem?] at *
  cases hj : l[j]? with
  | none => rw [hj] at h; cases h
  | some b => rw [hj] at h; simpa using h

theorem last_end {n : Nat} {l : Array Bool} (hn : ops.size = n + 1) (hl : l.size = n) (hb : lastB ops = true) (hall : ∀ j, j < n → l.getD j false = true) {a : Act} {w : World} (h : wpOp P ops Q n (Q .normal) a w) (m : Nat) :
    wpAny P .any ops Q (m + 1) (l.push false) a w := by
  have hon : ops[n]? = some (ops[n]'(by omega)) := Array.getElem?_eq_getElem (by omega)
  have hnr : n ∈ Region.ready .any ops (l.push false) := by
    rw [mem_ready]
    refine ⟨?_, _, hon, fun e he hbe => ?_⟩
    · rw [Array.getD_eq_getD_getElem?, show (l.push false)[n]? = some false by rw [← hl]; exact Array.getElem?_push_size]; rfl
    · rw [getD_push]; exact hall _ ((lastB_spec hb hon).1 e he hbe)
  refine ⟨fun h0 => (by rw [h0] at hnr; cases hnr), fun i hi => ?_⟩
  have hin : i = n := by
    obtain ⟨h1, o, ho, -⟩ := mem_ready.1 hi
    have hlt : i < ops.size := (Array.getElem?_eq_some_iff.1 ho).1
    by_cases hlt' : i < n
    · rw [getD_push_lt l (by omega), getD_true_of (hall i hlt')] at h1
      cases h1
    · omega
  subst hin
  refine wpOp_mono (fun a w h => ?_) h
  refine wpAny_done ?_ h m
  refine List.eq_nil_iff_forall_not_mem.2 fun j hj => ?_
  obtain ⟨h1, o, ho, -⟩ := mem_ready.1 hj
  have hlt : j < ops.size := (Array.getElem?_eq_some_iff.1 ho).1
  by_cases hji : j = i
  · subst hji
    have : ((l.push false).setIfInBounds j true).getD j true = true := by
      simp [Array.getD_eq_getD_getElem?, Array.getElem?_setIfInBounds, hl]
    rw [this] at h1; cases h1
  · rw [getD_set_ne true (Ne.symm hji), getD_push_lt l (by omega), getD_true_of (hall j (by omega))] at h1
    cases h1

theorem wpAny_last {n : Nat} (hn : ops.size = n + 1) (hb : lastB ops = true) : ∀ (fuel : Nat) (l : Array Bool) (a : Act) (w : World), l.size = n → Shutd ops l →
    wpAny P .any ops.pop (lastQ P ops n Q) fuel l a w → wpAny P .any ops Q (fuel + 1) (l.push false) a w := by
  intro fuel
  induction fuel with
  | zero =>
    intro l a w hl hc h
    exact last_end hn hl hb (all_listed' hn hl hb h.1) h.2 0
  | succ fuel ih =>
    intro l a w hl hc h
    by_cases hr : Region.ready .any ops.pop l = []
    · exact last_end hn hl hb (all_listed' hn hl hb hr) (h.1 hr) (fuel + 1)
    · have hon : ops[n]? = some (ops[n]'(by omega)) := Array.getElem?_eq_getElem (by omega)
      obtain ⟨r0, hr0⟩ := List.exists_mem_of_ne_nil _ hr
      have hlt : ∀ j, j ∈ Region.ready .any ops.pop l → j < n := fun j hj => by
        obtain ⟨-, o, ho, -⟩ := mem_ready.1 hj
        rw [pop_get hn] at ho
        by_cases h' : j < n
        · exact h'
        · rw [if_neg h'] at ho; cases ho
      have hnn : ¬ n ∈ Region.ready .any ops (l.push false) := fun hnr => by
        obtain ⟨-, o, ho, hall⟩ := mem_ready.1 hnr
        rw [hon] at ho
        injection ho with ho
        subst ho
        have := all_listed hn hb hc hon (fun e he hbe => by have := hall e he hbe; rwa [getD_push] at this) _ r0 rfl (hlt _ hr0)
        have h1 := (mem_ready.1 hr0).1
        rw [getD_true_of this] at h1
        cases h1
      refine ⟨fun h0 => ?_, fun i hi => ?_⟩
      · have := (ready_pop hn hl (hlt _ hr0)).2 hr0
        rw [h0] at this
        cases this
      · have hin : i < n := by
          obtain ⟨-, o, ho, -⟩ := mem_ready.1 hi
          have h1 : i < ops.size := (Array.getElem?_eq_some_iff.1 ho).1
          by_cases h2 : i = n
          · subst h2; exact absurd hi hnn
          · omega
        have hi' := (ready_pop hn hl hin).1 hi
        refine wpOp_pop hn hb hin (wpOp_mono (fun a' w' h' => ?_) (h.2 i hi'))
        have hset : (l.push false).setIfInBounds i true = (l.setIfInBounds i true).push false := by
          refine Array.ext_getElem? fun j => ?_
          simp only [Array.getElem?_setIfInBounds, Array.getElem?_push, Array.size_setIfInBounds, Array.size_push]
          by_cases h1 : i = j
          · subst h1; simp [show i < l.size by omega, show ¬ i = l.size by omega, show i < l.size + 1 by omega]
          · simp [h1]
        rw [hset]
        refine ih _ a' w' (by simpa using hl) (shutd_set hc ?_) h'
        obtain ⟨h1, o, ho, h2⟩ := mem_ready.1 hi'
        rw [pop_get hn, if_pos hin] at ho
        exact mem_ready.2 ⟨h1, o, ho, h2⟩

theorem shutd_start (n : Nat) : Shutd ops (Array.replicate n false) := fun i o ho h => by
  exfalso
  rw [Array.getD_eq_getD_getElem?, Array.getElem?_replicate] at h
  split at h <;> cases h

/-- **A region whose last operation comes last**: the others by 'wpAnyH'; what they leave leads to Q by the last one. -/
theorem wp_region_last {id n : Nat} {a : Act} {w : World} (hm : P.follows .mixedOrders = true) (hn : ops.size = n + 1) (hb : lastB ops = true) {ops' : Array Oper} (ho : ops.pop = ops') (hS : S w.drew)
    (h : S w.drew → wpAnyH P .any ops' (lastQ P ops n Q) S n (Array.replicate n false) a w.drew) : (Code.region id ops true).wp P Q a w := by
  subst ho
  refine wp_region_any hm ?_
  have := wpAny_last (Q := Q) hn hb n (Array.replicate n false) a _ (by simp) (shutd_start n) (wpAny_of_held _ _ _ _ (h hS))
  rw [hn, Array.replicate_succ]
  exact this

/-- The way out of what comes ahead of the last operation. -/
theorem lastQ_normal {n : Nat} {o : Oper} {a : Act} {w : World} (ho : ops[n]? = some o)
    (h : ∀ K' : Act → World → Prop, Shut (∀ a w, Q .normal a w → K' a w) → if Region.wanted o (yielded ops a.tmps) = true then Oper.wp P o a w K' Q else K' (a.put o.dst undef) w) : lastQ P ops n Q .normal a w :=
  wpOp_step ho (fun K' hK => h K' (fun a w hq => hK a w hq))
end
end Go.Proofs.Ytfmfoiecphhhiaa
