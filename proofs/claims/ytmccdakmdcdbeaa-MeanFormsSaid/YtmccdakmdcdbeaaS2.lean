/-
  S2: strata.steps: what holds between two rounds. No program in sight.
-/
import Derived.Test.YtmccdakmdcdbeaaS1
set_option linter.unusedSimpArgs false
set_option linter.unusedVariables false
namespace Go.Proofs.Ytmccdakmdcdbeaa
open Go.RowKit

/-- A row of numbers. -/
def intArr (K : Nat) (F : Nat → Int) : Array Value := (Array.range K).map (fun i => Value.int .i64 (F i))
def intObj (K : Nat) (F : Nat → Int) : Obj := .cells (intArr K F) 3 (0, 0)
def updI (F : Nat → Int) (i : Nat) (v : Int) : Nat → Int := fun k => if k = i then v else F k
theorem intArr_set (K : Nat) (F : Nat → Int) (i : Nat) (v : Int) : (intArr K F).setIfInBounds i (.int .i64 v) = intArr K (updI F i v) := by
  apply Array.ext
  · simp [intArr]
  · intro j h1 h2
    simp only [intArr, Array.size_setIfInBounds, Array.size_map, Array.size_range] at h1
    simp [intArr, Array.getElem_setIfInBounds, updI, h1]
    by_cases h : i = j
    · subst h; simp
    · simp [h, Ne.symm h, fun e => h (Eq.symm e)]
theorem intArr_at {K i : Nat} (F : Nat → Int) (h : i < K) : (intArr K F)[i]? = some (.int .i64 (F i)) := by simp [intArr, h]
/-- How many names are not met yet. -/
def negs (F : Nat → Int) : Nat → Nat
  | 0 => 0
  | n + 1 => negs F n + (if F n < 0 then 1 else 0)
theorem negs_out {F : Nat → Int} {i : Nat} {v : Int} : ∀ {n : Nat}, n ≤ i → negs (updI F i v) n = negs F n := by
  intro n
  induction n with
  | zero => intro _; rfl
  | succ n ih =>
    intro h
    rw [negs, negs, ih (by omega)]
    have : ¬ n = i := by omega
    simp [updI, this]
theorem negs_upd {F : Nat → Int} {i : Nat} {v : Int} (hf : F i < 0) (hv : 0 ≤ v) : ∀ {n : Nat}, i < n → negs (updI F i v) n + 1 = negs F n := by
  intro n
  induction n with
  | zero => intro h; omega
  | succ n ih =>
    intro h
    rw [negs, negs]
    by_cases hi : n = i
    · subst hi
      rw [negs_out (Nat.le_refl _)]
      have : ¬ v < 0 := by omega
      simp [updI, hf, this]
    · have h1 := ih (by omega)
      simp only [updI, if_neg hi]
      omega
structure StepsInv (es : List Edg) (K fin : Nat) (F : Nat → Int) (xs : List Nat) : Prop where
  fin0 : F fin = 0
  low : ∀ i, i < K → -1 ≤ F i
  back : ∀ i, i < K → 0 ≤ F i → i = fin ∨ ∃ e ∈ es, e.fr = i ∧ 0 ≤ F e.to ∧ F e.to < F i
  high : ∀ i, i < K → F i + negs F K < K
  row : ∀ x ∈ xs, x < K ∧ 0 ≤ F x
  len : xs.length + negs F K ≤ K
theorem StepsInv.more {es : List Edg} {K fin : Nat} {F : Nat → Int} {xs : List Nat} (I : StepsInv es K fin F xs) (hE : EdgesIn K es) {e : Edg} (he : e ∈ es) (hx : e.to ∈ xs) (hn : F e.fr < 0) :
    StepsInv es K fin (updI F e.fr (F e.to + 1)) (xs ++ [e.fr]) := by
  have h1 := hE e he
  have h2 := I.row _ hx
  have hne : ∀ j, 0 ≤ F j → j ≠ e.fr := fun j hj e' => by rw [e'] at hj; omega
  have hkeep : ∀ j, 0 ≤ F j → updI F e.fr (F e.to + 1) j = F j := fun j hj => if_neg (hne j hj)
  have hng := negs_upd (v := F e.to + 1) hn (by omega) h1.1
  refine ⟨?_, ?_, ?_, ?_, ?_, ?_⟩
  · rw [hkeep fin (by rw [I.fin0]; omega)]; exact I.fin0
  · intro i hi
    unfold updI
    split
    · omega
    · exact I.low i hi
  · intro i hi h0
    by_cases hie : i = e.fr
    · refine .inr ⟨e, he, hie.symm, ?_, ?_⟩
      · rw [hkeep _ h2.2]; exact h2.2
      · rw [hkeep _ h2.2, hie]; simp [updI]; omega
    · have h3 : updI F e.fr (F e.to + 1) i = F i := if_neg hie
      rw [h3] at h0
      rcases I.back i hi h0 with h | ⟨d, hd, q1, q2, q3⟩
      · exact .inl h
      · exact .inr ⟨d, hd, q1, by rw [hkeep _ q2]; exact q2, by rw [hkeep _ q2, h3]; exact q3⟩
  · intro i hi
    have h3 := I.high i hi
    have h4 := I.high e.to h2.1
    unfold updI at hng ⊢
    split
    · omega
    · omega
  · intro x hxx
    rcases List.mem_append.1 hxx with hxx | hxx
    · have := I.row x hxx
      exact ⟨this.1, by rw [hkeep _ this.2]; exact this.2⟩
    · simp only [List.mem_singleton] at hxx
      subst hxx
      exact ⟨h1.1, by simp [updI]; omega⟩
  · have := I.len
    simp only [List.length_append, List.length_cons, List.length_nil]
    omega
theorem StepsInv.tail {es : List Edg} {K fin : Nat} {F : Nat → Int} {x : Nat} {xs : List Nat} (I : StepsInv es K fin F (x :: xs)) : StepsInv es K fin F xs :=
  ⟨I.fin0, I.low, I.back, I.high, fun y hy => I.row y (List.mem_cons_of_mem _ hy), by have := I.len; simp only [List.length_cons] at this; omega⟩
/-- What has left the queue has all that lead to it. -/
def Shut (es : List Edg) (F : Nat → Int) (xs : List Nat) : Prop := ∀ e ∈ es, 0 ≤ F e.to → e.to ∉ xs → 0 ≤ F e.fr
theorem Shut.more {es : List Edg} {F : Nat → Int} {xs : List Nat} (h : Shut es F xs) {i : Nat} {v : Int} (hn : F i < 0) (hv : 0 ≤ v) : Shut es (updI F i v) (xs ++ [i]) := by
  intro e he h0 hx
  simp only [List.mem_append, List.mem_singleton, not_or] at hx
  have h1 : updI F i v e.to = F e.to := if_neg hx.2
  rw [h1] at h0
  have h2 := h e he h0 hx.1
  unfold updI
  split
  · exact hv
  · exact h2
theorem Shut.tail {es : List Edg} {F : Nat → Int} {x : Nat} {xs : List Nat} (h : Shut es F (x :: xs)) (ha : ∀ e ∈ es, e.to = x → 0 ≤ F e.fr) : Shut es F xs := by
  intro e he h0 hx
  by_cases hxe : e.to = x
  · exact ha e he hxe
  · exact h e he h0 (by simp [hxe, hx])
theorem Shut.path {es : List Edg} {F : Nat → Int} (h : Shut es F []) {a b : Nat} (p : Path es a b) (hb : 0 ≤ F b) : 0 ≤ F a := by
  induction p with
  | refl => exact hb
  | step he _ ih => exact h _ he (ih hb) (by simp)
end Go.Proofs.Ytmccdakmdcdbeaa
