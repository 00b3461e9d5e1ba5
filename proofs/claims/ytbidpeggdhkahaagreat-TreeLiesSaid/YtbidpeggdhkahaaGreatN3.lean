/-
  N3: the document's own edges, reach, levels: what their rounds keep; that K rounds are enough. No program in sight.
-/
import Derived.Test.YtbidpeggdhkahaaGreatP1
set_option linter.unusedSimpArgs false
set_option linter.unusedVariables false
namespace Go.Proofs.YtbidpeggdhkahaaGreat
open Go.RowKit

theorem sumTo_mono {g h : Nat → Nat} : ∀ {n : Nat}, (∀ k, k < n → g k ≤ h k) → sumTo g n ≤ sumTo h n := by
  intro n
  induction n with
  | zero => intro _; exact Nat.le_refl _
  | succ n ih => intro hk; have h1 := ih (fun k hk' => hk k (by omega)); have h2 := hk n (by omega); unfold sumTo; omega
theorem sumTo_lt {g h : Nat → Nat} {i : Nat} : ∀ {n : Nat}, (∀ k, k < n → g k ≤ h k) → i < n → g i < h i → sumTo g n < sumTo h n := by
  intro n
  induction n with
  | zero => intro _ h; omega
  | succ n ih =>
    intro hk hi hlt
    unfold sumTo
    by_cases hin : i = n
    · subst hin
      have h1 := sumTo_mono (fun k hk' => hk k (by omega)) (n := i)
      omega
    · have h1 := ih (fun k hk' => hk k (by omega)) (by omega) hlt
      have h2 := hk n (by omega)
      omega

/-! Levels. -/
structure LevSol (K : Nat) (es : List Edg) (F : Nat → Int) : Prop where
  low : ∀ i, i < K → 0 ≤ F i
  high : ∀ i, i < K → F i < K
  edge : ∀ e ∈ es, F e.to + negI e.neg ≤ F e.fr
theorem negI_low (b : Bool) : 0 ≤ negI b ∧ negI b ≤ 1 := by unfold negI; cases b <;> simp
theorem lev_exists {K : Nat} {es : List Edg} (hE : EdgesIn K es) (hN : ¬ NegCyc es) : ∃ F, LevSol K es F := by
  have key : ∀ (n : Nat) (F : Nat → Int), LevInv K es F → roomF F K K ≤ n → ∃ F, LevSol K es F := by
    intro n
    induction n with
    | zero =>
      intro F I h
      by_cases hc : ∀ e ∈ es, F e.to + negI e.neg ≤ F e.fr
      · exact ⟨F, fun i hi => I.low i hi, fun i hi => I.lt hi, hc⟩
      · simp only [Classical.not_forall] at hc
        obtain ⟨e, he, hlt⟩ := hc
        obtain ⟨I', hb⟩ := I.step hE hN he
        have h1 := roomF_upd (F := F) (K := K) (i := e.fr) (v := F e.to + negI e.neg) (by omega) (by omega) (n := K) (hE e he).1
        omega
    | succ n ih =>
      intro F I h
      by_cases hc : ∀ e ∈ es, F e.to + negI e.neg ≤ F e.fr
      · exact ⟨F, fun i hi => I.low i hi, fun i hi => I.lt hi, hc⟩
      · simp only [Classical.not_forall] at hc
        obtain ⟨e, he, hlt⟩ := hc
        obtain ⟨I', hb⟩ := I.step hE hN he
        have h1 := roomF_upd (F := F) (K := K) (i := e.fr) (v := F e.to + negI e.neg) (by omega) (by omega) (n := K) (hE e he).1
        exact ih _ I' (by omega)
  exact key _ _ (LevInv.start hE) (Nat.le_refl _)
/-- The least levels. -/
structure LevMin (K : Nat) (es : List Edg) (F : Nat → Int) : Prop where
  sol : LevSol K es F
  min : ∀ F', LevSol K es F' → sumTo (fun i => (F i).toNat) K ≤ sumTo (fun i => (F' i).toNat) K
theorem lev_min {K : Nat} {es : List Edg} (hE : EdgesIn K es) (hN : ¬ NegCyc es) : ∃ F, LevMin K es F := by
  have key : ∀ (n : Nat) (F : Nat → Int), LevSol K es F → sumTo (fun i => (F i).toNat) K ≤ n → ∃ F, LevMin K es F := by
    intro n
    induction n with
    | zero => intro F S h; exact ⟨F, S, fun F' S' => by omega⟩
    | succ n ih =>
      intro F S h
      by_cases hc : ∀ F', LevSol K es F' → sumTo (fun i => (F i).toNat) K ≤ sumTo (fun i => (F' i).toNat) K
      · exact ⟨F, S, hc⟩
      · simp only [Classical.not_forall] at hc
        obtain ⟨F', S', hlt⟩ := hc
        exact ih F' S' (by omega)
  obtain ⟨F, S⟩ := lev_exists hE hN
  exact key _ F S (Nat.le_refl _)
def offB (F M : Nat → Int) (i : Nat) : Bool := !decide (F i = M i)
/-- A round over all edges makes one more name right. -/
theorem lev_round {K : Nat} {es : List Edg} {M F0 F1 : Nat → Int} (hE : EdgesIn K es) (H : LevMin K es M) (h0 : ∀ i, i < K → 0 ≤ F0 i) (h1 : ∀ i, i < K → F1 i ≤ M i) (h2 : ∀ i, i < K → F0 i ≤ F1 i)
    (h3 : ∀ e ∈ es, F0 e.to + negI e.neg ≤ F1 e.fr) {n : Nat} (hc : cntB (offB F0 M) K ≤ n + 1) : cntB (offB F1 M) K ≤ n := by
  have hle : ∀ j, j < K → offB F1 M j = true → offB F0 M j = true := by
    intro j hj h
    have a := h1 j hj
    have b := h2 j hj
    unfold offB at h ⊢
    simp only [Bool.not_eq_true', decide_eq_false_iff_not] at h ⊢
    omega
  by_cases hx : ∃ i, i < K ∧ offB F1 M i = false ∧ offB F0 M i = true
  · obtain ⟨i, hi, a, b⟩ := hx
    have := cntB_lt hle hi a b
    omega
  · by_cases hz : ∃ i, i < K ∧ offB F0 M i = true
    · exfalso
      obtain ⟨i0, hi0, hb0⟩ := hz
      have hoff : ∀ i, i < K → offB F0 M i = true → F1 i < M i := by
        intro i hi hb
        have a := h1 i hi
        have b : offB F1 M i = true := by
          cases hh : offB F1 M i with
          | true => rfl
          | false => exact absurd ⟨i, hi, hh, hb⟩ hx
        unfold offB at b
        simp only [Bool.not_eq_true', decide_eq_false_iff_not] at b
        omega
      have hon : ∀ i, i < K → offB F0 M i = false → F0 i = M i := by
        intro i hi hb
        unfold offB at hb
        simpa using hb
      have hS : LevSol K es (fun i => if offB F0 M i then M i - 1 else M i) := by
        refine ⟨fun i hi => ?_, fun i hi => ?_, fun e he => ?_⟩
        · have a := H.sol.low i hi
          try simp only
          split
          · rename_i hb
            have := hoff i hi hb
            have := h0 i hi
            have := h2 i hi
            omega
          · exact a
        · have a := H.sol.high i hi
          try simp only
          split <;> omega
        · have a := H.sol.edge e he
          obtain ⟨e1, e2⟩ := hE e he
          try simp only
          cases hbf : offB F0 M e.fr with
          | false =>
            simp only [Bool.false_eq_true, if_false]
            split <;> omega
          | true =>
            simp only [if_true]
            have b := hoff e.fr e1 hbf
            cases hbt : offB F0 M e.to with
            | true => simp only [if_true]; omega
            | false =>
              simp only [Bool.false_eq_true, if_false]
              have c := hon e.to e2 hbt
              have d := h3 e he
              omega
      have h4 := H.min _ hS
      have h5 : sumTo (fun i => ((if offB F0 M i then M i - 1 else M i : Int)).toNat) K < sumTo (fun i => (M i).toNat) K := by
        refine sumTo_lt (i := i0) (fun k hk => ?_) hi0 ?_
        · try simp only
          split <;> omega
        · try simp only
          rw [if_pos hb0]
          have := hoff i0 hi0 hb0
          have := h0 i0 hi0
          have := h2 i0 hi0
          omega
      omega
    · have h6 : cntB (offB F1 M) K ≤ cntB (fun _ => false) K := cntB_mono (fun j hj h => absurd ⟨j, hj, hle j hj h⟩ hz)
      have h7 : ∀ n, cntB (fun _ => false) n = 0 := by
        intro n
        induction n with
        | zero => rfl
        | succ n ih => simp [cntB, ih]
      rw [h7] at h6
      omega
theorem off_none {K : Nat} {F M : Nat → Int} (h : cntB (offB F M) K = 0) {i : Nat} (hi : i < K) : F i = M i := by
  cases hb : offB F M i with
  | false => unfold offB at hb; simpa using hb
  | true => have := cntB_pos hi hb; omega

/-! Reach. -/
structure RchInv (K : Nat) (es : List Edg) (from' : Nat) (r : Nat) (out : Nat → Bool) : Prop where
  here : out from' = true
  sound : ∀ j, out j = true → Path es from' j
  more : r + 1 ≤ cntB out K ∨ ∀ e ∈ es, out e.fr = true → out e.to = true
theorem rch_start {K : Nat} {es : List Edg} {from' : Nat} (h : from' < K) : RchInv K es from' 0 (fun j => decide (j = from')) where
  here := by simp
  sound j h := by simp at h; subst h; exact .refl _
  more := .inl (cntB_pos h (by simp))
theorem Path.snoc {es : List Edg} {a : Nat} {e : Edg} (h : Path es a e.fr) (he : e ∈ es) : Path es a e.to := h.trans (.one he)
theorem rch_round {K : Nat} {es : List Edg} {from' r : Nat} {o0 o1 : Nat → Bool} (hE : EdgesIn K es) (I : RchInv K es from' r o0) (h1 : ∀ j, o0 j = true → o1 j = true) (hs : ∀ j, o1 j = true → Path es from' j)
    (h2 : ∀ e ∈ es, o0 e.fr = true → o1 e.to = true) : RchInv K es from' (r + 1) o1 := by
  refine ⟨h1 _ I.here, hs, ?_⟩
  by_cases hx : ∃ i, i < K ∧ o0 i = false ∧ o1 i = true
  · obtain ⟨i, hi, a, b⟩ := hx
    rcases I.more with h | h
    · left
      have := cntB_lt (fun j _ => h1 j) hi a b
      omega
    · right
      intro e he hf
      have hsame : ∀ j, j < K → o1 j = true → o0 j = true := by
        intro j hj hb
        have hp := hs j hb
        have key : ∀ {a b : Nat}, Path es a b → o0 a = true → o0 b = true := by
          intro a b p
          induction p with
          | refl => exact id
          | step he _ ih => intro ha; exact ih (h _ he ha)
        exact key hp I.here
      exact h2 e he (hsame _ (hE e he).1 hf)
  · right
    intro e he hf
    refine h2 e he ?_
    cases hb : o0 e.fr with
    | true => rfl
    | false => exact absurd ⟨e.fr, (hE e he).1, hb, hf⟩ hx
theorem rch_end {K : Nat} {es : List Edg} {from' : Nat} {out : Nat → Bool} (I : RchInv K es from' K out) (j : Nat) : out j = true ↔ Path es from' j := by
  refine ⟨I.sound j, fun p => ?_⟩
  rcases I.more with h | h
  · have := cntB_le out K
    omega
  · have key : ∀ {a b : Nat}, Path es a b → out a = true → out b = true := by
      intro a b p
      induction p with
      | refl => exact id
      | step he _ ih => intro ha; exact ih (h _ he ha)
    exact key p I.here

/-! How far: only that a way ends. -/
structure FarInv (K : Nat) (es : List Edg) (to' : Nat) (r : Nat) (d : Nat → Int) : Prop where
  here : d to' = 0
  zero : ∀ j, d j = 0 → j = to'
  low : ∀ j, -1 ≤ d j
  high : ∀ j, d j ≤ r
  step : ∀ j, 0 < d j → ∃ e ∈ es, e.fr = j ∧ d e.to = d j - 1
  done : ∀ e ∈ es, 0 ≤ d e.to → d e.to < r → 0 ≤ d e.fr
  more : r + 1 ≤ cntB (fun j => decide (0 ≤ d j)) K ∨ ∀ e ∈ es, 0 ≤ d e.to → 0 ≤ d e.fr
theorem far_start {K : Nat} {es : List Edg} {to' : Nat} (h : to' < K) : FarInv K es to' 0 (fun j => if j = to' then 0 else -1) where
  here := by simp
  zero j hj := by (try simp only at hj); split at hj <;> omega
  low j := by (try simp only); split <;> omega
  high j := by (try simp only); split <;> omega
  step j hj := by (try simp only at hj); split at hj <;> omega
  done e he h1 h2 := absurd (Int.lt_of_le_of_lt h1 h2) (by decide)
  more := .inl (cntB_pos (f := fun j => decide (0 ≤ (if j = to' then (0 : Int) else -1))) h (by simp))
theorem far_round {K : Nat} {es : List Edg} {to' r : Nat} {d0 d1 : Nat → Int} (hE : EdgesIn K es) (I : FarInv K es to' r d0) (hk : ∀ j, 0 ≤ d0 j → d1 j = d0 j) (hn : ∀ j, d0 j < 0 → d1 j = -1 ∨ (d1 j = r + 1 ∧ ∃ e ∈ es, e.fr = j ∧ d0 e.to = r))
    (hd : ∀ e ∈ es, d0 e.to = r → 0 ≤ d1 e.fr) : FarInv K es to' (r + 1) d1 := by
  have h0 : ∀ j, 0 ≤ d1 j → d1 j ≤ r → d1 j = d0 j := by
    intro j a b
    by_cases hj : 0 ≤ d0 j
    · exact hk j hj
    · rcases hn j (by omega) with h | ⟨h, _⟩ <;> omega
  refine ⟨by rw [hk _ (by rw [I.here]; omega)]; exact I.here, fun j hj => I.zero j (by rw [← h0 j (by omega) (by omega)]; exact hj), fun j => ?_, fun j => ?_, fun j hj => ?_, fun e he a b => ?_, ?_⟩
  · by_cases hj : 0 ≤ d0 j
    · rw [hk j hj]; omega
    · rcases hn j (by omega) with h | ⟨h, _⟩ <;> omega
  · by_cases hj : 0 ≤ d0 j
    · rw [hk j hj]; have := I.high j; push_cast; omega
    · rcases hn j (by omega) with h | ⟨h, _⟩ <;> push_cast <;> omega
  · by_cases hj0 : 0 ≤ d0 j
    · have e1 := hk j hj0
      obtain ⟨e, he, h1, h2⟩ := I.step j (by omega)
      exact ⟨e, he, h1, by rw [hk e.to (by omega)]; omega⟩
    · rcases hn j (by omega) with h | ⟨h, e, he, h1, h2⟩
      · omega
      · exact ⟨e, he, h1, by rw [hk e.to (by omega)]; omega⟩
  · push_cast at b
    have e1 := h0 e.to a (by omega)
    by_cases hlt : d0 e.to < r
    · have := I.done e he (by omega) hlt
      rw [hk e.fr this]; exact this
    · exact hd e he (by omega)
  · have hm : ∀ j, j < K → decide (0 ≤ d0 j) = true → decide (0 ≤ d1 j) = true := fun j _ h => by simp only [decide_eq_true_eq] at h ⊢; rw [hk j h]; exact h
    by_cases hx : ∃ i, i < K ∧ d0 i < 0 ∧ 0 ≤ d1 i
    · obtain ⟨i, hi, a, b⟩ := hx
      rcases I.more with h | h
      · left
        have := cntB_lt (f := fun j => decide (0 ≤ d0 j)) (g := fun j => decide (0 ≤ d1 j)) hm hi (by simp; omega) (by simp; omega)
        omega
      · right
        intro e he ht
        by_cases h4 : 0 ≤ d0 e.to
        · have := h e he h4
          rw [hk e.fr this]; exact this
        · rcases hn e.to (by omega) with h5 | ⟨h5, e', he', h6, h7⟩
          · omega
          · have := h e' he' (by omega)
            rw [h6] at this
            omega
    · right
      intro e he ht
      have h4 : 0 ≤ d0 e.to := by
        by_cases h5 : 0 ≤ d0 e.to
        · exact h5
        · exact absurd ⟨e.to, (hE e he).2, by omega, ht⟩ hx
      have h6 : d0 e.to ≤ r := I.high _
      by_cases hlt : d0 e.to < r
      · have := I.done e he h4 hlt
        rw [hk e.fr this]; exact this
      · exact hd e he (by omega)
theorem far_end {K : Nat} {es : List Edg} {to' : Nat} {d : Nat → Int} (I : FarInv K es to' K d) {j : Nat} (p : Path es j to') : 0 ≤ d j := by
  rcases I.more with h | h
  · have := cntB_le (fun j => decide (0 ≤ d j)) K
    omega
  · have key : ∀ {a b : Nat}, Path es a b → 0 ≤ d b → 0 ≤ d a := by
      intro a b p
      induction p with
      | refl => exact id
      | step he _ ih => intro hb; exact h _ he (ih hb)
    exact key p (by rw [I.here]; omega)

/-! Edges. -/
def needsR (G : Gram) (a b : Int) (neg : Bool) : Bool := G.rules.any (fun r => decide (r.head = a) && r.conj.any (fun c => (c.neg == neg) && c.seq.any (fun s => decide (s.name = b))))
theorem needsR_iff {G : Gram} (M : MayG G) {a b : Nat} {neg : Bool} : needsR G a b neg = true ↔ (⟨a, b, neg⟩ : Edg) ∈ edgesOf G := by
  rw [mem_edgesOf]
  unfold needsR
  simp only [List.any_eq_true, Bool.and_eq_true, decide_eq_true_eq, beq_iff_eq]
  constructor
  · rintro ⟨r, hr, h1, c, hc, h2, s, hs, h3⟩
    refine ⟨r, hr, c, hc, s, hs, by omega, ?_⟩
    rw [h1, h2, h3]
    rfl
  · rintro ⟨r, hr, c, hc, s, hs, h0, he⟩
    injection he with e1 e2 e3
    obtain ⟨i, hi⟩ := List.getElem?_of_mem hr
    have := (M.head i r hi).1
    exact ⟨r, hr, by omega, c, hc, e3.symm, s, hs, by omega⟩
end Go.Proofs.YtbidpeggdhkahaaGreat
