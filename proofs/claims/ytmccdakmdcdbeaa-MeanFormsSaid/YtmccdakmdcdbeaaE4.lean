/-
  E4: Reaches says that a row of edges leads from one to another. No program in sight.
-/
import Derived.Test.YtmccdakmdcdbeaaE3
set_option linter.unusedSimpArgs false
set_option linter.unusedVariables false
namespace Go.Proofs.Ytmccdakmdcdbeaa

inductive Path (es : List Edg) : Nat → Nat → Prop
  | refl (a : Nat) : Path es a a
  | step {e : Edg} {b : Nat} (he : e ∈ es) (h : Path es e.to b) : Path es e.fr b
theorem Path.trans {es : List Edg} {a b c : Nat} (h : Path es a b) (k : Path es b c) : Path es a c := by
  induction h with
  | refl => exact k
  | step he _ ih => exact .step he (ih k)
theorem Path.one {es : List Edg} {e : Edg} (he : e ∈ es) : Path es e.fr e.to := .step he (.refl _)
theorem Path.lt {es : List Edg} {K a b : Nat} (hE : EdgesIn K es) (h : Path es a b) (ha : a < K) : b < K := by
  induction h with
  | refl => exact ha
  | step he _ ih => exact ih (hE _ he).2
theorem testBit_pow (i j : Nat) : (2 ^ i).testBit j = decide (i = j) := Nat.testBit_two_pow
theorem edgeR_sound (es : List Edg) : ∀ n i j, (edgeR es n i).testBit j = true → Path es i j := by
  intro n
  induction n with
  | zero =>
    intro i j h
    simp only [edgeR, testBit_pow, decide_eq_true_eq] at h
    subst h
    exact .refl _
  | succ n ih =>
    intro i j h
    unfold edgeR at h
    cases hx : es[n]? with
    | none => rw [hx] at h; exact ih i j h
    | some e =>
      rw [hx] at h
      simp only [updR] at h
      by_cases hi : i = e.fr
      · rw [if_pos hi, Nat.testBit_or, Bool.or_eq_true] at h
        subst hi
        rcases h with h | h
        · exact ih _ _ h
        · simp only [testBit_pow, decide_eq_true_eq] at h
          subst h
          exact .one (List.mem_of_getElem? hx)
      · rw [if_neg hi] at h
        exact ih i j h
theorem warIn_sound {es : List Edg} {k : Nat} {R : Nat → Nat} (h : ∀ i j, (R i).testBit j = true → Path es i j) : ∀ n i j, (warIn k R n i).testBit j = true → Path es i j := by
  intro n
  induction n with
  | zero => exact h
  | succ n ih =>
    intro i j hb
    unfold warIn at hb
    split at hb
    · rename_i hk
      simp only [updR] at hb
      by_cases hi : i = n
      · rw [if_pos hi, Nat.testBit_or, Bool.or_eq_true] at hb
        subst hi
        rcases hb with hb | hb
        · exact ih _ _ hb
        · exact (ih _ _ hk).trans (ih _ _ hb)
      · rw [if_neg hi] at hb
        exact ih i j hb
    · exact ih i j hb
theorem warR_sound {es : List Edg} {K : Nat} {R : Nat → Nat} (h : ∀ i j, (R i).testBit j = true → Path es i j) : ∀ k i j, (warR K R k i).testBit j = true → Path es i j := by
  intro k
  induction k with
  | zero => exact h
  | succ k ih => exact warIn_sound ih K
theorem warIn_mono {k : Nat} {R : Nat → Nat} : ∀ {n m : Nat}, n ≤ m → ∀ i j, (warIn k R n i).testBit j = true → (warIn k R m i).testBit j = true := by
  intro n m hnm
  induction hnm with
  | refl => intro i j h; exact h
  | step _ ih =>
    intro i j h
    have h1 := ih i j h
    rename_i m _
    rw [warIn]
    split
    · simp only [updR]
      by_cases hi : i = m
      · rw [if_pos hi, Nat.testBit_or, Bool.or_eq_true]
        subst hi
        exact .inl h1
      · rw [if_neg hi]; exact h1
    · exact h1
theorem warIn_full {k : Nat} {R : Nat → Nat} {n i j : Nat} (hi : i < n) (h1 : (R i).testBit k = true) (h2 : (R k).testBit j = true) : (warIn k R n i).testBit j = true := by
  refine warIn_mono (show i + 1 ≤ n by omega) i j ?_
  have a1 : (warIn k R i i).testBit k = true := warIn_mono (Nat.zero_le _) i k h1
  have a2 : (warIn k R i k).testBit j = true := warIn_mono (Nat.zero_le _) k j h2
  rw [warIn, if_pos a1]
  simp only [updR, if_true, Nat.testBit_or, a2, Bool.or_true]
/-- A path whose inner names lie below k. -/
inductive Via (es : List Edg) (k : Nat) : Nat → Nat → Prop
  | refl (a : Nat) : Via es k a a
  | one {e : Edg} (he : e ∈ es) : Via es k e.fr e.to
  | step {e : Edg} {b : Nat} (he : e ∈ es) (hk : e.to < k) (h : Via es k e.to b) : Via es k e.fr b
theorem Via.cut {es : List Edg} {k a b : Nat} (h : Via es (k + 1) a b) : Via es k a b ∨ (Via es k a k ∧ Via es k k b) := by
  induction h with
  | refl => exact .inl (.refl _)
  | one he => exact .inl (.one he)
  | step he hk h ih =>
    rename_i e b
    by_cases hm : e.to < k
    · rcases ih with ih | ⟨ih1, ih2⟩
      · exact .inl (.step he hm ih)
      · exact .inr ⟨.step he hm ih1, ih2⟩
    · have hmk : e.to = k := by omega
      have h1 : Via es k e.fr k := hmk ▸ Via.one he
      rcases ih with ih | ⟨_, ih2⟩
      · rw [hmk] at ih; exact .inr ⟨h1, ih⟩
      · exact .inr ⟨h1, ih2⟩
theorem Path.via {es : List Edg} {K a b : Nat} (hE : EdgesIn K es) (h : Path es a b) : Via es K a b := by
  induction h with
  | refl => exact .refl _
  | step he _ ih => exact .step he (hE _ he).2 ih
theorem edgeR_mono (es : List Edg) : ∀ {n m : Nat}, n ≤ m → ∀ i j, (edgeR es n i).testBit j = true → (edgeR es m i).testBit j = true := by
  intro n m hnm
  induction hnm with
  | refl => intro i j h; exact h
  | step _ ih =>
    intro i j h
    have h1 := ih i j h
    rename_i m _
    rw [edgeR]
    cases hx : es[m]? with
    | none => exact h1
    | some e =>
      simp only [updR]
      by_cases hi : i = e.fr
      · rw [if_pos hi, Nat.testBit_or, Bool.or_eq_true]
        subst hi
        exact .inl h1
      · rw [if_neg hi]; exact h1
theorem edgeR_full {es : List Edg} {e : Edg} (he : e ∈ es) : (edgeR es es.length e.fr).testBit e.to = true := by
  obtain ⟨n, hn⟩ := List.getElem?_of_mem he
  have hlt := (List.getElem?_eq_some_iff.1 hn).1
  refine edgeR_mono es (show n + 1 ≤ es.length by omega) _ _ ?_
  rw [edgeR, hn]
  simp only [updR, if_true, Nat.testBit_or, testBit_pow, decide_true, Bool.or_true]
theorem warR_full {es : List Edg} {K : Nat} (hE : EdgesIn K es) : ∀ k, k ≤ K → ∀ i j, i < K → Via es k i j → (warR K (edgeR es es.length) k i).testBit j = true := by
  intro k
  induction k with
  | zero =>
    intro _ i j hi h
    cases h with
    | refl => exact edgeR_mono es (Nat.zero_le _) _ _ (by simp [edgeR, testBit_pow])
    | one he => exact edgeR_full he
    | step he hk h => omega
  | succ k ih =>
    intro hk i j hi h
    rw [warR]
    rcases h.cut with h | ⟨h1, h2⟩
    · exact warIn_mono (Nat.zero_le _) i j (ih (by omega) i j hi h)
    · exact warIn_full hi (ih (by omega) i k hi h1) (ih (by omega) k j (by omega) h2)
theorem reachB_iff {es : List Edg} {K a b : Nat} (hE : EdgesIn K es) (ha : a < K) : reachB K es a b = true ↔ Path es a b :=
  ⟨fun h => warR_sound (edgeR_sound es es.length) K a b h, fun h => warR_full hE K (Nat.le_refl _) a b ha (h.via hE)⟩
end Go.Proofs.Ytmccdakmdcdbeaa
