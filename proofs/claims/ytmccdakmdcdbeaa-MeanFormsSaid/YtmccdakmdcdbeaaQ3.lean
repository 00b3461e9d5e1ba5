/-
  Q3: what the pairs' grammar holds of a row of 'a' and 'b', by counting. No program in sight.
-/
import Derived.Test.YtmccdakmdcdbeaaP9
set_option linter.unusedSimpArgs false
set_option linter.unusedVariables false
namespace Go.Proofs.Ytmccdakmdcdbeaa
open Go.RowKit

def RunP (bt : Int → Int) (i j : Int) : Prop := i < j ∧ ∀ k, i ≤ k → k < j → bt k = 97
def PairsP (bt : Int → Int) (i j : Int) : Prop := (j - i) % 2 = 0 ∧ ∀ k, i ≤ k → k < j → (bt k = 97 ↔ k < i + (j - i) / 2)

theorem pairs_r0 : pairsG.rules[0]? = some ⟨0, [⟨false, [syA, syS, syB]⟩, ⟨true, [syX]⟩]⟩ := rfl
theorem pairs_r1 : pairsG.rules[1]? = some ⟨0, [⟨false, []⟩]⟩ := rfl
theorem pairs_r2 : pairsG.rules[2]? = some ⟨1, [⟨false, [syA]⟩]⟩ := rfl
theorem pairs_r3 : pairsG.rules[3]? = some ⟨1, [⟨false, [syX, syX]⟩]⟩ := rfl
theorem pairs_r4 (n : Nat) : pairsG.rules[n + 4]? = none := List.getElem?_eq_none (by show 4 ≤ n + 4; omega)
theorem pairs_rules {r : Nat} {x : Rul} (h : pairsG.rules[r]? = some x) : (r = 0 ∧ x = ⟨0, [⟨false, [syA, syS, syB]⟩, ⟨true, [syX]⟩]⟩) ∨ (r = 1 ∧ x = ⟨0, [⟨false, []⟩]⟩) ∨ (r = 2 ∧ x = ⟨1, [⟨false, [syA]⟩]⟩) ∨ (r = 3 ∧ x = ⟨1, [⟨false, [syX, syX]⟩]⟩) := by
  match r, h with
  | 0, h => rw [pairs_r0] at h; injection h with h; exact .inl ⟨rfl, h.symm⟩
  | 1, h => rw [pairs_r1] at h; injection h with h; exact .inr (.inl ⟨rfl, h.symm⟩)
  | 2, h => rw [pairs_r2] at h; injection h with h; exact .inr (.inr (.inl ⟨rfl, h.symm⟩))
  | 3, h => rw [pairs_r3] at h; injection h with h; exact .inr (.inr (.inr ⟨rfl, h.symm⟩))
  | n + 4, h => rw [pairs_r4] at h; cases h

section
variable {bt : Int → Int} {hi : Int} {N : Rk} {P : Nat → Nat → Nat → Int → Int → Int} (V : View pairsG.rules 2 bt hi N P)
include V
theorem p20 {i j : Int} (i0 : 0 ≤ i) (ij : i ≤ j) (j1 : j ≤ hi) : 0 < P 2 0 0 i j ↔ i + 1 = j ∧ bt i = 97 := by
  have e : P 2 0 0 i j = if i < j ∧ 97 ≤ bt i ∧ bt i ≤ 97 ∧ 0 < P 2 0 1 (i + 1) j then P 2 0 1 (i + 1) j + 1 else 0 := V.pByte 2 _ 0 _ 0 syA i j pairs_r2 rfl rfl (by decide) i0 ij j1
  rw [e]
  by_cases hlt : i < j
  · have e2 : P 2 0 1 (i + 1) j = if i + 1 = j then 1 else 0 := V.pEnd 2 _ 0 _ (i + 1) j pairs_r2 rfl (by omega) (by omega) j1
    rw [e2]
    split <;> split <;> omega
  · rw [if_neg (by omega)]; omega
theorem p30 {i j : Int} (i0 : 0 ≤ i) (ij : i ≤ j) (j1 : j ≤ hi) (h : 0 < P 3 0 0 i j) : ∃ k, i ≤ k ∧ k ≤ j ∧ 0 < N 1 i k ∧ N 1 i k < P 3 0 0 i j ∧ 0 < N 1 k j ∧ N 1 k j < P 3 0 0 i j := by
  have b : BestIs (fun d => N 1 i (i + d)) (fun d => P 3 0 1 (i + d) j) (j - i + 1).toNat (P 3 0 0 i j) := V.pName 3 _ 0 _ 0 syX i j pairs_r3 rfl rfl (by decide) i0 ij j1
  obtain ⟨d, hd, a1, a2, a3⟩ := b.is h
  have b' : BestIs (fun d' => N 1 (i + d) (i + d + d')) (fun d' => P 3 0 2 (i + d + d') j) (j - (i + d) + 1).toNat (P 3 0 1 (i + d) j) := V.pName 3 _ 0 _ 1 syX (i + d) j pairs_r3 rfl rfl (by decide) (by omega) (by omega) j1
  obtain ⟨d', hd', c1, c2, c3⟩ := b'.is a2
  have e2 : P 3 0 2 (i + d + d') j = if i + d + d' = j then 1 else 0 := V.pEnd 3 _ 0 _ (i + d + d') j pairs_r3 rfl (by omega) (by omega) j1
  rw [e2] at c2 c3
  by_cases he : i + d + d' = j
  · rw [if_pos he] at c3
    rw [he] at c1 c3
    exact ⟨i + d, by omega, by omega, a1, by omega, c1, by omega⟩
  · rw [if_neg he] at c2; omega
theorem p30' {i k j : Int} (i0 : 0 ≤ i) (ik : i ≤ k) (kj : k ≤ j) (j1 : j ≤ hi) (h1 : 0 < N 1 i k) (h2 : 0 < N 1 k j) : 0 < P 3 0 0 i j := by
  have b : BestIs (fun d => N 1 i (i + d)) (fun d => P 3 0 1 (i + d) j) (j - i + 1).toNat (P 3 0 0 i j) := V.pName 3 _ 0 _ 0 syX i j pairs_r3 rfl rfl (by decide) i0 (by omega) j1
  have b' : BestIs (fun d' => N 1 k (k + d')) (fun d' => P 3 0 2 (k + d') j) (j - k + 1).toNat (P 3 0 1 k j) := V.pName 3 _ 0 _ 1 syX k j pairs_r3 rfl rfl (by decide) (by omega) kj j1
  have e2 : P 3 0 2 j j = if j = j then 1 else 0 := V.pEnd 3 _ 0 _ j j pairs_r3 rfl (by omega) (by omega) j1
  rw [if_pos rfl] at e2
  have hk : k + ((j - k).toNat : Int) = j := by omega
  have hi' : i + ((k - i).toNat : Int) = k := by omega
  have q := b'.le (j - k).toNat (by omega) (by simp only [hk]; exact h2) (by simp only [hk]; omega)
  exact (b.le (k - i).toNat (by omega) (by simp only [hi']; exact h1) (by simp only [hi']; exact q.1)).1
theorem run_fwd : ∀ (m : Nat) {i j : Int}, 0 ≤ i → i ≤ j → j ≤ hi → 0 < N 1 i j → N 1 i j ≤ m → RunP bt i j := by
  intro m
  induction m with
  | zero => intro i j _ _ _ h1 h2; omega
  | succ m ih =>
    intro i j i0 ij j1 h1 h2
    obtain ⟨r, x, hx, hh, ho, e⟩ := V.nIs 1 i j (by decide) i0 ij j1 h1
    rcases pairs_rules hx with ⟨rfl, rfl⟩ | ⟨rfl, rfl⟩ | ⟨rfl, rfl⟩ | ⟨rfl, rfl⟩
    · cases hh
    · cases hh
    · have h0 : 0 < P 2 0 0 i j := by have := ho 0 _ (by decide) rfl; simpa using this
      obtain ⟨rfl, hb⟩ := (p20 V i0 ij j1).1 h0
      exact ⟨by omega, fun k a b => by rw [show k = i by omega]; exact hb⟩
    · have h0 : 0 < P 3 0 0 i j := by have := ho 0 _ (by decide) rfl; simpa using this
      have h3 : P 3 0 0 i j + 1 ≤ topTo (fun c => P 3 c 0 i j) 1 := topTo_at (f := fun c => P 3 c 0 i j) (by decide)
      change N 1 i j = topTo (fun c => P 3 c 0 i j) 1 at e
      obtain ⟨k, ik, kj, a1, a2, a3, a4⟩ := p30 V i0 ij j1 h0
      have q1 := ih i0 ik (by omega) a1 (by omega)
      have q2 := ih (by omega) kj j1 a3 (by omega)
      refine ⟨by have := q1.1; omega, fun z a b => ?_⟩
      by_cases hz : z < k
      · exact q1.2 z a hz
      · exact q2.2 z (by omega) b
theorem run_back : ∀ (n : Nat) {i : Int}, 0 ≤ i → i + n + 1 ≤ hi → (∀ k, i ≤ k → k < i + n + 1 → bt k = 97) → 0 < N 1 i (i + n + 1) := by
  intro n
  induction n with
  | zero =>
    intro i i0 h1 h
    have h0 : 0 < P 2 0 0 i (i + (0 : Nat) + 1) := (p20 V i0 (by omega) h1).2 ⟨by omega, h i (by omega) (by omega)⟩
    exact (V.nLe 2 _ i (i + (0 : Nat) + 1) pairs_r2 (by decide) i0 (by omega) h1 (fun c y hc hy => by
      match c, hc, hy with
      | 0, _, hy => injection hy with hy; subst hy; simpa using h0)).1
  | succ n ih =>
    intro i i0 h1 h
    have q1 : 0 < N 1 i (i + 1) := by
      have h0 : 0 < P 2 0 0 i (i + 1) := (p20 V i0 (by omega) (by omega)).2 ⟨rfl, h i (by omega) (by omega)⟩
      exact (V.nLe 2 _ i (i + 1) pairs_r2 (by decide) i0 (by omega) (by omega) (fun c y hc hy => by
        match c, hc, hy with
        | 0, _, hy => injection hy with hy; subst hy; simpa using h0)).1
    have q2 := ih (i := i + 1) (by omega) (by omega) (fun k a b => h k (by omega) (by omega))
    rw [show i + 1 + (n : Int) + 1 = i + ((n + 1 : Nat) : Int) + 1 by omega] at q2
    have h0 := p30' V i0 (by omega) (by omega) h1 q1 q2
    exact (V.nLe 3 _ i (i + (n + 1 : Nat) + 1) pairs_r3 (by decide) i0 (by omega) h1 (fun c y hc hy => by
      match c, hc, hy with
      | 0, _, hy => injection hy with hy; subst hy; simpa using h0)).1
theorem run_iff {i j : Int} (i0 : 0 ≤ i) (ij : i ≤ j) (j1 : j ≤ hi) : 0 < N 1 i j ↔ RunP bt i j := by
  constructor
  · intro h; exact run_fwd V (N 1 i j).toNat i0 ij j1 h (by omega)
  · rintro ⟨h1, h2⟩
    have := run_back V (j - i - 1).toNat (i := i) i0 (by omega) (fun k a b => h2 k a (by omega))
    rwa [show i + ((j - i - 1).toNat : Int) + 1 = j by omega] at this
/-- A pair about what is within. -/
theorem p00 {i j : Int} (i0 : 0 ≤ i) (ij : i ≤ j) (j1 : j ≤ hi) (h : 0 < P 0 0 0 i j) : i + 2 ≤ j ∧ bt i = 97 ∧ bt (j - 1) = 98 ∧ 0 < N 0 (i + 1) (j - 1) ∧ N 0 (i + 1) (j - 1) < P 0 0 0 i j := by
  have e : P 0 0 0 i j = if i < j ∧ 97 ≤ bt i ∧ bt i ≤ 97 ∧ 0 < P 0 0 1 (i + 1) j then P 0 0 1 (i + 1) j + 1 else 0 := V.pByte 0 _ 0 _ 0 syA i j pairs_r0 rfl rfl (by decide) i0 ij j1
  by_cases hc : i < j ∧ 97 ≤ bt i ∧ bt i ≤ 97 ∧ 0 < P 0 0 1 (i + 1) j
  · rw [if_pos hc] at e
    have b : BestIs (fun d => N 0 (i + 1) (i + 1 + d)) (fun d => P 0 0 2 (i + 1 + d) j) (j - (i + 1) + 1).toNat (P 0 0 1 (i + 1) j) := V.pName 0 _ 0 _ 1 syS (i + 1) j pairs_r0 rfl rfl (by decide) (by omega) (by omega) j1
    obtain ⟨d, hd, a1, a2, a3⟩ := b.is hc.2.2.2
    have e2 : P 0 0 2 (i + 1 + d) j = if i + 1 + d < j ∧ 98 ≤ bt (i + 1 + d) ∧ bt (i + 1 + d) ≤ 98 ∧ 0 < P 0 0 3 (i + 1 + d + 1) j then P 0 0 3 (i + 1 + d + 1) j + 1 else 0 := V.pByte 0 _ 0 _ 2 syB (i + 1 + d) j pairs_r0 rfl rfl (by decide) (by omega) (by omega) j1
    by_cases hc2 : i + 1 + d < j ∧ 98 ≤ bt (i + 1 + d) ∧ bt (i + 1 + d) ≤ 98 ∧ 0 < P 0 0 3 (i + 1 + d + 1) j
    · have e3 : P 0 0 3 (i + 1 + d + 1) j = if i + 1 + d + 1 = j then 1 else 0 := V.pEnd 0 _ 0 _ (i + 1 + d + 1) j pairs_r0 rfl (by omega) (by omega) j1
      have h3 := hc2.2.2.2
      rw [e3] at h3
      by_cases he : i + 1 + d + 1 = j
      · have hd' : i + 1 + (d : Int) = j - 1 := by omega
        rw [hd'] at a1 a3 hc2
        exact ⟨by omega, by omega, by omega, a1, by omega⟩
      · rw [if_neg he] at h3; omega
    · rw [if_neg hc2] at e2; omega
  · rw [if_neg hc] at e; omega
theorem p00' {i j : Int} (i0 : 0 ≤ i) (ij : i + 2 ≤ j) (j1 : j ≤ hi) (hb : bt i = 97) (hc : bt (j - 1) = 98) (h : 0 < N 0 (i + 1) (j - 1)) : 0 < P 0 0 0 i j := by
  have e3 : P 0 0 3 j j = if j = j then 1 else 0 := V.pEnd 0 _ 0 _ j j pairs_r0 rfl (by omega) (by omega) j1
  rw [if_pos rfl] at e3
  have e2 : P 0 0 2 (j - 1) j = if j - 1 < j ∧ 98 ≤ bt (j - 1) ∧ bt (j - 1) ≤ 98 ∧ 0 < P 0 0 3 (j - 1 + 1) j then P 0 0 3 (j - 1 + 1) j + 1 else 0 := V.pByte 0 _ 0 _ 2 syB (j - 1) j pairs_r0 rfl rfl (by decide) (by omega) (by omega) j1
  rw [show j - 1 + 1 = j by omega, if_pos ⟨by omega, by omega, by omega, by omega⟩] at e2
  have b : BestIs (fun d => N 0 (i + 1) (i + 1 + d)) (fun d => P 0 0 2 (i + 1 + d) j) (j - (i + 1) + 1).toNat (P 0 0 1 (i + 1) j) := V.pName 0 _ 0 _ 1 syS (i + 1) j pairs_r0 rfl rfl (by decide) (by omega) (by omega) j1
  have hd : i + 1 + ((j - 1 - (i + 1)).toNat : Int) = j - 1 := by omega
  have q := b.le (j - 1 - (i + 1)).toNat (by omega) (by simp only [hd]; exact h) (by simp only [hd]; omega)
  have e : P 0 0 0 i j = if i < j ∧ 97 ≤ bt i ∧ bt i ≤ 97 ∧ 0 < P 0 0 1 (i + 1) j then P 0 0 1 (i + 1) j + 1 else 0 := V.pByte 0 _ 0 _ 0 syA i j pairs_r0 rfl rfl (by decide) i0 (by omega) j1
  rw [if_pos ⟨by omega, by omega, by omega, q.1⟩] at e
  omega
theorem p01 {i j : Int} (i0 : 0 ≤ i) (ij : i ≤ j) (j1 : j ≤ hi) (h : 0 < P 0 1 0 i j) : 0 < N 1 i j := by
  have b : BestIs (fun d => N 1 i (i + d)) (fun d => P 0 1 1 (i + d) j) (j - i + 1).toNat (P 0 1 0 i j) := V.pName 0 _ 1 _ 0 syX i j pairs_r0 rfl rfl (by decide) i0 ij j1
  obtain ⟨d, hd, a1, a2, a3⟩ := b.is h
  have e2 : P 0 1 1 (i + d) j = if i + d = j then 1 else 0 := V.pEnd 0 _ 1 _ (i + d) j pairs_r0 rfl (by omega) (by omega) j1
  by_cases he : i + d = j
  · rw [he] at a1; exact a1
  · rw [e2, if_neg he] at a2; omega
theorem pairs_fwd : ∀ (m : Nat) {i j : Int}, 0 ≤ i → i ≤ j → j ≤ hi → 0 < N 0 i j → N 0 i j ≤ m → PairsP bt i j := by
  intro m
  induction m with
  | zero => intro i j _ _ _ h1 h2; omega
  | succ m ih =>
    intro i j i0 ij j1 h1 h2
    obtain ⟨r, x, hx, hh, ho, e⟩ := V.nIs 0 i j (by decide) i0 ij j1 h1
    rcases pairs_rules hx with ⟨rfl, rfl⟩ | ⟨rfl, rfl⟩ | ⟨rfl, rfl⟩ | ⟨rfl, rfl⟩
    · have h0 : 0 < P 0 0 0 i j := by have := ho 0 _ (by decide) rfl; simpa using this
      have h3 : P 0 0 0 i j + 1 ≤ topTo (fun c => P 0 c 0 i j) 2 := topTo_at (f := fun c => P 0 c 0 i j) (by decide)
      change N 0 i j = topTo (fun c => P 0 c 0 i j) 2 at e
      obtain ⟨a1, a2, a3, a4, a5⟩ := p00 V i0 ij j1 h0
      obtain ⟨q1, q2⟩ := ih (by omega) (by omega) (by omega) a4 (by omega)
      refine ⟨by omega, fun k b1 b2 => ?_⟩
      by_cases e1 : k = i
      · subst e1; omega
      · by_cases e2 : k = j - 1
        · subst e2; omega
        · have := q2 k (by omega) (by omega); omega
    · have h0 : 0 < P 1 0 0 i j := by have := ho 0 _ (by decide) rfl; simpa using this
      have e3 : P 1 0 0 i j = if i = j then 1 else 0 := V.pEnd 1 _ 0 _ i j pairs_r1 rfl i0 ij j1
      rw [e3] at h0
      by_cases he : i = j
      · subst he; exact ⟨by omega, fun k b1 b2 => by omega⟩
      · rw [if_neg he] at h0; omega
    · cases hh
    · cases hh
theorem pairs_back (hab : ∀ k, 0 ≤ k → k < hi → bt k = 97 ∨ bt k = 98) : ∀ (n : Nat) {i : Int}, 0 ≤ i → i + 2 * n ≤ hi → PairsP bt i (i + 2 * n) → 0 < N 0 i (i + 2 * n) := by
  intro n
  induction n with
  | zero =>
    intro i i0 h1 h
    have e3 : P 1 0 0 i (i + 2 * (0 : Nat)) = if i = i + 2 * (0 : Nat) then 1 else 0 := V.pEnd 1 _ 0 _ i (i + 2 * (0 : Nat)) pairs_r1 rfl i0 (by omega) h1
    rw [if_pos (by omega)] at e3
    exact (V.nLe 1 _ i (i + 2 * (0 : Nat)) pairs_r1 (by decide) i0 (by omega) h1 (fun c y hc hy => by
      match c, hc, hy with
      | 0, _, hy => injection hy with hy; subst hy; (show (decide (0 < P 1 0 0 i (i + 2 * (0 : Nat))) == false) = false); rw [e3]; decide)).1
  | succ n ih =>
    intro i i0 h1 h
    obtain ⟨g1, g2⟩ := h
    have b1 : bt i = 97 := (g2 i (by omega) (by omega)).2 (by omega)
    have b2 : bt (i + 2 * (n + 1 : Nat) - 1) = 98 := by
      rcases hab (i + 2 * (n + 1 : Nat) - 1) (by omega) (by omega) with hb | hb
      · have := (g2 (i + 2 * (n + 1 : Nat) - 1) (by omega) (by omega)).1 hb; omega
      · exact hb
    have q := ih (i := i + 1) (by omega) (by omega) ⟨by omega, fun k a b => by have := g2 k (by omega) (by omega); omega⟩
    rw [show i + 1 + 2 * (n : Int) = i + 2 * (n + 1 : Nat) - 1 by omega] at q
    have h0 := p00' V i0 (by omega) h1 b1 b2 q
    have h3 : ¬ 0 < P 0 1 0 i (i + 2 * (n + 1 : Nat)) := fun h3 => by
      have := ((run_iff V i0 (by omega) h1).1 (p01 V i0 (by omega) h1 h3)).2 (i + 2 * (n + 1 : Nat) - 1) (by omega) (by omega)
      omega
    exact (V.nLe 0 _ i (i + 2 * (n + 1 : Nat)) pairs_r0 (by decide) i0 (by omega) h1 (fun c y hc hy => by
      match c, hc, hy with
      | 0, _, hy => injection hy with hy; subst hy; simpa using h0
      | 1, _, hy => injection hy with hy; subst hy; simpa using h3)).1
theorem pairs_iff (hab : ∀ k, 0 ≤ k → k < hi → bt k = 97 ∨ bt k = 98) {i j : Int} (i0 : 0 ≤ i) (ij : i ≤ j) (j1 : j ≤ hi) : 0 < N 0 i j ↔ PairsP bt i j := by
  constructor
  · intro h; exact pairs_fwd V (N 0 i j).toNat i0 ij j1 h (by omega)
  · intro h
    have h1 := h.1
    have e : i + 2 * (((j - i) / 2).toNat : Int) = j := by omega
    have := pairs_back V hab ((j - i) / 2).toNat (i := i) i0 (by omega) (by rw [e]; exact h)
    rwa [e] at this
end
end Go.Proofs.Ytmccdakmdcdbeaa
