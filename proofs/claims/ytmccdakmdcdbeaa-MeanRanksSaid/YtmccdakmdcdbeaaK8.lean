/-
  K8: a name's rank is one more than the least of the greatest ranks of its rules that hold.
-/
import Derived.Test.YtmccdakmdcdbeaaK7
import Derived.Test.YtmccdakmdcdbeaaK6
set_option linter.unusedSimpArgs false
set_option linter.unusedVariables false
namespace Go.Proofs.Ytmccdakmdcdbeaa
open Go.RowKit

section
variable {w : World} {t : TS} {fin : Rk × Rk}
theorem topR_is (T : Tab w t fin) {r : Nat} {x : Rul} (hx : t.G.rules[r]? = some x) {i j : Int} (i0 : 0 ≤ i) (ij : i ≤ j) (j1 : j ≤ t.W.size) : ∀ n, n ≤ x.conj.length → topR t fin.2 r i j n = topTo (fun c => fin.2 (t.off r c + 0) i j) n - 1 := by
  intro n
  induction n with
  | zero => intro _; rfl
  | succ n ih =>
    intro hn
    obtain ⟨y, hy⟩ : ∃ y, x.conj[n]? = some y := ⟨_, List.getElem?_eq_getElem (by omega)⟩
    have h1 : t.rrank fin.2 r n 0 i j = fin.2 (t.off r n + 0) i j := rrank_in (pos := 0) ⟨hx, hy, Nat.zero_le _⟩ i0 ij j1
    have h2 := ih (by omega)
    unfold topR topTo
    rw [h1, h2, mxz_eq]
    omega
theorem topW_is (T : Tab w t fin) {r : Nat} {x : Rul} (hx : t.G.rules[r]? = some x) {i j : Int} (i0 : 0 ≤ i) (ij : i ≤ j) (j1 : j ≤ t.W.size) : topW t fin.2 t.G r i j = topTo (fun c => fin.2 (t.off r c + 0) i j) x.conj.length - 1 := by
  unfold topW
  rw [hx]
  exact topR_is T hx i0 ij j1 _ (Nat.le_refl _)
structure LeastIs (t : TS) (PL : Rk) (k i j : Int) (n : Nat) (v : Int) : Prop where
  no : v < 0 → ∀ r, r < n → ruleOk t PL t.G k i j r = false
  yes : 0 ≤ v → ∃ r, r < n ∧ ruleOk t PL t.G k i j r = true ∧ v = topW t PL t.G r i j
  le : ∀ r, r < n → ruleOk t PL t.G k i j r = true → v ≤ topW t PL t.G r i j
theorem leastTo_is (T : Tab w t fin) {k i j : Int} (i0 : 0 ≤ i) (ij : i ≤ j) (j1 : j ≤ t.W.size) : ∀ n, n ≤ t.G.rules.length → LeastIs t fin.2 k i j n (leastTo t fin.2 t.G k i j n) := by
  intro n
  induction n with
  | zero => intro _; exact ⟨fun _ r h => by omega, fun h => absurd h (by show ¬ (0 : Int) ≤ -1; omega), fun r h => by omega⟩
  | succ n ih =>
    intro hn
    have h := ih (by omega)
    obtain ⟨x, hx⟩ : ∃ x, t.G.rules[n]? = some x := ⟨_, List.getElem?_eq_getElem (by omega)⟩
    have h0 : 0 ≤ topW t fin.2 t.G n i j := by
      rw [topW_is T hx i0 ij j1]
      have := topTo_ge (fun c => fin.2 (t.off n c + 0) i j) x.conj.length
      omega
    unfold leastTo
    generalize leastTo t fin.2 t.G k i j n = v at h ⊢
    generalize hb : topW t fin.2 t.G n i j = b at h0 ⊢
    by_cases ho : ruleOk t fin.2 t.G k i j n = true
    · by_cases hc : v < 0 ∨ b < v
      · rw [if_pos ⟨ho, hc⟩]
        refine ⟨fun h1 => by omega, fun _ => ⟨n, by omega, ho, hb.symm⟩, fun r hr hok => ?_⟩
        rcases Nat.lt_succ_iff_lt_or_eq.1 hr with h1 | h1
        · rcases hc with h2 | h2
          · rw [h.no h2 r h1] at hok
            cases hok
          · have := h.le r h1 hok
            omega
        · subst h1
          omega
      · rw [if_neg (fun e => hc e.2)]
        refine ⟨fun h1 => by omega, fun h1 => ?_, fun r hr hok => ?_⟩
        · obtain ⟨r, a, b', c⟩ := h.yes h1
          exact ⟨r, by omega, b', c⟩
        · rcases Nat.lt_succ_iff_lt_or_eq.1 hr with h1 | h1
          · exact h.le r h1 hok
          · subst h1
            omega
    · rw [if_neg (fun e => ho e.1)]
      have ho' : ruleOk t fin.2 t.G k i j n = false := by simpa using ho
      refine ⟨fun h1 r hr => ?_, fun h1 => ?_, fun r hr hok => ?_⟩
      · rcases Nat.lt_succ_iff_lt_or_eq.1 hr with h2 | h2
        · exact h.no h1 r h2
        · subst h2; exact ho'
      · obtain ⟨r, a, b', c⟩ := h.yes h1
        exact ⟨r, by omega, b', c⟩
      · rcases Nat.lt_succ_iff_lt_or_eq.1 hr with h2 | h2
        · exact h.le r h2 hok
        · subst h2
          rw [ho'] at hok
          cases hok
theorem ruleOk_iff (T : Tab w t fin) {r k : Nat} {x : Rul} (hx : t.G.rules[r]? = some x) {i j : Int} (i0 : 0 ≤ i) (ij : i ≤ j) (j1 : j ≤ t.W.size) : ruleOk t fin.2 t.G k i j r = true ↔ x.head = (k : Int) ∧ HoldsTo (fun c => fin.2 (t.off r c + 0) i j) x.conj x.conj.length := by
  unfold ruleOk
  rw [hx]
  simp only [Bool.and_eq_true, decide_eq_true_eq]
  rw [fineTo_holds T hx i0 ij j1 x.conj.length (Nat.le_refl _)]
/-- The rank is one more than the least. -/
theorem rank_least (T : Tab w t fin) {k : Nat} (hk : k < t.K) {i j : Int} (i0 : 0 ≤ i) (ij : i ≤ j) (j1 : j ≤ t.W.size) (hp : 0 < t.rank fin.1 k i j) : t.rank fin.1 k i j = 1 + leastTo t fin.2 t.G k i j t.G.rules.length := by
  rw [rank_in hk i0 ij j1] at hp ⊢
  have V := T.view
  have L := leastTo_is T (k := k) i0 ij j1 t.G.rules.length (Nat.le_refl _)
  obtain ⟨r, x, hx, h1, h2, h3⟩ := V.nIs k i j hk i0 ij j1 hp
  have hr := (List.getElem?_eq_some_iff.1 hx).1
  have hh := (T.H.F.head r x hx).1
  have ok := (ruleOk_iff T (k := k) hx i0 ij j1).2 ⟨by omega, h2⟩
  have ht := topW_is T hx i0 ij j1
  have l1 := L.le r hr ok
  generalize leastTo t fin.2 t.G k i j t.G.rules.length = v at L l1 ⊢
  have hv : 0 ≤ v := by
    by_cases hv : v < 0
    · rw [L.no hv r hr] at ok
      cases ok
    · omega
  obtain ⟨r', hr', ok', e'⟩ := L.yes hv
  obtain ⟨x', hx'⟩ : ∃ x, t.G.rules[r']? = some x := ⟨_, List.getElem?_eq_getElem hr'⟩
  obtain ⟨a1, a2⟩ := (ruleOk_iff T (k := k) hx' i0 ij j1).1 ok'
  have ht' := topW_is T hx' i0 ij j1
  have h4 := V.nLe r' x' i j hx' (by omega) i0 ij j1 a2
  have e3 : x'.head.toNat = k := by omega
  rw [e3] at h4
  have h5 := h4.2
  have h6 : fin.1 k i j = topTo (fun c => fin.2 (t.off r c + 0) i j) x.conj.length := h3
  have h7 : fin.1 k i j ≤ topTo (fun c => fin.2 (t.off r' c + 0) i j) x'.conj.length := h5
  omega
end
end Go.Proofs.Ytmccdakmdcdbeaa
