/-
  A6: what stands still whatever is done to blocks of S does not lie in S.
-/
import Derived.Test.YtbidpeggdhkahaaA3
set_option linter.unusedSimpArgs false
set_option linter.unusedVariables false
namespace Go.Proofs.Ytbidpeggdhkahaa
open Go.RowKit

theorem Upd.froz {R : Nat → Prop} {w w' : World} (h : Upd R w w') {a : Addr} {v : Value} (hc : w.cell? a = some v) (hf : w.frozen? a = false) (hn : ¬ R a.block) : w'.frozen? a = false := by
  have hb := h.block a.block (World.block_lt_of_cell? w a hc) hn
  unfold World.frozen? at hf ⊢
  rw [hb]
  exact hf
/-- A block wiped. -/
def wipe (w : World) (g : Nat) : World := { w with heap := w.heap.setIfInBounds g (.cells #[] 0 (0, 0)) }
theorem wipe_upd {S : Nat → Prop} {w : World} {g : Nat} (hg : S g) : Upd S w (wipe w g) :=
  ⟨rfl, rfl, rfl, by simp [wipe], fun k hk hn => by
    have hne : g ≠ k := fun e => hn (e ▸ hg)
    unfold wipe
    simp only
    rw [Array.getElem?_setIfInBounds_ne hne]⟩
theorem wipe_none {w : World} {a : Addr} : (wipe w a.block).cell? a = none := by
  unfold World.cell? wipe
  simp only
  by_cases hg : a.block < w.heap.size
  · rw [Array.getElem?_setIfInBounds_self_of_lt hg]
    simp
  · rw [Array.getElem?_eq_none (by simp; omega)]
theorem not_S {S : Nat → Prop} {w : World} {a : Addr} (h : ∀ w', Upd S w w' → ∃ v, w'.cell? a = some v) : ¬ S a.block := fun hs => by
  obtain ⟨v, hv⟩ := h _ (wipe_upd hs)
  rw [wipe_none] at hv
  cases hv
theorem add_block (ad : Addr) (n : Nat) : (ad.add n).block = ad.block := by
  unfold Addr.add
  split <;> rfl
theorem RulesAt.far {S : Nat → Prop} {w : World} {A : Option Addr} {rules : List Rul} (h : ∀ w', Upd S w w' → rulRd.C w' A rules) :
    ∃ ca sa, (∀ w', Upd S w w' → RulesAt w' A ca sa rules) ∧ (∀ (r : Nat) (x : Rul) (ad : Addr), rules[r]? = some x → A = some ad → ¬ S ad.block) ∧
      (∀ (r : Nat) (x : Rul) (k : Nat) (y : Conj) (ad : Addr), rules[r]? = some x → x.conj[k]? = some y → ca r = some ad → ¬ S ad.block) ∧
      (∀ (r : Nat) (x : Rul) (k : Nat) (y : Conj) (i : Nat) (s : Sym) (ad : Addr), rules[r]? = some x → x.conj[k]? = some y → y.seq[i]? = some s → sa r k = some ad → ¬ S ad.block) := by
  obtain ⟨ca, sa, R⟩ := RulesAt.of (h w (Upd.refl _ _))
  have b1 : ∀ (r : Nat) (x : Rul) (ad : Addr), rules[r]? = some x → A = some ad → ¬ S ad.block := fun r x ad hr hA => by
    rw [← add_block ad (r * 2)]
    exact not_S (S := S) (w := w) (a := ad.add (r * 2)) fun w' hu => by
      obtain ⟨ad', A1, c1, e, -, q, -⟩ := rul_at (h w' hu) hr
      rw [hA] at e
      injection e with e
      subst e
      exact ⟨_, q⟩
  have c1 : ∀ (r : Nat) (x : Rul) w', rules[r]? = some x → Upd S w w' → conjRd.C w' (ca r) x.conj := fun r x w' hr hu => by
    obtain ⟨ad, c, e, -, -, q⟩ := R.rul r x hr
    obtain ⟨ad', A1, c1, e', -, -, q', -, -, hC⟩ := rul_at (h w' hu) hr
    rw [e] at e'
    injection e' with e'
    subst e'
    have q2 := hu.cell q (by simp only [add_block]; exact b1 r x ad hr e)
    rw [q'] at q2
    injection q2 with q2
    injection q2 with q2
    rwa [← q2]
  have b2 : ∀ (r : Nat) (x : Rul) (k : Nat) (y : Conj) (ad : Addr), rules[r]? = some x → x.conj[k]? = some y → ca r = some ad → ¬ S ad.block := fun r x k y ad hr hk hA => by
    rw [← add_block ad (k * 2)]
    exact not_S (S := S) (w := w) (a := ad.add (k * 2)) fun w' hu => by
      obtain ⟨ad', A1, c1', e, -, q, -⟩ := conj_at (c1 r x w' hr hu) hk
      rw [hA] at e
      injection e with e
      subst e
      exact ⟨_, q⟩
  have c2 : ∀ (r : Nat) (x : Rul) (k : Nat) (y : Conj) w', rules[r]? = some x → x.conj[k]? = some y → Upd S w w' → symRd.C w' (sa r k) y.seq := fun r x k y w' hr hk hu => by
    obtain ⟨ad, c, e, -, -, q⟩ := R.con r x k y hr hk
    obtain ⟨ad', A1, c1', e', -, -, q', -, -, hC⟩ := conj_at (c1 r x w' hr hu) hk
    rw [e] at e'
    injection e' with e'
    subst e'
    have q2 := hu.cell q (by simp only [add_block]; exact b2 r x k y ad hr hk e)
    rw [q'] at q2
    injection q2 with q2
    injection q2 with q2
    rwa [← q2]
  refine ⟨ca, sa, fun w' hu => ⟨fun r x hr => ?_, fun r x k y hr hk => ?_, fun r x k y hr hk => c2 r x k y w' hr hk hu⟩, b1, b2, fun r x k y i s ad hr hk hi hA => ?_⟩
  · obtain ⟨ad, c, e, l, q0, q1⟩ := R.rul r x hr
    exact ⟨ad, c, e, Nat.lt_of_lt_of_le l hu.size, hu.cell q0 (by simp only [add_block]; exact b1 r x ad hr e), hu.cell q1 (by simp only [add_block]; exact b1 r x ad hr e)⟩
  · obtain ⟨ad, c, e, l, q0, q1⟩ := R.con r x k y hr hk
    exact ⟨ad, c, e, Nat.lt_of_lt_of_le l hu.size, hu.cell q0 (by simp only [add_block]; exact b2 r x k y ad hr hk e), hu.cell q1 (by simp only [add_block]; exact b2 r x k y ad hr hk e)⟩
  · rw [← add_block ad (i * 3)]
    exact not_S (S := S) (w := w) (a := ad.add (i * 3)) fun w' hu => by
      obtain ⟨ad', e, -, q, -⟩ := sym_at (c2 r x k y w' hr hk hu) hi
      rw [hA] at e
      injection e with e
      subst e
      exact ⟨_, q⟩
end Go.Proofs.Ytbidpeggdhkahaa
