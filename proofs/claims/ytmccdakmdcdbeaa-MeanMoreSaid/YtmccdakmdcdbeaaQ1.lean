/-
  Q1: what a name has of a stretch hangs on the stretch's bytes alone.
-/
import Derived.Test.YtmccdakmdcdbeaaK4
set_option linter.unusedSimpArgs false
set_option linter.unusedVariables false
namespace Go.Proofs.Ytmccdakmdcdbeaa
open Go.RowKit

section
variable {w w' : World} {t u : TS} {fin fin' : Rk × Rk}
theorem lev_sy (H : Law t) {r c : Nat} {x : Rul} {y : Conj} {s : Sym} (hx : t.G.rules[r]? = some x) (hy : x.conj[c]? = some y) (hs : s ∈ y.seq) : s.name < t.K ∧ (0 ≤ s.name → t.lev.getD s.name.toNat 0 + negI y.neg ≤ t.lev.getD x.head.toNat 0) := by
  obtain ⟨k, hk⟩ := List.mem_iff_getElem?.1 hs
  refine ⟨H.F.sym r x c y k s hx hy hk, fun h0 => ?_⟩
  exact H.good.edge ⟨x.head.toNat, s.name.toNat, y.neg⟩ (mem_edgesOf.2 ⟨x, List.mem_of_getElem? hx, y, List.mem_of_getElem? hy, s, hs, h0, rfl⟩)
theorem lev_low (H : Law t) {r : Nat} {x : Rul} (hx : t.G.rules[r]? = some x) : 0 ≤ t.lev.getD x.head.toNat 0 := by
  have h := H.F.head r x hx
  exact (H.good.low x.head.toNat (by unfold TS.K at h; omega)).1
/-- Two tables of one grammar answer alike where their texts have the same bytes. -/
theorem stretch_eq (T : Tab w t fin) (U : Tab w' u fin') (hG : u.G = t.G) {a b : Int} (a0 : 0 ≤ a) (bW : a + b ≤ t.W.size) (hs : b ≤ u.W.size) (hbt : ∀ i, 0 ≤ i → i < b → btz t.W (i + a) = btz u.W i) :
    ∀ (k : Nat) (i j : Int), k < t.K → 0 ≤ i → i ≤ j → j ≤ b → fin.1 k (i + a) (j + a) = fin'.1 k i j := by
  have V := T.sol.view T.H (rs := t.G.rules) (K := t.K) (δ := a) (hi := b) (fun _ _ h => h) (Nat.le_refl _) (fun _ _ h _ => h) a0 bW
  have hK : u.K = t.K := by unfold TS.K; rw [hG]
  have V' := U.sol.view U.H (rs := t.G.rules) (K := t.K) (δ := 0) (hi := b) (fun _ _ h => by rw [hG]; exact h) (by rw [hK]; exact Nat.le_refl _) (fun _ _ h _ => by rw [hG] at h; exact h) (Int.le_refl _) (by omega)
  simp only [Int.add_zero] at V'
  have h := View.eq V V' hbt (fun h => t.lev.getD h 0) (fun r x hx => lev_low T.H hx) (fun r x c y s hx hy hs => lev_sy T.H hx hy hs) t.K
  intro k i j hk i0 ij j1
  exact h.1 k i j hk (by have := (T.H.good.low k hk).2; unfold TS.K; omega) i0 ij j1
end
theorem btz_cut (W : ByteArray) {a b : Nat} (hab : a ≤ b) (hb : b ≤ W.size) : (W.extract a b).size = b - a ∧ ∀ i : Int, 0 ≤ i → i < (b : Int) - a → btz W (i + a) = btz (W.extract a b) i := by
  have h1 : (W.extract a b).size = b - a := by rw [ByteArray.size_extract]; omega
  refine ⟨h1, fun i i0 i1 => ?_⟩
  obtain ⟨n, rfl⟩ : ∃ n : Nat, i = (n : Int) := ⟨i.toNat, by omega⟩
  have e1 : ((n : Int) + (a : Int)).toNat = a + n := by omega
  unfold btz
  rw [dif_pos (by rw [e1]; omega), dif_pos (by rw [h1]; omega)]
  simp only [e1, Int.toNat_natCast, ByteArray.getElem_extract]

theorem refG_no {G : Gram} (h : RefG G) (hm : mayB G = true) (hc : ¬ NegCyc (edgesOf G)) : False := by
  rcases h with h | h
  · rw [hm] at h; cases h
  · exact hc h
theorem btz_app (B W C : ByteArray) : ∀ i : Int, 0 ≤ i → i < (W.size : Int) → btz (B ++ W ++ C) (i + B.size) = btz W i := by
  intro i i0 i1
  obtain ⟨n, rfl⟩ : ∃ n : Nat, i = (n : Int) := ⟨i.toNat, by omega⟩
  have e1 : ((n : Int) + (B.size : Int)).toNat = B.size + n := by omega
  unfold btz
  rw [dif_pos (by rw [e1, ByteArray.size_append, ByteArray.size_append]; omega), dif_pos (by omega)]
  simp only [e1, Int.toNat_natCast]
  rw [ByteArray.getElem_append_left (by rw [ByteArray.size_append]; omega), ByteArray.getElem_append_right (by omega)]
  simp only [Nat.add_sub_cancel_left]
end Go.Proofs.Ytmccdakmdcdbeaa
