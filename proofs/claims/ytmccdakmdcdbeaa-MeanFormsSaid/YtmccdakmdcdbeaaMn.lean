/-
  Mn: mean.New: the table that it leaves.
-/
import Derived.Test.YtmccdakmdcdbeaaM9
set_option linter.unusedSimpArgs false
set_option linter.unusedVariables false
namespace Go.Proofs.Ytmccdakmdcdbeaa
open Go.RowKit

theorem cSum_mono (cs : List Conj) {a b : Nat} (h : a ≤ b) : cSum cs a ≤ cSum cs b := by
  induction h with
  | refl => exact Nat.le_refl _
  | step h ih => exact Nat.le_trans ih (Nat.le_add_right _ _)
theorem rSum_mono (rs : List Rul) {a b : Nat} (h : a ≤ b) : rSum rs a ≤ rSum rs b := by
  induction h with
  | refl => exact Nat.le_refl _
  | step h ih => exact Nat.le_trans ih (Nat.le_add_right _ _)
theorem cSum_succ {cs : List Conj} {k : Nat} {y : Conj} (h : cs[k]? = some y) : cSum cs (k + 1) = cSum cs k + (y.seq.length + 1) := by simp [cSum, h]
theorem rSum_succ {rs : List Rul} {r : Nat} {x : Rul} (h : rs[r]? = some x) : rSum rs (r + 1) = rSum rs r + cSum x.conj x.conj.length := by simp [rSum, h]
theorem q_lt {G : Gram} {r : Nat} {x : Rul} {k : Nat} {y : Conj} (hx : G.rules[r]? = some x) (hy : x.conj[k]? = some y) : rSum G.rules r + cSum x.conj k + (y.seq.length + 1) ≤ qG G := by
  have h1 := cSum_mono x.conj (show k + 1 ≤ x.conj.length by have := (List.getElem?_eq_some_iff.1 hy).1; omega)
  have h2 := rSum_mono G.rules (show r + 1 ≤ G.rules.length by have := (List.getElem?_eq_some_iff.1 hx).1; omega)
  rw [cSum_succ hy] at h1
  rw [rSum_succ hx] at h2
  unfold qG
  omega
theorem new_Q {G : Gram} {lev : List Int} (F : GFits G lev) {r : Nat} {x : Rul} {k : Nat} {y : Conj} (hx : G.rules[r]? = some x) (_ : k < x.conj.length) (hy : x.conj[k]? = some y) {n q np : Nat} (hn : n = rSum G.rules r + cSum x.conj k) (hq : q < y.seq.length + 1) (h : np = n + q) : np < 100000 := by
  have := q_lt hx hy
  have := F.Q
  omega


theorem zRow_cell {w : World} {g S i : Nat} (h : w.heap[g]? = some (zRow S)) (hi : i < S) : w.cell? ⟨g, i, none⟩ = some (.int .i64 0) ∧ w.frozen? ⟨g, i, none⟩ = false := by
  refine ⟨?_, blk_frozen h i⟩
  rw [blk_cell h i]
  rw [← Array.getElem?_toList, toList_madeCells_one]
  simp [hi]

set_option maxHeartbeats 1000000 in
theorem new_table {w2 wr : World} {G : Gram} {W : ByteArray} {An Ar AL : Option Addr} {cn cr cp S : Nat} {gN gP : List Nat} {aa : List (Nat × Nat × Nat)} {vN vP vA : Value} {lev : List Int}
    (T : TabRel w2 G W (.slice An G.names.length cn) (.slice Ar G.rules.length cr) (.slice AL lev.length cp) S gN gP aa vN vP vA wr) (hr : rulRd.C w2 Ar G.rules) (hl : Rd.int.C w2 AL lev) (F : GFits G lev) (hW : W.size ≤ 32) (hS : S = (W.size + 1) * (W.size + 1))
    (hN : gN.length = G.names.length) (hP : gP.length = qG G) (hA : aa.length = G.rules.length) :
    ∃ t : TS, t.p = w2.heap.size ∧ t.lev = lev ∧ t.G = G ∧ t.W = W ∧ t.off = offG G ∧ t.Fits ∧ Stat wr t ∧ Rows wr t (fun _ _ _ => 0) (fun _ _ _ => 0) ∧ ∀ b, t.R b → w2.heap.size ≤ b := by
  have hQ1 : 1 ≤ qG G := by
    obtain ⟨x, hx⟩ : ∃ x, G.rules[0]? = some x := ⟨_, List.getElem?_eq_getElem (by have := F.rules1; omega)⟩
    obtain ⟨y, hy⟩ : ∃ y, x.conj[0]? = some y := ⟨_, List.getElem?_eq_getElem (by have := (F.conj 0 _ hx).1; omega)⟩
    have := q_lt hx hy
    omega
  obtain ⟨nb, xN, rfl, hnb, hnc, -, -⟩ := T.N.own.form (by rw [List.length_map, hN]; have := F.K1; omega)
  obtain ⟨pb, xP, rfl, hpb, hpc, -, -⟩ := T.P.own.form (by rw [List.length_map, hP]; omega)
  obtain ⟨ab, xA, rfl, hab, hac, -, -⟩ := T.A.own.form (by rw [hA]; have := F.rules1; omega)
  obtain ⟨ca, sa, hRA⟩ := RulesAt.of hr
  have hgn : ∀ h, h < G.names.length → gN[h]? = some (gN.getD h 0) := fun h hh => by rw [List.getElem?_eq_getElem (by omega), List.getD_eq_getElem?_getD, List.getElem?_eq_getElem (by omega)]; rfl
  have hgp : ∀ q, q < qG G → gP[q]? = some (gP.getD q 0) := fun h hh => by rw [List.getElem?_eq_getElem (by omega), List.getD_eq_getElem?_getD, List.getElem?_eq_getElem (by omega)]; rfl
  have hga : ∀ r, r < G.rules.length → aa[r]? = some (aa.getD r (0, 0, 0)) := fun h hh => by rw [List.getElem?_eq_getElem (by omega), List.getD_eq_getElem?_getD, List.getElem?_eq_getElem (by omega)]; rfl
  refine ⟨⟨w2.heap.size, W, G, lev, Ar, ca, sa, nb, pb, ab, fun h => gN.getD h 0, fun q => gP.getD q 0, fun r => (aa.getD r (0, 0, 0)).1, offG G, qG G, AL, cp, xN, xP, xA, fun _ => S, fun _ => S, fun r => (aa.getD r (0, 0, 0)).2.2⟩, rfl, rfl, rfl, rfl, rfl, ?_, ?_, ?_, ?_⟩
  · refine ⟨hW, F.K64, F.rules, F.conj, F.seq, F.sym, F.head, F.lev, ?_, F.Q, ?_, ?_, ?_⟩
    · intro r x c y hx hy
      have hql : rSum G.rules r + cSum x.conj c + (y.seq.length + 1) ≤ qG G := q_lt (G := G) hx hy
      show offG G r c + y.seq.length < qG G
      simp only [offG]
      rw [show G.rules[r]? = some x from hx]
      simp only
      omega
    · intro h h' hh hh' e
      have e1 := hgn h hh
      have e2 := hgn h' hh'
      simp only at e
      rw [e] at e1
      exact (List.getElem?_inj (show h < gN.length by rw [hN]; exact hh) T.N.dis).1 (e1.trans e2.symm)
    · intro h h' hh hh' e
      have e1 := hgp h hh
      have e2 := hgp h' hh'
      simp only at e
      rw [e] at e1
      exact (List.getElem?_inj (show h < gP.length by rw [hP]; exact hh) T.P.dis).1 (e1.trans e2.symm)
    · intro h q hh hq e
      simp only at e
      have h1 := T.NP _ (List.mem_of_getElem? (hgn h hh))
      rw [e] at h1
      exact h1 (List.mem_of_getElem? (hgp q hq))
  · intro w' hu
    have hRR : ∀ b, ((∃ h, h < G.names.length ∧ b = gN.getD h 0) ∨ (∃ q, q < qG G ∧ b = gP.getD q 0)) → b ∈ gN ∨ b ∈ gP := by
      rintro b (⟨h, hh, rfl⟩ | ⟨q, hq, rfl⟩)
      · exact .inl (List.mem_of_getElem? (hgn h hh))
      · exact .inr (List.mem_of_getElem? (hgp q hq))
    have hlo : ∀ b, b ∈ gN ∨ b ∈ gP → w2.heap.size + 1 ≤ b ∧ wr.heap[b]? = some (zRow S) := by
      rintro b (hb | hb)
      · exact T.N.blk b hb
      · exact T.P.blk b hb
    have hp : w'.heap[w2.heap.size]? = some (TabCells G W (.slice An G.names.length cn) (.slice Ar G.rules.length cr) (.slice AL lev.length cp) (.slice (some ⟨nb, 0, none⟩) (gN.map fun g => (g, S, S)).length xN) (.slice (some ⟨pb, 0, none⟩) (gP.map fun g => (g, S, S)).length xP) (.slice (some ⟨ab, 0, none⟩) aa.length xA)) :=
      (hu.block _ (blk_lt T.p) (fun x => by have := (hlo _ (hRR _ x)).1; omega)).trans T.p
    have hbel : Below w2.heap.size w2 w' := T.B.trans (hu.below (by have := T.sz; omega) (fun k hk => by have := (hlo _ (hRR _ hk)).1; omega))
    have hno : ∀ b cur e, wr.heap[b]? = some (.cells cur e (0, 0)) → e ≠ 3 → ¬ ((∃ h, h < G.names.length ∧ b = gN.getD h 0) ∨ (∃ q, q < qG G ∧ b = gP.getD q 0)) := by
      intro b cur e hb hne x
      have h2 := (hlo _ (hRR _ x)).2
      rw [hb] at h2
      injection h2 with h2
      exact hne (zRow_type h2.symm)
    have hsl : (62 : TypeId) ≠ 3 := by decide
    obtain ⟨cu1, hnc⟩ := hnc
    obtain ⟨cu2, hpc⟩ := hpc
    obtain ⟨cu3, hac⟩ := hac
    refine ⟨blk_cell hp 3, ⟨An, cn, blk_cell hp 1⟩, ⟨cr, blk_cell hp 2⟩, hRA.mono hbel, blk_cell hp 4, hl.mono hbel, ?_, ?_, ?_, ?_, ?_, ?_, ?_⟩
    · have := blk_cell hp 5
      rw [List.length_map, hN] at this
      exact this
    · intro h hh
      refine hu.cell ?_ (hno nb cu1 _ hnc hsl)
      have h1 : (gN.map fun g => (g, S, S))[h]? = some (gN.getD h 0, S, S) := by rw [List.getElem?_map, hgn h hh]; rfl
      have h2 := Own.one_at (enc := fun x : Nat × Nat × Nat => .slice (some ⟨x.1, 0, none⟩) x.2.1 x.2.2) T.N.own h1
      rw [h2]
      simp only [TS.S, hS]
    · have := blk_cell hp 6
      simp only [List.length_map, hP] at this
      exact this
    · intro h hh
      refine hu.cell ?_ (hno pb cu2 _ hpc hsl)
      have h1 : (gP.map fun g => (g, S, S))[h]? = some (gP.getD h 0, S, S) := by rw [List.getElem?_map, hgp h hh]; rfl
      have h2 := Own.one_at (enc := fun x : Nat × Nat × Nat => .slice (some ⟨x.1, 0, none⟩) x.2.1 x.2.2) T.P.own h1
      rw [h2]
      simp only [TS.S, hS]
    · have := blk_cell hp 7
      rw [hA] at this
      exact this
    · intro r x hx
      have hr1 : r < G.rules.length := (List.getElem?_eq_some_iff.1 hx).1
      refine hu.cell ?_ (hno ab cu3 _ hac hsl)
      have h2 := Own.one_at (enc := fun x : Nat × Nat × Nat => .slice (some ⟨x.1, 0, none⟩) x.2.1 x.2.2) T.A.own (hga r hr1)
      obtain ⟨x', hx', hl'⟩ := (T.A.at_ r _ (hga r hr1)).2.2.2.2.1
      rw [show G.rules[r]? = some x from hx] at hx'
      injection hx' with hx'
      subst hx'
      rw [h2, hl']
    · intro r x c y hx hy
      have hr1 : r < G.rules.length := (List.getElem?_eq_some_iff.1 hx).1
      have hc1 : c < x.conj.length := (List.getElem?_eq_some_iff.1 hy).1
      obtain ⟨q1, q2, q3, q4, ⟨x', hx', hl'⟩, q6⟩ := T.A.at_ r _ (hga r hr1)
      rw [show G.rules[r]? = some x from hx] at hx'
      injection hx' with hx'
      subst hx'
      refine hu.cell (q6 c (by omega)) (fun z => ?_)
      rcases hRR _ z with z | z
      · exact q2 z
      · exact q3 z
  · constructor
    · intro h i j hh h0 h1 h2 h3
      have hk := key_bd ⟨w2.heap.size, W, G, lev, Ar, ca, sa, nb, pb, ab, fun h => gN.getD h 0, fun q => gP.getD q 0, fun r => (aa.getD r (0, 0, 0)).1, offG G, qG G, AL, cp, xN, xP, xA, fun _ => S, fun _ => S, fun r => (aa.getD r (0, 0, 0)).2.2⟩ h0 h1 h2 h3
      exact zRow_cell (T.N.blk _ (List.mem_of_getElem? (hgn h hh))).2 (by have := hk.2; simp only [TS.S] at this; rw [← hS] at this; omega)
    · intro h i j hh h0 h1 h2 h3
      have hk := key_bd ⟨w2.heap.size, W, G, lev, Ar, ca, sa, nb, pb, ab, fun h => gN.getD h 0, fun q => gP.getD q 0, fun r => (aa.getD r (0, 0, 0)).1, offG G, qG G, AL, cp, xN, xP, xA, fun _ => S, fun _ => S, fun r => (aa.getD r (0, 0, 0)).2.2⟩ h0 h1 h2 h3
      exact zRow_cell (T.P.blk _ (List.mem_of_getElem? (hgp h hh))).2 (by have := hk.2; simp only [TS.S] at this; rw [← hS] at this; omega)
  · rintro b (⟨h, hh, rfl⟩ | ⟨q, hq, rfl⟩)
    · have := (T.N.blk _ (List.mem_of_getElem? (hgn h hh))).1
      simp only; omega
    · have := (T.P.blk _ (List.mem_of_getElem? (hgp q hq))).1
      simp only; omega
end Go.Proofs.Ytmccdakmdcdbeaa
