/-
  V6: a copy whose negations are struck out; a rule more takes nothing away.
-/
import Derived.Test.YtmccdakmdcdbeaaV3
import Derived.Test.YtmccdakmdcdbeaaC3
set_option linter.unusedSimpArgs false
set_option linter.unusedVariables false
namespace Go.Proofs.Ytmccdakmdcdbeaa
open Go.RowKit

def posR (x : Rul) : Rul := ⟨x.head, x.conj.map (fun y => ⟨false, y.seq⟩)⟩
def posG (G : Gram) : Gram := ⟨G.start, G.names, G.rules.map posR⟩
theorem posG_pos {G : Gram} {r c : Nat} {x : Rul} {y : Conj} (hx : (posG G).rules[r]? = some x) (hy : x.conj[c]? = some y) : y.neg = false := by
  have hx' : (G.rules.map posR)[r]? = some x := hx
  rw [List.getElem?_map] at hx'
  cases h : G.rules[r]? with
  | none => rw [h] at hx'; cases hx'
  | some z =>
    rw [h] at hx'
    injection hx' with hx'
    subst hx'
    have hy' : (z.conj.map (fun y => (⟨false, y.seq⟩ : Conj)))[c]? = some y := hy
    rw [List.getElem?_map] at hy'
    cases h2 : z.conj[c]? with
    | none => rw [h2] at hy'; cases hy'
    | some v => rw [h2] at hy'; injection hy' with hy'; subst hy'; rfl
/-- Blocks of conjuncts. -/
def RC (n : Nat) (vc : Nat → Value) (b : Nat) : Prop := ∃ r, r < n ∧ (vc r).ownBlock = some b
/-- How a deep copy lies. -/
structure Mut0 (w : World) (rules : List Rul) (vr : Value) (vc : Nat → Value) (sq : Nat → Nat → Value) : Prop where
  row : ∀ (r : Nat) (x : Rul), rules[r]? = some x → ∃ g c, vr = .slice (some ⟨g, 0, none⟩) rules.length c ∧ ¬ RC rules.length vc g ∧ w.cell? ⟨g, r * 2, none⟩ = some (.int .i64 x.head) ∧ w.cell? ⟨g, r * 2 + 1, none⟩ = some (vc r)
  con : ∀ (r : Nat) (x : Rul), rules[r]? = some x → ∃ A c, vc r = .slice A x.conj.length c ∧ x.conj.length ≤ c ∧ c ≤ 9223372036854775807
  cel : ∀ (r : Nat) (x : Rul) (k : Nat) (y : Conj), rules[r]? = some x → x.conj[k]? = some y → ∃ g c, vc r = .slice (some ⟨g, 0, none⟩) x.conj.length c ∧ w.cell? ⟨g, k * 2, none⟩ = some (.bool y.neg) ∧ w.frozen? ⟨g, k * 2, none⟩ = false ∧ w.cell? ⟨g, k * 2 + 1, none⟩ = some (sq r k)
  stab : ∀ (r : Nat) (x : Rul) (k : Nat) (y : Conj), rules[r]? = some x → x.conj[k]? = some y → ∀ w', Upd (RC rules.length vc) w w' → conjRd.K w' y [.bool y.neg, sq r k]
theorem own_cells {w : World} {base n : Nat} {e : TypeId} {sz : Nat} {v : Value} {css : List (List Value)} (h : w.ownsRow base e sz v n css.flatten) (hl : ∀ cs ∈ css, cs.length = sz) {i : Nat} {cs : List Value} (hc : css[i]? = some cs) (hsz : 0 < sz) :
    ∃ g c, v = .slice (some ⟨g, 0, none⟩) n c ∧ (∃ cur, w.heap[g]? = some (.cells cur e (0, 0))) ∧ ∀ (j : Nat) (u : Value), cs[j]? = some u → w.cell? ⟨g, i * sz + j, none⟩ = some u := by
  rcases h.2 with ⟨rfl, h0⟩ | ⟨g, cap, cur, rfl, hg, hh, _⟩
  · exfalso
    have h1 := h.1
    have h2 := flatten_length hl
    have h3 := (List.getElem?_eq_some_iff.1 hc).1
    rw [h1, h0] at h2
    have : 0 < css.length * sz := Nat.mul_pos (by omega) hsz
    omega
  · refine ⟨g, cap, rfl, ⟨cur, hh⟩, fun j u hu => ?_⟩
    have := h.cells (g := g) rfl _ u (flatten_get hl hc hu)
    rwa [add_plain, Nat.zero_add] at this
theorem deep_mut {B : Nat} {w : World} {rules : List Rul} {vr : Value} {vc : Nat → Value} (D : Deep B w rules rules.length vr vc) : ∃ sq, Mut0 w rules vr vc sq := by
  have hrc : ∀ b, RC rules.length vc b → DeepS B rules.length vr vc b := fun b h => .inl h
  have h1 : ∀ r : Nat, ∃ f : Nat → Value, ∀ (x : Rul), rules[r]? = some x → (∃ A c, vc r = .slice A x.conj.length c ∧ x.conj.length ≤ c ∧ c ≤ 9223372036854775807) ∧ ∀ (k : Nat) (y : Conj), x.conj[k]? = some y →
      (∃ g c, vc r = .slice (some ⟨g, 0, none⟩) x.conj.length c ∧ w.cell? ⟨g, k * 2, none⟩ = some (.bool y.neg) ∧ w.frozen? ⟨g, k * 2, none⟩ = false ∧ w.cell? ⟨g, k * 2 + 1, none⟩ = some (f k)) ∧ ∀ w', Upd (RC rules.length vc) w w' → conjRd.K w' y [.bool y.neg, f k] := by
    intro r
    cases hx : rules[r]? with
    | none => exact ⟨fun _ => undef, fun x h => by cases h⟩
    | some x =>
      have hr : r < rules.length := (List.getElem?_eq_some_iff.1 hx).1
      obtain ⟨css, e1, e2, e3⟩ := D.conj r x hr hx
      have hl : ∀ cs ∈ css, cs.length = conjRd.sz := fun cs hcs => by
        obtain ⟨i, hi, hic⟩ := List.mem_iff_getElem.1 hcs
        exact conjRd.len (e3 i (x.conj[i]'(by omega)) cs (List.getElem?_eq_getElem (by omega)) (by rw [← hic]; exact List.getElem?_eq_getElem hi) w (Upd.refl _ _))
      refine ⟨fun k => ((css.getD k []).getD 1 undef), fun x' hx' => ?_⟩
      injection hx' with hx'
      subst hx'
      refine ⟨?_, fun k y hy => ?_⟩
      · rcases e2.2 with ⟨hv, h0⟩ | ⟨g, cap, cur, hv, _, _, h4, h5, _⟩
        · exact ⟨none, 0, by rw [hv, h0], by omega, by omega⟩
        · exact ⟨_, cap, hv, h4, by rw [← maxLen_eq]; exact h5⟩
      · have hk : k < css.length := by rw [e1]; exact (List.getElem?_eq_some_iff.1 hy).1
        have hc : css[k]? = some (css[k]'hk) := List.getElem?_eq_getElem hk
        have hK := e3 k y _ hy hc w (Upd.refl _ _)
        obtain ⟨A, c, hcs, -⟩ := conjRd_open hK
        have hf : ((css.getD k []).getD 1 undef) = .slice A y.seq.length c := by
          have hg : css.getD k [] = css[k]'hk := by simp [List.getD_eq_getElem?_getD, hc]
          rw [hg, hcs]
          rfl
        obtain ⟨g, c2, hv, ⟨cur, hh⟩, hcell⟩ := own_cells e2 hl hc (by decide)
        rw [show conjRd.sz = 2 from rfl] at hcell
        simp only [hf]
        refine ⟨⟨g, c2, hv, ?_, blk_frozen hh _, ?_⟩, fun w' hu => ?_⟩
        · have := hcell 0 (.bool y.neg) (by rw [hcs]; rfl)
          simpa using this
        · exact hcell 1 _ (by rw [hcs]; rfl)
        · have := e3 k y _ hy hc w' (hu.mono hrc)
          rwa [hcs] at this
  obtain ⟨sq, hsq⟩ := Classical.axiomOfChoice h1
  refine ⟨sq, fun r x hx => ?_, fun r x hx => (hsq r x hx).1, fun r x k y hx hy => ((hsq r x hx).2 k y hy).1, fun r x k y hx hy => ((hsq r x hx).2 k y hy).2⟩
  have hr : r < rules.length := (List.getElem?_eq_some_iff.1 hx).1
  obtain ⟨css, e1, e2, e3⟩ := D.row
  have hraw : (rawL rules rules.length vc)[r]? = some (x.head, vc r) := by
    simp [rawL, List.getElem?_map, List.getElem?_range hr, headAt, hx]
  have hlen : (rawL rules rules.length vc).length = rules.length := by simp [rawL]
  rw [hlen] at e1 e2
  have hl : ∀ cs ∈ css, cs.length = rawRd.sz := fun cs hcs => by
    obtain ⟨i, hi, hic⟩ := List.mem_iff_getElem.1 hcs
    exact rawRd.len (e3 i ((rawL rules rules.length vc)[i]'(by omega)) cs (List.getElem?_eq_getElem (by omega)) (by rw [← hic]; exact List.getElem?_eq_getElem hi) w (Upd.refl _ _))
  have hk : r < css.length := by omega
  have hc : css[r]? = some (css[r]'hk) := List.getElem?_eq_getElem hk
  have hK := (e3 r _ _ hraw hc w (Upd.refl _ _)).1
  obtain ⟨g, c2, hv, ⟨cur, hh⟩, hcell⟩ := own_cells e2 hl hc (by decide)
  rw [show rawRd.sz = 2 from rfl] at hcell
  refine ⟨g, c2, hv, ?_, ?_, hcell 1 _ (by rw [hK]; rfl)⟩
  · rintro ⟨q, hq, hqb⟩
    exact (D.blk q g hq hqb).2.2 (by rw [hv]; simp [Value.ownBlock])
  · have := hcell 0 _ (by rw [hK]; rfl)
    simpa using this
/-- Some negations are struck out. -/
def MutSt (w0 : World) (rules : List Rul) (vc : Nat → Value) (sq : Nat → Nat → Value) (done : Nat → Nat → Prop) (w : World) : Prop :=
  Upd (RC rules.length vc) w0 w ∧ ∃ ng : Nat → Nat → Bool, (∀ (r : Nat) (x : Rul) (k : Nat) (y : Conj), rules[r]? = some x → x.conj[k]? = some y → ∃ g c, vc r = .slice (some ⟨g, 0, none⟩) x.conj.length c ∧ w.cell? ⟨g, k * 2, none⟩ = some (.bool (ng r k)) ∧ w.frozen? ⟨g, k * 2, none⟩ = false ∧ w.cell? ⟨g, k * 2 + 1, none⟩ = some (sq r k)) ∧
    ∀ r k, done r k → ng r k = false
theorem MutSt.start {w : World} {rules : List Rul} {vr : Value} {vc : Nat → Value} {sq : Nat → Nat → Value} (M : Mut0 w rules vr vc sq) : MutSt w rules vc sq (fun _ _ => False) w := by
  refine ⟨Upd.refl _ _, fun r k => (match rules[r]? with | some x => (match x.conj[k]? with | some y => y.neg | none => false) | none => false), fun r x k y hx hy => ?_, fun r k h => h.elim⟩
  simp only [hx, hy]
  exact M.cel r x k y hx hy
theorem MutSt.imp {w0 w : World} {rules : List Rul} {vc : Nat → Value} {sq : Nat → Nat → Value} {d d' : Nat → Nat → Prop} (h : MutSt w0 rules vc sq d w) (hd : ∀ r k, d' r k → d r k) : MutSt w0 rules vc sq d' w :=
  ⟨h.1, h.2.imp fun ng h => ⟨h.1, fun r k hh => h.2 r k (hd r k hh)⟩⟩
theorem MutSt.strike {w0 w : World} {rules : List Rul} {vc : Nat → Value} {sq : Nat → Nat → Value} {d : Nat → Nat → Prop} (h : MutSt w0 rules vc sq d w) {i j : Nat} {x : Rul} {y : Conj} (hx : rules[i]? = some x) (hy : x.conj[j]? = some y) {g c : Nat} (hg : vc i = .slice (some ⟨g, 0, none⟩) x.conj.length c) :
    MutSt w0 rules vc sq (fun r k => d r k ∨ (r = i ∧ k = j)) (w.setCell ⟨g, j * 2, none⟩ (.bool false)) := by
  classical
  obtain ⟨hu, ng, h1, h2⟩ := h
  have hi : i < rules.length := (List.getElem?_eq_some_iff.1 hx).1
  obtain ⟨gij, cij, eij, cell, -, -⟩ := h1 i x j y hx hy
  have egg : gij = g := by rw [hg] at eij; injection eij with e; injection e with e; injection e with e; exact e.symm
  subst egg
  refine ⟨hu.setCell (p := ⟨gij, j * 2, none⟩) ⟨i, hi, by rw [hg]; simp [Value.ownBlock]⟩ _, fun r k => if (∃ c', ∃ n', vc r = .slice (some ⟨gij, 0, none⟩) n' c') ∧ k = j then false else ng r k, fun r z k v hz hv => ?_, fun r k hd => ?_⟩
  · obtain ⟨g', c', e', a1, a2, a3⟩ := h1 r z k v hz hv
    refine ⟨g', c', e', ?_, by simpa using a2, ?_⟩
    · by_cases hh : (∃ c', ∃ n', vc r = .slice (some ⟨gij, 0, none⟩) n' c') ∧ k = j
      · simp only [hh, and_self, if_true]
        obtain ⟨⟨c2, n2, e2⟩, rfl⟩ := hh
        rw [e'] at e2
        injection e2 with e2
        injection e2 with e2
        injection e2 with e2
        subst e2
        exact World.cell?_setCell_same _ _ _ cell
      · simp only [hh, if_false]
        rw [World.cell?_setCell_other _ _ _ _ (fun e => hh (by
          injection e with e1 e2
          exact ⟨⟨c', _, by rw [e', e1]⟩, by omega⟩))]
        exact a1
    · rw [World.cell?_setCell_other _ _ _ _ (fun e => by injection e with e1 e2; omega)]
      exact a3
  · rcases hd with hd | ⟨rfl, rfl⟩
    · simp only [h2 r k hd]; split <;> rfl
    · exact if_pos ⟨⟨c, _, hg⟩, rfl⟩
/-- All are struck out. -/
theorem MutSt.all {w0 w : World} {rules : List Rul} {A : Option Addr} {c n : Nat} {vc : Nat → Value} {sq : Nat → Nat → Value} {d : Nat → Nat → Prop} (M : Mut0 w0 rules (.slice A n c) vc sq) (h : MutSt w0 rules vc sq d w) (hd : ∀ (r k : Nat) (x : Rul), rules[r]? = some x → k < x.conj.length → d r k) : rulRd.C w A (rules.map posR) := by
  obtain ⟨hu, ng, h1, h2⟩ := h
  intro r x' hx'
  rw [List.getElem?_map] at hx'
  cases hx : rules[r]? with
  | none => rw [hx] at hx'; cases hx'
  | some x =>
    rw [hx] at hx'
    injection hx' with hx'
    subst hx'
    obtain ⟨g, cc, ev, hn, c0, c1⟩ := M.row r x hx
    injection ev with eA
    obtain ⟨Ac, cl, ec, l1, l2⟩ := M.con r x hx
    refine ⟨_, [.int .i64 x.head, vc r], eA, ?_, fun j u hu' => ?_⟩
    · rw [ec, show x.conj.length = (posR x).conj.length by simp [posR]]
      refine rulRd_mk (x := posR x) (by simpa [posR] using l1) l2 (fun k y' hy' => ?_)
      have hy2 : (x.conj.map (fun y => (⟨false, y.seq⟩ : Conj)))[k]? = some y' := hy'
      rw [List.getElem?_map] at hy2
      cases hy : x.conj[k]? with
      | none => rw [hy] at hy2; cases hy2
      | some y =>
        rw [hy] at hy2
        injection hy2 with hy2
        subst hy2
        obtain ⟨g2, c2, e2, a1, a2, a3⟩ := h1 r x k y hx hy
        rw [ec] at e2
        injection e2 with e2
        refine ⟨_, [.bool false, sq r k], e2, ?_, fun j u hju => ?_⟩
        · obtain ⟨A3, c3, e3, m1, m2, m3⟩ := conjRd_open (M.stab r x k y hx hy w hu)
          injection e3 with _ e3
          injection e3 with e3 _
          rw [e3]
          exact conjRd_mk (x := ⟨false, y.seq⟩) m1 m2 m3
        · rw [add_plain, Nat.zero_add, show conjRd.sz = 2 from rfl]
          match j, hju with
          | 0, hju =>
            injection hju with hju
            subst hju
            rw [h2 r k (hd r k x hx (List.getElem?_eq_some_iff.1 hy).1)] at a1
            simpa using a1
          | 1, hju =>
            injection hju with hju
            subst hju
            exact a3
          | j + 2, hju => simp at hju
    · rw [add_plain, Nat.zero_add, show rulRd.sz = 2 from rfl]
      match j, hu' with
      | 0, hu' =>
        injection hu' with hu'
        subst hu'
        have := hu.cell c0 hn
        simpa using this
      | 1, hu' =>
        injection hu' with hu'
        subst hu'
        exact hu.cell c1 hn
      | j + 2, hu' => simp at hu'

/-! A rule more. -/
def addG (G : Gram) (x : Rul) : Gram := ⟨G.start, G.names, G.rules ++ [x]⟩
theorem more_ans {w w' : World} {t u : TS} {fin fin' : Rk × Rk} (T : Tab w t fin) (U : Tab w' u fin') {H : Gram} {x : Rul} (tG : t.G = posG H) (hG : u.G = addG t.G x) (hW : u.W = t.W) {m : Nat} (hm : m < t.K) {i j : Int} (i0 : 0 ≤ i) (ij : i ≤ j) (j1 : j ≤ t.W.size) (h : 0 < t.rank fin.1 m i j) :
    0 < u.rank fin'.1 m i j ∧ u.rank fin'.1 m i j ≤ t.rank fin.1 m i j := by
  have hK : u.K = t.K := by unfold TS.K; rw [hG]; rfl
  have hWs : u.W.size = t.W.size := by rw [hW]
  rw [rank_in hm i0 ij j1] at h ⊢
  rw [rank_in (by omega) i0 ij (by omega)]
  have V := T.view
  have V' := U.view
  rw [hW, hK] at V'
  have hrs : ∀ (r : Nat) (x : Rul), t.G.rules[r]? = some x → u.G.rules[r]? = some x := fun r y hy => by
    rw [hG]
    show (t.G.rules ++ [x])[r]? = some y
    rw [List.getElem?_append_left (List.getElem?_eq_some_iff.1 hy).1]
    exact hy
  have L := View.le V V' hrs (Nat.le_refl _) (fun _ _ _ => rfl) (fun h => t.lev.getD h 0) t.K (fun r z c y s hz hy hs => by
    obtain ⟨a, b⟩ := lev_sy T.H hz hy hs
    refine ⟨a, fun hn h0 => ?_⟩
    have := b h0
    rw [hn] at this
    simp only [negI, Bool.false_eq_true, if_false] at this
    omega) (fun r z c y i j hz hy hn => by
    rw [tG] at hz
    rw [posG_pos hz hy] at hn
    cases hn) (fin.1 m i j).toNat
  exact L.1 m i j hm (by have := (T.H.good.low m hm).2; unfold TS.K; omega) i0 ij j1 h (by omega)
end Go.Proofs.Ytmccdakmdcdbeaa
