/-
  P8: what a table's rows are, apart from where they lie: views; a view is fixed by its grammar and its bytes. No program in sight.
  P9: a view of a small grammar over a few bytes, checked by reckoning; the pairs' grammar. No program in sight.
-/
import Derived.Test.YtbidpeggdhkahaaP1
set_option linter.unusedSimpArgs false
set_option linter.unusedVariables false
namespace Go.Proofs.Ytbidpeggdhkahaa
open Go.RowKit

structure View (rs : List Rul) (K : Nat) (bt : Int → Int) (hi : Int) (N : Rk) (P : Nat → Nat → Nat → Int → Int → Int) : Prop where
  n0 : ∀ h i j, 0 ≤ N h i j
  p0 : ∀ r c pos i j, 0 ≤ P r c pos i j
  pEnd : ∀ (r : Nat) (x : Rul) (c : Nat) (y : Conj) (i j : Int), rs[r]? = some x → x.conj[c]? = some y → 0 ≤ i → i ≤ j → j ≤ hi → P r c y.seq.length i j = if i = j then 1 else 0
  pByte : ∀ (r : Nat) (x : Rul) (c : Nat) (y : Conj) (pos : Nat) (s : Sym) (i j : Int), rs[r]? = some x → x.conj[c]? = some y → y.seq[pos]? = some s → s.name < 0 → 0 ≤ i → i ≤ j → j ≤ hi →
    P r c pos i j = if i < j ∧ s.lo ≤ bt i ∧ bt i ≤ s.hi ∧ 0 < P r c (pos + 1) (i + 1) j then P r c (pos + 1) (i + 1) j + 1 else 0
  pName : ∀ (r : Nat) (x : Rul) (c : Nat) (y : Conj) (pos : Nat) (s : Sym) (i j : Int), rs[r]? = some x → x.conj[c]? = some y → y.seq[pos]? = some s → 0 ≤ s.name → 0 ≤ i → i ≤ j → j ≤ hi →
    BestIs (fun d => N s.name.toNat i (i + d)) (fun d => P r c (pos + 1) (i + d) j) (j - i + 1).toNat (P r c pos i j)
  nLe : ∀ (r : Nat) (x : Rul) (i j : Int), rs[r]? = some x → x.head.toNat < K → 0 ≤ i → i ≤ j → j ≤ hi → HoldsTo (fun c => P r c 0 i j) x.conj x.conj.length → 0 < N x.head.toNat i j ∧ N x.head.toNat i j ≤ topTo (fun c => P r c 0 i j) x.conj.length
  nIs : ∀ (h : Nat) (i j : Int), h < K → 0 ≤ i → i ≤ j → j ≤ hi → 0 < N h i j → ∃ r x, rs[r]? = some x ∧ x.head.toNat = h ∧ HoldsTo (fun c => P r c 0 i j) x.conj x.conj.length ∧ N h i j = topTo (fun c => P r c 0 i j) x.conj.length

/-- A table's rows are a view, of its first names and rules too, and of a part of its text. -/
theorem Sol.view {t : TS} (H : Law t) {st : Rk × Rk} (S : Sol t st) {rs : List Rul} {K : Nat} {δ hi : Int} (hrs : ∀ (r : Nat) (x : Rul), rs[r]? = some x → t.G.rules[r]? = some x) (hK : K ≤ t.K) (hnew : ∀ (r : Nat) (x : Rul), t.G.rules[r]? = some x → x.head.toNat < K → rs[r]? = some x) (h0 : 0 ≤ δ) (h1 : δ + hi ≤ t.W.size) :
    View rs K (fun i => btz t.W (i + δ)) hi (fun h i j => st.1 h (i + δ) (j + δ)) (fun r c pos i j => st.2 (t.off r c + pos) (i + δ) (j + δ)) := by
  have T := S.inv.tot
  have hB := H.big
  refine ⟨fun h i j => (T.1 _ _ _).1, fun r c pos i j => (T.2 _ _ _).1, fun r x c y i j hx hy i0 ij j1 => ?_, fun r x c y pos s i j hx hy hs hn i0 ij j1 => ?_, fun r x c y pos s i j hx hy hs hn i0 ij j1 => ?_, fun r x i j hx hk i0 ij j1 hh => ?_, fun h i j hk i0 ij j1 hp => ?_⟩
  · have h2 := S.p r c y.seq.length x y (i + δ) (j + δ) ⟨hrs r x hx, hy, Nat.le_refl _⟩ (by omega) (by omega) (by omega)
    unfold EqP restF at h2
    rw [List.getElem?_eq_none (Nat.le_refl _)] at h2
    simp only at h2 ⊢
    rw [h2]
    by_cases e : i = j
    · rw [if_pos e, if_pos (by omega)]
    · rw [if_neg e, if_neg (by omega)]
  · have hp : pos < y.seq.length := (List.getElem?_eq_some_iff.1 hs).1
    have h2 := S.p r c pos x y (i + δ) (j + δ) ⟨hrs r x hx, hy, by omega⟩ (by omega) (by omega) (by omega)
    unfold EqP restF at h2
    rw [hs] at h2
    simp only at h2 ⊢
    rw [if_pos hn] at h2
    have e1 : i + 1 + δ = i + δ + 1 := by omega
    rw [h2, e1, ← Nat.add_assoc]
    have h3 := T.2 (t.off r c + pos + 1) (i + δ + 1) (j + δ)
    by_cases e : i < j ∧ s.lo ≤ btz t.W (i + δ) ∧ btz t.W (i + δ) ≤ s.hi ∧ 0 < st.2 (t.off r c + pos + 1) (i + δ + 1) (j + δ)
    · rw [if_pos e, if_pos ⟨by omega, e.2⟩, wrap_id (by omega) (by unfold BIG at *; omega)]
    · rw [if_neg e, if_neg (fun e' => e ⟨by omega, e'.2⟩)]
  · have hp : pos < y.seq.length := (List.getElem?_eq_some_iff.1 hs).1
    have h2 := S.p r c pos x y (i + δ) (j + δ) ⟨hrs r x hx, hy, by omega⟩ (by omega) (by omega) (by omega)
    unfold EqP restF at h2
    rw [hs] at h2
    simp only at h2 ⊢
    rw [if_neg (by omega)] at h2
    have h3 := bestTo_is hB (f := fun d => st.1 s.name.toNat (i + δ) (i + δ + d)) (g := fun d => st.2 (t.off r c + pos + 1) (i + δ + d) (j + δ)) (fun d => (T.1 _ _ _).2) (fun d => (T.2 _ _ _).2) (j + δ - (i + δ) + 1).toNat
    rw [← h2] at h3
    have e1 : (j + δ - (i + δ) + 1).toNat = (j - i + 1).toNat := by omega
    rw [e1] at h3
    refine ⟨h3.low, fun hv => ?_, fun d hd a b => ?_⟩
    · obtain ⟨d, hd, a, b, e⟩ := h3.is hv
      have e2 : i + (d : Int) + δ = i + δ + d := by omega
      refine ⟨d, hd, ?_, ?_, ?_⟩
      · simp only [e2]; exact a
      · simp only [e2]; rw [← Nat.add_assoc]; exact b
      · simp only [e2]; rw [← Nat.add_assoc]; exact e
    · have e2 : i + (d : Int) + δ = i + δ + d := by omega
      simp only [e2] at a b ⊢
      rw [← Nat.add_assoc] at b ⊢
      exact h3.le d hd a b
  · have h2 := S.n x.head.toNat (i + δ) (j + δ) (by omega) (by omega) (by omega) (by omega)
    simp only [Nat.add_zero] at hh ⊢
    have h3 := h2.le r x (hrs r x hx) rfl ((ruleF_pos hB T.2).2 hh)
    rw [ruleF_yes hB T.2 hh] at h3
    exact h3
  · have h2 := S.n h (i + δ) (j + δ) (by omega) (by omega) (by omega) (by omega)
    simp only [Nat.add_zero] at hp ⊢
    obtain ⟨r, x, hx, hh, a, b⟩ := h2.is hp
    have hho := (ruleF_pos hB T.2).1 a
    rw [ruleF_yes hB T.2 hho] at b
    exact ⟨r, x, hnew r x hx (by omega), hh, hho, b⟩

section
variable {rs rs' : List Rul} {K K' : Nat} {bt bt' : Int → Int} {hi : Int} {N N' : Rk} {P P' : Nat → Nat → Nat → Int → Int → Int}
/-- All names of a row lie on a level or below. -/
def PlOK (lev : Nat → Int) (L : Int) (y : Conj) : Prop := ∀ s ∈ y.seq, 0 ≤ s.name → lev s.name.toNat ≤ L
/-- What one view has the other has, with no greater rank. -/
theorem View.le (V : View rs K bt hi N P) (V' : View rs' K' bt' hi N' P') (hrs : ∀ (r : Nat) (x : Rul), rs[r]? = some x → rs'[r]? = some x) (hKK : K ≤ K') (hbt : ∀ i, 0 ≤ i → i < hi → bt i = bt' i) (lev : Nat → Int) (L : Int)
    (hsy : ∀ (r : Nat) (x : Rul) (c : Nat) (y : Conj) (s : Sym), rs[r]? = some x → x.conj[c]? = some y → s ∈ y.seq → s.name < K ∧ (y.neg = false → 0 ≤ s.name → lev s.name.toNat ≤ lev x.head.toNat))
    (hneg : ∀ (r : Nat) (x : Rul) (c : Nat) (y : Conj) (i j : Int), rs[r]? = some x → x.conj[c]? = some y → y.neg = true → lev x.head.toNat ≤ L → 0 ≤ i → i ≤ j → j ≤ hi → P r c 0 i j = 0 → P' r c 0 i j = 0) :
    ∀ (m : Nat), (∀ (h : Nat) (i j : Int), h < K → lev h ≤ L → 0 ≤ i → i ≤ j → j ≤ hi → 0 < N h i j → N h i j ≤ m → 0 < N' h i j ∧ N' h i j ≤ N h i j) ∧
      (∀ (r : Nat) (x : Rul) (c : Nat) (y : Conj) (pos : Nat) (i j : Int), rs[r]? = some x → x.conj[c]? = some y → pos ≤ y.seq.length → PlOK lev L y → 0 ≤ i → i ≤ j → j ≤ hi → 0 < P r c pos i j → P r c pos i j ≤ m → 0 < P' r c pos i j ∧ P' r c pos i j ≤ P r c pos i j) := by
  intro m
  induction m with
  | zero => exact ⟨fun h i j _ _ _ _ _ a b => by omega, fun r x c y pos i j _ _ _ _ _ _ _ a b => by omega⟩
  | succ m ih =>
    obtain ⟨ihN, ihP⟩ := ih
    constructor
    · intro h i j hk hl i0 ij j1 hp hm
      obtain ⟨r, x, hx, hh, ho, e⟩ := V.nIs h i j hk i0 ij j1 hp
      have hle : ∀ (c : Nat) (y : Conj), x.conj[c]? = some y → y.neg = false → 0 < P' r c 0 i j ∧ P' r c 0 i j ≤ P r c 0 i j := by
        intro c y hy hyn
        have hc : c < x.conj.length := (List.getElem?_eq_some_iff.1 hy).1
        have h1 := ho c y hc hy
        rw [hyn] at h1
        have h2 : 0 < P r c 0 i j := by simpa using h1
        have h3 : P r c 0 i j + 1 ≤ topTo (fun c => P r c 0 i j) x.conj.length := topTo_at (f := fun c => P r c 0 i j) hc
        exact ihP r x c y 0 i j hx hy (Nat.zero_le _) (fun s hs h0 => by have := (hsy r x c y s hx hy hs).2 hyn h0; rw [hh] at this; omega) i0 ij j1 h2 (by omega)
      have hle2 : ∀ (c : Nat) (y : Conj), x.conj[c]? = some y → y.neg = true → P r c 0 i j = 0 ∧ P' r c 0 i j = 0 := by
        intro c y hy hyn
        have hc : c < x.conj.length := (List.getElem?_eq_some_iff.1 hy).1
        have h1 := ho c y hc hy
        rw [hyn] at h1
        have h2 : P r c 0 i j ≤ 0 := by simpa using h1
        have h3 := V.p0 r c 0 i j
        have h4 : P r c 0 i j = 0 := by omega
        exact ⟨h4, hneg r x c y i j hx hy hyn (by rw [hh]; exact hl) i0 ij j1 h4⟩
      have ho' : HoldsTo (fun c => P' r c 0 i j) x.conj x.conj.length := by
        intro c y hc hy
        cases hyn : y.neg with
        | false => have := (hle c y hy hyn).1; simpa using this
        | true => have := (hle2 c y hy hyn).2; simp [this]
      have h5 := V'.nLe r x i j (hrs r x hx) (by omega) i0 ij j1 ho'
      rw [hh] at h5
      refine ⟨h5.1, Int.le_trans h5.2 ?_⟩
      rw [e]
      refine topTo_le (topTo_ge _ _) (fun c hc => ?_)
      obtain ⟨y, hy⟩ : ∃ y, x.conj[c]? = some y := ⟨_, List.getElem?_eq_getElem hc⟩
      have h6 : P r c 0 i j + 1 ≤ topTo (fun c => P r c 0 i j) x.conj.length := topTo_at (f := fun c => P r c 0 i j) hc
      cases hyn : y.neg with
      | false => have := (hle c y hy hyn).2; omega
      | true => have := hle2 c y hy hyn; omega
    · intro r x c y pos i j hx hy hpl hok i0 ij j1 hp hm
      by_cases hlast : pos = y.seq.length
      · subst hlast
        rw [V.pEnd r x c y i j hx hy i0 ij j1] at hp ⊢
        rw [V'.pEnd r x c y i j (hrs r x hx) hy i0 ij j1]
        exact ⟨hp, Int.le_refl _⟩
      · obtain ⟨s, hs⟩ : ∃ s, y.seq[pos]? = some s := ⟨_, List.getElem?_eq_getElem (by omega)⟩
        by_cases hn : s.name < 0
        · have e1 := V.pByte r x c y pos s i j hx hy hs hn i0 ij j1
          have e2 := V'.pByte r x c y pos s i j (hrs r x hx) hy hs hn i0 ij j1
          by_cases hc : i < j ∧ s.lo ≤ bt i ∧ bt i ≤ s.hi ∧ 0 < P r c (pos + 1) (i + 1) j
          · rw [if_pos hc] at e1
            have h3 := ihP r x c y (pos + 1) (i + 1) j hx hy (by omega) hok (by omega) (by omega) j1 hc.2.2.2 (by omega)
            have hb := hbt i i0 (by omega)
            rw [if_pos ⟨hc.1, by rw [← hb]; exact hc.2.1, by rw [← hb]; exact hc.2.2.1, h3.1⟩] at e2
            omega
          · rw [if_neg hc] at e1; omega
        · have b1 := V.pName r x c y pos s i j hx hy hs (by omega) i0 ij j1
          have b2 := V'.pName r x c y pos s i j (hrs r x hx) hy hs (by omega) i0 ij j1
          obtain ⟨d, hd, a, b, e⟩ := b1.is hp
          have hsm := List.mem_of_getElem? hs
          have hsk := (hsy r x c y s hx hy hsm).1
          have h3 := ihN s.name.toNat i (i + d) (by omega) (hok s hsm (by omega)) i0 (by omega) (by omega) a (by omega)
          have h4 := ihP r x c y (pos + 1) (i + d) j hx hy (by omega) hok (by omega) (by omega) j1 b (by omega)
          have h5 := b2.le d hd h3.1 h4.1
          omega
end
/-- Two views of one grammar over the same bytes are one. -/
theorem View.eq {rs : List Rul} {K : Nat} {bt bt' : Int → Int} {hi : Int} {N N' : Rk} {P P' : Nat → Nat → Nat → Int → Int → Int} (V : View rs K bt hi N P) (V' : View rs K bt' hi N' P') (hbt : ∀ i, 0 ≤ i → i < hi → bt i = bt' i) (lev : Nat → Int)
    (hlow : ∀ (r : Nat) (x : Rul), rs[r]? = some x → 0 ≤ lev x.head.toNat) (hsy : ∀ (r : Nat) (x : Rul) (c : Nat) (y : Conj) (s : Sym), rs[r]? = some x → x.conj[c]? = some y → s ∈ y.seq → s.name < K ∧ (0 ≤ s.name → lev s.name.toNat + negI y.neg ≤ lev x.head.toNat)) :
    ∀ (n : Nat), (∀ (h : Nat) (i j : Int), h < K → lev h ≤ (n : Int) - 1 → 0 ≤ i → i ≤ j → j ≤ hi → N h i j = N' h i j) ∧
      (∀ (r : Nat) (x : Rul) (c : Nat) (y : Conj) (pos : Nat) (i j : Int), rs[r]? = some x → x.conj[c]? = some y → pos ≤ y.seq.length → PlOK lev ((n : Int) - 1) y → 0 ≤ i → i ≤ j → j ≤ hi → P r c pos i j = P' r c pos i j) := by
  have both : ∀ (L : Int), (∀ (r : Nat) (x : Rul) (c : Nat) (y : Conj) (i j : Int), rs[r]? = some x → x.conj[c]? = some y → y.neg = true → lev x.head.toNat ≤ L → 0 ≤ i → i ≤ j → j ≤ hi → P r c 0 i j = P' r c 0 i j) →
      (∀ (h : Nat) (i j : Int), h < K → lev h ≤ L → 0 ≤ i → i ≤ j → j ≤ hi → N h i j = N' h i j) ∧
      (∀ (r : Nat) (x : Rul) (c : Nat) (y : Conj) (pos : Nat) (i j : Int), rs[r]? = some x → x.conj[c]? = some y → pos ≤ y.seq.length → PlOK lev L y → 0 ≤ i → i ≤ j → j ≤ hi → P r c pos i j = P' r c pos i j) := by
    intro L hneg
    have hsy' : ∀ (r : Nat) (x : Rul) (c : Nat) (y : Conj) (s : Sym), rs[r]? = some x → x.conj[c]? = some y → s ∈ y.seq → s.name < K ∧ (y.neg = false → 0 ≤ s.name → lev s.name.toNat ≤ lev x.head.toNat) := fun r x c y s hx hy hs => by
      obtain ⟨a, b⟩ := hsy r x c y s hx hy hs
      refine ⟨a, fun hn h0 => ?_⟩
      have := b h0
      rw [hn] at this
      simp only [negI, Bool.false_eq_true, if_false] at this
      omega
    have A := View.le V V' (fun _ _ h => h) (Nat.le_refl _) hbt lev L hsy' (fun r x c y i j hx hy hn hl i0 ij j1 h0 => by rw [← hneg r x c y i j hx hy hn hl i0 ij j1]; exact h0)
    have B := View.le V' V (fun _ _ h => h) (Nat.le_refl _) (fun i a b => (hbt i a b).symm) lev L hsy' (fun r x c y i j hx hy hn hl i0 ij j1 h0 => by rw [hneg r x c y i j hx hy hn hl i0 ij j1]; exact h0)
    constructor
    · intro h i j hk hl i0 ij j1
      have h1 := V.n0 h i j
      have h2 := V'.n0 h i j
      by_cases a : 0 < N h i j
      · have k1 := (A (N h i j).toNat).1 h i j hk hl i0 ij j1 a (by omega)
        have k2 := (B (N' h i j).toNat).1 h i j hk hl i0 ij j1 k1.1 (by omega)
        omega
      · by_cases b : 0 < N' h i j
        · have k2 := (B (N' h i j).toNat).1 h i j hk hl i0 ij j1 b (by omega)
          omega
        · omega
    · intro r x c y pos i j hx hy hp hok i0 ij j1
      have h1 := V.p0 r c pos i j
      have h2 := V'.p0 r c pos i j
      by_cases a : 0 < P r c pos i j
      · have k1 := (A (P r c pos i j).toNat).2 r x c y pos i j hx hy hp hok i0 ij j1 a (by omega)
        have k2 := (B (P' r c pos i j).toNat).2 r x c y pos i j hx hy hp hok i0 ij j1 k1.1 (by omega)
        omega
      · by_cases b : 0 < P' r c pos i j
        · have k2 := (B (P' r c pos i j).toNat).2 r x c y pos i j hx hy hp hok i0 ij j1 b (by omega)
          omega
        · omega
  intro n
  induction n with
  | zero =>
    exact both _ (fun r x c y i j hx hy hn hl => by
      have := hlow r x hx
      omega)
  | succ n ih =>
    refine both _ (fun r x c y i j hx hy hn hl i0 ij j1 => ?_)
    refine ih.2 r x c y 0 i j hx hy (Nat.zero_le _) (fun s hs h0 => ?_) i0 ij j1
    have := (hsy r x c y s hx hy hs).2 h0
    rw [hn] at this
    simp only [negI, if_true] at this
    omega
end Go.Proofs.Ytbidpeggdhkahaa

set_option linter.unusedSimpArgs false
set_option linter.unusedVariables false
namespace Go.Proofs.Ytbidpeggdhkahaa
open Go.RowKit

def bestP (f g : Nat → Int) : Nat → Int
  | 0 => 0
  | n + 1 => if 0 < f n ∧ 0 < g n ∧ (bestP f g n = 0 ∨ 1 + max (f n) (g n) < bestP f g n) then 1 + max (f n) (g n) else bestP f g n
theorem bestP_is (f g : Nat → Int) : ∀ n, BestIs f g n (bestP f g n) := by
  intro n
  induction n with
  | zero => exact ⟨Int.le_refl _, fun h => by simp [bestP] at h, fun d hd => by omega⟩
  | succ n ih =>
    unfold bestP
    split
    · rename_i h
      refine ⟨by omega, fun _ => ⟨n, by omega, h.1, h.2.1, rfl⟩, fun d hd a b => ?_⟩
      by_cases e : d = n
      · subst e; omega
      · have := ih.le d (by omega) a b; omega
    · rename_i h
      refine ⟨ih.low, fun hv => ?_, fun d hd a b => ?_⟩
      · obtain ⟨d, hd, r⟩ := ih.is hv; exact ⟨d, by omega, r⟩
      · by_cases e : d = n
        · subst e
          have h0 := ih.low
          by_cases h1 : bestP f g d = 0
          · exact absurd ⟨a, b, .inl h1⟩ h
          · by_cases h2 : 1 + max (f d) (g d) < bestP f g d
            · exact absurd ⟨a, b, .inr h2⟩ h
            · omega
        · exact ih.le d (by omega) a b
def restV (bt : Int → Int) (N : Rk) (P : Nat → Nat → Nat → Int → Int → Int) (r c : Nat) (y : Conj) (pos : Nat) (i j : Int) : Int :=
  match y.seq[pos]? with
  | none => if i = j then 1 else 0
  | some s => if s.name < 0 then (if i < j ∧ s.lo ≤ bt i ∧ bt i ≤ s.hi ∧ 0 < P r c (pos + 1) (i + 1) j then P r c (pos + 1) (i + 1) j + 1 else 0)
    else bestP (fun d => N s.name.toNat i (i + d)) (fun d => P r c (pos + 1) (i + d) j) (j - i + 1).toNat
def holdsV (f : Nat → Int) (cs : List Conj) : Bool := (List.range cs.length).all (fun c => match cs[c]? with | some y => !(decide (0 < f c) == y.neg) | none => true)
theorem holdsV_iff {f : Nat → Int} {cs : List Conj} : holdsV f cs = true ↔ HoldsTo f cs cs.length := by
  unfold holdsV HoldsTo
  rw [List.all_eq_true]
  constructor
  · intro h c y hc hy
    have := h c (List.mem_range.2 hc)
    rw [hy] at this
    simpa using this
  · intro h c hc
    cases hy : cs[c]? with
    | none => rfl
    | some y => have := h c y (List.mem_range.1 hc) hy; simp [this]
def nameV (rs : List Rul) (P : Nat → Nat → Nat → Int → Int → Int) (h : Nat) (i j : Int) : Nat → Int
  | 0 => 0
  | n + 1 => match rs[n]? with
    | none => nameV rs P h i j n
    | some x => if x.head.toNat = h ∧ holdsV (fun c => P n c 0 i j) x.conj = true ∧ (nameV rs P h i j n = 0 ∨ topTo (fun c => P n c 0 i j) x.conj.length < nameV rs P h i j n) then topTo (fun c => P n c 0 i j) x.conj.length else nameV rs P h i j n
theorem nameV_spec (rs : List Rul) (P : Nat → Nat → Nat → Int → Int → Int) (h : Nat) (i j : Int) : ∀ n, 0 ≤ nameV rs P h i j n ∧
    (∀ r x, r < n → rs[r]? = some x → x.head.toNat = h → HoldsTo (fun c => P r c 0 i j) x.conj x.conj.length → 0 < nameV rs P h i j n ∧ nameV rs P h i j n ≤ topTo (fun c => P r c 0 i j) x.conj.length) ∧
    (0 < nameV rs P h i j n → ∃ r x, rs[r]? = some x ∧ x.head.toNat = h ∧ HoldsTo (fun c => P r c 0 i j) x.conj x.conj.length ∧ nameV rs P h i j n = topTo (fun c => P r c 0 i j) x.conj.length) := by
  intro n
  induction n with
  | zero => exact ⟨Int.le_refl _, fun r x hr => by omega, fun h => by simp [nameV] at h⟩
  | succ n ih =>
    obtain ⟨h0, h1, h2⟩ := ih
    unfold nameV
    cases hx : rs[n]? with
    | none =>
      refine ⟨h0, fun r x hr hx' => ?_, h2⟩
      by_cases e : r = n
      · subst e; rw [hx] at hx'; cases hx'
      · exact h1 r x (by omega) hx'
    | some x =>
      simp only
      have ht := topTo_ge (fun c => P n c 0 i j) x.conj.length
      split
      · rename_i hc
        refine ⟨by omega, fun r x' hr hx' hh ho => ?_, fun _ => ⟨n, x, hx, hc.1, holdsV_iff.1 hc.2.1, rfl⟩⟩
        by_cases e : r = n
        · subst e; rw [hx] at hx'; cases hx'; omega
        · have := h1 r x' (by omega) hx' hh ho; omega
      · rename_i hc
        refine ⟨h0, fun r x' hr hx' hh ho => ?_, h2⟩
        by_cases e : r = n
        · subst e
          rw [hx] at hx'
          cases hx'
          by_cases a : nameV rs P h i j r = 0
          · exact absurd ⟨hh, holdsV_iff.2 ho, .inl a⟩ hc
          · by_cases b : topTo (fun c => P r c 0 i j) x.conj.length < nameV rs P h i j r
            · exact absurd ⟨hh, holdsV_iff.2 ho, .inr b⟩ hc
            · omega
        · exact h1 r x' (by omega) hx' hh ho

/-! Tables. -/
def look2 (m : List (List Int)) (i j : Int) : Int := (m.getD i.toNat []).getD j.toNat 0
def tabN (m : List (List (List Int))) : Rk := fun h i j => look2 (m.getD h []) i j
def tabP (m : List (List (List (List (List Int))))) (r c pos : Nat) (i j : Int) : Int := look2 (((m.getD r []).getD c []).getD pos []) i j
def low2 (m : List (List Int)) : Bool := m.all (fun l => l.all (fun v => decide (0 ≤ v)))
theorem low2_get {m : List (List Int)} (h : low2 m = true) (i j : Int) : 0 ≤ look2 m i j := by
  unfold look2
  unfold low2 at h
  rw [List.all_eq_true] at h
  by_cases hi : i.toNat < m.length
  · have h1 := h _ (List.getElem_mem hi)
    rw [List.all_eq_true] at h1
    simp only [List.getD_eq_getElem?_getD, List.getElem?_eq_getElem hi, Option.getD_some]
    by_cases hj : j.toNat < (m[i.toNat]).length
    · have h2 := h1 _ (List.getElem_mem hj)
      rw [List.getElem?_eq_getElem hj]
      simpa using h2
    · rw [List.getElem?_eq_none (by omega)]; simp
  · simp [List.getD_eq_getElem?_getD, List.getElem?_eq_none (Nat.le_of_not_lt hi)]
theorem getD_all {α : Type} {l : List α} {p : α → Prop} {d : α} (h : ∀ x ∈ l, p x) (hd : p d) (n : Nat) : p (l.getD n d) := by
  by_cases hn : n < l.length
  · simp only [List.getD_eq_getElem?_getD, List.getElem?_eq_getElem hn, Option.getD_some]; exact h _ (List.getElem_mem hn)
  · simp only [List.getD_eq_getElem?_getD, List.getElem?_eq_none (Nat.le_of_not_lt hn), Option.getD_none]; exact hd
def checkP (rs : List Rul) (bt : Int → Int) (n : Nat) (N : Rk) (P : Nat → Nat → Nat → Int → Int → Int) : Bool :=
  (List.range rs.length).all fun r => match rs[r]? with
    | none => true
    | some x => (List.range x.conj.length).all fun c => match x.conj[c]? with
      | none => true
      | some y => (List.range (y.seq.length + 1)).all fun pos => (List.range (n + 1)).all fun i => (List.range (n + 1)).all fun j => decide (j < i) || decide (P r c pos i j = restV bt N P r c y pos i j)
def checkN (rs : List Rul) (K n : Nat) (N : Rk) (P : Nat → Nat → Nat → Int → Int → Int) : Bool :=
  (List.range K).all fun h => (List.range (n + 1)).all fun i => (List.range (n + 1)).all fun j => decide (j < i) || decide (N h i j = nameV rs P h i j rs.length)
theorem checkP_at {rs : List Rul} {bt : Int → Int} {n : Nat} {N : Rk} {P : Nat → Nat → Nat → Int → Int → Int} (h : checkP rs bt n N P = true) {r : Nat} {x : Rul} {c : Nat} {y : Conj} {pos : Nat} {i j : Int} (hx : rs[r]? = some x) (hy : x.conj[c]? = some y) (hp : pos ≤ y.seq.length) (i0 : 0 ≤ i) (ij : i ≤ j) (j1 : j ≤ n) : P r c pos i j = restV bt N P r c y pos i j := by
  obtain ⟨a, rfl⟩ : ∃ a : Nat, i = a := ⟨i.toNat, by omega⟩
  obtain ⟨b, rfl⟩ : ∃ b : Nat, j = b := ⟨j.toNat, by omega⟩
  unfold checkP at h
  rw [List.all_eq_true] at h
  have h1 := h r (List.mem_range.2 (List.getElem?_eq_some_iff.1 hx).1)
  rw [hx] at h1
  simp only at h1
  rw [List.all_eq_true] at h1
  have h2 := h1 c (List.mem_range.2 (List.getElem?_eq_some_iff.1 hy).1)
  rw [hy] at h2
  simp only at h2
  rw [List.all_eq_true] at h2
  have h3 := h2 pos (List.mem_range.2 (by omega))
  rw [List.all_eq_true] at h3
  have h4 := h3 a (List.mem_range.2 (by omega))
  rw [List.all_eq_true] at h4
  have h5 := h4 b (List.mem_range.2 (by omega))
  rw [Bool.or_eq_true, decide_eq_true_eq, decide_eq_true_eq] at h5
  rcases h5 with h5 | h5
  · omega
  · exact h5
theorem checkN_at {rs : List Rul} {K n : Nat} {N : Rk} {P : Nat → Nat → Nat → Int → Int → Int} (h : checkN rs K n N P = true) {q : Nat} {i j : Int} (hq : q < K) (i0 : 0 ≤ i) (ij : i ≤ j) (j1 : j ≤ n) : N q i j = nameV rs P q i j rs.length := by
  obtain ⟨a, rfl⟩ : ∃ a : Nat, i = a := ⟨i.toNat, by omega⟩
  obtain ⟨b, rfl⟩ : ∃ b : Nat, j = b := ⟨j.toNat, by omega⟩
  unfold checkN at h
  rw [List.all_eq_true] at h
  have h1 := h q (List.mem_range.2 hq)
  rw [List.all_eq_true] at h1
  have h4 := h1 a (List.mem_range.2 (by omega))
  rw [List.all_eq_true] at h4
  have h5 := h4 b (List.mem_range.2 (by omega))
  rw [Bool.or_eq_true, decide_eq_true_eq, decide_eq_true_eq] at h5
  rcases h5 with h5 | h5
  · omega
  · exact h5
theorem view_of_tables {rs : List Rul} {K n : Nat} {bt : Int → Int} {mN : List (List (List Int))} {mP : List (List (List (List (List Int))))} (l1 : mN.all low2 = true) (l2 : (mP.all fun a => a.all fun b => b.all low2) = true) (h1 : checkP rs bt n (tabN mN) (tabP mP) = true) (h2 : checkN rs K n (tabN mN) (tabP mP) = true) :
    View rs K bt n (tabN mN) (tabP mP) := by
  refine ⟨fun h i j => ?_, fun r c pos i j => ?_, fun r x c y i j hx hy i0 ij j1 => ?_, fun r x c y pos s i j hx hy hs hn i0 ij j1 => ?_, fun r x c y pos s i j hx hy hs hn i0 ij j1 => ?_, fun r x i j hx hk i0 ij j1 ho => ?_, fun h i j hk i0 ij j1 hp => ?_⟩
  · rw [List.all_eq_true] at l1
    exact low2_get (getD_all (p := fun m => low2 m = true) (d := []) l1 rfl h) i j
  · rw [List.all_eq_true] at l2
    have a := getD_all (p := fun m : List (List (List (List Int))) => (m.all fun b => b.all low2) = true) (d := []) l2 rfl r
    rw [List.all_eq_true] at a
    have b := getD_all (p := fun m : List (List (List Int)) => m.all low2 = true) (d := []) a rfl c
    rw [List.all_eq_true] at b
    exact low2_get (getD_all (p := fun m => low2 m = true) (d := []) b rfl pos) i j
  · have := checkP_at h1 hx hy (Nat.le_refl _) i0 ij j1
    unfold restV at this
    rw [List.getElem?_eq_none (Nat.le_refl _)] at this
    exact this
  · have := checkP_at h1 hx hy (Nat.le_of_lt (List.getElem?_eq_some_iff.1 hs).1) i0 ij j1
    unfold restV at this
    rw [hs] at this
    simp only at this
    rw [if_pos hn] at this
    exact this
  · have := checkP_at h1 hx hy (Nat.le_of_lt (List.getElem?_eq_some_iff.1 hs).1) i0 ij j1
    unfold restV at this
    rw [hs] at this
    simp only at this
    rw [if_neg (by omega)] at this
    rw [this]
    exact bestP_is _ _ _
  · have h3 := checkN_at h2 hk i0 ij j1
    rw [h3]
    exact (nameV_spec rs (tabP mP) x.head.toNat i j rs.length).2.1 r x (List.getElem?_eq_some_iff.1 hx).1 hx rfl ho
  · have h3 := checkN_at h2 hk i0 ij j1
    rw [h3] at hp ⊢
    exact (nameV_spec rs (tabP mP) h i j rs.length).2.2 hp

/-! As many a as b, each a text that is no a alone. -/
def syA : Sym := ⟨-1, 97, 97⟩
def syB : Sym := ⟨-1, 98, 98⟩
def syS : Sym := ⟨0, 0, 0⟩
def syX : Sym := ⟨1, 0, 0⟩
def pairsG : Gram := ⟨0, [⟨#[83]⟩, ⟨#[88]⟩], [⟨0, [⟨false, [syA, syS, syB]⟩, ⟨true, [syX]⟩]⟩, ⟨0, [⟨false, []⟩]⟩, ⟨1, [⟨false, [syA]⟩]⟩, ⟨1, [⟨false, [syX, syX]⟩]⟩]⟩
def pairsLev : Nat → Int := fun h => if h = 0 then 1 else 0
def aabb : ByteArray := ⟨#[97, 97, 98, 98]⟩
def ab : ByteArray := ⟨#[97, 98]⟩
def n4 : List (List (List Int)) := [[[2, 0, 0, 0, 8], [0, 2, 0, 5, 0], [0, 0, 2, 0, 0], [0, 0, 0, 2, 0], [0, 0, 0, 0, 2]], [[0, 3, 6, 0, 0], [0, 0, 3, 0, 0], [0, 0, 0, 0, 0], [0, 0, 0, 0, 0], [0, 0, 0, 0, 0]]]
def p4 : List (List (List (List (List Int)))) := [[[[[0, 0, 0, 0, 7], [0, 0, 0, 4, 0], [0, 0, 0, 0, 0], [0, 0, 0, 0, 0], [0, 0, 0, 0, 0]], [[0, 0, 0, 0, 0], [0, 0, 0, 0, 6], [0, 0, 0, 3, 0], [0, 0, 0, 0, 3], [0, 0, 0, 0, 0]], [[0, 0, 0, 0, 0], [0, 0, 0, 0, 0], [0, 0, 0, 2, 0], [0, 0, 0, 0, 2], [0, 0, 0, 0, 0]], [[1, 0, 0, 0, 0], [0, 1, 0, 0, 0], [0, 0, 1, 0, 0], [0, 0, 0, 1, 0], [0, 0, 0, 0, 1]]], [[[0, 4, 7, 0, 0], [0, 0, 4, 0, 0], [0, 0, 0, 0, 0], [0, 0, 0, 0, 0], [0, 0, 0, 0, 0]], [[1, 0, 0, 0, 0], [0, 1, 0, 0, 0], [0, 0, 1, 0, 0], [0, 0, 0, 1, 0], [0, 0, 0, 0, 1]]]], [[[[1, 0, 0, 0, 0], [0, 1, 0, 0, 0], [0, 0, 1, 0, 0], [0, 0, 0, 1, 0], [0, 0, 0, 0, 1]]]], [[[[0, 2, 0, 0, 0], [0, 0, 2, 0, 0], [0, 0, 0, 0, 0], [0, 0, 0, 0, 0], [0, 0, 0, 0, 0]], [[1, 0, 0, 0, 0], [0, 1, 0, 0, 0], [0, 0, 1, 0, 0], [0, 0, 0, 1, 0], [0, 0, 0, 0, 1]]]], [[[[0, 0, 5, 0, 0], [0, 0, 0, 0, 0], [0, 0, 0, 0, 0], [0, 0, 0, 0, 0], [0, 0, 0, 0, 0]], [[0, 4, 7, 0, 0], [0, 0, 4, 0, 0], [0, 0, 0, 0, 0], [0, 0, 0, 0, 0], [0, 0, 0, 0, 0]], [[1, 0, 0, 0, 0], [0, 1, 0, 0, 0], [0, 0, 1, 0, 0], [0, 0, 0, 1, 0], [0, 0, 0, 0, 1]]]]]
def n2 : List (List (List Int)) := [[[2, 0, 5], [0, 2, 0], [0, 0, 2]], [[0, 3, 0], [0, 0, 0], [0, 0, 0]]]
def p2 : List (List (List (List (List Int)))) := [[[[[0, 0, 4], [0, 0, 0], [0, 0, 0]], [[0, 0, 0], [0, 0, 3], [0, 0, 0]], [[0, 0, 0], [0, 0, 2], [0, 0, 0]], [[1, 0, 0], [0, 1, 0], [0, 0, 1]]], [[[0, 4, 0], [0, 0, 0], [0, 0, 0]], [[1, 0, 0], [0, 1, 0], [0, 0, 1]]]], [[[[1, 0, 0], [0, 1, 0], [0, 0, 1]]]], [[[[0, 2, 0], [0, 0, 0], [0, 0, 0]], [[1, 0, 0], [0, 1, 0], [0, 0, 1]]]], [[[[0, 0, 0], [0, 0, 0], [0, 0, 0]], [[0, 4, 0], [0, 0, 0], [0, 0, 0]], [[1, 0, 0], [0, 1, 0], [0, 0, 1]]]]]
set_option maxRecDepth 100000 in
theorem view_aabb : View pairsG.rules 2 (fun i => btz aabb (i + 0)) 4 (tabN n4) (tabP p4) := view_of_tables (n := 4) (by decide +kernel) (by decide +kernel) (by decide +kernel) (by decide +kernel)
set_option maxRecDepth 100000 in
theorem view_ab : View pairsG.rules 2 (fun i => btz ab (i + 0)) 2 (tabN n2) (tabP p2) := view_of_tables (n := 2) (by decide +kernel) (by decide +kernel) (by decide +kernel) (by decide +kernel)
theorem pairs_mem {r : Nat} {x : Rul} (h : pairsG.rules[r]? = some x) : x ∈ pairsG.rules := List.mem_of_getElem? h
theorem pairs_low (r : Nat) (x : Rul) (_ : pairsG.rules[r]? = some x) : 0 ≤ pairsLev x.head.toNat := by unfold pairsLev; split <;> omega
theorem pairs_sy (r : Nat) (x : Rul) (c : Nat) (y : Conj) (s : Sym) (hx : pairsG.rules[r]? = some x) (hy : x.conj[c]? = some y) (hs : s ∈ y.seq) : s.name < ((2 : Nat) : Int) ∧ (0 ≤ s.name → pairsLev s.name.toNat + negI y.neg ≤ pairsLev x.head.toNat) := by
  have h1 : ∀ x ∈ pairsG.rules, ∀ y ∈ x.conj, ∀ s ∈ y.seq, s.name < 2 ∧ (0 ≤ s.name → pairsLev s.name.toNat + negI y.neg ≤ pairsLev x.head.toNat) := by
    intro x hx y hy s hs
    simp only [pairsG, List.mem_cons, List.mem_nil_iff, or_false] at hx
    rcases hx with rfl | rfl | rfl | rfl
    all_goals
      simp only [List.mem_cons, List.mem_nil_iff, or_false] at hy
    · rcases hy with rfl | rfl
      · simp only [List.mem_cons, List.mem_nil_iff, or_false] at hs
        rcases hs with rfl | rfl | rfl <;> decide
      · simp only [List.mem_cons, List.mem_nil_iff, or_false] at hs
        subst hs; decide
    · subst hy; simp at hs
    · subst hy
      simp only [List.mem_cons, List.mem_nil_iff, or_false] at hs
      subst hs; decide
    · subst hy
      simp only [List.mem_cons, List.mem_nil_iff, or_false, or_self] at hs
      subst hs; decide
  exact h1 x (pairs_mem hx) y (List.mem_of_getElem? hy) s hs
/-- Two views of the pairs' grammar over the same bytes are one. -/
theorem pairs_eq {bt bt' : Int → Int} {hi : Int} {N N' : Rk} {P P' : Nat → Nat → Nat → Int → Int → Int} (V : View pairsG.rules 2 bt hi N P) (V' : View pairsG.rules 2 bt' hi N' P') (hbt : ∀ i, 0 ≤ i → i < hi → bt i = bt' i) :
    (∀ (h : Nat) (i j : Int), h < 2 → 0 ≤ i → i ≤ j → j ≤ hi → N h i j = N' h i j) ∧ (∀ (r : Nat) (x : Rul) (c : Nat) (y : Conj) (pos : Nat) (i j : Int), pairsG.rules[r]? = some x → x.conj[c]? = some y → pos ≤ y.seq.length → 0 ≤ i → i ≤ j → j ≤ hi → P r c pos i j = P' r c pos i j) := by
  have h := View.eq V V' hbt pairsLev pairs_low pairs_sy 2
  refine ⟨fun q i j hq => h.1 q i j hq (by unfold pairsLev; split <;> omega), fun r x c y pos i j hx hy hp => h.2 r x c y pos i j hx hy hp (fun s _ _ => by unfold pairsLev; split <;> omega)⟩
end Go.Proofs.Ytbidpeggdhkahaa
