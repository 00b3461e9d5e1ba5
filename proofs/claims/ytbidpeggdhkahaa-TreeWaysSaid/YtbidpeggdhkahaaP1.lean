/-
  P1: what a rest's rank and a rule's rank are, in the terms of less and more. No program in sight.
  P2: how many ranks there are, and how much room is below them: what each step of the table's reckoning turns. No program in sight.
  P3: a pass, a round's names: what holds behind them if each single step keeps it; what it means that nothing turned. No program in sight.
  P4: one level of one span: what its passes leave. No program in sight.
  P5: the rounds of one level of one span: what they keep, that they end, what stands at their end. No program in sight.
  P6: all spans, all levels: the table's rows solve the equations; the reckoning ends. No program in sight.
-/
import Derived.Test.YtbidpeggdhkahaaMp
import Derived.Test.YtbidpeggdhkahaaW3
set_option linter.unusedSimpArgs false
set_option linter.unusedVariables false
namespace Go.Proofs.Ytbidpeggdhkahaa
open Go.RowKit

def BIG : Int := 1099511627776
theorem wrap_id {x : Int} (h0 : 0 ≤ x) (h1 : x ≤ 2 * BIG) : wrap64 x = x := by unfold BIG at h1; unfold wrap64; omega
structure BestIs (f g : Nat → Int) (n : Nat) (v : Int) : Prop where
  low : 0 ≤ v
  is : 0 < v → ∃ d, d < n ∧ 0 < f d ∧ 0 < g d ∧ v = 1 + max (f d) (g d)
  le : ∀ d, d < n → 0 < f d → 0 < g d → 0 < v ∧ v ≤ 1 + max (f d) (g d)
theorem bestTo_is {f g : Nat → Int} {B : Int} (hB : B ≤ BIG) (hf : ∀ d, f d ≤ B) (hg : ∀ d, g d ≤ B) : ∀ n, BestIs f g n (bestTo f g n) := by
  intro n
  induction n with
  | zero => exact ⟨Int.le_refl _, fun h => by simp [bestTo] at h, fun d hd => by omega⟩
  | succ n ih =>
    have h1 := hf n
    have h2 := hg n
    unfold bestTo bestStep
    rw [mxz_eq]
    by_cases hp : 0 < f n ∧ 0 < g n
    · have hw : wrap64 (1 + max (f n) (g n)) = 1 + max (f n) (g n) := wrap_id (by omega) (by unfold BIG at *; omega)
      rw [hw]
      by_cases hlt : bestTo f g n = 0 ∨ 1 + max (f n) (g n) < bestTo f g n
      · rw [if_pos ⟨hp.1, hp.2, hlt⟩]
        refine ⟨by omega, fun _ => ⟨n, by omega, hp.1, hp.2, rfl⟩, fun d hd h3 h4 => ?_⟩
        by_cases hdn : d = n
        · subst hdn; omega
        · have := ih.le d (by omega) h3 h4; omega
      · rw [if_neg (by rintro ⟨_, _, h⟩; exact hlt h)]
        refine ⟨ih.low, fun h => ?_, fun d hd h3 h4 => ?_⟩
        · obtain ⟨d, h5, h6⟩ := ih.is h; exact ⟨d, by omega, h6⟩
        · by_cases hdn : d = n
          · subst hdn; have := ih.low; omega
          · exact ih.le d (by omega) h3 h4
    · rw [if_neg (by rintro ⟨h3, h4, _⟩; exact hp ⟨h3, h4⟩)]
      refine ⟨ih.low, fun h => ?_, fun d hd h3 h4 => ?_⟩
      · obtain ⟨d, h5, h6⟩ := ih.is h; exact ⟨d, by omega, h6⟩
      · by_cases hdn : d = n
        · subst hdn; exact absurd ⟨h3, h4⟩ hp
        · exact ih.le d (by omega) h3 h4
theorem BestIs.bound {f g : Nat → Int} {n : Nat} {v B : Int} (h : BestIs f g n v) (h0 : 0 ≤ B) (hf : ∀ d, f d ≤ B) (hg : ∀ d, g d ≤ B) : v ≤ B + 1 := by
  by_cases hv : 0 < v
  · obtain ⟨d, -, -, -, e⟩ := h.is hv
    have := hf d
    have := hg d
    omega
  · omega
theorem BestIs.eq {f g : Nat → Int} {n : Nat} {v v' : Int} (h : BestIs f g n v) (h' : BestIs f g n v') : v = v' := by
  have h1 := h.low
  have h2 := h'.low
  by_cases hv : 0 < v
  · obtain ⟨d, hd, a, b, e⟩ := h.is hv
    have k1 := h'.le d hd a b
    obtain ⟨d', hd', a', b', e'⟩ := h'.is k1.1
    have k2 := h.le d' hd' a' b'
    omega
  · by_cases hv' : 0 < v'
    · obtain ⟨d, hd, a, b, e⟩ := h'.is hv'
      have k1 := h.le d hd a b
      omega
    · omega
/-- A number became better: it is there, and no greater. -/
def Better (v v' : Int) : Prop := v' = v ∨ (0 < v' ∧ (v ≤ 0 ∨ v' < v))
theorem Better.refl (v : Int) : Better v v := .inl rfl
theorem Better.pos {v v' : Int} (h : Better v v') (hv : 0 < v) : 0 < v' ∧ v' ≤ v := by rcases h with rfl | ⟨h1, h2⟩ <;> omega
theorem Better.trans {a b c : Int} (h : Better a b) (k : Better b c) : Better a c := by
  rcases h with rfl | ⟨h1, h2⟩
  · exact k
  · rcases k with rfl | ⟨k1, k2⟩
    · exact .inr ⟨h1, h2⟩
    · exact .inr ⟨k1, by omega⟩
theorem BestIs.mono {f g f' g' : Nat → Int} {n : Nat} {v v' : Int} (h : BestIs f g n v) (h' : BestIs f' g' n v') (hf : ∀ d, d < n → Better (f d) (f' d)) (hg : ∀ d, d < n → Better (g d) (g' d)) (hv : 0 < v) : 0 < v' ∧ v' ≤ v := by
  obtain ⟨d, hd, a, b, e⟩ := h.is hv
  have k1 := (hf d hd).pos a
  have k2 := (hg d hd).pos b
  have k3 := h'.le d hd k1.1 k2.1
  omega
theorem bestTo_congr {f g f' g' : Nat → Int} : ∀ {n : Nat}, (∀ d, d < n → f d = f' d) → (∀ d, d < n → g d = g' d) → bestTo f g n = bestTo f' g' n := by
  intro n
  induction n with
  | zero => intro _ _; rfl
  | succ n ih =>
    intro hf hg
    unfold bestTo
    rw [ih (fun d hd => hf d (by omega)) (fun d hd => hg d (by omega)), hf n (by omega), hg n (by omega)]

def Bdd (B : Int) (f : Rk) : Prop := ∀ q i j, 0 ≤ f q i j ∧ f q i j ≤ B
/-- A rest's rank hangs on these alone. -/
theorem restF_congr {t : TS} {NM PL NM' PL' : Rk} {seq : List Sym} {a pos : Nat} {i j : Int}
    (hN : ∀ s, seq[pos]? = some s → 0 ≤ s.name → ∀ k, i ≤ k → k ≤ j → NM s.name.toNat i k = NM' s.name.toNat i k) (hP : pos < seq.length → ∀ k, i ≤ k → k ≤ j → PL (a + pos + 1) k j = PL' (a + pos + 1) k j) :
    restF t NM PL seq a pos i j = restF t NM' PL' seq a pos i j := by
  unfold restF
  cases hs : seq[pos]? with
  | none => rfl
  | some s =>
    simp only
    have hP := hP (List.getElem?_eq_some_iff.1 hs).1
    by_cases hn : s.name < 0
    · rw [if_pos hn, if_pos hn]
      by_cases hij : i < j
      · rw [hP (i + 1) (by omega) (by omega)]
      · rw [if_neg (by omega), if_neg (by omega)]
    · rw [if_neg hn, if_neg hn]
      exact bestTo_congr (fun d hd => hN s hs (by omega) _ (by omega) (by omega)) (fun d hd => hP _ (by omega) (by omega))
theorem restF_bound {t : TS} {NM PL : Rk} {B : Int} (h0 : 0 ≤ B) (hB : B ≤ BIG) (hN : Bdd B NM) (hP : Bdd B PL) (seq : List Sym) (a pos : Nat) (i j : Int) : 0 ≤ restF t NM PL seq a pos i j ∧ restF t NM PL seq a pos i j ≤ B + 1 := by
  unfold restF
  cases seq[pos]? with
  | none => simp only; split <;> omega
  | some s =>
    simp only
    split
    · split
      · have := hP (a + pos + 1) (i + 1) j
        rw [wrap_id (by omega) (by unfold BIG at *; omega)]
        omega
      · omega
    · have h1 := bestTo_is hB (f := fun d => NM s.name.toNat i (i + d)) (g := fun d => PL (a + pos + 1) (i + d) j) (fun d => (hN _ _ _).2) (fun d => (hP _ _ _).2) (j - i + 1).toNat
      exact ⟨h1.low, h1.bound h0 (fun d => (hN _ _ _).2) (fun d => (hP _ _ _).2)⟩
theorem restF_mono {t : TS} {NM PL NM' PL' : Rk} {B : Int} (hB : B ≤ BIG) (hN : Bdd B NM) (hP : Bdd B PL) (hN' : Bdd B NM') (hP' : Bdd B PL') {seq : List Sym} {a pos : Nat} {i j : Int}
    (bN : ∀ q k l, Better (NM q k l) (NM' q k l)) (bP : ∀ q k l, Better (PL q k l) (PL' q k l)) (h : 0 < restF t NM PL seq a pos i j) : 0 < restF t NM' PL' seq a pos i j ∧ restF t NM' PL' seq a pos i j ≤ restF t NM PL seq a pos i j := by
  unfold restF at h ⊢
  cases hs : seq[pos]? with
  | none => rw [hs] at h; simp only at h ⊢; omega
  | some s =>
    rw [hs] at h
    simp only at h ⊢
    by_cases hn : s.name < 0
    · rw [if_pos hn] at h ⊢
      rw [if_pos hn]
      by_cases hc : i < j ∧ s.lo ≤ btz t.W i ∧ btz t.W i ≤ s.hi ∧ 0 < PL (a + pos + 1) (i + 1) j
      · obtain ⟨c1, c2, c3, c4⟩ := hc
        have k := (bP (a + pos + 1) (i + 1) j).pos c4
        have k1 := (hP (a + pos + 1) (i + 1) j)
        have k2 := (hP' (a + pos + 1) (i + 1) j)
        rw [if_pos ⟨c1, c2, c3, k.1⟩, if_pos ⟨c1, c2, c3, c4⟩, wrap_id (by omega) (by unfold BIG at *; omega), wrap_id (by omega) (by unfold BIG at *; omega)]
        omega
      · rw [if_neg hc] at h; omega
    · rw [if_neg hn] at h ⊢
      rw [if_neg hn]
      exact BestIs.mono (bestTo_is hB (fun d => (hN _ _ _).2) (fun d => (hP _ _ _).2) _) (bestTo_is hB (fun d => (hN' _ _ _).2) (fun d => (hP' _ _ _).2) _) (fun d _ => bN _ _ _) (fun d _ => bP _ _ _) h

/-! A rule's rank. -/
def topTo (f : Nat → Int) : Nat → Int
  | 0 => 1
  | n + 1 => max (topTo f n) (f n + 1)
theorem topTo_ge (f : Nat → Int) (n : Nat) : 1 ≤ topTo f n := by
  induction n with
  | zero => exact Int.le_refl _
  | succ n ih => unfold topTo; omega
theorem topTo_at {f : Nat → Int} {n c : Nat} (h : c < n) : f c + 1 ≤ topTo f n := by
  induction n with
  | zero => omega
  | succ n ih =>
    unfold topTo
    by_cases hc : c = n
    · subst hc; omega
    · have := ih (by omega); omega
theorem topTo_le {f : Nat → Int} {n : Nat} {B : Int} (h0 : 1 ≤ B) (h : ∀ c, c < n → f c + 1 ≤ B) : topTo f n ≤ B := by
  induction n with
  | zero => exact h0
  | succ n ih =>
    have h1 := ih (fun c hc => h c (by omega))
    have h2 := h n (by omega)
    unfold topTo
    omega
theorem topTo_congr {f g : Nat → Int} {n : Nat} (h : ∀ c, c < n → f c = g c) : topTo f n = topTo g n := by
  induction n with
  | zero => rfl
  | succ n ih => unfold topTo; rw [ih (fun c hc => h c (by omega)), h n (by omega)]
def HoldsTo (f : Nat → Int) (cs : List Conj) (n : Nat) : Prop := ∀ c y, c < n → cs[c]? = some y → (decide (0 < f c) == y.neg) = false
theorem ruleTo_eq {t : TS} {PL : Rk} {r : Nat} {cs : List Conj} {i j : Int} {B : Int} (hB : B ≤ BIG) (hP : Bdd B PL) : ∀ n, n ≤ cs.length →
    (HoldsTo (fun c => PL (t.off r c) i j) cs n → ruleTo t PL r cs i j n = some (topTo (fun c => PL (t.off r c) i j) n)) ∧ (¬ HoldsTo (fun c => PL (t.off r c) i j) cs n → ruleTo t PL r cs i j n = none) := by
  intro n
  induction n with
  | zero => intro _; exact ⟨fun _ => rfl, fun h => absurd (fun c y hc => by omega) h⟩
  | succ n ih =>
    intro hn
    obtain ⟨h1, h2⟩ := ih (by omega)
    obtain ⟨y, hy⟩ : ∃ y, cs[n]? = some y := ⟨_, List.getElem?_eq_getElem (by omega)⟩
    have hb := hP (t.off r n) i j
    constructor
    · intro h
      have h3 : HoldsTo (fun c => PL (t.off r c) i j) cs n := fun c y hc => h c y (by omega)
      have h4 := h n y (by omega) hy
      simp only [ruleTo, h1 h3, hy, h4, topTo, mxz_eq]
      rw [wrap_id (by omega) (by unfold BIG at *; omega)]
      rfl
    · intro h
      by_cases h3 : HoldsTo (fun c => PL (t.off r c) i j) cs n
      · have h4 : (decide (0 < PL (t.off r n) i j) == y.neg) = true := by
          rw [← Bool.not_eq_false]
          intro h5
          apply h
          intro c y' hc hy'
          by_cases hcn : c = n
          · subst hcn; rw [hy] at hy'; cases hy'; exact h5
          · exact h3 c y' (by omega) hy'
        simp only [ruleTo, h1 h3, hy, h4]
        rfl
      · simp only [ruleTo, h2 h3]
theorem ruleF_yes {t : TS} {PL : Rk} {r : Nat} {cs : List Conj} {i j : Int} {B : Int} (hB : B ≤ BIG) (hP : Bdd B PL) (h : HoldsTo (fun c => PL (t.off r c) i j) cs cs.length) : ruleF t PL r cs i j = topTo (fun c => PL (t.off r c) i j) cs.length := by
  unfold ruleF; rw [(ruleTo_eq hB hP cs.length (Nat.le_refl _)).1 h]; rfl
theorem ruleF_no {t : TS} {PL : Rk} {r : Nat} {cs : List Conj} {i j : Int} {B : Int} (hB : B ≤ BIG) (hP : Bdd B PL) (h : ¬ HoldsTo (fun c => PL (t.off r c) i j) cs cs.length) : ruleF t PL r cs i j = 0 := by
  unfold ruleF; rw [(ruleTo_eq hB hP cs.length (Nat.le_refl _)).2 h]; rfl
theorem ruleF_pos {t : TS} {PL : Rk} {r : Nat} {cs : List Conj} {i j : Int} {B : Int} (hB : B ≤ BIG) (hP : Bdd B PL) : 0 < ruleF t PL r cs i j ↔ HoldsTo (fun c => PL (t.off r c) i j) cs cs.length := by
  by_cases h : HoldsTo (fun c => PL (t.off r c) i j) cs cs.length
  · rw [ruleF_yes hB hP h]; have := topTo_ge (fun c => PL (t.off r c) i j) cs.length; exact ⟨fun _ => h, fun _ => by omega⟩
  · rw [ruleF_no hB hP h]; exact ⟨fun h' => by omega, fun h' => absurd h' h⟩
theorem ruleF_bound {t : TS} {PL : Rk} {r : Nat} {cs : List Conj} {i j : Int} {B : Int} (h0 : 0 ≤ B) (hB : B ≤ BIG) (hP : Bdd B PL) : 0 ≤ ruleF t PL r cs i j ∧ ruleF t PL r cs i j ≤ B + 1 := by
  by_cases h : HoldsTo (fun c => PL (t.off r c) i j) cs cs.length
  · rw [ruleF_yes hB hP h]
    have h1 := topTo_ge (fun c => PL (t.off r c) i j) cs.length
    have h2 := topTo_le (f := fun c => PL (t.off r c) i j) (n := cs.length) (B := B + 1) (by omega) (fun c _ => by have := (hP (t.off r c) i j).2; omega)
    omega
  · rw [ruleF_no hB hP h]; omega
theorem ruleTo_congr {t : TS} {PL PL' : Rk} {r : Nat} {cs : List Conj} {i j : Int} : ∀ {n : Nat}, (∀ c, c < n → PL (t.off r c) i j = PL' (t.off r c) i j) → ruleTo t PL r cs i j n = ruleTo t PL' r cs i j n := by
  intro n
  induction n with
  | zero => intro _; rfl
  | succ n ih =>
    intro h
    simp only [ruleTo, ih (fun c hc => h c (by omega)), h n (by omega)]
theorem ruleF_congr {t : TS} {PL PL' : Rk} {r : Nat} {cs : List Conj} {i j : Int} (h : ∀ c, c < cs.length → PL (t.off r c) i j = PL' (t.off r c) i j) : ruleF t PL r cs i j = ruleF t PL' r cs i j := by
  unfold ruleF; rw [ruleTo_congr h]
theorem ruleF_mono {t : TS} {PL PL' : Rk} {r : Nat} {cs : List Conj} {i j : Int} {B : Int} (hB : B ≤ BIG) (hP : Bdd B PL) (hP' : Bdd B PL') (hb : ∀ c y, cs[c]? = some y → y.neg = false → Better (PL (t.off r c) i j) (PL' (t.off r c) i j)) (hn : ∀ c y, cs[c]? = some y → y.neg = true → PL' (t.off r c) i j = PL (t.off r c) i j)
    (h : 0 < ruleF t PL r cs i j) : 0 < ruleF t PL' r cs i j ∧ ruleF t PL' r cs i j ≤ ruleF t PL r cs i j := by
  have hh := (ruleF_pos hB hP).1 h
  have hh' : HoldsTo (fun c => PL' (t.off r c) i j) cs cs.length := fun c y hc hy => by
    have h1 := hh c y hc hy
    cases hyn : y.neg with
    | true => rw [hyn] at h1; simp only [hn c y hy hyn] at h1 ⊢; exact h1
    | false =>
      rw [hyn] at h1
      have h2 : 0 < PL (t.off r c) i j := by simpa using h1
      have h3 := ((hb c y hy hyn).pos h2).1
      simpa using h3
  refine ⟨(ruleF_pos hB hP').2 hh', ?_⟩
  rw [ruleF_yes hB hP hh, ruleF_yes hB hP' hh']
  refine topTo_le (topTo_ge _ _) (fun c hc => ?_)
  obtain ⟨y, hy⟩ : ∃ y, cs[c]? = some y := ⟨_, List.getElem?_eq_getElem hc⟩
  have h5 : PL (t.off r c) i j + 1 ≤ topTo (fun c => PL (t.off r c) i j) cs.length := topTo_at (f := fun c => PL (t.off r c) i j) hc
  show PL' (t.off r c) i j + 1 ≤ _
  cases hyn : y.neg with
  | true => rw [hn c y hy hyn]; exact h5
  | false =>
    have h1 := hh c y hc hy
    rw [hyn] at h1
    have h2 : 0 < PL (t.off r c) i j := by simpa using h1
    have h3 := ((hb c y hy hyn).pos h2).2
    omega
end Go.Proofs.Ytbidpeggdhkahaa

namespace Go.Proofs.Ytbidpeggdhkahaa
open Go.RowKit

def sumTo (g : Nat → Nat) : Nat → Nat
  | 0 => 0
  | n + 1 => sumTo g n + g n
theorem sumTo_congr {g h : Nat → Nat} : ∀ {n : Nat}, (∀ k, k < n → g k = h k) → sumTo g n = sumTo h n := by
  intro n
  induction n with
  | zero => intro _; rfl
  | succ n ih => intro he; simp only [sumTo, ih (fun k hk => he k (by omega)), he n (by omega)]
theorem sumTo_upd {g h : Nat → Nat} {k0 : Nat} (hne : ∀ k, k ≠ k0 → h k = g k) : ∀ {n : Nat}, k0 < n → sumTo h n + g k0 = sumTo g n + h k0 := by
  intro n
  induction n with
  | zero => intro hk; omega
  | succ n ih =>
    intro hk
    by_cases hkn : k0 = n
    · subst hkn
      have := sumTo_congr (g := h) (h := g) (n := k0) (fun k hk => hne k (by omega))
      simp only [sumTo]
      omega
    · have h1 := ih (by omega)
      have h2 := hne n (by omega)
      simp only [sumTo]
      omega
theorem sumTo_le {g : Nat → Nat} {B : Nat} (h : ∀ k, g k ≤ B) (n : Nat) : sumTo g n ≤ n * B := by
  induction n with
  | zero => simp [sumTo]
  | succ n ih => have := h n; simp only [sumTo, Nat.add_mul, Nat.one_mul]; omega
def potR (wt : Int → Nat) (f : Rk) (Q n : Nat) : Nat := sumTo (fun q => sumTo (fun i => sumTo (fun j => wt (f q i j)) (n + 1)) (n + 1)) Q
theorem potR_put {wt : Int → Nat} {f : Rk} {Q n q : Nat} {i j v : Int} (hq : q < Q) (i0 : 0 ≤ i) (i1 : i ≤ n) (j0 : 0 ≤ j) (j1 : j ≤ n) : potR wt (putR f q i j v) Q n + wt (f q i j) = potR wt f Q n + wt v := by
  obtain ⟨a, rfl⟩ : ∃ a : Nat, i = a := ⟨i.toNat, by omega⟩
  obtain ⟨b, rfl⟩ : ∃ b : Nat, j = b := ⟨j.toNat, by omega⟩
  have h3 := sumTo_upd (g := fun y : Nat => wt (f q a y)) (h := fun y : Nat => wt (putR f q a b v q a y)) (k0 := b) (fun k hk => by simp only [putR]; rw [if_neg (by rintro ⟨_, _, h⟩; omega)]) (n := n + 1) (by omega)
  have h2 := sumTo_upd (g := fun x : Nat => sumTo (fun y : Nat => wt (f q x y)) (n + 1)) (h := fun x : Nat => sumTo (fun y : Nat => wt (putR f q a b v q x y)) (n + 1)) (k0 := a) (fun k hk => by
    apply sumTo_congr
    intro y _
    simp only [putR]
    rw [if_neg (by rintro ⟨_, h, _⟩; omega)]) (n := n + 1) (by omega)
  have h1 := sumTo_upd (g := fun p : Nat => sumTo (fun x : Nat => sumTo (fun y : Nat => wt (f p x y)) (n + 1)) (n + 1)) (h := fun p : Nat => sumTo (fun x : Nat => sumTo (fun y : Nat => wt (putR f q a b v p x y)) (n + 1)) (n + 1)) (k0 := q) (fun k hk => by
    apply sumTo_congr
    intro x _
    apply sumTo_congr
    intro y _
    simp only [putR]
    rw [if_neg (by rintro ⟨h, _⟩; omega)]) (n := Q) hq
  have e : putR f q a b v q a b = v := by simp [putR]
  rw [e] at h3
  unfold potR
  omega
def wtC (x : Int) : Nat := if x = 0 then 0 else 1
def wtM (B : Nat) (x : Int) : Nat := if x ≤ 0 then B + 1 else x.toNat
theorem potR_wtC_le (f : Rk) (Q n : Nat) : potR wtC f Q n ≤ Q * ((n + 1) * (n + 1)) := by
  unfold potR
  refine sumTo_le (fun q => ?_) Q
  refine sumTo_le (fun i => ?_) (n + 1)
  have := sumTo_le (g := fun j : Nat => wtC (f q i j)) (B := 1) (fun j => by unfold wtC; split <;> omega) (n + 1)
  omega
theorem lessB_true {old rank : Int} (h : lessB old rank = true) : rank ≠ 0 ∧ (old ≤ 0 ∨ rank < old) := by
  unfold lessB at h
  simp only [Bool.not_eq_true', Bool.or_eq_false_iff, beq_eq_false_iff_ne, Bool.and_eq_false_iff, decide_eq_false_iff_not] at h
  omega
theorem lessB_false {old rank : Int} (h : lessB old rank = false) : rank = 0 ∨ (0 < old ∧ old ≤ rank) := by
  unfold lessB at h
  simp only [Bool.not_eq_false', Bool.or_eq_true, beq_iff_eq, Bool.and_eq_true, decide_eq_true_eq] at h
  exact h

def cntS (t : TS) (st : Rk × Rk) : Nat := potR wtC st.1 t.K t.W.size + potR wtC st.2 t.Q t.W.size
def totS (t : TS) : Nat := t.K * ((t.W.size + 1) * (t.W.size + 1)) + t.Q * ((t.W.size + 1) * (t.W.size + 1))
def meaS (t : TS) (st : Rk × Rk) : Nat := potR (wtM (totS t)) st.1 t.K t.W.size + potR (wtM (totS t)) st.2 t.Q t.W.size
theorem cntS_le (t : TS) (st : Rk × Rk) : cntS t st ≤ totS t := by
  have h1 := potR_wtC_le st.1 t.K t.W.size
  have h2 := potR_wtC_le st.2 t.Q t.W.size
  unfold cntS totS
  omega
theorem totS_le {t : TS} (F : t.Fits) : (totS t : Int) ≤ 110000000 := by
  have h1 := F.W32
  have h2 := F.K64
  have h3 := F.Q
  have h4 : (t.W.size + 1) * (t.W.size + 1) ≤ 33 * 33 := Nat.mul_le_mul (by omega) (by omega)
  have h5 : t.K * ((t.W.size + 1) * (t.W.size + 1)) ≤ 64 * (33 * 33) := Nat.mul_le_mul h2 h4
  have h6 : t.Q * ((t.W.size + 1) * (t.W.size + 1)) ≤ 100000 * (33 * 33) := Nat.mul_le_mul h3 h4
  unfold totS
  omega
/-- No rank is above the count of ranks. -/
def InvB (t : TS) (st : Rk × Rk) : Prop := Bdd (cntS t st) st.1 ∧ Bdd (cntS t st) st.2
theorem InvB.big {t : TS} {st : Rk × Rk} (F : t.Fits) : ((cntS t st : Nat) : Int) ≤ BIG := by
  have h1 := cntS_le t st
  have h2 := totS_le F
  unfold BIG
  omega
theorem Bdd.put {f : Rk} {B B' : Int} (h : Bdd B f) {q : Nat} {i j v : Int} (hB : B ≤ B') (h0 : 0 ≤ v) (h1 : v ≤ B') : Bdd B' (putR f q i j v) := by
  intro q' i' j'
  unfold putR
  split
  · exact ⟨h0, h1⟩
  · have := h q' i' j'; omega
theorem Bdd.le {f : Rk} {B B' : Int} (h : Bdd B f) (hB : B ≤ B') : Bdd B' f := fun q i j => ⟨(h q i j).1, Int.le_trans (h q i j).2 hB⟩
theorem better_put {f : Rk} {q : Nat} {i j v : Int} (hv : 0 < v) (h : f q i j ≤ 0 ∨ v < f q i j) : ∀ q' i' j', Better (f q' i' j') (putR f q i j v q' i' j') := by
  intro q' i' j'
  unfold putR
  split
  · rename_i e; obtain ⟨rfl, rfl, rfl⟩ := e; exact .inr ⟨hv, h⟩
  · exact .refl _
theorem wt_less {B : Nat} {old v : Int} (hv : 0 < v) (hvB : v ≤ B) (h : old ≤ 0 ∨ v < old) : wtM B v < wtM B old := by
  unfold wtM
  rw [if_neg (by omega)]
  split <;> omega
theorem InvB.putP {t : TS} {NM PL : Rk} (F : t.Fits) (I : InvB t (NM, PL)) {q : Nat} {i j v : Int} (hq : q < t.Q) (i0 : 0 ≤ i) (i1 : i ≤ t.W.size) (j0 : 0 ≤ j) (j1 : j ≤ t.W.size) (hl : lessB (PL q i j) v = true) (v0 : 0 ≤ v) (v1 : v ≤ cntS t (NM, PL) + 1) :
    InvB t (NM, putR PL q i j v) ∧ meaS t (NM, putR PL q i j v) < meaS t (NM, PL) := by
  obtain ⟨h1, h2⟩ := lessB_true hl
  have ho : 0 ≤ PL q i j ∧ PL q i j ≤ (cntS t (NM, PL) : Nat) := I.2 q i j
  have hc := potR_put (wt := wtC) (f := PL) (v := v) hq i0 i1 j0 j1
  have hm := potR_put (wt := wtM (totS t)) (f := PL) (v := v) hq i0 i1 j0 j1
  have e1 : wtC v = 1 := by unfold wtC; rw [if_neg h1]
  have e2 : wtC (PL q i j) = 0 ∧ PL q i j = 0 ∨ wtC (PL q i j) = 1 ∧ 0 < PL q i j := by
    unfold wtC
    by_cases hz : PL q i j = 0
    · left; exact ⟨by rw [if_pos hz], hz⟩
    · right; exact ⟨by rw [if_neg hz], by omega⟩
  have hge : cntS t (NM, PL) ≤ cntS t (NM, putR PL q i j v) := by unfold cntS; simp only; omega
  have hle := cntS_le t (NM, putR PL q i j v)
  have hv : v ≤ cntS t (NM, putR PL q i j v) := by
    rcases e2 with ⟨e2, e3⟩ | ⟨e2, e3⟩
    · have : cntS t (NM, putR PL q i j v) = cntS t (NM, PL) + 1 := by unfold cntS; simp only; omega
      omega
    · omega
  refine ⟨⟨I.1.le (by omega), I.2.put (by omega) v0 hv⟩, ?_⟩
  have hw := wt_less (B := totS t) (v := v) (old := PL q i j) (by omega) (by omega) h2
  unfold meaS
  simp only
  omega
theorem InvB.putN {t : TS} {NM PL : Rk} (F : t.Fits) (I : InvB t (NM, PL)) {q : Nat} {i j v : Int} (hq : q < t.K) (i0 : 0 ≤ i) (i1 : i ≤ t.W.size) (j0 : 0 ≤ j) (j1 : j ≤ t.W.size) (hl : lessB (NM q i j) v = true) (v0 : 0 ≤ v) (v1 : v ≤ cntS t (NM, PL) + 1) :
    InvB t (putR NM q i j v, PL) ∧ meaS t (putR NM q i j v, PL) < meaS t (NM, PL) := by
  obtain ⟨h1, h2⟩ := lessB_true hl
  have ho : 0 ≤ NM q i j ∧ NM q i j ≤ (cntS t (NM, PL) : Nat) := I.1 q i j
  have hc := potR_put (wt := wtC) (f := NM) (v := v) hq i0 i1 j0 j1
  have hm := potR_put (wt := wtM (totS t)) (f := NM) (v := v) hq i0 i1 j0 j1
  have e1 : wtC v = 1 := by unfold wtC; rw [if_neg h1]
  have e2 : wtC (NM q i j) = 0 ∧ NM q i j = 0 ∨ wtC (NM q i j) = 1 ∧ 0 < NM q i j := by
    unfold wtC
    by_cases hz : NM q i j = 0
    · left; exact ⟨by rw [if_pos hz], hz⟩
    · right; exact ⟨by rw [if_neg hz], by omega⟩
  have hge : cntS t (NM, PL) ≤ cntS t (putR NM q i j v, PL) := by unfold cntS; simp only; omega
  have hle := cntS_le t (putR NM q i j v, PL)
  have hv : v ≤ cntS t (putR NM q i j v, PL) := by
    rcases e2 with ⟨e2, e3⟩ | ⟨e2, e3⟩
    · have : cntS t (putR NM q i j v, PL) = cntS t (NM, PL) + 1 := by unfold cntS; simp only; omega
      omega
    · omega
  refine ⟨⟨I.1.put (by omega) v0 hv, I.2.le (by omega)⟩, ?_⟩
  have hw := wt_less (B := totS t) (v := v) (old := NM q i j) (by omega) (by omega) h2
  unfold meaS
  simp only
  omega
end Go.Proofs.Ytbidpeggdhkahaa

namespace Go.Proofs.Ytbidpeggdhkahaa
open Go.RowKit

/-- A place of the grammar. -/
structure Pl (t : TS) (r c pos : Nat) (x : Rul) (y : Conj) : Prop where
  hx : t.G.rules[r]? = some x
  hy : x.conj[c]? = some y
  hp : pos ≤ y.seq.length
def lvR (t : TS) (x : Rul) : Int := t.lev.getD x.head.toNat 0
/-- No two places are one. -/
theorem off_sep {G : Gram} {r r' c c' pos pos' : Nat} {x x' : Rul} {y y' : Conj} (hx : G.rules[r]? = some x) (hy : x.conj[c]? = some y) (hp : pos ≤ y.seq.length) (hx' : G.rules[r']? = some x') (hy' : x'.conj[c']? = some y') (hp' : pos' ≤ y'.seq.length)
    (h : offG G r c + pos = offG G r' c' + pos') : r = r' ∧ c = c' ∧ pos = pos' := by
  have key : ∀ {r r' c c' pos pos' : Nat} {x x' : Rul} {y y' : Conj}, G.rules[r]? = some x → x.conj[c]? = some y → pos ≤ y.seq.length → G.rules[r']? = some x' → x'.conj[c']? = some y' → pos' ≤ y'.seq.length → offG G r c + pos = offG G r' c' + pos' → ¬ r < r' ∧ (r = r' → ¬ c < c') := by
    intro r r' c c' pos pos' x x' y y' hx hy hp hx' hy' hp' h
    have e1 : offG G r c = rSum G.rules r + cSum x.conj c := by unfold offG; rw [hx]
    have e2 : offG G r' c' = rSum G.rules r' + cSum x'.conj c' := by unfold offG; rw [hx']
    have hc : c < x.conj.length := (List.getElem?_eq_some_iff.1 hy).1
    have h1 := cSum_succ hy
    have h2 := cSum_mono x.conj (a := c + 1) (b := x.conj.length) (by omega)
    constructor
    · intro hlt
      have h3 := rSum_succ hx
      have h4 := rSum_mono G.rules (a := r + 1) (b := r') (by omega)
      omega
    · intro he hlt
      subst he
      rw [hx] at hx'
      cases hx'
      have h3 := cSum_mono x.conj (a := c + 1) (b := c') (by omega)
      omega
  have k1 := key hx hy hp hx' hy' hp' h
  have k2 := key hx' hy' hp' hx hy hp h.symm
  have hr : r = r' := by omega
  have hc : c = c' := by have := k1.2 hr; have := k2.2 hr.symm; omega
  subst hr
  subst hc
  exact ⟨rfl, rfl, by omega⟩

theorem conjStep_snd {t : TS} {NM : Rk} {seq : List Sym} {a : Nat} {i j : Int} {pos : Nat} {PL : Rk} {b : Bool} : conjStep t NM seq a i j pos (PL, b) = ((conjStep t NM seq a i j pos (PL, false)).1, b || (conjStep t NM seq a i j pos (PL, false)).2) := by
  unfold conjStep
  split <;> simp
theorem conjDown_snd {t : TS} {NM : Rk} {seq : List Sym} {a : Nat} {i j : Int} : ∀ {n : Nat} {PL : Rk} {b : Bool}, conjDown t NM seq a i j n (PL, b) = ((conjDown t NM seq a i j n (PL, false)).1, b || (conjDown t NM seq a i j n (PL, false)).2) := by
  intro n
  induction n with
  | zero => intro PL b; simp [conjDown]
  | succ n ih =>
    intro PL b
    obtain ⟨s1, s2, hs⟩ : ∃ s1 s2, conjStep t NM seq a i j n (PL, false) = (s1, s2) := ⟨_, _, rfl⟩
    simp only [conjDown]
    rw [conjStep_snd (b := b), hs]
    simp only
    rw [ih (b := b || s2), ih (b := s2)]
    simp [Bool.or_assoc]
theorem passC_succ {t : TS} {NM : Rk} {neg : Bool} {i j : Int} {r : Nat} {cs : List Conj} {s : Rk × Bool} {n : Nat} {y : Conj} (hy : cs[n]? = some y) :
    passC t NM neg i j r cs s (n + 1) = if y.neg = neg then conjDown t NM y.seq (t.off r n) i j (y.seq.length + 1) (passC t NM neg i j r cs s n) else passC t NM neg i j r cs s n := by
  obtain ⟨p1, p2, hp⟩ : ∃ p1 p2, passC t NM neg i j r cs s n = (p1, p2) := ⟨_, _, rfl⟩
  simp only [passC, hy]
  rw [hp]
  split
  · rw [conjDown_snd]
    rfl
  · rfl

/-! What each step keeps, the pass keeps. -/
theorem conjDown_ind {t : TS} {NM : Rk} {seq : List Sym} {a : Nat} {i j : Int} {Q : Rk × Bool → Prop} : ∀ {n : Nat} {s : Rk × Bool}, (∀ pos s, pos < n → Q s → Q (conjStep t NM seq a i j pos s)) → Q s → Q (conjDown t NM seq a i j n s) := by
  intro n
  induction n with
  | zero => intro s _ h; exact h
  | succ n ih =>
    intro s hstep h
    exact ih (fun pos s hp hs => hstep pos s (by omega) hs) (hstep n s (by omega) h)
theorem pass_ind {t : TS} {level : Int} {NM : Rk} {neg : Bool} {i j : Int} {Q : Rk × Bool → Prop}
    (hstep : ∀ r c pos x y s, Pl t r c pos x y → lvR t x = level → y.neg = neg → Q s → Q (conjStep t NM y.seq (t.off r c) i j pos s)) {s : Rk × Bool} (h : Q s) : ∀ n, n ≤ t.G.rules.length → Q (passTo t level NM neg i j s n) := by
  intro n
  induction n with
  | zero => intro _; exact h
  | succ n ih =>
    intro hn
    obtain ⟨x, hx⟩ : ∃ x, t.G.rules[n]? = some x := ⟨_, List.getElem?_eq_getElem (by omega)⟩
    have h1 := ih (by omega)
    unfold passTo
    rw [hx]
    simp only
    split
    · rename_i hl
      have h2 : ∀ m, m ≤ x.conj.length → Q (passC t NM neg i j n x.conj (passTo t level NM neg i j s n) m) := by
        intro m
        induction m with
        | zero => intro _; exact h1
        | succ m ihm =>
          intro hm
          obtain ⟨y, hy⟩ : ∃ y, x.conj[m]? = some y := ⟨_, List.getElem?_eq_getElem (by omega)⟩
          rw [passC_succ hy]
          split
          · rename_i hyn
            exact conjDown_ind (fun pos s' hp hs => hstep n m pos x y s' ⟨hx, hy, by omega⟩ hl hyn hs) (ihm (by omega))
          · exact ihm (by omega)
      exact h2 _ (Nat.le_refl _)
    · exact h1
/-! Where nothing turned, no step would turn anything. -/
theorem conjDown_still {t : TS} {NM : Rk} {seq : List Sym} {a : Nat} {i j : Int} : ∀ {n : Nat} {s : Rk × Bool}, (conjDown t NM seq a i j n s).2 = false → conjDown t NM seq a i j n s = s ∧ s.2 = false ∧ ∀ pos, pos < n → lessB (s.1 (a + pos) i j) (restF t NM s.1 seq a pos i j) = false := by
  intro n
  induction n with
  | zero => intro s h; exact ⟨rfl, h, fun pos hp => by omega⟩
  | succ n ih =>
    intro s h
    obtain ⟨h1, h2, h3⟩ := ih (s := conjStep t NM seq a i j n s) h
    have h4 : lessB (s.1 (a + n) i j) (restF t NM s.1 seq a n i j) = false := by
      rw [Bool.eq_false_iff]
      intro hc
      unfold conjStep at h2
      rw [if_pos hc] at h2
      cases h2
    have h5 : conjStep t NM seq a i j n s = s := by unfold conjStep; rw [h4]; rfl
    rw [h5] at h1 h2 h3
    refine ⟨?_, h2, fun pos hp => ?_⟩
    · show conjDown t NM seq a i j n (conjStep t NM seq a i j n s) = s
      rw [h5]; exact h1
    · by_cases hpn : pos = n
      · subst hpn; exact h4
      · exact h3 pos (by omega)
theorem pass_still {t : TS} {level : Int} {NM : Rk} {neg : Bool} {i j : Int} {s : Rk × Bool} : ∀ n, n ≤ t.G.rules.length → (passTo t level NM neg i j s n).2 = false →
    passTo t level NM neg i j s n = s ∧ s.2 = false ∧ ∀ r c pos x y, r < n → Pl t r c pos x y → lvR t x = level → y.neg = neg → lessB (s.1 (t.off r c + pos) i j) (restF t NM s.1 y.seq (t.off r c) pos i j) = false := by
  intro n
  induction n with
  | zero => intro _ h; exact ⟨rfl, h, fun r c pos x y hr => by omega⟩
  | succ n ih =>
    intro hn h
    obtain ⟨x, hx⟩ : ∃ x, t.G.rules[n]? = some x := ⟨_, List.getElem?_eq_getElem (by omega)⟩
    unfold passTo at h ⊢
    rw [hx] at h ⊢
    simp only at h ⊢
    by_cases hl : t.lev.getD x.head.toNat 0 = level
    · rw [if_pos hl] at h ⊢
      obtain ⟨s1, hs1⟩ : ∃ s1, s1 = passTo t level NM neg i j s n := ⟨_, rfl⟩
      rw [← hs1] at h ⊢
      have h2 : ∀ m, m ≤ x.conj.length → (passC t NM neg i j n x.conj s1 m).2 = false → passC t NM neg i j n x.conj s1 m = s1 ∧ s1.2 = false ∧ ∀ c pos y, c < m → Pl t n c pos x y → y.neg = neg → lessB (s1.1 (t.off n c + pos) i j) (restF t NM s1.1 y.seq (t.off n c) pos i j) = false := by
        intro m
        induction m with
        | zero => intro _ h; exact ⟨rfl, h, fun c pos y hc => by omega⟩
        | succ m ihm =>
          intro hm h
          obtain ⟨y, hy⟩ : ∃ y, x.conj[m]? = some y := ⟨_, List.getElem?_eq_getElem (by omega)⟩
          rw [passC_succ hy] at h ⊢
          by_cases hyn : y.neg = neg
          · rw [if_pos hyn] at h ⊢
            obtain ⟨k1, k2, k3⟩ := conjDown_still h
            obtain ⟨k4, k5, k6⟩ := ihm (by omega) k2
            rw [k4] at k1 k3
            refine ⟨by rw [k4]; exact k1, k5, fun c pos y' hc hp hn' => ?_⟩
            by_cases hcm : c = m
            · subst hcm
              have := hp.hy
              rw [hy] at this
              cases this
              exact k3 pos (by have := hp.hp; omega)
            · exact k6 c pos y' (by omega) hp hn'
          · rw [if_neg hyn] at h ⊢
            obtain ⟨k4, k5, k6⟩ := ihm (by omega) h
            refine ⟨k4, k5, fun c pos y' hc hp hn' => ?_⟩
            by_cases hcm : c = m
            · subst hcm
              have := hp.hy
              rw [hy] at this
              cases this
              exact absurd hn' hyn
            · exact k6 c pos y' (by omega) hp hn'
      obtain ⟨k1, k2, k3⟩ := h2 _ (Nat.le_refl _) h
      rw [hs1] at k2
      obtain ⟨j1, j2, j3⟩ := ih (by omega) k2
      rw [← hs1] at j1
      refine ⟨by rw [k1]; exact j1, j2, fun r c pos x' y hr hp hlv hyn => ?_⟩
      by_cases hrn : r = n
      · subst hrn
        have := hp.hx
        rw [hx] at this
        cases this
        have := k3 c pos y (List.getElem?_eq_some_iff.1 hp.hy).1 hp hyn
        rw [j1] at this
        exact this
      · exact j3 r c pos x' y (by omega) hp hlv hyn
    · rw [if_neg hl] at h ⊢
      obtain ⟨j1, j2, j3⟩ := ih (by omega) h
      refine ⟨j1, j2, fun r c pos x' y hr hp hlv hyn => ?_⟩
      by_cases hrn : r = n
      · subst hrn
        have := hp.hx
        rw [hx] at this
        cases this
        exact absurd hlv hl
      · exact j3 r c pos x' y (by omega) hp hlv hyn
theorem heads_ind {t : TS} {level : Int} {PL : Rk} {i j : Int} {Q : Rk × Bool → Prop} (hstep : ∀ r x s, t.G.rules[r]? = some x → lvR t x = level → Q s → Q (headsStep t level PL i j r x s)) {s : Rk × Bool} (h : Q s) : ∀ n, n ≤ t.G.rules.length → Q (headsTo t level PL i j s n) := by
  intro n
  induction n with
  | zero => intro _; exact h
  | succ n ih =>
    intro hn
    obtain ⟨x, hx⟩ : ∃ x, t.G.rules[n]? = some x := ⟨_, List.getElem?_eq_getElem (by omega)⟩
    have h1 := ih (by omega)
    unfold headsTo
    rw [hx]
    simp only
    by_cases hl : lvR t x = level
    · exact hstep n x _ hx hl h1
    · unfold headsStep
      unfold lvR at hl
      rw [if_neg hl]
      exact h1
theorem heads_still {t : TS} {level : Int} {PL : Rk} {i j : Int} {s : Rk × Bool} : ∀ n, n ≤ t.G.rules.length → (headsTo t level PL i j s n).2 = false →
    headsTo t level PL i j s n = s ∧ s.2 = false ∧ ∀ r x, r < n → t.G.rules[r]? = some x → lvR t x = level → lessB (s.1 x.head.toNat i j) (ruleF t PL r x.conj i j) = false := by
  intro n
  induction n with
  | zero => intro _ h; exact ⟨rfl, h, fun r x hr => by omega⟩
  | succ n ih =>
    intro hn h
    obtain ⟨x, hx⟩ : ∃ x, t.G.rules[n]? = some x := ⟨_, List.getElem?_eq_getElem (by omega)⟩
    unfold headsTo at h ⊢
    rw [hx] at h ⊢
    simp only at h ⊢
    unfold headsStep at h ⊢
    by_cases hl : t.lev.getD x.head.toNat 0 = level
    · rw [if_pos hl] at h ⊢
      by_cases hb : lessB ((headsTo t level PL i j s n).1 x.head.toNat i j) (ruleF t PL n x.conj i j) = true
      · rw [if_pos hb] at h; cases h
      · rw [if_neg hb] at h ⊢
        obtain ⟨j1, j2, j3⟩ := ih (by omega) h
        refine ⟨j1, j2, fun r x' hr hx' hlv => ?_⟩
        by_cases hrn : r = n
        · subst hrn
          rw [hx] at hx'
          cases hx'
          rw [j1] at hb
          exact Bool.eq_false_iff.2 hb
        · exact j3 r x' (by omega) hx' hlv
    · rw [if_neg hl] at h ⊢
      obtain ⟨j1, j2, j3⟩ := ih (by omega) h
      refine ⟨j1, j2, fun r x' hr hx' hlv => ?_⟩
      by_cases hrn : r = n
      · subst hrn
        rw [hx] at hx'
        cases hx'
        exact absurd hlv hl
      · exact j3 r x' (by omega) hx' hlv
end Go.Proofs.Ytbidpeggdhkahaa

namespace Go.Proofs.Ytbidpeggdhkahaa
open Go.RowKit

structure Law (t : TS) : Prop where
  F : t.Fits
  good : GoodLev t.G t.lev
  off : t.off = offG t.G
theorem Law.sep {t : TS} (H : Law t) {r r' c c' pos pos' : Nat} {x x' : Rul} {y y' : Conj} (p : Pl t r c pos x y) (p' : Pl t r' c' pos' x' y') (h : t.off r c + pos = t.off r' c' + pos') : r = r' ∧ c = c' ∧ pos = pos' ∧ x = x' ∧ y = y' := by
  rw [H.off] at h
  obtain ⟨h1, h2, h3⟩ := off_sep p.hx p.hy p.hp p'.hx p'.hy p'.hp h
  subst h1
  subst h2
  have e1 := p.hx
  rw [p'.hx] at e1
  cases e1
  have e2 := p.hy
  rw [p'.hy] at e2
  cases e2
  exact ⟨rfl, rfl, h3, rfl, rfl⟩
theorem Law.lt {t : TS} (H : Law t) {r c pos : Nat} {x : Rul} {y : Conj} (p : Pl t r c pos x y) : t.off r c + pos < t.Q := by
  have h1 := H.F.off r x c y p.hx p.hy
  have h2 := p.hp
  omega
theorem Law.big {t : TS} (H : Law t) : ((totS t : Nat) : Int) ≤ BIG := by
  have := totS_le H.F
  unfold BIG
  omega
theorem Pl.next {t : TS} {r c pos : Nat} {x : Rul} {y : Conj} (p : Pl t r c pos x y) (h : pos < y.seq.length) : Pl t r c (pos + 1) x y := ⟨p.hx, p.hy, h⟩
theorem Law.head {t : TS} (H : Law t) {r : Nat} {x : Rul} (hx : t.G.rules[r]? = some x) : x.head.toNat < t.K := by
  have := H.F.head r x hx
  omega
/-- A name in a conjunct lies on the level of its rule or below; in a negated one, below. -/
theorem Law.edge {t : TS} (H : Law t) {r c pos : Nat} {x : Rul} {y : Conj} (p : Pl t r c pos x y) {s : Sym} (hs : y.seq[pos]? = some s) (h0 : 0 ≤ s.name) : t.lev.getD s.name.toNat 0 + negI y.neg ≤ lvR t x :=
  H.good.edge ⟨x.head.toNat, s.name.toNat, y.neg⟩ (mem_edgesOf.2 ⟨x, List.mem_of_getElem? p.hx, y, List.mem_of_getElem? p.hy, s, List.mem_of_getElem? hs, h0, rfl⟩)
def EqP (t : TS) (NM PL : Rk) (r c pos : Nat) (y : Conj) (i j : Int) : Prop := PL (t.off r c + pos) i j = restF t NM PL y.seq (t.off r c) pos i j
theorem putR_other {f : Rk} {q q' : Nat} {i j v k l : Int} (h : q' ≠ q) : putR f q i j v q' k l = f q' k l := by unfold putR; rw [if_neg (fun e => h e.1)]
theorem putR_same {f : Rk} {q : Nat} {i j v : Int} : putR f q i j v q i j = v := by simp [putR]
theorem InvB.tot {t : TS} {st : Rk × Rk} (I : InvB t st) : Bdd (totS t) st.1 ∧ Bdd (totS t) st.2 := by
  have := cntS_le t st
  exact ⟨I.1.le (by omega), I.2.le (by omega)⟩

/-! The negated conjuncts. -/
structure NegQ (t : TS) (level : Int) (i j : Int) (NM PL0 : Rk) (D : Nat → Nat → Prop) (s : Rk) : Prop where
  inv : InvB t (NM, s)
  fr : ∀ q k l, s q k l ≠ PL0 q k l → k = i ∧ l = j ∧ ∃ r c pos x y, Pl t r c pos x y ∧ lvR t x = level ∧ y.neg = true ∧ q = t.off r c + pos
  done : ∀ r c pos x y, Pl t r c pos x y → lvR t x = level → y.neg = true → D r c → EqP t NM s r c pos y i j
  zero : ∀ r c pos x y, Pl t r c pos x y → lvR t x = level → y.neg = true → ¬ D r c → s (t.off r c + pos) i j = 0
structure NegIn (t : TS) (level : Int) (i j : Int) (NM PL0 : Rk) (D : Nat → Nat → Prop) (r0 c0 n : Nat) (s : Rk) : Prop where
  inv : InvB t (NM, s)
  fr : ∀ q k l, s q k l ≠ PL0 q k l → k = i ∧ l = j ∧ ∃ r c pos x y, Pl t r c pos x y ∧ lvR t x = level ∧ y.neg = true ∧ q = t.off r c + pos
  done : ∀ r c pos x y, Pl t r c pos x y → lvR t x = level → y.neg = true → D r c ∨ (r = r0 ∧ c = c0 ∧ n ≤ pos) → EqP t NM s r c pos y i j
  zero : ∀ r c pos x y, Pl t r c pos x y → lvR t x = level → y.neg = true → ¬ D r c → (r = r0 ∧ c = c0 → pos < n) → s (t.off r c + pos) i j = 0
theorem NegIn.step {t : TS} (H : Law t) {level i j : Int} (i0 : 0 ≤ i) (i1 : i ≤ t.W.size) (j0 : 0 ≤ j) (j1 : j ≤ t.W.size) {NM PL0 : Rk} {D : Nat → Nat → Prop} {r0 c0 n : Nat} {x0 : Rul} {y0 : Conj} (p0 : Pl t r0 c0 n x0 y0) (hl : lvR t x0 = level) (hn : y0.neg = true) (hD : ¬ D r0 c0)
    {s : Rk × Bool} (h : NegIn t level i j NM PL0 D r0 c0 (n + 1) s.1) : NegIn t level i j NM PL0 D r0 c0 n (conjStep t NM y0.seq (t.off r0 c0) i j n s).1 := by
  have hz := h.zero r0 c0 n x0 y0 p0 hl hn hD (fun _ => Nat.lt_succ_self n)
  have hb := restF_bound (by omega) (InvB.big H.F) h.inv.1 h.inv.2 (t := t) y0.seq (t.off r0 c0) n i j
  unfold conjStep
  by_cases hc : lessB (s.1 (t.off r0 c0 + n) i j) (restF t NM s.1 y0.seq (t.off r0 c0) n i j) = true
  · rw [if_pos hc]
    simp only
    obtain ⟨v, hv⟩ : ∃ v, v = restF t NM s.1 y0.seq (t.off r0 c0) n i j := ⟨_, rfl⟩
    rw [← hv] at hc hb ⊢
    -- a rest that hangs on other places is as it was
    have keep : ∀ r c pos x y, Pl t r c pos x y → (∀ h : pos < y.seq.length, t.off r c + (pos + 1) ≠ t.off r0 c0 + n) → restF t NM (putR s.1 (t.off r0 c0 + n) i j v) y.seq (t.off r c) pos i j = restF t NM s.1 y.seq (t.off r c) pos i j := by
      intro r c pos x y p hne
      refine restF_congr (fun _ _ _ _ _ _ => rfl) (fun hp k _ _ => putR_other ?_)
      have := hne hp
      omega
    refine ⟨(h.inv.putP H.F (H.lt p0) i0 i1 j0 j1 hc hb.1 hb.2).1, fun q k l hq => ?_, fun r c pos x y p hlv hyn hd => ?_, fun r c pos x y p hlv hyn hd hlt => ?_⟩
    · by_cases e : q = t.off r0 c0 + n ∧ k = i ∧ l = j
      · exact ⟨e.2.1, e.2.2, r0, c0, n, x0, y0, p0, hl, hn, e.1⟩
      · exact h.fr q k l (by unfold putR at hq; rw [if_neg e] at hq; exact hq)
    · unfold EqP
      by_cases e : t.off r c + pos = t.off r0 c0 + n
      · obtain ⟨rfl, rfl, rfl, rfl, rfl⟩ := H.sep p p0 e
        rw [putR_same, keep r c pos x y p (fun h' e' => by omega)]
        exact hv
      · rw [putR_other e]
        have hne : ∀ h : pos < y.seq.length, t.off r c + (pos + 1) ≠ t.off r0 c0 + n := fun h' e' => by
          obtain ⟨rfl, rfl, e3, -, -⟩ := H.sep (p.next h') p0 e'
          rcases hd with hd | ⟨-, -, hd⟩
          · exact hD hd
          · omega
        rw [keep r c pos x y p hne]
        refine h.done r c pos x y p hlv hyn ?_
        rcases hd with hd | ⟨e1, e2, hd⟩
        · exact .inl hd
        · refine .inr ⟨e1, e2, ?_⟩
          by_cases hpn : pos = n
          · subst e1; subst e2; subst hpn; exact absurd rfl e
          · omega
    · rw [putR_other]
      · exact h.zero r c pos x y p hlv hyn hd (fun e => by have := hlt e; omega)
      · intro e
        obtain ⟨rfl, rfl, rfl, -, -⟩ := H.sep p p0 e
        have := hlt ⟨rfl, rfl⟩
        omega
  · rw [if_neg hc]
    have hv : restF t NM s.1 y0.seq (t.off r0 c0) n i j = 0 := by
      rcases lessB_false (Bool.eq_false_iff.2 hc) with h1 | ⟨h1, _⟩
      · exact h1
      · rw [hz] at h1; omega
    refine ⟨h.inv, h.fr, fun r c pos x y p hlv hyn hd => ?_, fun r c pos x y p hlv hyn hd hlt => h.zero r c pos x y p hlv hyn hd (fun e => by have := hlt e; omega)⟩
    rcases hd with hd | ⟨e1, e2, hd⟩
    · exact h.done r c pos x y p hlv hyn (.inl hd)
    · by_cases hpn : pos = n
      · subst e1; subst e2; subst hpn
        have e3 := p.hx
        rw [p0.hx] at e3
        cases e3
        have e4 := p.hy
        rw [p0.hy] at e4
        cases e4
        unfold EqP
        rw [hz, hv]
      · exact h.done r c pos x y p hlv hyn (.inr ⟨e1, e2, by omega⟩)
theorem NegIn.down {t : TS} (H : Law t) {level i j : Int} (i0 : 0 ≤ i) (i1 : i ≤ t.W.size) (j0 : 0 ≤ j) (j1 : j ≤ t.W.size) {NM PL0 : Rk} {D : Nat → Nat → Prop} {r0 c0 : Nat} {x0 : Rul} {y0 : Conj} (hx : t.G.rules[r0]? = some x0) (hy : x0.conj[c0]? = some y0) (hl : lvR t x0 = level) (hn : y0.neg = true) (hD : ¬ D r0 c0) :
    ∀ {n : Nat} {s : Rk × Bool}, n ≤ y0.seq.length + 1 → NegIn t level i j NM PL0 D r0 c0 n s.1 → NegIn t level i j NM PL0 D r0 c0 0 (conjDown t NM y0.seq (t.off r0 c0) i j n s).1 := by
  intro n
  induction n with
  | zero => intro s _ h; exact h
  | succ n ih =>
    intro s hle h
    exact ih (by omega) (h.step H i0 i1 j0 j1 ⟨hx, hy, by omega⟩ hl hn hD)
theorem NegQ.conj {t : TS} (H : Law t) {level i j : Int} (i0 : 0 ≤ i) (i1 : i ≤ t.W.size) (j0 : 0 ≤ j) (j1 : j ≤ t.W.size) {NM PL0 : Rk} {D : Nat → Nat → Prop} {r0 c0 : Nat} {x0 : Rul} {y0 : Conj} (hx : t.G.rules[r0]? = some x0) (hy : x0.conj[c0]? = some y0) (hl : lvR t x0 = level) (hn : y0.neg = true) (hD : ¬ D r0 c0)
    {s : Rk × Bool} (h : NegQ t level i j NM PL0 D s.1) : NegQ t level i j NM PL0 (fun r c => D r c ∨ (r = r0 ∧ c = c0)) (conjDown t NM y0.seq (t.off r0 c0) i j (y0.seq.length + 1) s).1 := by
  have h1 : NegIn t level i j NM PL0 D r0 c0 (y0.seq.length + 1) s.1 := ⟨h.inv, h.fr, fun r c pos x y p hlv hyn hd => by
    rcases hd with hd | ⟨e1, e2, hd⟩
    · exact h.done r c pos x y p hlv hyn hd
    · subst e1; subst e2
      have e3 := p.hx
      rw [hx] at e3
      cases e3
      have e4 := p.hy
      rw [hy] at e4
      cases e4
      have := p.hp
      omega, fun r c pos x y p hlv hyn hd _ => h.zero r c pos x y p hlv hyn hd⟩
  have h2 := NegIn.down H i0 i1 j0 j1 hx hy hl hn hD (Nat.le_refl _) h1
  refine ⟨h2.inv, h2.fr, fun r c pos x y p hlv hyn hd => h2.done r c pos x y p hlv hyn ?_, fun r c pos x y p hlv hyn hd => h2.zero r c pos x y p hlv hyn (fun e => hd (.inl e)) (fun e => absurd (.inr e) hd)⟩
  rcases hd with hd | ⟨e1, e2⟩
  · exact .inl hd
  · exact .inr ⟨e1, e2, Nat.zero_le _⟩
theorem NegQ.same {t : TS} {level i j : Int} {NM PL0 : Rk} {D D' : Nat → Nat → Prop} {s : Rk} (h : NegQ t level i j NM PL0 D s) (hd : ∀ r c pos x y, Pl t r c pos x y → lvR t x = level → y.neg = true → (D' r c ↔ D r c)) : NegQ t level i j NM PL0 D' s :=
  ⟨h.inv, h.fr, fun r c pos x y p hlv hyn e => h.done r c pos x y p hlv hyn ((hd r c pos x y p hlv hyn).1 e), fun r c pos x y p hlv hyn e => h.zero r c pos x y p hlv hyn (fun e' => e ((hd r c pos x y p hlv hyn).2 e'))⟩
theorem neg_pass {t : TS} (H : Law t) {level i j : Int} (i0 : 0 ≤ i) (i1 : i ≤ t.W.size) (j0 : 0 ≤ j) (j1 : j ≤ t.W.size) {NM PL0 : Rk} {s : Rk × Bool} (h : NegQ t level i j NM PL0 (fun r _ => r < 0) s.1) :
    ∀ n, n ≤ t.G.rules.length → NegQ t level i j NM PL0 (fun r _ => r < n) (passTo t level NM true i j s n).1 := by
  intro n
  induction n with
  | zero => intro _; exact h
  | succ n ih =>
    intro hle
    obtain ⟨x, hx⟩ : ∃ x, t.G.rules[n]? = some x := ⟨_, List.getElem?_eq_getElem (by omega)⟩
    have h1 := ih (by omega)
    unfold passTo
    rw [hx]
    simp only
    by_cases hl : t.lev.getD x.head.toNat 0 = level
    · rw [if_pos hl]
      have h2 : ∀ m, m ≤ x.conj.length → NegQ t level i j NM PL0 (fun r c => r < n ∨ (r = n ∧ c < m)) (passC t NM true i j n x.conj (passTo t level NM true i j s n) m).1 := by
        intro m
        induction m with
        | zero => intro _; exact h1.same (fun r c _ _ _ _ _ _ => by omega)
        | succ m ihm =>
          intro hm
          obtain ⟨y, hy⟩ : ∃ y, x.conj[m]? = some y := ⟨_, List.getElem?_eq_getElem (by omega)⟩
          rw [passC_succ hy]
          by_cases hyn : y.neg = true
          · rw [if_pos hyn]
            exact (NegQ.conj H i0 i1 j0 j1 hx hy hl hyn (by omega) (ihm (by omega))).same (fun r c _ _ _ _ _ _ => by omega)
          · rw [if_neg hyn]
            refine (ihm (by omega)).same (fun r c pos x' y' p hlv hyn' => ?_)
            constructor
            · rintro (e | ⟨e1, e2⟩)
              · exact .inl e
              · refine .inr ⟨e1, ?_⟩
                by_cases hcm : c = m
                · subst e1; subst hcm
                  have e3 := p.hx
                  rw [hx] at e3
                  cases e3
                  have e4 := p.hy
                  rw [hy] at e4
                  cases e4
                  exact absurd hyn' hyn
                · omega
            · omega
      refine (h2 _ (Nat.le_refl _)).same (fun r c pos x' y' p hlv hyn' => ?_)
      constructor
      · intro e
        by_cases hrn : r = n
        · subst hrn
          have e3 := p.hx
          rw [hx] at e3
          cases e3
          exact .inr ⟨rfl, (List.getElem?_eq_some_iff.1 p.hy).1⟩
        · exact .inl (by omega)
      · omega
    · rw [if_neg hl]
      refine h1.same (fun r c pos x' y' p hlv hyn' => ?_)
      constructor
      · intro e
        by_cases hrn : r = n
        · subst hrn
          have e3 := p.hx
          rw [hx] at e3
          cases e3
          exact absurd hlv hl
        · omega
      · intro e; omega
end Go.Proofs.Ytbidpeggdhkahaa

namespace Go.Proofs.Ytbidpeggdhkahaa
open Go.RowKit

structure Jn (t : TS) (level : Int) (i j : Int) (st0 st : Rk × Rk) : Prop where
  inv : InvB t st
  frN : ∀ h k l, st.1 h k l ≠ st0.1 h k l → k = i ∧ l = j ∧ h < t.K ∧ t.lev.getD h 0 = level
  frP : ∀ q k l, st.2 q k l ≠ st0.2 q k l → k = i ∧ l = j ∧ ∃ r c pos x y, Pl t r c pos x y ∧ lvR t x = level ∧ q = t.off r c + pos
  neg : ∀ r c pos x y, Pl t r c pos x y → lvR t x = level → y.neg = true → EqP t st.1 st.2 r c pos y i j
  pos : ∀ r c pos x y, Pl t r c pos x y → lvR t x = level → y.neg = false → 0 < st.2 (t.off r c + pos) i j → 0 < restF t st.1 st.2 y.seq (t.off r c) pos i j ∧ restF t st.1 st.2 y.seq (t.off r c) pos i j ≤ st.2 (t.off r c + pos) i j
  nam : ∀ h, h < t.K → t.lev.getD h 0 = level → 0 < st.1 h i j → ∃ r x, t.G.rules[r]? = some x ∧ x.head.toNat = h ∧ 0 < ruleF t st.2 r x.conj i j ∧ ruleF t st.2 r x.conj i j ≤ st.1 h i j

section
variable {t : TS} {level i j : Int} {st0 : Rk × Rk}
theorem Jn.stepP (H : Law t) (i0 : 0 ≤ i) (i1 : i ≤ t.W.size) (j0 : 0 ≤ j) (j1 : j ≤ t.W.size) {NM : Rk} {s : Rk × Bool} (J : Jn t level i j st0 (NM, s.1)) {r c pos : Nat} {x : Rul} {y : Conj} (p : Pl t r c pos x y) (hl : lvR t x = level) (hn : y.neg = false) :
    Jn t level i j st0 (NM, (conjStep t NM y.seq (t.off r c) i j pos s).1) ∧ meaS t (NM, (conjStep t NM y.seq (t.off r c) i j pos s).1) ≤ meaS t (NM, s.1) ∧
      ((conjStep t NM y.seq (t.off r c) i j pos s).2 = true → s.2 = true ∨ meaS t (NM, (conjStep t NM y.seq (t.off r c) i j pos s).1) < meaS t (NM, s.1)) := by
  obtain ⟨PL, b⟩ := s
  simp only at J ⊢
  have hb := restF_bound (by omega) (InvB.big H.F) J.inv.1 J.inv.2 (t := t) y.seq (t.off r c) pos i j
  unfold conjStep
  simp only
  by_cases hc : lessB (PL (t.off r c + pos) i j) (restF t NM PL y.seq (t.off r c) pos i j) = true
  · rw [if_pos hc]
    simp only
    obtain ⟨v, hv⟩ : ∃ v, v = restF t NM PL y.seq (t.off r c) pos i j := ⟨_, rfl⟩
    rw [← hv] at hc hb ⊢
    obtain ⟨hv0, hv1⟩ := lessB_true hc
    obtain ⟨hI, hM⟩ := J.inv.putP H.F (H.lt p) i0 i1 j0 j1 hc hb.1 hb.2
    have hbet := better_put (f := PL) (q := t.off r c + pos) (i := i) (j := j) (v := v) (by omega) hv1
    have hT := J.inv.tot
    have hT' := hI.tot
    have mono : ∀ (seq : List Sym) (a p : Nat), 0 < restF t NM PL seq a p i j → 0 < restF t NM (putR PL (t.off r c + pos) i j v) seq a p i j ∧ restF t NM (putR PL (t.off r c + pos) i j v) seq a p i j ≤ restF t NM PL seq a p i j :=
      fun seq a p h => restF_mono H.big hT.1 hT.2 hT'.1 hT'.2 (fun _ _ _ => .refl _) hbet h
    refine ⟨⟨hI, J.frN, fun q k l hq => ?_, fun r' c' pos' x' y' p' hlv hyn => ?_, fun r' c' pos' x' y' p' hlv hyn hpos => ?_, fun h hk hlv hpos => ?_⟩, by omega, fun _ => .inr hM⟩
    · by_cases e : q = t.off r c + pos ∧ k = i ∧ l = j
      · exact ⟨e.2.1, e.2.2, r, c, pos, x, y, p, hl, e.1⟩
      · exact J.frP q k l (by simp only [putR] at hq; rw [if_neg e] at hq; exact hq)
    · have hne : ∀ {p2 : Nat}, Pl t r' c' p2 x' y' → t.off r' c' + p2 ≠ t.off r c + pos := fun p2 e => by
        obtain ⟨-, -, -, -, rfl⟩ := H.sep p2 p e
        rw [hn] at hyn; cases hyn
      have h1 := J.neg r' c' pos' x' y' p' hlv hyn
      unfold EqP at h1 ⊢
      simp only at h1 ⊢
      rw [putR_other (hne p'), h1]
      refine restF_congr (fun _ _ _ _ _ _ => rfl) (fun hp k _ _ => (putR_other ?_).symm)
      have := hne (p'.next hp)
      omega
    · simp only at hpos ⊢
      by_cases e : t.off r' c' + pos' = t.off r c + pos
      · obtain ⟨rfl, rfl, rfl, rfl, rfl⟩ := H.sep p' p e
        rw [putR_same]
        have := mono y'.seq (t.off r' c') pos' (by omega)
        omega
      · rw [putR_other e] at hpos ⊢
        have h1 := J.pos r' c' pos' x' y' p' hlv hyn hpos
        have h2 := mono y'.seq (t.off r' c') pos' h1.1
        simp only at h1
        omega
    · obtain ⟨r', x', hx', hh, h1, h2⟩ := J.nam h hk hlv hpos
      simp only at h1 h2 ⊢
      have h3 := ruleF_mono (t := t) (r := r') (cs := x'.conj) (i := i) (j := j) H.big hT.2 hT'.2 (fun c' y' _ _ => hbet _ _ _) (fun c' y' hy' hyn => putR_other (fun e => by
        obtain ⟨-, -, -, -, rfl⟩ := H.sep (pos := 0) ⟨hx', hy', Nat.zero_le _⟩ p (by simpa using e)
        rw [hn] at hyn; cases hyn)) h1
      simp only at h3
      exact ⟨r', x', hx', hh, h3.1, Int.le_trans h3.2 h2⟩
  · rw [if_neg hc]
    exact ⟨J, Nat.le_refl _, fun h => .inl h⟩
theorem Jn.stepN (H : Law t) (i0 : 0 ≤ i) (i1 : i ≤ t.W.size) (j0 : 0 ≤ j) (j1 : j ≤ t.W.size) {PL : Rk} {s : Rk × Bool} (J : Jn t level i j st0 (s.1, PL)) {r : Nat} {x : Rul} (hx : t.G.rules[r]? = some x) (hl : lvR t x = level) :
    Jn t level i j st0 ((headsStep t level PL i j r x s).1, PL) ∧ meaS t ((headsStep t level PL i j r x s).1, PL) ≤ meaS t (s.1, PL) ∧
      ((headsStep t level PL i j r x s).2 = true → s.2 = true ∨ meaS t ((headsStep t level PL i j r x s).1, PL) < meaS t (s.1, PL)) := by
  obtain ⟨NM, b⟩ := s
  simp only at J ⊢
  have hb := ruleF_bound (t := t) (r := r) (cs := x.conj) (i := i) (j := j) (by omega) (InvB.big H.F) J.inv.2
  have hk0 := H.head hx
  unfold headsStep
  have hl' : t.lev.getD x.head.toNat 0 = level := hl
  rw [if_pos hl']
  simp only
  by_cases hc : lessB (NM x.head.toNat i j) (ruleF t PL r x.conj i j) = true
  · rw [if_pos hc]
    simp only
    obtain ⟨v, hv⟩ : ∃ v, v = ruleF t PL r x.conj i j := ⟨_, rfl⟩
    rw [← hv] at hc hb ⊢
    obtain ⟨hv0, hv1⟩ := lessB_true hc
    obtain ⟨hI, hM⟩ := J.inv.putN H.F hk0 i0 i1 j0 j1 hc hb.1 hb.2
    have hbet := better_put (f := NM) (q := x.head.toNat) (i := i) (j := j) (v := v) (by omega) hv1
    have hT := J.inv.tot
    have hT' := hI.tot
    refine ⟨⟨hI, fun h k l hq => ?_, J.frP, fun r' c' pos' x' y' p' hlv hyn => ?_, fun r' c' pos' x' y' p' hlv hyn hpos => ?_, fun h hk hlv hpos => ?_⟩, by omega, fun _ => .inr hM⟩
    · by_cases e : h = x.head.toNat ∧ k = i ∧ l = j
      · exact ⟨e.2.1, e.2.2, by rw [e.1]; exact hk0, by rw [e.1]; exact hl'⟩
      · exact J.frN h k l (by simp only [putR] at hq; rw [if_neg e] at hq; exact hq)
    · have h1 := J.neg r' c' pos' x' y' p' hlv hyn
      unfold EqP at h1 ⊢
      simp only at h1 ⊢
      rw [h1]
      refine restF_congr (fun s hs h0 k _ _ => (putR_other (fun e => ?_)).symm) (fun _ _ _ _ => rfl)
      have h2 := H.edge p' hs h0
      rw [hyn, hlv, e, hl'] at h2
      simp only [negI, if_true] at h2
      omega
    · simp only at hpos ⊢
      have h1 := J.pos r' c' pos' x' y' p' hlv hyn hpos
      simp only at h1
      have h2 := restF_mono (t := t) (seq := y'.seq) (a := t.off r' c') (pos := pos') (i := i) (j := j) H.big hT.1 hT.2 hT'.1 hT'.2 hbet (fun _ _ _ => .refl _) h1.1
      simp only at h2
      exact ⟨h2.1, Int.le_trans h2.2 h1.2⟩
    · simp only at hpos ⊢
      by_cases e : h = x.head.toNat
      · subst e
        rw [putR_same]
        exact ⟨r, x, hx, rfl, by omega, by omega⟩
      · rw [putR_other e] at hpos ⊢
        exact J.nam h hk hlv hpos
  · rw [if_neg hc]
    exact ⟨J, Nat.le_refl _, fun h => .inl h⟩

/-- A round keeps it, and lessens the room if something turned. -/
theorem Jn.round (H : Law t) (i0 : 0 ≤ i) (i1 : i ≤ t.W.size) (j0 : 0 ≤ j) (j1 : j ≤ t.W.size) {st : Rk × Rk} (J : Jn t level i j st0 st) :
    Jn t level i j st0 (roundF t level i j st).1 ∧ ((roundF t level i j st).2 = true → meaS t (roundF t level i j st).1 < meaS t st) := by
  obtain ⟨NM, PL⟩ := st
  have h1 := pass_ind (t := t) (level := level) (NM := NM) (neg := false) (i := i) (j := j) (Q := fun s => Jn t level i j st0 (NM, s.1) ∧ meaS t (NM, s.1) ≤ meaS t (NM, PL) ∧ (s.2 = true → meaS t (NM, s.1) < meaS t (NM, PL)))
    (fun r c pos x y s p hl hn hs => by
      obtain ⟨k1, k2, k3⟩ := Jn.stepP H i0 i1 j0 j1 hs.1 p hl hn
      refine ⟨k1, by have := hs.2.1; omega, fun h => ?_⟩
      rcases k3 h with h4 | h4
      · have := hs.2.2 h4; omega
      · have := hs.2.1; omega) (s := (PL, false)) ⟨J, Nat.le_refl _, fun h => by cases h⟩ _ (Nat.le_refl _)
  obtain ⟨p, hp⟩ : ∃ p, p = passF t level NM PL false i j := ⟨_, rfl⟩
  have h1' : Jn t level i j st0 (NM, p.1) ∧ meaS t (NM, p.1) ≤ meaS t (NM, PL) ∧ (p.2 = true → meaS t (NM, p.1) < meaS t (NM, PL)) := by rw [hp]; exact h1
  have h2 := heads_ind (t := t) (level := level) (PL := p.1) (i := i) (j := j) (Q := fun s => Jn t level i j st0 (s.1, p.1) ∧ meaS t (s.1, p.1) ≤ meaS t (NM, p.1) ∧ (s.2 = true → meaS t (s.1, p.1) < meaS t (NM, p.1)))
    (fun r x s hx hl hs => by
      obtain ⟨k1, k2, k3⟩ := Jn.stepN H i0 i1 j0 j1 hs.1 hx hl
      refine ⟨k1, by have := hs.2.1; omega, fun h => ?_⟩
      rcases k3 h with h4 | h4
      · have := hs.2.2 h4; omega
      · have := hs.2.1; omega) (s := (NM, false)) ⟨h1'.1, Nat.le_refl _, fun h => by cases h⟩ _ (Nat.le_refl _)
  unfold roundF headsF
  simp only
  rw [← hp]
  refine ⟨h2.1, fun h => ?_⟩
  rcases (Bool.or_eq_true _ _).mp h with h3 | h3
  · have := h1'.2.2 h3; have := h2.2.1; omega
  · have := h1'.2.1; have := h2.2.2 h3; omega
/-- Nothing would turn. -/
structure StillS (t : TS) (level i j : Int) (st : Rk × Rk) : Prop where
  p : ∀ r c pos x y, Pl t r c pos x y → lvR t x = level → y.neg = false → lessB (st.2 (t.off r c + pos) i j) (restF t st.1 st.2 y.seq (t.off r c) pos i j) = false
  n : ∀ r x, t.G.rules[r]? = some x → lvR t x = level → lessB (st.1 x.head.toNat i j) (ruleF t st.2 r x.conj i j) = false
theorem round_still {st : Rk × Rk} (h : (roundF t level i j st).2 = false) : (roundF t level i j st).1 = st ∧ StillS t level i j st := by
  obtain ⟨NM, PL⟩ := st
  unfold roundF at h ⊢
  simp only [Bool.or_eq_false_iff] at h ⊢
  obtain ⟨h1, h2⟩ := h
  unfold passF at h1 h2 ⊢
  obtain ⟨k1, k2, k3⟩ := pass_still _ (Nat.le_refl _) h1
  rw [k1] at h2 ⊢
  simp only at h2 ⊢
  unfold headsF at h2 ⊢
  obtain ⟨m1, m2, m3⟩ := heads_still _ (Nat.le_refl _) h2
  rw [m1]
  exact ⟨rfl, fun r c pos x y p hl hn => k3 r c pos x y (List.getElem?_eq_some_iff.1 p.hx).1 p hl hn, fun r x hx hl => m3 r x (List.getElem?_eq_some_iff.1 hx).1 hx hl⟩
theorem runs_end (H : Law t) (i0 : 0 ≤ i) (i1 : i ≤ t.W.size) (j0 : 0 ≤ j) (j1 : j ≤ t.W.size) {n : Nat} {st fin : Rk × Rk} (h : RunsN t level i j n st fin) (J : Jn t level i j st0 st) : Jn t level i j st0 fin ∧ StillS t level i j fin := by
  induction h with
  | stop h => obtain ⟨k1, k2⟩ := round_still h; rw [k1]; exact ⟨J, k2⟩
  | more h k ih => exact ih (J.round H i0 i1 j0 j1).1
theorem runs_exist (H : Law t) (i0 : 0 ≤ i) (i1 : i ≤ t.W.size) (j0 : 0 ≤ j) (j1 : j ≤ t.W.size) : ∀ (m : Nat) {st : Rk × Rk}, meaS t st ≤ m → Jn t level i j st0 st → ∃ n fin, RunsN t level i j n st fin := by
  intro m
  induction m with
  | zero =>
    intro st hm J
    cases hr : (roundF t level i j st).2 with
    | false => exact ⟨0, _, .stop hr⟩
    | true => have := (J.round H i0 i1 j0 j1).2 hr; omega
  | succ m ih =>
    intro st hm J
    cases hr : (roundF t level i j st).2 with
    | false => exact ⟨0, _, .stop hr⟩
    | true =>
      obtain ⟨k1, k2⟩ := J.round H i0 i1 j0 j1
      obtain ⟨n, fin, hn⟩ := ih (by have := k2 hr; omega) k1
      exact ⟨n + 1, fin, .more hr hn⟩
end
end Go.Proofs.Ytbidpeggdhkahaa

namespace Go.Proofs.Ytbidpeggdhkahaa
open Go.RowKit

structure EqN (t : TS) (NM PL : Rk) (h : Nat) (i j : Int) : Prop where
  low : 0 ≤ NM h i j
  le : ∀ r x, t.G.rules[r]? = some x → x.head.toNat = h → 0 < ruleF t PL r x.conj i j → 0 < NM h i j ∧ NM h i j ≤ ruleF t PL r x.conj i j
  is : 0 < NM h i j → ∃ r x, t.G.rules[r]? = some x ∧ x.head.toNat = h ∧ 0 < ruleF t PL r x.conj i j ∧ NM h i j = ruleF t PL r x.conj i j
structure EqS (t : TS) (st : Rk × Rk) (level : Int) (i j : Int) : Prop where
  p : ∀ r c pos x y, Pl t r c pos x y → lvR t x = level → EqP t st.1 st.2 r c pos y i j
  n : ∀ h, h < t.K → t.lev.getD h 0 = level → EqN t st.1 st.2 h i j
structure ZeroS (t : TS) (st : Rk × Rk) (level : Int) (i j : Int) : Prop where
  p : ∀ r c pos x y, Pl t r c pos x y → lvR t x = level → st.2 (t.off r c + pos) i j = 0
  n : ∀ h, h < t.K → t.lev.getD h 0 = level → st.1 h i j = 0
theorem stage_done {t : TS} (H : Law t) {level i j : Int} {st0 fin : Rk × Rk} (J : Jn t level i j st0 fin) (S : StillS t level i j fin) : EqS t fin level i j := by
  constructor
  · intro r c pos x y p hl
    cases hn : y.neg with
    | true => exact J.neg r c pos x y p hl hn
    | false =>
      have h1 := lessB_false (S.p r c pos x y p hl hn)
      have h2 := (J.inv.2 (t.off r c + pos) i j).1
      have h3 := (restF_bound (by omega) (InvB.big H.F) J.inv.1 J.inv.2 (t := t) y.seq (t.off r c) pos i j).1
      unfold EqP
      by_cases hp : 0 < fin.2 (t.off r c + pos) i j
      · have h4 := J.pos r c pos x y p hl hn hp
        omega
      · omega
  · intro h hk hl
    refine ⟨(J.inv.1 h i j).1, fun r x hx hh hr => ?_, fun hp => ?_⟩
    · have h1 := lessB_false (S.n r x hx (by unfold lvR; rw [hh]; exact hl))
      rw [hh] at h1
      omega
    · obtain ⟨r, x, hx, hh, h1, h2⟩ := J.nam h hk hl hp
      have h3 := lessB_false (S.n r x hx (by unfold lvR; rw [hh]; exact hl))
      rw [hh] at h3
      exact ⟨r, x, hx, hh, h1, by omega⟩

/-- One stage stands before another one. -/
def Bef (l i L l0 i0 L0 : Nat) : Prop := l < l0 ∨ (l = l0 ∧ (i < i0 ∨ (i = i0 ∧ L < L0)))
structure InvM (t : TS) (l0 i0 L0 : Nat) (st : Rk × Rk) : Prop where
  inv : InvB t st
  done : ∀ l i L : Nat, l + i ≤ t.W.size → L < t.K → Bef l i L l0 i0 L0 → EqS t st L i (i + l)
  zero : ∀ l i L : Nat, l + i ≤ t.W.size → L < t.K → ¬ Bef l i L l0 i0 L0 → ZeroS t st L i (i + l)
theorem InvM.to {t : TS} {l0 i0 L0 l1 i1 L1 : Nat} {st : Rk × Rk} (h : InvM t l0 i0 L0 st) (he : ∀ l i L : Nat, l + i ≤ t.W.size → L < t.K → (Bef l i L l1 i1 L1 ↔ Bef l i L l0 i0 L0)) : InvM t l1 i1 L1 st :=
  ⟨h.inv, fun l i L a b c => h.done l i L a b ((he l i L a b).1 c), fun l i L a b c => h.zero l i L a b (fun e => c ((he l i L a b).2 e))⟩
theorem jn_start {t : TS} (H : Law t) {l i L : Nat} (hli : l + i ≤ t.W.size) (hL : L < t.K) {st : Rk × Rk} (I : InvM t l i L st) :
    Jn t L i (i + l) st (st.1, (passF t L st.1 st.2 true i (i + l)).1) := by
  have hz := I.zero l i L hli hL (by unfold Bef; omega)
  have h0 : NegQ t L i (i + l) st.1 st.2 (fun r _ => r < 0) st.2 := ⟨I.inv, fun q k l' h => absurd rfl h, fun r c pos x y p _ _ h => absurd h (Nat.not_lt_zero _), fun r c pos x y p hl _ _ => hz.p r c pos x y p hl⟩
  have h1 := neg_pass H (level := L) (i := i) (j := i + l) (by omega) (by omega) (by omega) (by omega) (s := (st.2, false)) h0 _ (Nat.le_refl _)
  refine ⟨h1.inv, fun h k l' hne => absurd rfl hne, fun q k l' hq => ?_, fun r c pos x y p hl hn => h1.done r c pos x y p hl hn (List.getElem?_eq_some_iff.1 p.hx).1, fun r c pos x y p hl hn hp => ?_, fun h hk hl hp => ?_⟩
  · obtain ⟨e1, e2, r, c, pos, x, y, p, a, -, b⟩ := h1.fr q k l' hq
    exact ⟨e1, e2, r, c, pos, x, y, p, a, b⟩
  · exfalso
    have h2 := hz.p r c pos x y p hl
    by_cases e : (passF t L st.1 st.2 true i (i + l)).1 (t.off r c + pos) i (i + l) = st.2 (t.off r c + pos) i (i + l)
    · simp only at hp; rw [e, h2] at hp; omega
    · obtain ⟨-, -, r', c', pos', x', y', p', -, hn', e'⟩ := h1.fr _ _ _ e
      obtain ⟨-, -, -, -, rfl⟩ := H.sep p p' e'
      rw [hn] at hn'
      cases hn'
  · exfalso
    have h2 := hz.n h hk hl
    simp only at hp
    omega
theorem level_inv {t : TS} (H : Law t) {l i L : Nat} (hli : l + i ≤ t.W.size) (hL : L < t.K) {st fin : Rk × Rk} (I : InvM t l i L st) (hd : LevelDone t L i (i + l) st fin) : InvM t l i (L + 1) fin := by
  obtain ⟨n, hn⟩ := hd
  obtain ⟨J, S⟩ := runs_end H (by omega) (by omega) (by omega) (by omega) hn (jn_start H hli hL I)
  have hE := stage_done H J S
  have fN : ∀ h (k l' : Int), ¬ (k = i ∧ l' = i + l ∧ t.lev.getD h 0 = L) → fin.1 h k l' = st.1 h k l' := fun h k l' hne => by
    by_cases e : fin.1 h k l' = st.1 h k l'
    · exact e
    · obtain ⟨a, b, -, c⟩ := J.frN h k l' e
      exact absurd ⟨a, b, c⟩ hne
  have fP : ∀ r c pos x y (k l' : Int), Pl t r c pos x y → ¬ (k = i ∧ l' = i + l ∧ lvR t x = L) → fin.2 (t.off r c + pos) k l' = st.2 (t.off r c + pos) k l' := fun r c pos x y k l' p hne => by
    by_cases e : fin.2 (t.off r c + pos) k l' = st.2 (t.off r c + pos) k l'
    · exact e
    · obtain ⟨a, b, r', c', pos', x', y', p', hl, e'⟩ := J.frP _ k l' e
      obtain ⟨-, -, -, rfl, -⟩ := H.sep p p' e'
      exact absurd ⟨a, b, hl⟩ hne
  refine ⟨J.inv, fun l' i' L' hv hL' hb => ?_, fun l' i' L' hv hL' hb => ?_⟩
  · by_cases hs : l' = l ∧ i' = i ∧ L' = L
    · obtain ⟨rfl, rfl, rfl⟩ := hs
      exact hE
    · have hb' : Bef l' i' L' l i L := by unfold Bef at hb ⊢; omega
      have hO := I.done l' i' L' hv hL' hb'
      have hne : ¬ ((i' : Int) = i ∧ ((i' : Int) + l' = i + l) ∧ (L' : Int) = L) := by unfold Bef at hb'; omega
      constructor
      · intro r c pos x y p hl
        have h1 := hO.p r c pos x y p hl
        unfold EqP at h1 ⊢
        rw [fP r c pos x y _ _ p (by rw [hl]; exact hne), h1]
        refine restF_congr (fun s hs0 h0 k k0 k1 => (fN _ _ _ ?_).symm) (fun hp k k0 k1 => ?_)
        · rintro ⟨e1, e2, e3⟩
          have h2 := H.edge p hs0 h0
          have h3 : 0 ≤ negI y.neg := by unfold negI; split <;> omega
          rw [hl] at h2
          unfold Bef at hb'
          omega
        · have := fP r c (pos + 1) x y k (i' + l') (p.next hp) (by rw [hl]; rintro ⟨e1, e2, e3⟩; unfold Bef at hb'; omega)
          rw [← Nat.add_assoc] at this
          exact this.symm
      · intro h hk hl
        have h1 := hO.n h hk hl
        have e1 := fN h i' (i' + l') (by rw [hl]; exact hne)
        have e2 : ∀ r x, t.G.rules[r]? = some x → x.head.toNat = h → ruleF t fin.2 r x.conj i' (i' + l') = ruleF t st.2 r x.conj i' (i' + l') := fun r x hx hh => by
          refine ruleF_congr (fun c hc => ?_)
          have := fP r c 0 x x.conj[c] i' (i' + l') ⟨hx, List.getElem?_eq_getElem hc, Nat.zero_le _⟩ (by unfold lvR; rw [hh, hl]; exact hne)
          simpa using this
        refine ⟨by rw [e1]; exact h1.low, fun r x hx hh hr => ?_, fun hp => ?_⟩
        · rw [e2 r x hx hh] at hr ⊢
          rw [e1]
          exact h1.le r x hx hh hr
        · rw [e1] at hp ⊢
          obtain ⟨r, x, hx, hh, a, b⟩ := h1.is hp
          exact ⟨r, x, hx, hh, by rw [e2 r x hx hh]; exact a, by rw [e2 r x hx hh]; exact b⟩
  · have hO := I.zero l' i' L' hv hL' (by unfold Bef at hb ⊢; omega)
    have hne : ¬ ((i' : Int) = i ∧ ((i' : Int) + l' = i + l) ∧ (L' : Int) = L) := by unfold Bef at hb; omega
    exact ⟨fun r c pos x y p hl => by rw [fP r c pos x y _ _ p (by rw [hl]; exact hne)]; exact hO.p r c pos x y p hl, fun h hk hl => by rw [fN h _ _ (by rw [hl]; exact hne)]; exact hO.n h hk hl⟩
theorem level_exist {t : TS} (H : Law t) {l i L : Nat} (hli : l + i ≤ t.W.size) (hL : L < t.K) {st : Rk × Rk} (I : InvM t l i L st) : ∃ fin, LevelDone t L i (i + l) st fin := by
  obtain ⟨n, fin, h⟩ := runs_exist H (by omega) (by omega) (by omega) (by omega) _ (Nat.le_refl _) (jn_start H hli hL I)
  exact ⟨fin, n, h⟩
theorem span_inv {t : TS} (H : Law t) {l i : Nat} (hli : l + i ≤ t.W.size) {st st' : Rk × Rk} (I : InvM t l i 0 st) (hd : SpanDone t i (i + l) st st') : InvM t l (i + 1) 0 st' := by
  obtain ⟨sq, h0, hs, he⟩ := hd
  have h1 : ∀ k, k ≤ t.K → InvM t l i k (sq k) := by
    intro k
    induction k with
    | zero => intro _; rw [h0]; exact I
    | succ k ih => intro hk; exact level_inv H hli (by omega) (ih (by omega)) (hs k (by omega))
  rw [← he]
  exact (h1 t.K (Nat.le_refl _)).to (fun l' i' L' _ _ => by unfold Bef; omega)
open Classical in
noncomputable def nextL (t : TS) (l i : Nat) (L : Nat) (st : Rk × Rk) : Rk × Rk := if h : ∃ fin, LevelDone t L i (i + l) st fin then Classical.choose h else st
noncomputable def sqOf (t : TS) (l i : Nat) (st : Rk × Rk) : Nat → Rk × Rk
  | 0 => st
  | k + 1 => nextL t l i k (sqOf t l i st k)
theorem sqOf_inv {t : TS} (H : Law t) {l i : Nat} (hli : l + i ≤ t.W.size) {st : Rk × Rk} (I : InvM t l i 0 st) : ∀ k, k ≤ t.K → InvM t l i k (sqOf t l i st k) ∧ ∀ m, m < k → LevelDone t m i (i + l) (sqOf t l i st m) (sqOf t l i st (m + 1)) := by
  intro k
  induction k with
  | zero => intro _; exact ⟨I, fun m hm => by omega⟩
  | succ k ih =>
    intro hk
    obtain ⟨h1, h2⟩ := ih (by omega)
    have h3 := level_exist H hli (by omega) h1
    have h4 : LevelDone t k i (i + l) (sqOf t l i st k) (sqOf t l i st (k + 1)) := by
      show LevelDone t k i (i + l) (sqOf t l i st k) (nextL t l i k (sqOf t l i st k))
      unfold nextL
      rw [dif_pos h3]
      exact Classical.choose_spec h3
    refine ⟨level_inv H hli (by omega) h1 h4, fun m hm => ?_⟩
    by_cases hmk : m = k
    · subst hmk; exact h4
    · exact h2 m (by omega)
theorem span_exist {t : TS} (H : Law t) {l i : Nat} (hli : l + i ≤ t.W.size) {st : Rk × Rk} (I : InvM t l i 0 st) : SpanDone t i (i + l) st (sqOf t l i st t.K) :=
  ⟨sqOf t l i st, rfl, (sqOf_inv H hli I t.K (Nat.le_refl _)).2, rfl⟩
noncomputable def rowOf (t : TS) (l : Nat) (st : Rk × Rk) : Nat → Rk × Rk
  | 0 => st
  | i + 1 => sqOf t l i (rowOf t l st i) t.K
noncomputable def firstOf (t : TS) : Nat → Rk × Rk
  | 0 => (fun _ _ _ => 0, fun _ _ _ => 0)
  | l + 1 => rowOf t l (firstOf t l) (t.W.size + 1 - l)
theorem row_inv {t : TS} (H : Law t) {l : Nat} {st : Rk × Rk} (I : InvM t l 0 0 st) : ∀ i, l + i ≤ t.W.size + 1 → InvM t l i 0 (rowOf t l st i) := by
  intro i
  induction i with
  | zero => intro _; exact I
  | succ i ih =>
    intro h
    have h1 := ih (by omega)
    exact span_inv H (by omega) h1 (span_exist H (by omega) h1)
theorem inv_start (t : TS) : InvM t 0 0 0 (fun _ _ _ => 0, fun _ _ _ => 0) :=
  ⟨⟨fun _ _ _ => ⟨Int.le_refl _, by simp only; omega⟩, fun _ _ _ => ⟨Int.le_refl _, by simp only; omega⟩⟩, fun l i L _ _ h => by unfold Bef at h; omega, fun l i L _ _ _ => ⟨fun _ _ _ _ _ _ _ => rfl, fun _ _ _ => rfl⟩⟩
theorem first_inv {t : TS} (H : Law t) : ∀ l, l ≤ t.W.size + 1 → InvM t l 0 0 (firstOf t l) := by
  intro l
  induction l with
  | zero => intro _; exact inv_start t
  | succ l ih =>
    intro h
    exact (row_inv H (ih (by omega)) (t.W.size + 1 - l) (by omega)).to (fun l' i' L' _ _ => by unfold Bef; omega)
/-- The reckoning ends. -/
theorem all_exist {t : TS} (H : Law t) : ∃ fin, AllDone t fin :=
  ⟨firstOf t (t.W.size + 1), fun l i => rowOf t l (firstOf t l) i, rfl, fun l i h => span_exist H h (row_inv H (first_inv H l (by omega)) i (by omega)), fun l _ => rfl, rfl⟩

/-- The rows solve the equations. -/
structure Sol (t : TS) (st : Rk × Rk) : Prop where
  inv : InvB t st
  p : ∀ r c pos x y (i j : Int), Pl t r c pos x y → 0 ≤ i → i ≤ j → j ≤ t.W.size → EqP t st.1 st.2 r c pos y i j
  n : ∀ h (i j : Int), h < t.K → 0 ≤ i → i ≤ j → j ≤ t.W.size → EqN t st.1 st.2 h i j
theorem all_inv {t : TS} (H : Law t) {fin : Rk × Rk} (h : AllDone t fin) : InvM t (t.W.size + 1) 0 0 fin := by
  obtain ⟨f, h0, h1, h2, h3⟩ := h
  have key : ∀ l, l ≤ t.W.size + 1 → InvM t l 0 0 (f l 0) := by
    intro l
    induction l with
    | zero => intro _; rw [h0]; exact inv_start t
    | succ l ih =>
      intro hl
      have hr : ∀ i, l + i ≤ t.W.size + 1 → InvM t l i 0 (f l i) := by
        intro i
        induction i with
        | zero => intro _; exact ih (by omega)
        | succ i ihi => intro hi; exact span_inv H (by omega) (ihi (by omega)) (h1 l i (by omega))
      rw [h2 l (by omega)]
      exact (hr (t.W.size + 1 - l) (by omega)).to (fun l' i' L' _ _ => by unfold Bef; omega)
  rw [← h3]
  exact key _ (Nat.le_refl _)
theorem sol_of {t : TS} (H : Law t) {fin : Rk × Rk} (h : AllDone t fin) : Sol t fin := by
  have I := all_inv H h
  have lvl : ∀ q, q < t.K → ∃ L : Nat, L < t.K ∧ t.lev.getD q 0 = L := fun q hq => by
    have h1 := H.good.low q hq
    exact ⟨(t.lev.getD q 0).toNat, by have := h1.2; unfold TS.K at *; omega, by omega⟩
  refine ⟨I.inv, fun r c pos x y i j p i0 ij j1 => ?_, fun q i j hq i0 ij j1 => ?_⟩
  · obtain ⟨L, hL, e⟩ := lvl _ (H.head p.hx)
    obtain ⟨a, rfl⟩ : ∃ a : Nat, i = a := ⟨i.toNat, by omega⟩
    obtain ⟨b, rfl⟩ : ∃ b : Nat, j = a + b := ⟨(j - a).toNat, by omega⟩
    exact (I.done b a L (by omega) hL (by unfold Bef; omega)).p r c pos x y p e
  · obtain ⟨L, hL, e⟩ := lvl q hq
    obtain ⟨a, rfl⟩ : ∃ a : Nat, i = a := ⟨i.toNat, by omega⟩
    obtain ⟨b, rfl⟩ : ∃ b : Nat, j = a + b := ⟨(j - a).toNat, by omega⟩
    exact (I.done b a L (by omega) hL (by unfold Bef; omega)).n q hq e
end Go.Proofs.Ytbidpeggdhkahaa
