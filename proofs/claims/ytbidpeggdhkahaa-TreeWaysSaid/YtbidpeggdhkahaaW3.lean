/-
  W3: levels: what the rounds of strata.Strata keep; which grammars have edges, levels. No program in sight.
-/
import Derived.Test.YtbidpeggdhkahaaW2
import Derived.Test.YtbidpeggdhkahaaMp
import Derived.Test.YtbidpeggdhkahaaG4
set_option linter.unusedSimpArgs false
set_option linter.unusedVariables false
namespace Go.Proofs.Ytbidpeggdhkahaa
open Go.RowKit

def negI (b : Bool) : Int := if b then 1 else 0
def cntB (f : Nat → Bool) : Nat → Nat
  | 0 => 0
  | n + 1 => cntB f n + (if f n then 1 else 0)
theorem cntB_le (f : Nat → Bool) (n : Nat) : cntB f n ≤ n := by
  induction n with
  | zero => exact Nat.le_refl _
  | succ n ih => unfold cntB; split <;> omega
theorem cntB_mono {f g : Nat → Bool} {n : Nat} (h : ∀ j, j < n → f j = true → g j = true) : cntB f n ≤ cntB g n := by
  induction n with
  | zero => exact Nat.le_refl _
  | succ n ih =>
    have h1 := ih (fun j hj => h j (by omega))
    unfold cntB
    by_cases hf : f n = true
    · rw [if_pos hf, if_pos (h n (by omega) hf)]; omega
    · rw [if_neg hf]; omega
theorem cntB_lt {f g : Nat → Bool} {n : Nat} (h : ∀ j, j < n → f j = true → g j = true) {i : Nat} (hi : i < n) (hf : f i = false) (hg : g i = true) : cntB f n < cntB g n := by
  induction n with
  | zero => omega
  | succ n ih =>
    unfold cntB
    by_cases hin : i = n
    · subst hin
      have h1 := cntB_mono (fun j hj => h j (by omega)) (n := i)
      simp only [hf, hg, Bool.false_eq_true, if_false, if_true]
      omega
    · have h1 := ih (fun j hj => h j (by omega)) (by omega)
      by_cases hf' : f n = true
      · rw [if_pos hf', if_pos (h n (by omega) hf')]; omega
      · rw [if_neg hf']; omega
theorem cntB_pos {f : Nat → Bool} {n i : Nat} (hi : i < n) (hf : f i = true) : 1 ≤ cntB f n := by
  induction n with
  | zero => omega
  | succ n ih =>
    unfold cntB
    by_cases hin : i = n
    · subst hin; rw [if_pos hf]; omega
    · have := ih (by omega); omega
/-- How many names a name leads to, itself among them. -/
def rcN (K : Nat) (es : List Edg) (i : Nat) : Nat := cntB (fun j => reachB K es i j) K
structure LevInv (K : Nat) (es : List Edg) (F : Nat → Int) : Prop where
  low : ∀ i, i < K → 0 ≤ F i
  high : ∀ i, i < K → F i + 1 ≤ rcN K es i
theorem LevInv.lt {K : Nat} {es : List Edg} {F : Nat → Int} (I : LevInv K es F) {i : Nat} (hi : i < K) : F i < K := by
  have h1 := I.high i hi
  have h2 := cntB_le (fun j => reachB K es i j) K
  unfold rcN at h1
  omega
theorem LevInv.start {K : Nat} {es : List Edg} (hE : EdgesIn K es) : LevInv K es (fun _ => 0) := by
  refine ⟨fun i _ => Int.le_refl _, fun i hi => ?_⟩
  have := cntB_pos (f := fun j => reachB K es i j) hi ((reachB_iff hE hi).2 (.refl _))
  unfold rcN
  omega
theorem LevInv.step {K : Nat} {es : List Edg} {F : Nat → Int} (I : LevInv K es F) (hE : EdgesIn K es) (hN : ¬ NegCyc es) {e : Edg} (he : e ∈ es) : LevInv K es (updI F e.fr (F e.to + negI e.neg)) ∧ F e.to + negI e.neg < K := by
  obtain ⟨h1, h2⟩ := hE e he
  have hs : ∀ j, j < K → reachB K es e.to j = true → reachB K es e.fr j = true := fun j _ hj => (reachB_iff hE h1).2 (Path.step he ((reachB_iff hE h2).1 hj))
  have h3 := I.high _ h2
  have h4 := I.low _ h2
  have h5 : F e.to + negI e.neg + 1 ≤ rcN K es e.fr := by
    cases hn : e.neg with
    | false =>
      have : rcN K es e.to ≤ rcN K es e.fr := cntB_mono hs
      simp only [negI, Bool.false_eq_true, if_false]
      omega
    | true =>
      have h6 : reachB K es e.to e.fr = false := by
        rw [Bool.eq_false_iff]
        intro h
        exact hN ⟨e, he, hn, (reachB_iff hE h2).1 h⟩
      have : rcN K es e.to < rcN K es e.fr := cntB_lt hs h1 h6 ((reachB_iff hE h1).2 (.refl _))
      simp only [negI, if_true]
      omega
  have h7 := cntB_le (fun j => reachB K es e.fr j) K
  have h8 : 0 ≤ negI e.neg := by unfold negI; split <;> omega
  refine ⟨⟨fun i hi => ?_, fun i hi => ?_⟩, by unfold rcN at h5; omega⟩
  · unfold updI; split
    · omega
    · exact I.low i hi
  · unfold updI; split
    · rename_i h; rw [h]; exact h5
    · exact I.high i hi
def roomF (F : Nat → Int) (K : Nat) : Nat → Nat
  | 0 => 0
  | n + 1 => roomF F K n + ((K : Int) - F n).toNat
theorem roomF_out {F : Nat → Int} {K i : Nat} {v : Int} : ∀ {n : Nat}, n ≤ i → roomF (updI F i v) K n = roomF F K n := by
  intro n
  induction n with
  | zero => intro _; rfl
  | succ n ih =>
    intro h
    have : ¬ n = i := by omega
    simp only [roomF, ih (by omega : n ≤ i), updI, if_neg this]
theorem roomF_upd {F : Nat → Int} {K i : Nat} {v : Int} (h1 : F i < v) (h2 : v ≤ K) : ∀ {n : Nat}, i < n → roomF (updI F i v) K n < roomF F K n := by
  intro n
  induction n with
  | zero => intro h; omega
  | succ n ih =>
    intro h
    by_cases hin : n = i
    · subst hin
      simp only [roomF, roomF_out (Nat.le_refl _), updI, if_true]
      omega
    · have := ih (by omega)
      simp only [roomF, updI, if_neg hin] at this ⊢
      omega

/-! A grammar's edges. -/
def conjEdges (h : Int) (c : Conj) : List Edg := c.seq.filterMap (fun s => if 0 ≤ s.name then some ⟨h.toNat, s.name.toNat, c.neg⟩ else none)
def edgesOf (G : Gram) : List Edg := G.rules.flatMap (fun r => r.conj.flatMap (conjEdges r.head))
theorem mem_edgesOf {G : Gram} {e : Edg} : e ∈ edgesOf G ↔ ∃ r ∈ G.rules, ∃ c ∈ r.conj, ∃ s ∈ c.seq, 0 ≤ s.name ∧ e = ⟨r.head.toNat, s.name.toNat, c.neg⟩ := by
  unfold edgesOf conjEdges
  simp only [List.mem_flatMap, List.mem_filterMap]
  constructor
  · rintro ⟨r, hr, c, hc, s, hs, h⟩
    split at h
    · rename_i h0
      exact ⟨r, hr, c, hc, s, hs, h0, (Option.some.inj h).symm⟩
    · cases h
  · rintro ⟨r, hr, c, hc, s, hs, h0, rfl⟩
    exact ⟨r, hr, c, hc, s, hs, by rw [if_pos h0]⟩
theorem Path.mono {es es' : List Edg} (h : ∀ e, e ∈ es → e ∈ es') {a b : Nat} (p : Path es a b) : Path es' a b := by
  induction p with
  | refl => exact .refl _
  | step he _ ih => exact .step (h _ he) ih
theorem NegCyc.mono {es es' : List Edg} (h : ∀ e, e ∈ es → e ∈ es') : NegCyc es → NegCyc es' := by
  rintro ⟨e, he, h1, h2⟩
  exact ⟨e, h e he, h1, h2.mono h⟩
theorem NegCyc.iff {es es' : List Edg} (h : ∀ e, e ∈ es ↔ e ∈ es') : NegCyc es ↔ NegCyc es' := ⟨NegCyc.mono fun e => (h e).1, NegCyc.mono fun e => (h e).2⟩

/-! What 'may' says. -/
theorem stepsB_at {rs : List Rul} {n : Int} {m : Nat} (h : stepsB rs n m = true) {k : Nat} (hk : k < m) : stepB rs n k = true := by
  unfold stepsB at h
  rw [List.all_eq_true] at h
  exact h k (List.mem_range.2 hk)
structure MayG (G : Gram) : Prop where
  names : namesB G.names = true
  K1 : 1 ≤ G.names.length
  K64 : G.names.length ≤ 64
  start0 : 0 ≤ G.start
  start1 : G.start < G.names.length
  rules1 : 1 ≤ G.rules.length
  rules : G.rules.length ≤ 256
  head : ∀ (r : Nat) (x : Rul), G.rules[r]? = some x → 0 ≤ x.head ∧ x.head < G.names.length
  conj : ∀ (r : Nat) (x : Rul), G.rules[r]? = some x → 1 ≤ x.conj.length ∧ x.conj.length ≤ 8
  seq : ∀ (r : Nat) (x : Rul) (c : Nat) (y : Conj), G.rules[r]? = some x → x.conj[c]? = some y → y.seq.length ≤ 64
  sym : ∀ (r : Nat) (x : Rul) (c : Nat) (y : Conj) (k : Nat) (s : Sym), G.rules[r]? = some x → x.conj[c]? = some y → y.seq[k]? = some s → symB s G.names.length = true
  tot : tot G.rules G.rules.length ≤ 1024
theorem hdAt_mono {rs : List Rul} {n : Int} {m : Nat} (h : stepsB rs n m = true) : ∀ {b a : Nat}, a ≤ b → b ≤ m → hdAt rs a ≤ hdAt rs b ∨ a = 0 := by
  intro b
  induction b with
  | zero => intro a ha _; right; omega
  | succ b ih =>
    intro a ha hb
    by_cases hab : a = b + 1
    · subst hab; left; exact Int.le_refl _
    · rcases ih (a := a) (by omega) (by omega) with h1 | h1
      · left
        have h2 := stepsB_at h (k := b) (by omega)
        unfold stepB at h2
        cases hx : rs[b]? with
        | none => rw [hx] at h2; cases h2
        | some x =>
          rw [hx] at h2
          simp only [Bool.and_eq_true, decide_eq_true_eq] at h2
          have : hdAt rs (b + 1) = x.head := by simp [hdAt, hx]
          omega
      · right; exact h1
theorem mayG {G : Gram} (h : mayB G = true) : MayG G := by
  unfold mayB at h
  simp only [Bool.and_eq_true, decide_eq_true_eq] at h
  obtain ⟨⟨⟨⟨⟨⟨⟨hn, h0⟩, h1⟩, h2⟩, h3⟩, hs⟩, h4⟩, h5⟩ := h
  have hn' := hn
  unfold namesB at hn'
  simp only [Bool.and_eq_true, decide_eq_true_eq] at hn'
  have hrule : ∀ (r : Nat) (x : Rul), G.rules[r]? = some x → ruleB x G.names.length = true ∧ hdAt G.rules r ≤ x.head ∧ tot G.rules (r + 1) ≤ 1024 := by
    intro r x hx
    have hr : r < G.rules.length := (List.getElem?_eq_some_iff.1 hx).1
    have h6 := stepsB_at hs hr
    unfold stepB at h6
    rw [hx] at h6
    simp only [Bool.and_eq_true, decide_eq_true_eq] at h6
    exact ⟨h6.1.1.1, h6.1.1.2, h6.2⟩
  refine ⟨hn, hn'.1.1.1, hn'.1.1.2, h0, h1, h2, h3, fun r x hx => ?_, fun r x hx => ?_, fun r x c y hx hy => ?_, fun r x c y k s hx hy hk => ?_, ?_⟩
  · have hr : r < G.rules.length := (List.getElem?_eq_some_iff.1 hx).1
    have e1 : hdAt G.rules (r + 1) = x.head := by simp [hdAt, hx]
    have h7 := hdAt_mono hs (a := 1) (b := r + 1) (by omega) (by omega)
    have h8 := hdAt_mono hs (a := r + 1) (b := G.rules.length) (by omega) (Nat.le_refl _)
    omega
  · have := (hrule r x hx).1
    unfold ruleB at this
    simp only [Bool.and_eq_true, decide_eq_true_eq] at this
    exact this.1
  · have := (hrule r x hx).1
    unfold ruleB at this
    simp only [Bool.and_eq_true, decide_eq_true_eq, List.all_eq_true] at this
    have := this.2 y (List.mem_of_getElem? hy)
    unfold conjB at this
    simp only [Bool.and_eq_true, decide_eq_true_eq] at this
    exact this.1
  · have := (hrule r x hx).1
    unfold ruleB at this
    simp only [Bool.and_eq_true, decide_eq_true_eq, List.all_eq_true] at this
    have := this.2 y (List.mem_of_getElem? hy)
    unfold conjB at this
    simp only [Bool.and_eq_true, decide_eq_true_eq, List.all_eq_true] at this
    exact this.2 s (List.mem_of_getElem? hk)
  · obtain ⟨m, hm⟩ : ∃ m, G.rules.length = m + 1 := ⟨G.rules.length - 1, by omega⟩
    rw [hm]
    exact (hrule m _ (List.getElem?_eq_getElem (by omega))).2.2
theorem symB_lt {s : Sym} {n : Int} (h : symB s n = true) (hn : 0 < n) : s.name < n ∧ -1 ≤ s.name := by
  unfold symB at h
  split at h
  · omega
  · simp only [Bool.and_eq_true, decide_eq_true_eq] at h; omega
theorem edgesIn_of {G : Gram} (M : MayG G) : EdgesIn G.names.length (edgesOf G) := by
  intro e he
  obtain ⟨r, hr, c, hc, s, hs, h0, rfl⟩ := mem_edgesOf.1 he
  obtain ⟨i, hi⟩ := List.getElem?_of_mem hr
  obtain ⟨j, hj⟩ := List.getElem?_of_mem hc
  obtain ⟨k, hk⟩ := List.getElem?_of_mem hs
  have h1 := M.head i r hi
  have h2 := symB_lt (M.sym i r j c k s hi hj hk) (by have := M.K1; omega)
  simp only
  omega
theorem cSum_le (cs : List Conj) : ∀ n, cSum cs n ≤ sSum cs n + n := by
  intro n
  induction n with
  | zero => exact Nat.le_refl _
  | succ n ih =>
    unfold cSum sSum
    cases cs[n]? with
    | none => simp only; omega
    | some y => simp only; omega
theorem rSum_le (rs : List Rul) (h : ∀ (r : Nat) (x : Rul), rs[r]? = some x → x.conj.length ≤ 8) : ∀ n, rSum rs n ≤ tot rs n + 8 * n := by
  intro n
  induction n with
  | zero => exact Nat.le_refl _
  | succ n ih =>
    unfold rSum tot
    cases hx : rs[n]? with
    | none => simp only; omega
    | some x => have := cSum_le x.conj x.conj.length; have := h n x hx; simp only; omega
theorem gfits_of {G : Gram} (M : MayG G) {lev : List Int} (hl : lev.length = G.names.length) : GFits G lev :=
  ⟨M.K1, M.K64, M.rules, M.rules1, M.conj, M.seq, fun r x c y k s hx hy hk => (symB_lt (M.sym r x c y k s hx hy hk) (by have := M.K1; omega)).1, M.head, hl, by
    have h1 := rSum_le G.rules (fun r x hx => (M.conj r x hx).2) G.rules.length
    have h2 := M.tot
    have h3 := M.rules
    unfold qG
    omega⟩

/-- Strata refuses. -/
def RefG (G : Gram) : Prop := mayB G = false ∨ NegCyc (edgesOf G)
/-- Levels that serve. -/
structure GoodLev (G : Gram) (lev : List Int) : Prop where
  may : mayB G = true
  cyc : ¬ NegCyc (edgesOf G)
  len : lev.length = G.names.length
  low : ∀ i, i < G.names.length → 0 ≤ lev.getD i 0 ∧ lev.getD i 0 < G.names.length
  edge : ∀ e ∈ edgesOf G, lev.getD e.to 0 + negI e.neg ≤ lev.getD e.fr 0
def levOf (K : Nat) (F : Nat → Int) : List Int := (List.range K).map F
theorem levOf_getD {K i : Nat} {F : Nat → Int} (h : i < K) : (levOf K F).getD i 0 = F i := by simp [levOf, h]
end Go.Proofs.Ytbidpeggdhkahaa
