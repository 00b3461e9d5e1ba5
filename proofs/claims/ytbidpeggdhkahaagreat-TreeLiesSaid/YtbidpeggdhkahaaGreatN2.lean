/-
  N1: the document's own table (templeref6): membership level by level till nothing changes is the meaning. No program in sight.
  N2: the document's own table: ranks round by round, all at once, are the true ones. No program in sight.
-/
import Derived.Test.YtbidpeggdhkahaaGreatI2
set_option linter.unusedSimpArgs false
set_option linter.unusedVariables false
namespace Go.Proofs.YtbidpeggdhkahaaGreat
open Go.RowKit

/-- The true ranks, by names' and places' numbers. -/
structure Truth (G : Gram) (W : ByteArray) (T : Rk × Rk) : Prop where
  view : View G.rules G.names.length (fun i => btz W i) W.size T.1 (fun r c pos i j => T.2 (offG G r c + pos) i j)
  ub1 : ∀ q i j, T.1 q i j ≤ 110000000
  ub2 : ∀ q i j, T.2 q i j ≤ 110000000
theorem Truth.of_sol {t : TS} (H : Law t) {st : Rk × Rk} (S : Sol t st) : Truth t.G t.W st := by
  have T := S.inv.tot
  have hB := totS_le H.F
  have V := S.view H (rs := t.G.rules) (K := t.G.names.length) (δ := 0) (hi := t.W.size) (fun _ _ h => h) (Nat.le_refl _) (fun _ _ h _ => h) (by omega) (by omega)
  simp only [Int.add_zero] at V
  rw [H.off] at V
  exact ⟨V, fun q i j => by have := (T.1 q i j).2; omega, fun q i j => by have := (T.2 q i j).2; omega⟩
/-- A place that there is. -/
structure PlG (G : Gram) (r c pos : Nat) (x : Rul) (y : Conj) : Prop where
  hx : G.rules[r]? = some x
  hy : x.conj[c]? = some y
  hp : pos ≤ y.seq.length
def lvG (lev : List Int) (x : Rul) : Int := lev.getD x.head.toNat 0

/-! What the reference's functions say of a table. -/
def splitR (f g : Nat → Int) (n : Nat) : Bool := (List.range n).any (fun d => decide (0 < f d) && decide (0 < g d))
def byteR (W : ByteArray) (s : Sym) (i j : Int) : Bool := decide (i < j) && decide (s.lo ≤ btz W i) && decide (btz W i ≤ s.hi)
def restR (W : ByteArray) (n p : Rk) (seq : List Sym) (a pos : Nat) (i j : Int) : Bool := match seq[pos]? with
  | none => decide (i = j)
  | some s => if s.name < 0 then byteR W s i j && decide (0 < p (a + pos + 1) (i + 1) j) else splitR (fun d => n s.name.toNat i (i + d)) (fun d => p (a + pos + 1) (i + d) j) (j - i + 1).toNat
def holdAt (off : Nat → Nat) (p : Rk) (cs : List Conj) (i j : Int) (c : Nat) : Bool := match cs[c]? with
  | none => true
  | some y => !(decide (0 < p (off c) i j) == y.neg)
def holdsR (off : Nat → Nat) (p : Rk) (cs : List Conj) (i j : Int) : Bool := (List.range cs.length).all (holdAt off p cs i j)
theorem splitR_iff {f g : Nat → Int} {n : Nat} : splitR f g n = true ↔ ∃ d, d < n ∧ 0 < f d ∧ 0 < g d := by
  unfold splitR
  simp only [List.any_eq_true, List.mem_range, Bool.and_eq_true, decide_eq_true_eq]
theorem byteR_iff {W : ByteArray} {s : Sym} {i j : Int} : byteR W s i j = true ↔ i < j ∧ s.lo ≤ btz W i ∧ btz W i ≤ s.hi := by
  unfold byteR
  simp only [Bool.and_eq_true, decide_eq_true_eq, and_assoc]
theorem holdsR_iff {off : Nat → Nat} {p : Rk} {cs : List Conj} {i j : Int} : holdsR off p cs i j = true ↔ HoldsTo (fun c => p (off c) i j) cs cs.length := by
  unfold holdsR HoldsTo
  simp only [List.all_eq_true, List.mem_range]
  constructor
  · intro h c y hc hy
    have := h c hc
    unfold holdAt at this
    rw [hy] at this
    simpa using this
  · intro h c hc
    unfold holdAt
    cases hy : cs[c]? with
    | none => rfl
    | some y => have := h c y hc hy; (try simp only); rw [this]; rfl

/-- Membership while the levels below L are whole. -/
structure FInv (G : Gram) (W : ByteArray) (T : Rk × Rk) (lev : List Int) (L : Int) (st : Rk × Rk) : Prop where
  v1 : ∀ q i j, st.1 q i j = 0 ∨ st.1 q i j = 1
  v2 : ∀ q i j, st.2 q i j = 0 ∨ st.2 q i j = 1
  s1 : ∀ q i j, st.1 q i j ≠ 0 → 0 < T.1 q i j
  s2 : ∀ q i j, st.2 q i j ≠ 0 → 0 < T.2 q i j
  c1 : ∀ h (i j : Int), h < G.names.length → 0 ≤ i → i ≤ j → j ≤ W.size → lev.getD h 0 < L → 0 < T.1 h i j → st.1 h i j ≠ 0
  c2 : ∀ r c pos x y (i j : Int), PlG G r c pos x y → lvG lev x < L → 0 ≤ i → i ≤ j → j ≤ W.size → 0 < T.2 (offG G r c + pos) i j → st.2 (offG G r c + pos) i j ≠ 0
theorem FInv.pos1 {G : Gram} {W : ByteArray} {T : Rk × Rk} {lev : List Int} {L : Int} {st : Rk × Rk} (I : FInv G W T lev L st) (q : Nat) (i j : Int) : 0 < st.1 q i j ↔ st.1 q i j ≠ 0 := by have := I.v1 q i j; omega
theorem FInv.pos2 {G : Gram} {W : ByteArray} {T : Rk × Rk} {lev : List Int} {L : Int} {st : Rk × Rk} (I : FInv G W T lev L st) (q : Nat) (i j : Int) : 0 < st.2 q i j ↔ st.2 q i j ≠ 0 := by have := I.v2 q i j; omega
theorem finv_start (G : Gram) (W : ByteArray) (T : Rk × Rk) {lev : List Int} (hlow : ∀ i, i < G.names.length → 0 ≤ lev.getD i 0) (hh : ∀ (r : Nat) (x : Rul), G.rules[r]? = some x → 0 ≤ x.head ∧ x.head < G.names.length) : FInv G W T lev 0 (fun _ _ _ => 0, fun _ _ _ => 0) where
  v1 _ _ _ := .inl rfl
  v2 _ _ _ := .inl rfl
  s1 _ _ _ h := absurd rfl h
  s2 _ _ _ h := absurd rfl h
  c1 h i j hk _ _ _ hl := by have := hlow h hk; omega
  c2 r c pos x y i j p hl := by have := hlow x.head.toNat (by have := hh r x p.hx; omega); unfold lvG at hl; omega
section
variable {G : Gram} {W : ByteArray} {T : Rk × Rk} {lev : List Int} {L : Int} {st : Rk × Rk}
/-- What is found of a rest is so. -/
theorem FInv.rest_sound (I : FInv G W T lev L st) (H : Truth G W T) {r c pos : Nat} {x : Rul} {y : Conj} (p : PlG G r c pos x y) {i j : Int} (i0 : 0 ≤ i) (ij : i ≤ j) (j1 : j ≤ W.size) (h : restR W st.1 st.2 y.seq (offG G r c) pos i j = true) : 0 < T.2 (offG G r c + pos) i j := by
  unfold restR at h
  cases hs : y.seq[pos]? with
  | none =>
    rw [hs] at h
    have hp := p.hp
    have : pos = y.seq.length := by have := List.getElem?_eq_none_iff.1 hs; omega
    subst this
    have h1 := H.view.pEnd r x c y i j p.hx p.hy i0 ij j1
    try simp only at h1 h
    rw [h1, if_pos (by simpa using h)]
    omega
  | some s =>
    rw [hs] at h
    try simp only at h
    by_cases hn : s.name < 0
    · rw [if_pos hn, Bool.and_eq_true, byteR_iff, decide_eq_true_eq] at h
      obtain ⟨⟨a1, a2, a3⟩, a4⟩ := h
      have h1 := H.view.pByte r x c y pos s i j p.hx p.hy hs hn i0 ij j1
      try simp only at h1
      have h2 := I.s2 _ _ _ ((I.pos2 _ _ _).1 a4)
      rw [← Nat.add_assoc, if_pos ⟨a1, a2, a3, h2⟩] at h1
      omega
    · rw [if_neg hn, splitR_iff] at h
      obtain ⟨d, hd, a1, a2⟩ := h
      have h1 := H.view.pName r x c y pos s i j p.hx p.hy hs (by omega) i0 ij j1
      exact (h1.le d hd (I.s1 _ _ _ ((I.pos1 _ _ _).1 a1)) (by simp only [← Nat.add_assoc]; exact I.s2 _ _ _ ((I.pos2 _ _ _).1 a2))).1
/-- What is so of a rest is found where its parts are. -/
theorem FInv.rest_find (I : FInv G W T lev L st) (H : Truth G W T) {r c pos : Nat} {x : Rul} {y : Conj} (p : PlG G r c pos x y) {i j : Int} (i0 : 0 ≤ i) (ij : i ≤ j) (j1 : j ≤ W.size) (h : 0 < T.2 (offG G r c + pos) i j)
    (h1 : ∀ s, y.seq[pos]? = some s → 0 ≤ s.name → ∀ k, i ≤ k → k ≤ j → 0 < T.1 s.name.toNat i k → T.1 s.name.toNat i k < T.2 (offG G r c + pos) i j → st.1 s.name.toNat i k ≠ 0)
    (h2 : pos < y.seq.length → ∀ k, i ≤ k → k ≤ j → 0 < T.2 (offG G r c + (pos + 1)) k j → T.2 (offG G r c + (pos + 1)) k j < T.2 (offG G r c + pos) i j → st.2 (offG G r c + (pos + 1)) k j ≠ 0) :
    restR W st.1 st.2 y.seq (offG G r c) pos i j = true := by
  unfold restR
  cases hs : y.seq[pos]? with
  | none =>
    have hp := p.hp
    have : pos = y.seq.length := by have := List.getElem?_eq_none_iff.1 hs; omega
    subst this
    have h3 := H.view.pEnd r x c y i j p.hx p.hy i0 ij j1
    try simp only at h3
    rw [h3] at h
    split at h
    · simpa
    · omega
  | some s =>
    have hp : pos < y.seq.length := (List.getElem?_eq_some_iff.1 hs).1
    try simp only
    by_cases hn : s.name < 0
    · have h3 := H.view.pByte r x c y pos s i j p.hx p.hy hs hn i0 ij j1
      try simp only at h3
      split at h3
      · rename_i hc
        obtain ⟨a1, a2, a3, a4⟩ := hc
        rw [if_pos hn, Bool.and_eq_true, byteR_iff, decide_eq_true_eq]
        refine ⟨⟨a1, a2, a3⟩, ?_⟩
        rw [Nat.add_assoc, I.pos2]
        exact h2 hp (i + 1) (by omega) (by omega) a4 (by omega)
      · omega
    · rw [if_neg hn, splitR_iff]
      have h3 := H.view.pName r x c y pos s i j p.hx p.hy hs (by omega) i0 ij j1
      obtain ⟨d, hd, a1, a2, a3⟩ := h3.is h
      refine ⟨d, hd, ?_, ?_⟩
      · rw [I.pos1]
        exact h1 s hs (by omega) (i + d) (by omega) (by omega) a1 (by omega)
      · rw [Nat.add_assoc, I.pos2]
        exact h2 hp (i + d) (by omega) (by omega) a2 (by omega)
/-- What is found of a rule is so, where its negated conjuncts are whole. -/
theorem FInv.hold_sound (I : FInv G W T lev L st) (H : Truth G W T) {r : Nat} {x : Rul} (hx : G.rules[r]? = some x) (hk : x.head.toNat < G.names.length) {i j : Int} (i0 : 0 ≤ i) (ij : i ≤ j) (j1 : j ≤ W.size)
    (hn : ∀ c y, x.conj[c]? = some y → y.neg = true → 0 < T.2 (offG G r c) i j → st.2 (offG G r c) i j ≠ 0) (h : holdsR (offG G r) st.2 x.conj i j = true) : 0 < T.1 x.head.toNat i j := by
  rw [holdsR_iff] at h
  refine (H.view.nLe r x i j hx hk i0 ij j1 ?_).1
  intro c y hc hy
  have h1 := h c y hc hy
  try simp only at h1 ⊢
  have h2 := I.s2 (offG G r c) i j
  have h3 := I.pos2 (offG G r c) i j
  simp only [Nat.add_zero]
  cases hneg : y.neg with
  | true =>
    have h4 := hn c y hy hneg
    rw [hneg] at h1
    have h5 : ¬ 0 < st.2 (offG G r c) i j := by simpa using h1
    have h6 : ¬ 0 < T.2 (offG G r c) i j := fun e => h5 (h3.2 (h4 e))
    simp [h6]
  | false =>
    rw [hneg] at h1
    have h5 : 0 < st.2 (offG G r c) i j := by simpa using h1
    have h6 := h2 (h3.1 h5)
    simp [h6]
/-- Nothing is left to be found on a level. -/
structure StillL (G : Gram) (W : ByteArray) (lev : List Int) (L : Int) (st : Rk × Rk) : Prop where
  p : ∀ r c pos x y (i j : Int), PlG G r c pos x y → lvG lev x = L → 0 ≤ i → i ≤ j → j ≤ W.size → st.2 (offG G r c + pos) i j = 0 → restR W st.1 st.2 y.seq (offG G r c) pos i j = false
  n : ∀ r x (i j : Int), G.rules[r]? = some x → lvG lev x = L → 0 ≤ i → i ≤ j → j ≤ W.size → st.1 x.head.toNat i j = 0 → holdsR (offG G r) st.2 x.conj i j = false
theorem still_done (I : FInv G W T lev L st) (H : Truth G W T) (M : MayG G) (hg : ∀ e ∈ edgesOf G, lev.getD e.to 0 + negI e.neg ≤ lev.getD e.fr 0) (S : StillL G W lev L st) : FInv G W T lev (L + 1) st := by
  have key : ∀ R : Nat, (∀ h (i j : Int), h < G.names.length → 0 ≤ i → i ≤ j → j ≤ W.size → lev.getD h 0 = L → 0 < T.1 h i j → T.1 h i j ≤ R → st.1 h i j ≠ 0) ∧
      (∀ r c pos x y (i j : Int), PlG G r c pos x y → lvG lev x = L → 0 ≤ i → i ≤ j → j ≤ W.size → 0 < T.2 (offG G r c + pos) i j → T.2 (offG G r c + pos) i j ≤ R → st.2 (offG G r c + pos) i j ≠ 0) := by
    intro R
    induction R with
    | zero => exact ⟨fun h i j _ _ _ _ _ a b => by omega, fun r c pos x y i j _ _ _ _ _ a b => by omega⟩
    | succ R ih =>
      obtain ⟨ih1, ih2⟩ := ih
      constructor
      · intro h i j hk i0 ij j1 hl hp hR hz
        obtain ⟨r, x, hx, hh, hH, he⟩ := H.view.nIs h i j hk i0 ij j1 hp
        have h1 := S.n r x i j hx (by unfold lvG; rw [hh]; exact hl) i0 ij j1 (by rw [hh]; exact hz)
        have h2 : holdsR (offG G r) st.2 x.conj i j = true := by
          rw [holdsR_iff]
          intro c y hc hy
          have h3 := hH c y hc hy
          simp only [Nat.add_zero] at h3 ⊢
          have h4 := I.pos2 (offG G r c) i j
          cases hneg : y.neg with
          | true =>
            rw [hneg] at h3
            have h5 : ¬ 0 < T.2 (offG G r c) i j := by simpa using h3
            have h6 : ¬ 0 < st.2 (offG G r c) i j := fun e => h5 (I.s2 _ _ _ (h4.1 e))
            simp [h6]
          | false =>
            rw [hneg] at h3
            have h5 : 0 < T.2 (offG G r c) i j := by simpa using h3
            have h7 : T.2 (offG G r c + 0) i j + 1 ≤ topTo (fun c => T.2 (offG G r c + 0) i j) x.conj.length := topTo_at (f := fun c => T.2 (offG G r c + 0) i j) hc
            have h6 : 0 < st.2 (offG G r c) i j := h4.2 (ih2 r c 0 x y i j ⟨hx, hy, Nat.zero_le _⟩ (by unfold lvG; rw [hh]; exact hl) i0 ij j1 (by simpa using h5) (by omega))
            simp [h6]
        rw [h1] at h2
        cases h2
      · intro r c pos x y i j p hl i0 ij j1 hp hR hz
        have h1 := S.p r c pos x y i j p hl i0 ij j1 hz
        have h2 := I.rest_find H p i0 ij j1 hp (fun s hs hn k ik kj a b => ?_) (fun hpl k ik kj a b => ih2 r c (pos + 1) x y k j ⟨p.hx, p.hy, hpl⟩ hl (by omega) kj j1 a (by omega))
        · rw [h1] at h2
          cases h2
        · have hsm := symB_lt (M.sym r x c y pos s p.hx p.hy hs) (by have := M.K1; omega)
          have he := hg ⟨x.head.toNat, s.name.toNat, y.neg⟩ (mem_edgesOf.2 ⟨x, List.mem_of_getElem? p.hx, y, List.mem_of_getElem? p.hy, s, List.mem_of_getElem? hs, hn, rfl⟩)
          try simp only at he
          have hneg : 0 ≤ negI y.neg := by unfold negI; split <;> omega
          unfold lvG at hl
          by_cases hlt : lev.getD s.name.toNat 0 < L
          · exact I.c1 _ _ _ (by omega) i0 ik (by omega) hlt a
          · exact ih1 _ _ _ (by omega) i0 ik (by omega) (by omega) a (by omega)
  refine ⟨I.v1, I.v2, I.s1, I.s2, fun h i j hk i0 ij j1 hl hp => ?_, fun r c pos x y i j p hl i0 ij j1 hp => ?_⟩
  · by_cases hlt : lev.getD h 0 < L
    · exact I.c1 h i j hk i0 ij j1 hlt hp
    · exact (key (T.1 h i j).toNat).1 h i j hk i0 ij j1 (by omega) hp (by omega)
  · by_cases hlt : lvG lev x < L
    · exact I.c2 r c pos x y i j p hlt i0 ij j1 hp
    · exact (key (T.2 (offG G r c + pos) i j).toNat).2 r c pos x y i j p (by omega) i0 ij j1 hp (by omega)
/-- A rest more. -/
theorem FInv.put2 (I : FInv G W T lev L st) {q : Nat} {i j : Int} (h : 0 < T.2 q i j) : FInv G W T lev L (st.1, putR st.2 q i j 1) := by
  have hm : ∀ q' i' j', st.2 q' i' j' ≠ 0 → putR st.2 q i j 1 q' i' j' ≠ 0 := fun q' i' j' e => by unfold putR; split <;> omega
  refine ⟨I.v1, fun q' i' j' => ?_, I.s1, fun q' i' j' e => ?_, I.c1, fun r c pos x y i' j' p hl i0 ij j1 hp => hm _ _ _ (I.c2 r c pos x y i' j' p hl i0 ij j1 hp)⟩
  · simp only [putR]
    split
    · exact .inr rfl
    · exact I.v2 _ _ _
  · simp only [putR] at e
    split at e
    · rename_i he; obtain ⟨rfl, rfl, rfl⟩ := he; exact h
    · exact I.s2 _ _ _ e
theorem FInv.put1 (I : FInv G W T lev L st) {q : Nat} {i j : Int} (h : 0 < T.1 q i j) : FInv G W T lev L (putR st.1 q i j 1, st.2) := by
  have hm : ∀ q' i' j', st.1 q' i' j' ≠ 0 → putR st.1 q i j 1 q' i' j' ≠ 0 := fun q' i' j' e => by unfold putR; split <;> omega
  refine ⟨fun q' i' j' => ?_, I.v2, fun q' i' j' e => ?_, I.s2, fun h' i' j' hk i0 ij j1 hl hp => hm _ _ _ (I.c1 h' i' j' hk i0 ij j1 hl hp), I.c2⟩
  · simp only [putR]
    split
    · exact .inr rfl
    · exact I.v1 _ _ _
  · simp only [putR] at e
    split at e
    · rename_i he; obtain ⟨rfl, rfl, rfl⟩ := he; exact h
    · exact I.s1 _ _ _ e
end
end Go.Proofs.YtbidpeggdhkahaaGreat

set_option linter.unusedSimpArgs false
set_option linter.unusedVariables false
namespace Go.Proofs.YtbidpeggdhkahaaGreat
open Go.RowKit

def rk (v R : Int) : Int := if v < R then v else 0
def rankAt (off : Nat → Nat) (p : Rk) (cs : List Conj) (i j : Int) (c : Nat) : Bool := match cs[c]? with
  | none => true
  | some y => y.neg || !decide (p (off c) i j = 0)
def rankedR (off : Nat → Nat) (p : Rk) (cs : List Conj) (i j : Int) : Bool := (List.range cs.length).all (rankAt off p cs i j)
theorem rankedR_iff {off : Nat → Nat} {p : Rk} {cs : List Conj} {i j : Int} : rankedR off p cs i j = true ↔ ∀ c y, cs[c]? = some y → y.neg = false → p (off c) i j ≠ 0 := by
  unfold rankedR
  simp only [List.all_eq_true, List.mem_range]
  constructor
  · intro h c y hy hn
    have := h c (List.getElem?_eq_some_iff.1 hy).1
    unfold rankAt at this
    rw [hy] at this
    simp only [hn, Bool.false_or] at this
    simpa using this
  · intro h c hc
    unfold rankAt
    cases hy : cs[c]? with
    | none => rfl
    | some y =>
      try simp only
      cases hn : y.neg with
      | true => rfl
      | false => have := h c y hy hn; simpa using this
/-- Membership, whole. -/
structure Mem (G : Gram) (W : ByteArray) (T M : Rk × Rk) : Prop where
  n : ∀ h (i j : Int), h < G.names.length → 0 ≤ i → i ≤ j → j ≤ W.size → (0 < M.1 h i j ↔ 0 < T.1 h i j)
  p : ∀ r c pos x y (i j : Int), PlG G r c pos x y → 0 ≤ i → i ≤ j → j ≤ W.size → (0 < M.2 (offG G r c + pos) i j ↔ 0 < T.2 (offG G r c + pos) i j)
theorem Mem.of {G : Gram} {W : ByteArray} {T st : Rk × Rk} {lev : List Int} {L : Int} (I : FInv G W T lev L st) (hl : ∀ i, i < G.names.length → lev.getD i 0 < L) (hh : ∀ (r : Nat) (x : Rul), G.rules[r]? = some x → 0 ≤ x.head ∧ x.head < G.names.length) : Mem G W T st where
  n h i j hk i0 ij j1 := by rw [I.pos1]; exact ⟨I.s1 _ _ _, I.c1 h i j hk i0 ij j1 (hl h hk)⟩
  p r c pos x y i j p i0 ij j1 := by rw [I.pos2]; exact ⟨I.s2 _ _ _, I.c2 r c pos x y i j p (by have := hh r x p.hx; exact hl _ (by omega)) i0 ij j1⟩
/-- The ranks below R have been given. -/
structure RInv (G : Gram) (W : ByteArray) (T : Rk × Rk) (R : Int) (st : Rk × Rk) : Prop where
  n : ∀ h (i j : Int), h < G.names.length → 0 ≤ i → i ≤ j → j ≤ W.size → st.1 h i j = rk (T.1 h i j) R
  p : ∀ r c pos x y (i j : Int), PlG G r c pos x y → 0 ≤ i → i ≤ j → j ≤ W.size → st.2 (offG G r c + pos) i j = rk (T.2 (offG G r c + pos) i j) R
section
variable {G : Gram} {W : ByteArray} {T M : Rk × Rk} {R : Int} {st : Rk × Rk}
theorem Truth.low1 (H : Truth G W T) (h : Nat) (i j : Int) : 0 ≤ T.1 h i j := H.view.n0 h i j
theorem Truth.low2 (H : Truth G W T) (r c pos : Nat) (i j : Int) : 0 ≤ T.2 (offG G r c + pos) i j := H.view.p0 r c pos i j
theorem rinv_start (H : Truth G W T) : RInv G W T 1 (fun _ _ _ => 0, fun _ _ _ => 0) where
  n h i j _ _ _ _ := by have := H.low1 h i j; unfold rk; (try simp only); split <;> omega
  p r c pos x y i j _ _ _ _ := by have := H.low2 r c pos i j; unfold rk; (try simp only); split <;> omega
theorem rk_pos {v R : Int} (h0 : 0 ≤ v) : 0 < rk v R ↔ 0 < v ∧ v < R := by unfold rk; split <;> omega
theorem rk_zero {v R : Int} (h0 : 0 ≤ v) (hv : 0 < v) : rk v R = 0 ↔ R ≤ v := by unfold rk; split <;> omega
theorem round_name_sound (H : Truth G W T) (MM : Mem G W T M) (I : RInv G W T R st) (hR : 1 ≤ R) {r : Nat} {x : Rul} (hx : G.rules[r]? = some x) (hk : x.head.toNat < G.names.length) {i j : Int} (i0 : 0 ≤ i) (ij : i ≤ j) (j1 : j ≤ W.size)
    (hm : 0 < M.1 x.head.toNat i j) (h0 : st.1 x.head.toNat i j = 0) (hh : holdsR (offG G r) M.2 x.conj i j = true) (hr : rankedR (offG G r) st.2 x.conj i j = true) : T.1 x.head.toNat i j = R := by
  have hT := (MM.n _ i j hk i0 ij j1).1 hm
  rw [I.n _ i j hk i0 ij j1, rk_zero (H.low1 _ _ _) hT] at h0
  rw [holdsR_iff] at hh
  rw [rankedR_iff] at hr
  have hH : HoldsTo (fun c => T.2 (offG G r c + 0) i j) x.conj x.conj.length := by
    intro c y hc hy
    have h1 := hh c y hc hy
    have h2 := MM.p r c 0 x y i j ⟨hx, hy, Nat.zero_le _⟩ i0 ij j1
    simp only [Nat.add_zero] at h1 h2 ⊢
    rw [← h1]
    congr 1
    exact decide_eq_decide.2 h2.symm
  have h3 := (H.view.nLe r x i j hx hk i0 ij j1 hH).2
  have h4 : topTo (fun c => T.2 (offG G r c + 0) i j) x.conj.length ≤ R := topTo_le hR (fun c hc => by
    obtain ⟨y, hy⟩ : ∃ y, x.conj[c]? = some y := ⟨_, List.getElem?_eq_getElem hc⟩
    have h5 := hH c y hc hy
    have h6 := H.low2 r c 0 i j
    try simp only at h5 ⊢
    cases hn : y.neg with
    | true =>
      rw [hn] at h5
      have : ¬ 0 < T.2 (offG G r c + 0) i j := by simpa using h5
      omega
    | false =>
      have h7 := hr c y hy hn
      have h8 := I.p r c 0 x y i j ⟨hx, hy, Nat.zero_le _⟩ i0 ij j1
      simp only [Nat.add_zero] at h8 h6 ⊢
      rw [h8] at h7
      have := (rk_pos (R := R) h6).1 (by unfold rk at h7 ⊢; split at h7 <;> rename_i hc' <;> simp [hc'] <;> omega)
      omega)
  omega
theorem round_name_find (H : Truth G W T) (MM : Mem G W T M) (I : RInv G W T R st) (hR : 1 ≤ R) {h : Nat} (hk : h < G.names.length) {i j : Int} (i0 : 0 ≤ i) (ij : i ≤ j) (j1 : j ≤ W.size) (hT : T.1 h i j = R) :
    0 < M.1 h i j ∧ st.1 h i j = 0 ∧ ∃ r x, G.rules[r]? = some x ∧ x.head.toNat = h ∧ holdsR (offG G r) M.2 x.conj i j = true ∧ rankedR (offG G r) st.2 x.conj i j = true := by
  obtain ⟨r, x, hx, hh, hH, he⟩ := H.view.nIs h i j hk i0 ij j1 (by omega)
  refine ⟨(MM.n h i j hk i0 ij j1).2 (by omega), by rw [I.n h i j hk i0 ij j1, rk_zero (H.low1 _ _ _) (by omega)]; omega, r, x, hx, hh, ?_, ?_⟩
  · rw [holdsR_iff]
    intro c y hc hy
    have h1 := hH c y hc hy
    have h2 := MM.p r c 0 x y i j ⟨hx, hy, Nat.zero_le _⟩ i0 ij j1
    simp only [Nat.add_zero] at h1 h2 ⊢
    rw [← h1]
    congr 1
    exact decide_eq_decide.2 h2
  · rw [rankedR_iff]
    intro c y hy hn
    have hc := (List.getElem?_eq_some_iff.1 hy).1
    have h1 := hH c y hc hy
    try simp only at h1
    rw [hn] at h1
    have h3 : 0 < T.2 (offG G r c + 0) i j := by simpa using h1
    have h4 : T.2 (offG G r c + 0) i j + 1 ≤ topTo (fun c => T.2 (offG G r c + 0) i j) x.conj.length := topTo_at (f := fun c => T.2 (offG G r c + 0) i j) hc
    have h8 := I.p r c 0 x y i j ⟨hx, hy, Nat.zero_le _⟩ i0 ij j1
    simp only [Nat.add_zero] at h8 h3 h4 he
    rw [h8]
    have := (rk_pos (R := R) (by omega)).2 ⟨h3, by omega⟩
    omega
theorem round_rest (H : Truth G W T) (M0 : MayG G) (MM : Mem G W T M) (I : RInv G W T R st) (hR : 1 ≤ R) {r c pos : Nat} {x : Rul} {y : Conj} (p : PlG G r c pos x y) {i j : Int} (i0 : 0 ≤ i) (ij : i ≤ j) (j1 : j ≤ W.size) :
    (0 < M.2 (offG G r c + pos) i j ∧ st.2 (offG G r c + pos) i j = 0 ∧ restR W st.1 st.2 y.seq (offG G r c) pos i j = true) ↔ T.2 (offG G r c + pos) i j = R := by
  have hlow := H.low2 r c pos i j
  have hIp := I.p r c pos x y i j p i0 ij j1
  have hMp := MM.p r c pos x y i j p i0 ij j1
  constructor
  · rintro ⟨h1, h2, h3⟩
    have hT := hMp.1 h1
    rw [hIp, rk_zero hlow hT] at h2
    have hle : T.2 (offG G r c + pos) i j ≤ R := by
      unfold restR at h3
      cases hs : y.seq[pos]? with
      | none =>
        have hp := p.hp
        have : pos = y.seq.length := by have := List.getElem?_eq_none_iff.1 hs; omega
        subst this
        have h5 := H.view.pEnd r x c y i j p.hx p.hy i0 ij j1
        try simp only at h5
        split at h5 <;> omega
      | some s =>
        have hpl : pos < y.seq.length := (List.getElem?_eq_some_iff.1 hs).1
        rw [hs] at h3
        try simp only at h3
        by_cases hn : s.name < 0
        · rw [if_pos hn, Bool.and_eq_true, byteR_iff, decide_eq_true_eq, Nat.add_assoc] at h3
          have h5 := H.view.pByte r x c y pos s i j p.hx p.hy hs hn i0 ij j1
          try simp only at h5
          have h6 := I.p r c (pos + 1) x y (i + 1) j ⟨p.hx, p.hy, hpl⟩ (by omega) (by omega) j1
          rw [h6, rk_pos (H.low2 _ _ _ _ _)] at h3
          split at h5 <;> omega
        · rw [if_neg hn, splitR_iff] at h3
          obtain ⟨d, hd, a1, a2⟩ := h3
          have h5 := H.view.pName r x c y pos s i j p.hx p.hy hs (by omega) i0 ij j1
          have hsm := symB_lt (M0.sym r x c y pos s p.hx p.hy hs) (by have := M0.K1; omega)
          rw [Nat.add_assoc] at a2
          rw [I.n _ i (i + d) (by omega) i0 (by omega) (by omega), rk_pos (H.low1 _ _ _)] at a1
          rw [I.p r c (pos + 1) x y (i + d) j ⟨p.hx, p.hy, hpl⟩ (by omega) (by omega) j1, rk_pos (H.low2 _ _ _ _ _)] at a2
          have := h5.le d hd a1.1 a2.1
          omega
    omega
  · intro hT
    refine ⟨hMp.2 (by omega), by rw [hIp, rk_zero hlow (by omega)]; omega, ?_⟩
    unfold restR
    cases hs : y.seq[pos]? with
    | none =>
      have hp := p.hp
      have : pos = y.seq.length := by have := List.getElem?_eq_none_iff.1 hs; omega
      subst this
      have h5 := H.view.pEnd r x c y i j p.hx p.hy i0 ij j1
      try simp only at h5
      split at h5
      · simpa
      · omega
    | some s =>
      have hpl : pos < y.seq.length := (List.getElem?_eq_some_iff.1 hs).1
      try simp only
      by_cases hn : s.name < 0
      · have h5 := H.view.pByte r x c y pos s i j p.hx p.hy hs hn i0 ij j1
        try simp only at h5
        split at h5
        · rename_i hc
          obtain ⟨a1, a2, a3, a4⟩ := hc
          rw [if_pos hn, Bool.and_eq_true, byteR_iff, decide_eq_true_eq, Nat.add_assoc]
          refine ⟨⟨a1, a2, a3⟩, ?_⟩
          rw [I.p r c (pos + 1) x y (i + 1) j ⟨p.hx, p.hy, hpl⟩ (by omega) (by omega) j1, rk_pos (H.low2 _ _ _ _ _)]
          omega
        · omega
      · rw [if_neg hn, splitR_iff]
        have h5 := H.view.pName r x c y pos s i j p.hx p.hy hs (by omega) i0 ij j1
        obtain ⟨d, hd, a1, a2, a3⟩ := h5.is (by omega)
        have hsm := symB_lt (M0.sym r x c y pos s p.hx p.hy hs) (by have := M0.K1; omega)
        refine ⟨d, hd, ?_, ?_⟩
        · rw [I.n _ i (i + d) (by omega) i0 (by omega) (by omega), rk_pos (H.low1 _ _ _)]
          omega
        · rw [Nat.add_assoc, I.p r c (pos + 1) x y (i + d) j ⟨p.hx, p.hy, hpl⟩ (by omega) (by omega) j1, rk_pos (H.low2 _ _ _ _ _)]
          omega
/-- A round that gives none: all have been given. -/
theorem round_end (H : Truth G W T) (M0 : MayG G) (hR : 1 ≤ R) (h1 : ∀ h (i j : Int), h < G.names.length → 0 ≤ i → i ≤ j → j ≤ W.size → T.1 h i j ≠ R) (h2 : ∀ r c pos x y (i j : Int), PlG G r c pos x y → 0 ≤ i → i ≤ j → j ≤ W.size → T.2 (offG G r c + pos) i j ≠ R) :
    (∀ h (i j : Int), h < G.names.length → 0 ≤ i → i ≤ j → j ≤ W.size → T.1 h i j < R) ∧ (∀ r c pos x y (i j : Int), PlG G r c pos x y → 0 ≤ i → i ≤ j → j ≤ W.size → T.2 (offG G r c + pos) i j < R) := by
  have key : ∀ n : Nat, (∀ h (i j : Int), h < G.names.length → 0 ≤ i → i ≤ j → j ≤ W.size → T.1 h i j ≤ n → T.1 h i j < R) ∧ (∀ r c pos x y (i j : Int), PlG G r c pos x y → 0 ≤ i → i ≤ j → j ≤ W.size → T.2 (offG G r c + pos) i j ≤ n → T.2 (offG G r c + pos) i j < R) := by
    intro n
    induction n with
    | zero => exact ⟨fun h i j _ _ _ _ _ => by omega, fun r c pos x y i j _ _ _ _ _ => by omega⟩
    | succ n ih =>
      obtain ⟨ih1, ih2⟩ := ih
      constructor
      · intro h i j hk i0 ij j1 hn
        by_cases hp : 0 < T.1 h i j
        · obtain ⟨r, x, hx, hh, hH, he⟩ := H.view.nIs h i j hk i0 ij j1 hp
          have h4 : topTo (fun c => T.2 (offG G r c + 0) i j) x.conj.length ≤ R := topTo_le hR (fun c hc => by
            obtain ⟨y, hy⟩ : ∃ y, x.conj[c]? = some y := ⟨_, List.getElem?_eq_getElem hc⟩
            have h5 : T.2 (offG G r c + 0) i j + 1 ≤ topTo (fun c => T.2 (offG G r c + 0) i j) x.conj.length := topTo_at (f := fun c => T.2 (offG G r c + 0) i j) hc
            have h6 := ih2 r c 0 x y i j ⟨hx, hy, Nat.zero_le _⟩ i0 ij j1 (by omega)
            try simp only
            omega)
          have := h1 h i j hk i0 ij j1
          omega
        · omega
      · intro r c pos x y i j p i0 ij j1 hn
        have hne := h2 r c pos x y i j p i0 ij j1
        by_cases hp : 0 < T.2 (offG G r c + pos) i j
        · have hle : T.2 (offG G r c + pos) i j ≤ R := by
            cases hs : y.seq[pos]? with
            | none =>
              have hpp := p.hp
              have : pos = y.seq.length := by have := List.getElem?_eq_none_iff.1 hs; omega
              subst this
              have h5 := H.view.pEnd r x c y i j p.hx p.hy i0 ij j1
              try simp only at h5
              split at h5 <;> omega
            | some s =>
              have hpl : pos < y.seq.length := (List.getElem?_eq_some_iff.1 hs).1
              by_cases hns : s.name < 0
              · have h5 := H.view.pByte r x c y pos s i j p.hx p.hy hs hns i0 ij j1
                try simp only at h5
                split at h5
                · rename_i hc
                  have := ih2 r c (pos + 1) x y (i + 1) j ⟨p.hx, p.hy, hpl⟩ (by omega) (by omega) j1 (by omega)
                  omega
                · omega
              · have h5 := H.view.pName r x c y pos s i j p.hx p.hy hs (by omega) i0 ij j1
                obtain ⟨d, hd, a1, a2, a3⟩ := h5.is hp
                have hsm := symB_lt (M0.sym r x c y pos s p.hx p.hy hs) (by have := M0.K1; omega)
                have b1 := ih1 s.name.toNat i (i + d) (by omega) i0 (by omega) (by omega) (by omega)
                have b2 := ih2 r c (pos + 1) x y (i + d) j ⟨p.hx, p.hy, hpl⟩ (by omega) (by omega) j1 (by omega)
                omega
          omega
        · omega
  exact ⟨fun h i j a b c d => (key (T.1 h i j).toNat).1 h i j a b c d (by omega), fun r c pos x y i j p a b d => (key (T.2 (offG G r c + pos) i j).toNat).2 r c pos x y i j p a b d (by omega)⟩
theorem rinv_end (I : RInv G W T R st) (h : (∀ h (i j : Int), h < G.names.length → 0 ≤ i → i ≤ j → j ≤ W.size → T.1 h i j < R) ∧ (∀ r c pos x y (i j : Int), PlG G r c pos x y → 0 ≤ i → i ≤ j → j ≤ W.size → T.2 (offG G r c + pos) i j < R)) :
    (∀ h (i j : Int), h < G.names.length → 0 ≤ i → i ≤ j → j ≤ W.size → st.1 h i j = T.1 h i j) ∧ (∀ r c pos x y (i j : Int), PlG G r c pos x y → 0 ≤ i → i ≤ j → j ≤ W.size → st.2 (offG G r c + pos) i j = T.2 (offG G r c + pos) i j) :=
  ⟨fun k i j a b c d => by rw [I.n k i j a b c d]; unfold rk; rw [if_pos (h.1 k i j a b c d)], fun r c pos x y i j p a b d => by rw [I.p r c pos x y i j p a b d]; unfold rk; rw [if_pos (h.2 r c pos x y i j p a b d)]⟩
end
end Go.Proofs.YtbidpeggdhkahaaGreat
