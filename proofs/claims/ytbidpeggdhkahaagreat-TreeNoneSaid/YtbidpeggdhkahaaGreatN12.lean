/-
  N12: the document's own table: a rule's filling, plain. No program in sight.
-/
import Derived.Test.YtbidpeggdhkahaaGreatN2
import Derived.Test.YtbidpeggdhkahaaGreatA7
set_option linter.unusedSimpArgs false
set_option linter.unusedVariables false
namespace Go.Proofs.YtbidpeggdhkahaaGreat
open Go.RowKit

def wtZ (v : Int) : Nat := if v = 0 then 1 else 0
/-- How many numbers are still 0. -/
def zerosG (G : Gram) (W : ByteArray) (st : Rk × Rk) : Nat := potR wtZ st.1 G.names.length W.size + potR wtZ st.2 (qG G) W.size
theorem zeros_put2 {G : Gram} {W : ByteArray} {st : Rk × Rk} {q : Nat} {i j : Int} (hq : q < qG G) (i0 : 0 ≤ i) (ij : i ≤ j) (j1 : j ≤ W.size) (h : st.2 q i j = 0) : zerosG G W (st.1, putR st.2 q i j 1) + 1 = zerosG G W st := by
  have h1 := potR_put (wt := wtZ) (f := st.2) (v := 1) hq i0 (by omega) (by omega) j1
  rw [h, show wtZ 0 = 1 from rfl, show wtZ 1 = 0 from rfl] at h1
  unfold zerosG
  simp only
  omega
theorem zeros_put1 {G : Gram} {W : ByteArray} {st : Rk × Rk} {q : Nat} {i j : Int} (hq : q < G.names.length) (i0 : 0 ≤ i) (ij : i ≤ j) (j1 : j ≤ W.size) (h : st.1 q i j = 0) : zerosG G W (putR st.1 q i j 1, st.2) + 1 = zerosG G W st := by
  have h1 := potR_put (wt := wtZ) (f := st.1) (v := 1) hq i0 (by omega) (by omega) j1
  rw [h, show wtZ 0 = 1 from rfl, show wtZ 1 = 0 from rfl] at h1
  unfold zerosG
  simp only
  omega
/-- Was a place visited before? -/
def BefF (c : Nat) (k a b : Int) (c' k' : Nat) (i j : Int) : Prop := c' < c ∨ (c' = c ∧ (k < (k' : Int) ∨ ((k' : Int) = k ∧ (i < a ∨ (i = a ∧ j < b)))))
/-- The change so far. -/
def Chg (G : Gram) (W : ByteArray) (chg : Bool) (st0 st : Rk × Rk) : Prop := (chg = false ∧ st = st0) ∨ (chg = true ∧ zerosG G W st < zerosG G W st0)
theorem Chg.put {G : Gram} {W : ByteArray} {chg : Bool} {st0 st st' : Rk × Rk} (h : Chg G W chg st0 st) (hz : zerosG G W st' + 1 = zerosG G W st) : Chg G W true st0 st' := by
  refine .inr ⟨rfl, ?_⟩
  rcases h with ⟨-, rfl⟩ | ⟨-, h⟩ <;> omega
/-- A rule's rests, so far. -/
structure FR (G : Gram) (W : ByteArray) (T : Rk × Rk) (lev : List Int) (L : Int) (r : Nat) (x : Rul) (st0 : Rk × Rk) (c : Nat) (k a b : Int) (chg : Bool) (st : Rk × Rk) : Prop where
  I : FInv G W T lev L st
  M : Chg G W chg st0 st
  lk : chg = false → ∀ c' k' y (i j : Int), PlG G r c' k' x y → 0 ≤ i → i ≤ j → j ≤ W.size → BefF c k a b c' k' i j → st0.2 (offG G r c' + k') i j = 0 → restR W st0.1 st0.2 y.seq (offG G r c') k' i j = false
  vn : ∀ c' k' y (i j : Int), PlG G r c' k' x y → 0 ≤ i → i ≤ j → j ≤ W.size → BefF c k a b c' k' i j → y.neg = true → 0 < T.2 (offG G r c' + k') i j → st.2 (offG G r c' + k') i j ≠ 0
section
variable {G : Gram} {W : ByteArray} {T : Rk × Rk} {lev : List Int} {L : Int} {r : Nat} {x : Rul} {st0 st : Rk × Rk} {c : Nat} {k a b : Int} {chg : Bool}
theorem FR.go (h : FR G W T lev L r x st0 c k a b chg st) {c2 : Nat} {k2 a2 b2 : Int} (hb : ∀ c' k' y (i j : Int), PlG G r c' k' x y → 0 ≤ i → i ≤ j → j ≤ W.size → BefF c2 k2 a2 b2 c' k' i j → BefF c k a b c' k' i j) : FR G W T lev L r x st0 c2 k2 a2 b2 chg st :=
  ⟨h.I, h.M, fun hc c' k' y i j p i0 ij j1 hB => h.lk hc c' k' y i j p i0 ij j1 (hb c' k' y i j p i0 ij j1 hB), fun c' k' y i j p i0 ij j1 hB => h.vn c' k' y i j p i0 ij j1 (hb c' k' y i j p i0 ij j1 hB)⟩
/-- A negated conjunct's rest is found when its turn comes. -/
theorem FR.neg_find (h : FR G W T lev L r x st0 c k a b chg st) (H : Truth G W T) (hg : ∀ e ∈ edgesOf G, lev.getD e.to 0 + negI e.neg ≤ lev.getD e.fr 0) (hl : lvG lev x = L) (M : MayG G)
    {q : Nat} {y : Conj} (hk : k = q) (p : PlG G r c q x y) (a0 : 0 ≤ a) (ab : a ≤ b) (b1 : b ≤ W.size) (hn : y.neg = true) (hT : 0 < T.2 (offG G r c + q) a b) : restR W st.1 st.2 y.seq (offG G r c) q a b = true := by
  refine h.I.rest_find H p a0 ab b1 hT ?_ ?_
  · intro s hs hs0 m m0 m1 hp _
    have hsy := M.sym r x c y q s p.hx p.hy hs
    have hlt := symB_lt hsy (by have := M.K1; omega)
    refine h.I.c1 _ a m (by omega) a0 m0 (by omega) ?_ hp
    have he := hg ⟨x.head.toNat, s.name.toNat, y.neg⟩ (mem_edgesOf.2 ⟨x, List.mem_of_getElem? p.hx, y, List.mem_of_getElem? p.hy, s, List.mem_of_getElem? hs, hs0, rfl⟩)
    simp only [hn] at he
    have : negI true = 1 := rfl
    unfold lvG at hl
    omega
  · intro hq m m0 m1 hp _
    exact h.vn c (q + 1) y m b ⟨p.hx, p.hy, hq⟩ (by omega) m1 b1 (.inr ⟨rfl, .inl (by omega)⟩) hn hp
theorem bef_next {c' k' q : Nat} {i j : Int} (h : BefF c (q : Int) a (b + 1) c' k' i j) : BefF c (q : Int) a b c' k' i j ∨ (c' = c ∧ k' = q ∧ i = a ∧ j = b) := by
  unfold BefF at h ⊢
  omega
theorem FR.pass (h : FR G W T lev L r x st0 c k a b chg st) (H : Truth G W T) (hg : ∀ e ∈ edgesOf G, lev.getD e.to 0 + negI e.neg ≤ lev.getD e.fr 0) (hl : lvG lev x = L) (M : MayG G)
    {q : Nat} {y : Conj} (hk : k = q) (p : PlG G r c q x y) (a0 : 0 ≤ a) (ab : a ≤ b) (b1 : b ≤ W.size) (hc : st.2 (offG G r c + q) a b = 0 → restR W st.1 st.2 y.seq (offG G r c) q a b = false) : FR G W T lev L r x st0 c k a (b + 1) chg st := by
  have hf := fun hn hT => h.neg_find H hg hl M hk p a0 ab b1 hn hT
  subst hk
  refine ⟨h.I, h.M, fun hch c' k' y' i j p' i0 ij j1 hB hz => ?_, fun c' k' y' i j p' i0 ij j1 hB hn hT => ?_⟩
  · rcases bef_next hB with hB | ⟨rfl, rfl, rfl, rfl⟩
    · exact h.lk hch c' k' y' i j p' i0 ij j1 hB hz
    · have e : y' = y := by have := p'.hy; rw [p.hy] at this; exact (Option.some.inj this).symm
      subst e
      rcases h.M with ⟨-, rfl⟩ | ⟨hb, -⟩
      · exact hc hz
      · rw [hch] at hb; cases hb
  · rcases bef_next hB with hB | ⟨rfl, rfl, rfl, rfl⟩
    · exact h.vn c' k' y' i j p' i0 ij j1 hB hn hT
    · have e : y' = y := by have := p'.hy; rw [p.hy] at this; exact (Option.some.inj this).symm
      subst e
      intro hz
      have h1 := hf hn hT
      rw [hc hz] at h1
      cases h1
theorem FR.put (h : FR G W T lev L r x st0 c k a b chg st) (H : Truth G W T)
    {q : Nat} {y : Conj} (hk : k = q) (p : PlG G r c q x y) (hq : offG G r c + q < qG G) (a0 : 0 ≤ a) (ab : a ≤ b) (b1 : b ≤ W.size) (hz : st.2 (offG G r c + q) a b = 0) (hr : restR W st.1 st.2 y.seq (offG G r c) q a b = true) :
    FR G W T lev L r x st0 c k a (b + 1) true (st.1, putR st.2 (offG G r c + q) a b 1) := by
  have hT := h.I.rest_sound H p a0 ab b1 hr
  subst hk
  refine ⟨h.I.put2 hT, h.M.put (zeros_put2 hq a0 ab b1 hz), fun hch => (by cases hch), fun c' k' y' i j p' i0 ij j1 hB hn hT' => ?_⟩
  rcases bef_next hB with hB | ⟨rfl, rfl, rfl, rfl⟩
  · have h1 := h.vn c' k' y' i j p' i0 ij j1 hB hn hT'
    simp only [putR]
    split <;> omega
  · simp [putR]
theorem FR.nextA (h : FR G W T lev L r x st0 c k a b chg st) (hb : b = W.size + 1) : FR G W T lev L r x st0 c k (a + 1) (a + 1) chg st :=
  h.go fun c' k' y i j p i0 ij j1 hB => by unfold BefF at hB ⊢; omega
theorem FR.nextK (h : FR G W T lev L r x st0 c k a b chg st) (ha : a = W.size + 1) : FR G W T lev L r x st0 c (k - 1) 0 0 chg st :=
  h.go fun c' k' y i j p i0 ij j1 hB => by unfold BefF at hB ⊢; omega
theorem FR.nextC (h : FR G W T lev L r x st0 c k a b chg st) (hk : k = -1) {k2 : Int} (hk2 : ∀ y, x.conj[c + 1]? = some y → (y.seq.length : Int) ≤ k2) : FR G W T lev L r x st0 (c + 1) k2 0 0 chg st :=
  h.go fun c' k' y i j p i0 ij j1 hB => by
    unfold BefF at hB ⊢
    rcases hB with hB | ⟨rfl, hB | ⟨-, hB⟩⟩
    · omega
    · have := hk2 y p.hy
      have := p.hp
      omega
    · omega
/-- A rule's head, so far: its rests are behind us. -/
structure FH (G : Gram) (W : ByteArray) (T : Rk × Rk) (lev : List Int) (L : Int) (r : Nat) (x : Rul) (st0 : Rk × Rk) (a b : Int) (chg : Bool) (st : Rk × Rk) : Prop where
  I : FInv G W T lev L st
  M : Chg G W chg st0 st
  lk : chg = false → ∀ c' k' y (i j : Int), PlG G r c' k' x y → 0 ≤ i → i ≤ j → j ≤ W.size → st0.2 (offG G r c' + k') i j = 0 → restR W st0.1 st0.2 y.seq (offG G r c') k' i j = false
  vn : ∀ c' k' y (i j : Int), PlG G r c' k' x y → 0 ≤ i → i ≤ j → j ≤ W.size → y.neg = true → 0 < T.2 (offG G r c' + k') i j → st.2 (offG G r c' + k') i j ≠ 0
  ln : chg = false → ∀ i j : Int, 0 ≤ i → i ≤ j → j ≤ W.size → (i < a ∨ (i = a ∧ j < b)) → st0.1 x.head.toNat i j = 0 → holdsR (offG G r) st0.2 x.conj i j = false
theorem FR.head (h : FR G W T lev L r x st0 c k a b chg st) (hc : c = x.conj.length) : FH G W T lev L r x st0 0 0 chg st :=
  ⟨h.I, h.M, fun hch c' k' y i j p i0 ij j1 => h.lk hch c' k' y i j p i0 ij j1 (.inl (by rw [hc]; exact (List.getElem?_eq_some_iff.1 p.hy).1)),
    fun c' k' y i j p i0 ij j1 => h.vn c' k' y i j p i0 ij j1 (.inl (by rw [hc]; exact (List.getElem?_eq_some_iff.1 p.hy).1)), fun _ i j i0 ij _ hB => by omega⟩
theorem FR.start (I : FInv G W T lev L st0) {k : Int} (hk : ∀ y, x.conj[0]? = some y → (y.seq.length : Int) ≤ k) : FR G W T lev L r x st0 0 k 0 0 false st0 := by
  have hB : ∀ c' k' y (i j : Int), PlG G r c' k' x y → 0 ≤ i → i ≤ j → ¬ BefF 0 k 0 0 c' k' i j := fun c' k' y i j p i0 ij hB => by
    unfold BefF at hB
    rcases hB with hB | ⟨rfl, hB | ⟨-, hB⟩⟩
    · omega
    · have := hk y p.hy
      have := p.hp
      omega
    · omega
  exact ⟨I, .inl ⟨rfl, rfl⟩, fun _ c' k' y i j p i0 ij _ h => absurd h (hB c' k' y i j p i0 ij), fun c' k' y i j p i0 ij _ h => absurd h (hB c' k' y i j p i0 ij)⟩
theorem FH.pass (h : FH G W T lev L r x st0 a b chg st) (hc : st.1 x.head.toNat a b = 0 → holdsR (offG G r) st.2 x.conj a b = false) : FH G W T lev L r x st0 a (b + 1) chg st := by
  refine ⟨h.I, h.M, h.lk, h.vn, fun hch i j i0 ij j1 hB hz => ?_⟩
  by_cases he : i = a ∧ j = b
  · obtain ⟨rfl, rfl⟩ := he
    rcases h.M with ⟨-, rfl⟩ | ⟨hb, -⟩
    · exact hc hz
    · rw [hch] at hb; cases hb
  · exact h.ln hch i j i0 ij j1 (by omega) hz
theorem FH.put (h : FH G W T lev L r x st0 a b chg st) (H : Truth G W T) (hx : G.rules[r]? = some x) (hk : x.head.toNat < G.names.length) (a0 : 0 ≤ a) (ab : a ≤ b) (b1 : b ≤ W.size) (hz : st.1 x.head.toNat a b = 0) (hr : holdsR (offG G r) st.2 x.conj a b = true) :
    FH G W T lev L r x st0 a (b + 1) true (putR st.1 x.head.toNat a b 1, st.2) := by
  have hT := h.I.hold_sound H hx hk a0 ab b1 (fun c y hy hn hp => by
    have := h.vn c 0 y a b ⟨hx, hy, Nat.zero_le _⟩ a0 ab b1 hn
    simp only [Nat.add_zero] at this
    exact this hp) hr
  exact ⟨h.I.put1 hT, h.M.put (zeros_put1 hk a0 ab b1 hz), fun hch => (by cases hch), h.vn, fun hch => (by cases hch)⟩
theorem FH.nextA (h : FH G W T lev L r x st0 a b chg st) (hb : b = W.size + 1) : FH G W T lev L r x st0 (a + 1) (a + 1) chg st :=
  ⟨h.I, h.M, h.lk, h.vn, fun hch i j i0 ij j1 hB => h.ln hch i j i0 ij j1 (by omega)⟩
end
end Go.Proofs.YtbidpeggdhkahaaGreat
