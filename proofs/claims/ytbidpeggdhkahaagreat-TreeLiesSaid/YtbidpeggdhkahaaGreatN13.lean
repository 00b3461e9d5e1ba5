/-
  N12: the document's own table: a rule's filling, plain. No program in sight.
  N13: the document's own table: fillRule.
-/
import Derived.Test.YtbidpeggdhkahaaGreatN2
import Derived.Test.YtbidpeggdhkahaaGreatN3
import Derived.Test.YtbidpeggdhkahaaGreatN11
set_option linter.unusedSimpArgs false
set_option linter.unusedVariables false
namespace Go.Proofs.YtbidpeggdhkahaaGreat
open Go.RowKit

def wtZ (v : Int) : Nat := if v = 0 then 1 else 0
/-- How many numbers are still 0. -/
def zerosG (G : Gram) (W : ByteArray) (st : Rk × Rk) : Nat := potR wtZ st.1 G.names.length W.size + potR wtZ st.2 (qG G) W.size
theorem zeros_put2 {G : Gram} {W : ByteArray} {st : Rk × Rk} {q : Nat} {i j : Int} (hq : q < qG G) (i0 : 0 ≤ i) (ij : i ≤ j) (j1 : j ≤ W.size) (h : st.2 q i j = 0) : zerosG G W (st.1, putR st.2 q i j 1) + 1 = zerosG G W st := by
  have h1 := potR_put (wt := wtZ) (f := st.2) (v := 1) hq i0 (by omega) (by omega) j1
  rw [h, show wtZ 0 = 1 from rfl, show wtZ 1 = 0 from rfl] at h1
  unfold zerosG
  simp only
  omega
theorem zeros_put1 {G : Gram} {W : ByteArray} {st : Rk × Rk} {q : Nat} {i j : Int} (hq : q < G.names.length) (i0 : 0 ≤ i) (ij : i ≤ j) (j1 : j ≤ W.size) (h : st.1 q i j = 0) : zerosG G W (putR st.1 q i j 1, st.2) + 1 = zerosG G W st := by
  have h1 := potR_put (wt := wtZ) (f := st.1) (v := 1) hq i0 (by omega) (by omega) j1
  rw [h, show wtZ 0 = 1 from rfl, show wtZ 1 = 0 from rfl] at h1
  unfold zerosG
  simp only
  omega
/-- Was a place visited before? -/
def BefF (c : Nat) (k a b : Int) (c' k' : Nat) (i j : Int) : Prop := c' < c ∨ (c' = c ∧ (k < (k' : Int) ∨ ((k' : Int) = k ∧ (i < a ∨ (i = a ∧ j < b)))))
/-- The change so far. -/
def Chg (G : Gram) (W : ByteArray) (chg : Bool) (st0 st : Rk × Rk) : Prop := (chg = false ∧ st = st0) ∨ (chg = true ∧ zerosG G W st < zerosG G W st0)
theorem Chg.put {G : Gram} {W : ByteArray} {chg : Bool} {st0 st st' : Rk × Rk} (h : Chg G W chg st0 st) (hz : zerosG G W st' + 1 = zerosG G W st) : Chg G W true st0 st' := by
  refine .inr ⟨rfl, ?_⟩
  rcases h with ⟨-, rfl⟩ | ⟨-, h⟩ <;> omega
/-- A rule's rests, so far. -/
structure FR (G : Gram) (W : ByteArray) (T : Rk × Rk) (lev : List Int) (L : Int) (r : Nat) (x : Rul) (st0 : Rk × Rk) (c : Nat) (k a b : Int) (chg : Bool) (st : Rk × Rk) : Prop where
  I : FInv G W T lev L st
  M : Chg G W chg st0 st
  lk : chg = false → ∀ c' k' y (i j : Int), PlG G r c' k' x y → 0 ≤ i → i ≤ j → j ≤ W.size → BefF c k a b c' k' i j → st0.2 (offG G r c' + k') i j = 0 → restR W st0.1 st0.2 y.seq (offG G r c') k' i j = false
  vn : ∀ c' k' y (i j : Int), PlG G r c' k' x y → 0 ≤ i → i ≤ j → j ≤ W.size → BefF c k a b c' k' i j → y.neg = true → 0 < T.2 (offG G r c' + k') i j → st.2 (offG G r c' + k') i j ≠ 0
section
variable {G : Gram} {W : ByteArray} {T : Rk × Rk} {lev : List Int} {L : Int} {r : Nat} {x : Rul} {st0 st : Rk × Rk} {c : Nat} {k a b : Int} {chg : Bool}
theorem FR.go (h : FR G W T lev L r x st0 c k a b chg st) {c2 : Nat} {k2 a2 b2 : Int} (hb : ∀ c' k' y (i j : Int), PlG G r c' k' x y → 0 ≤ i → i ≤ j → j ≤ W.size → BefF c2 k2 a2 b2 c' k' i j → BefF c k a b c' k' i j) : FR G W T lev L r x st0 c2 k2 a2 b2 chg st :=
  ⟨h.I, h.M, fun hc c' k' y i j p i0 ij j1 hB => h.lk hc c' k' y i j p i0 ij j1 (hb c' k' y i j p i0 ij j1 hB), fun c' k' y i j p i0 ij j1 hB => h.vn c' k' y i j p i0 ij j1 (hb c' k' y i j p i0 ij j1 hB)⟩
/-- A negated conjunct's rest is found when its turn comes. -/
theorem FR.neg_find (h : FR G W T lev L r x st0 c k a b chg st) (H : Truth G W T) (hg : ∀ e ∈ edgesOf G, lev.getD e.to 0 + negI e.neg ≤ lev.getD e.fr 0) (hl : lvG lev x = L) (M : MayG G)
    {q : Nat} {y : Conj} (hk : k = q) (p : PlG G r c q x y) (a0 : 0 ≤ a) (ab : a ≤ b) (b1 : b ≤ W.size) (hn : y.neg = true) (hT : 0 < T.2 (offG G r c + q) a b) : restR W st.1 st.2 y.seq (offG G r c) q a b = true := by
  refine h.I.rest_find H p a0 ab b1 hT ?_ ?_
  · intro s hs hs0 m m0 m1 hp _
    have hsy := M.sym r x c y q s p.hx p.hy hs
    have hlt := symB_lt hsy (by have := M.K1; omega)
    refine h.I.c1 _ a m (by omega) a0 m0 (by omega) ?_ hp
    have he := hg ⟨x.head.toNat, s.name.toNat, y.neg⟩ (mem_edgesOf.2 ⟨x, List.mem_of_getElem? p.hx, y, List.mem_of_getElem? p.hy, s, List.mem_of_getElem? hs, hs0, rfl⟩)
    simp only [hn] at he
    have : negI true = 1 := rfl
    unfold lvG at hl
    omega
  · intro hq m m0 m1 hp _
    exact h.vn c (q + 1) y m b ⟨p.hx, p.hy, hq⟩ (by omega) m1 b1 (.inr ⟨rfl, .inl (by omega)⟩) hn hp
theorem bef_next {c' k' q : Nat} {i j : Int} (h : BefF c (q : Int) a (b + 1) c' k' i j) : BefF c (q : Int) a b c' k' i j ∨ (c' = c ∧ k' = q ∧ i = a ∧ j = b) := by
  unfold BefF at h ⊢
  omega
theorem FR.pass (h : FR G W T lev L r x st0 c k a b chg st) (H : Truth G W T) (hg : ∀ e ∈ edgesOf G, lev.getD e.to 0 + negI e.neg ≤ lev.getD e.fr 0) (hl : lvG lev x = L) (M : MayG G)
    {q : Nat} {y : Conj} (hk : k = q) (p : PlG G r c q x y) (a0 : 0 ≤ a) (ab : a ≤ b) (b1 : b ≤ W.size) (hc : st.2 (offG G r c + q) a b = 0 → restR W st.1 st.2 y.seq (offG G r c) q a b = false) : FR G W T lev L r x st0 c k a (b + 1) chg st := by
  have hf := fun hn hT => h.neg_find H hg hl M hk p a0 ab b1 hn hT
  subst hk
  refine ⟨h.I, h.M, fun hch c' k' y' i j p' i0 ij j1 hB hz => ?_, fun c' k' y' i j p' i0 ij j1 hB hn hT => ?_⟩
  · rcases bef_next hB with hB | ⟨rfl, rfl, rfl, rfl⟩
    · exact h.lk hch c' k' y' i j p' i0 ij j1 hB hz
    · have e : y' = y := by have := p'.hy; rw [p.hy] at this; exact (Option.some.inj this).symm
      subst e
      rcases h.M with ⟨-, rfl⟩ | ⟨hb, -⟩
      · exact hc hz
      · rw [hch] at hb; cases hb
  · rcases bef_next hB with hB | ⟨rfl, rfl, rfl, rfl⟩
    · exact h.vn c' k' y' i j p' i0 ij j1 hB hn hT
    · have e : y' = y := by have := p'.hy; rw [p.hy] at this; exact (Option.some.inj this).symm
      subst e
      intro hz
      have h1 := hf hn hT
      rw [hc hz] at h1
      cases h1
theorem FR.put (h : FR G W T lev L r x st0 c k a b chg st) (H : Truth G W T)
    {q : Nat} {y : Conj} (hk : k = q) (p : PlG G r c q x y) (hq : offG G r c + q < qG G) (a0 : 0 ≤ a) (ab : a ≤ b) (b1 : b ≤ W.size) (hz : st.2 (offG G r c + q) a b = 0) (hr : restR W st.1 st.2 y.seq (offG G r c) q a b = true) :
    FR G W T lev L r x st0 c k a (b + 1) true (st.1, putR st.2 (offG G r c + q) a b 1) := by
  have hT := h.I.rest_sound H p a0 ab b1 hr
  subst hk
  refine ⟨h.I.put2 hT, h.M.put (zeros_put2 hq a0 ab b1 hz), fun hch => (by cases hch), fun c' k' y' i j p' i0 ij j1 hB hn hT' => ?_⟩
  rcases bef_next hB with hB | ⟨rfl, rfl, rfl, rfl⟩
  · have h1 := h.vn c' k' y' i j p' i0 ij j1 hB hn hT'
    simp only [putR]
    split <;> omega
  · simp [putR]
theorem FR.nextA (h : FR G W T lev L r x st0 c k a b chg st) (hb : b = W.size + 1) : FR G W T lev L r x st0 c k (a + 1) (a + 1) chg st :=
  h.go fun c' k' y i j p i0 ij j1 hB => by unfold BefF at hB ⊢; omega
theorem FR.nextK (h : FR G W T lev L r x st0 c k a b chg st) (ha : a = W.size + 1) : FR G W T lev L r x st0 c (k - 1) 0 0 chg st :=
  h.go fun c' k' y i j p i0 ij j1 hB => by unfold BefF at hB ⊢; omega
theorem FR.nextC (h : FR G W T lev L r x st0 c k a b chg st) (hk : k = -1) {k2 : Int} (hk2 : ∀ y, x.conj[c + 1]? = some y → (y.seq.length : Int) ≤ k2) : FR G W T lev L r x st0 (c + 1) k2 0 0 chg st :=
  h.go fun c' k' y i j p i0 ij j1 hB => by
    unfold BefF at hB ⊢
    rcases hB with hB | ⟨rfl, hB | ⟨-, hB⟩⟩
    · omega
    · have := hk2 y p.hy
      have := p.hp
      omega
    · omega
/-- A rule's head, so far: its rests are behind us. -/
structure FH (G : Gram) (W : ByteArray) (T : Rk × Rk) (lev : List Int) (L : Int) (r : Nat) (x : Rul) (st0 : Rk × Rk) (a b : Int) (chg : Bool) (st : Rk × Rk) : Prop where
  I : FInv G W T lev L st
  M : Chg G W chg st0 st
  lk : chg = false → ∀ c' k' y (i j : Int), PlG G r c' k' x y → 0 ≤ i → i ≤ j → j ≤ W.size → st0.2 (offG G r c' + k') i j = 0 → restR W st0.1 st0.2 y.seq (offG G r c') k' i j = false
  vn : ∀ c' k' y (i j : Int), PlG G r c' k' x y → 0 ≤ i → i ≤ j → j ≤ W.size → y.neg = true → 0 < T.2 (offG G r c' + k') i j → st.2 (offG G r c' + k') i j ≠ 0
  ln : chg = false → ∀ i j : Int, 0 ≤ i → i ≤ j → j ≤ W.size → (i < a ∨ (i = a ∧ j < b)) → st0.1 x.head.toNat i j = 0 → holdsR (offG G r) st0.2 x.conj i j = false
theorem FR.head (h : FR G W T lev L r x st0 c k a b chg st) (hc : c = x.conj.length) : FH G W T lev L r x st0 0 0 chg st :=
  ⟨h.I, h.M, fun hch c' k' y i j p i0 ij j1 => h.lk hch c' k' y i j p i0 ij j1 (.inl (by rw [hc]; exact (List.getElem?_eq_some_iff.1 p.hy).1)),
    fun c' k' y i j p i0 ij j1 => h.vn c' k' y i j p i0 ij j1 (.inl (by rw [hc]; exact (List.getElem?_eq_some_iff.1 p.hy).1)), fun _ i j i0 ij _ hB => by omega⟩
theorem FR.start (I : FInv G W T lev L st0) {k : Int} (hk : ∀ y, x.conj[0]? = some y → (y.seq.length : Int) ≤ k) : FR G W T lev L r x st0 0 k 0 0 false st0 := by
  have hB : ∀ c' k' y (i j : Int), PlG G r c' k' x y → 0 ≤ i → i ≤ j → ¬ BefF 0 k 0 0 c' k' i j := fun c' k' y i j p i0 ij hB => by
    unfold BefF at hB
    rcases hB with hB | ⟨rfl, hB | ⟨-, hB⟩⟩
    · omega
    · have := hk y p.hy
      have := p.hp
      omega
    · omega
  exact ⟨I, .inl ⟨rfl, rfl⟩, fun _ c' k' y i j p i0 ij _ h => absurd h (hB c' k' y i j p i0 ij), fun c' k' y i j p i0 ij _ h => absurd h (hB c' k' y i j p i0 ij)⟩
theorem FH.pass (h : FH G W T lev L r x st0 a b chg st) (hc : st.1 x.head.toNat a b = 0 → holdsR (offG G r) st.2 x.conj a b = false) : FH G W T lev L r x st0 a (b + 1) chg st := by
  refine ⟨h.I, h.M, h.lk, h.vn, fun hch i j i0 ij j1 hB hz => ?_⟩
  by_cases he : i = a ∧ j = b
  · obtain ⟨rfl, rfl⟩ := he
    rcases h.M with ⟨-, rfl⟩ | ⟨hb, -⟩
    · exact hc hz
    · rw [hch] at hb; cases hb
  · exact h.ln hch i j i0 ij j1 (by omega) hz
theorem FH.put (h : FH G W T lev L r x st0 a b chg st) (H : Truth G W T) (hx : G.rules[r]? = some x) (hk : x.head.toNat < G.names.length) (a0 : 0 ≤ a) (ab : a ≤ b) (b1 : b ≤ W.size) (hz : st.1 x.head.toNat a b = 0) (hr : holdsR (offG G r) st.2 x.conj a b = true) :
    FH G W T lev L r x st0 a (b + 1) true (putR st.1 x.head.toNat a b 1, st.2) := by
  have hT := h.I.hold_sound H hx hk a0 ab b1 (fun c y hy hn hp => by
    have := h.vn c 0 y a b ⟨hx, hy, Nat.zero_le _⟩ a0 ab b1 hn
    simp only [Nat.add_zero] at this
    exact this hp) hr
  exact ⟨h.I.put1 hT, h.M.put (zeros_put1 hk a0 ab b1 hz), fun hch => (by cases hch), h.vn, fun hch => (by cases hch)⟩
theorem FH.nextA (h : FH G W T lev L r x st0 a b chg st) (hb : b = W.size + 1) : FH G W T lev L r x st0 (a + 1) (a + 1) chg st :=
  ⟨h.I, h.M, h.lk, h.vn, fun hch i j i0 ij j1 hB => h.ln hch i j i0 ij j1 (by omega)⟩
end
end Go.Proofs.YtbidpeggdhkahaaGreat

set_option linter.unusedSimpArgs false
set_option linter.unusedVariables false
namespace Go.Proofs.YtbidpeggdhkahaaGreat
open Go.RowKit

/-- The table in memory while it is filled. -/
structure FWd (w : World) (t : RT) (wr : World) (st : Rk × Rk) : Prop where
  S : RStat wr t
  N : FlatAt wr t t.nb t.G.names.length st.1
  P : FlatAt wr t t.rb (qG t.G) st.2
  U : Upd (fun b => b = t.nb ∨ b = t.rb) w wr
theorem FWd.below {w : World} {t : RT} {wr w2 : World} {st : Rk × Rk} (h : FWd w t wr st) (hb : Below wr.heap.size wr w2) : FWd w t w2 st :=
  ⟨h.S.below hb, h.N.below hb, h.P.below hb, h.U.trans (Upd.of_below hb)⟩
/-- The grammar lay before the table's rows. -/
structure ROld (w : World) (t : RT) : Prop where
  out : ∃ wg : World, Below wg.heap.size wg w ∧ rulRd.C wg t.Ar t.G.rules ∧ wg.heap.size ≤ t.nb ∧ wg.heap.size ≤ t.rb
  ne : t.nb ≠ t.rb
theorem ROld.upd {w w' : World} {t : RT} (h : ROld w t) (u : Upd (fun b => b = t.nb ∨ b = t.rb) w w') : ROld w' t := by
  obtain ⟨wg, h1, h2, h3, h4⟩ := h.out
  exact ⟨⟨wg, h1.trans (u.below h1.size (by rintro k (rfl | rfl) <;> assumption)), h2, h3, h4⟩, h.ne⟩
theorem ROld.rule {w : World} {t : RT} (h : ROld w t) {r : Nat} {x : Rul} (hx : t.G.rules[r]? = some x) : ∃ ad A1 c1, t.Ar = some ad ∧ w.cell? (ad.add (r * 2)) = some (.int .i64 x.head) ∧
    w.cell? ⟨(ad.add (r * 2)).block, (ad.add (r * 2)).off + 1, none⟩ = some (.slice A1 x.conj.length c1) ∧ ∀ w', Upd (fun b => b = t.nb ∨ b = t.rb) w w' → conjRd.C w' A1 x.conj := by
  obtain ⟨wg, h1, h2, h3, h4⟩ := h.out
  obtain ⟨rd, Ac, cc, eA, -, r0, r1, -, -, hCC⟩ := rul_at h2 hx
  exact ⟨rd, Ac, cc, eA, below_cell h1 r0, below_cell h1 r1, fun w' u => hCC.mono (h1.trans (u.below h1.size (by rintro k (rfl | rfl) <;> assumption)))⟩
section
variable (w : World) (t : RT) (T : Rk × Rk) (lev : List Int) (L : Int) (r : Nat) (x : Rul) (st0 : Rk × Rk)
def FR1 (cnt ch : Value) (wr : World) : Prop := ∃ (c : Nat) (chg : Bool) (st : Rk × Rk), cnt = .int .i64 c ∧ ch = .bool chg ∧ c ≤ x.conj.length ∧ FR t.G t.W T lev L r x st0 c 64 0 0 chg st ∧ FWd w t wr st
def FR2 (c : Nat) (y : Conj) (cnt ch : Value) (wr : World) : Prop := ∃ (k : Int) (chg : Bool) (st : Rk × Rk), cnt = .int .i64 k ∧ ch = .bool chg ∧ -1 ≤ k ∧ k ≤ y.seq.length ∧ FR t.G t.W T lev L r x st0 c k 0 0 chg st ∧ FWd w t wr st
def FR3 (c : Nat) (k : Int) (cnt ch : Value) (wr : World) : Prop := ∃ (a : Int) (chg : Bool) (st : Rk × Rk), cnt = .int .i64 a ∧ ch = .bool chg ∧ 0 ≤ a ∧ a ≤ t.W.size + 1 ∧ FR t.G t.W T lev L r x st0 c k a a chg st ∧ FWd w t wr st
def FR4 (c : Nat) (k a : Int) (cnt ch : Value) (wr : World) : Prop := ∃ (b : Int) (chg : Bool) (st : Rk × Rk), cnt = .int .i64 b ∧ ch = .bool chg ∧ a ≤ b ∧ b ≤ t.W.size + 1 ∧ FR t.G t.W T lev L r x st0 c k a b chg st ∧ FWd w t wr st
def FH1 (cnt ch : Value) (wr : World) : Prop := ∃ (a : Int) (chg : Bool) (st : Rk × Rk), cnt = .int .i64 a ∧ ch = .bool chg ∧ 0 ≤ a ∧ a ≤ t.W.size + 1 ∧ FH t.G t.W T lev L r x st0 a a chg st ∧ FWd w t wr st
def FH2 (a : Int) (cnt ch : Value) (wr : World) : Prop := ∃ (b : Int) (chg : Bool) (st : Rk × Rk), cnt = .int .i64 b ∧ ch = .bool chg ∧ a ≤ b ∧ b ≤ t.W.size + 1 ∧ FH t.G t.W T lev L r x st0 a b chg st ∧ FWd w t wr st
/-- What fillRule leaves. -/
def FillPost (e : Ending) (w' : World) : Prop := ∃ (chg : Bool) (st : Rk × Rk), e = .returned (.bool chg) ∧ FH t.G t.W T lev L r x st0 (t.W.size + 1) (t.W.size + 1) chg st ∧ FWd w t w' st
end

set_option maxRecDepth 100000 in
set_option maxHeartbeats 8000000 in
theorem rfill_rule {w : World} {t : RT} (A : RStat w t) (O : ROld w t) (F : t.Fits) {T : Rk × Rk} {lev : List Int} {L : Int} {st0 : Rk × Rk} (RN : FlatAt w t t.nb t.G.names.length st0.1) (RP : FlatAt w t t.rb (qG t.G) st0.2) (H : Truth t.G t.W T) (hg : ∀ e ∈ edgesOf t.G, lev.getD e.to 0 + negI e.neg ≤ lev.getD e.fr 0) {r : Nat} {x : Rul} (hx : t.G.rules[r]? = some x) (hl : lvG lev x = L) (I : FInv t.G t.W T lev L st0) :
    Calls Tryz.prog 43 #[.pointer (some ⟨t.p, 0, none⟩), .int .i64 r] w (FillPost w t T lev L r x st0) := by
  have hW := F.W32
  have hQ := (gfits_of (lev := List.replicate t.G.names.length 0) F.may (by simp)).Q
  have hRL := F.may.rules
  have hcl := (F.may.conj r x hx).2
  have hrn := (List.getElem?_eq_some_iff.1 hx).1
  have b1 : (r : Int) < t.G.rules.length := by omega
  obtain ⟨rd, Ac, cc, eA, r0, r1, hCC⟩ := O.rule hx
  have hlb : t.nb < w.heap.size ∧ t.rb < w.heap.size := by
    have hk := F.may.K1
    obtain ⟨y, hy⟩ : ∃ y, x.conj[0]? = some y := ⟨_, List.getElem?_eq_getElem (by have := (F.may.conj r x hx).1; omega)⟩
    have hq := off_lt (plG0 hx hy)
    exact ⟨World.block_lt_of_cell? w _ (RN 0 0 0 (by omega) (by omega) (by omega) (by omega) (by omega)).1, World.block_lt_of_cell? w _ (RP _ 0 0 hq (by omega) (by omega) (by omega) (by omega)).1⟩
  have g2 := A.now.c2
  have g3 := A.now.c3
  rw [eA] at g2
  have hb0 : Below w.heap.size w (w.alloc (Obj.cells #[Value.int .i64 x.head, Value.slice Ac x.conj.length cc] 47)) := below_alloc' (below_refl w) _
  have B0 := heap_alloc_new w (Obj.cells #[Value.int .i64 x.head, Value.slice Ac x.conj.length cc] 47)
  have HU0 := Lib.hid (Upd.of_below (R := fun b => b = t.nb ∨ b = t.rb) hb0)
  have HW0 := Lib.hid (show FWd (w.alloc (Obj.cells #[Value.int .i64 x.head, Value.slice Ac x.conj.length cc] 47)) t (w.alloc (Obj.cells #[Value.int .i64 x.head, Value.slice Ac x.conj.length cc] 47)) st0 from ⟨A.below hb0, RN.below hb0, RP.below hb0, Upd.refl _ _⟩)
  have HCC := Lib.hid (show ∀ w', Upd (fun b => b = t.nb ∨ b = t.rb) (w.alloc (Obj.cells #[Value.int .i64 x.head, Value.slice Ac x.conj.length cc] 47)) w' → conjRd.C w' Ac x.conj from fun w' u => hCC w' ((Upd.of_below hb0).trans u))
  obtain ⟨bx, hbx⟩ : ∃ bx, bx = w.heap.size := ⟨_, rfl⟩
  have hbn : ¬ (bx = t.nb ∨ bx = t.rb) := by rw [hbx]; omega
  have HBN := Lib.hid hbn
  have HX := Lib.hid B0
  have HXX := Lib.hid hx
  have HNE := Lib.hid O.ne
  have HI := Lib.hid I
  clear A O RN RP B0 hb0 hCC hx eA I hlb hbn
  go_enter Tryz.func43, Tryz.ntmps43
  go_wp2_with fail
  rw [← hbx] at HX ⊢
  clear hbx g2 g3 r0 r1
  generalize w.alloc (Obj.cells #[Value.int .i64 x.head, Value.slice Ac x.conj.length cc] 47) = w0 at HX HW0 HCC HU0 ⊢
  go_loopw [8, 5] (fun cnt ch wr => FR1 w0 t T lev L r x st0 cnt ch wr) (fun cnt _ _ => x.conj.length - (intOf cnt).toNat)
  case atStart => exact ⟨0, false, st0, rfl, rfl, Nat.zero_le _, FR.start HI.out (fun y hy => by have := F.may.seq r x 0 y HXX.out hy; omega), HW0.out⟩
  case round =>
    obtain ⟨c, chg, st, rfl, rfl, hc, hfr, hw⟩ := hrel
    have HF := Lib.hid hfr
    have HWd := Lib.hid hw
    have hX2 := (hw.U.block bx (blk_lt HX.out) HBN.out).trans HX.out
    have hCC2 := HCC.out wr hw.U
    have q1 : wr.cell? ⟨bx, 1, none⟩ = some (.slice Ac x.conj.length cc) := blk_cell hX2 1
    clear hfr hw hX2
    by_cases hltc : c < x.conj.length
    · obtain ⟨y, hy⟩ : ∃ y, x.conj[c]? = some y := ⟨_, List.getElem?_eq_getElem hltc⟩
      obtain ⟨cd, As, cs, eC, -, s0, s1, -⟩ := conj_at hCC2 hy
      subst eC
      have b3 : (c : Int) < x.conj.length := by omega
      have hsl := F.may.seq r x c y HXX.out hy
      have HY := Lib.hid hy
      clear hy hCC2
      go_wp2_with fail
      clear q1 s0 s1
      go_loopw [9, 5] (fun cnt ch wr => FR2 w0 t T lev L r x st0 c y cnt ch wr) (fun cnt _ _ => (intOf cnt + 1).toNat)
      case atStart => exact ⟨y.seq.length, chg, st, rfl, rfl, by omega, by omega, HF.out.go (fun c' k' y' i j p i0 ij j1 hB => by
        unfold BefF at hB ⊢
        rcases hB with hB | ⟨rfl, hB | hB⟩
        · omega
        · have e : y' = y := by have := p.hy; rw [HY.out] at this; exact (Option.some.inj this).symm
          subst e
          have := p.hp
          omega
        · omega), HWd.out⟩
      case round =>
        clear HF HWd
        obtain ⟨k, chg2, st2, rfl, rfl, hk0, hk1, hfr, hw⟩ := hrel
        have HF := Lib.hid hfr
        have HWd := Lib.hid hw
        clear hfr hw
        by_cases hk : 0 ≤ k
        · obtain ⟨q, rfl⟩ : ∃ q : Nat, k = (q : Int) := ⟨k.toNat, by omega⟩
          have HPL := Lib.hid (show PlG t.G r c q x y from ⟨HXX.out, HY.out, by omega⟩)
          have g3 := HWd.out.S.now.c3
          have hb1 : Below wr.heap.size wr (wr.alloc (Obj.cells #[Value.int .i64 r, Value.int .i64 c, Value.int .i64 q] 57)) := below_alloc' (below_refl wr) _
          have B1 := heap_alloc_new wr (Obj.cells #[Value.int .i64 r, Value.int .i64 c, Value.int .i64 q] 57)
          have HU1 := Lib.hid (HWd.out.U.trans (Upd.of_below hb1))
          have HW1 := Lib.hid (show FWd (wr.alloc (Obj.cells #[Value.int .i64 r, Value.int .i64 c, Value.int .i64 q] 57)) t (wr.alloc (Obj.cells #[Value.int .i64 r, Value.int .i64 c, Value.int .i64 q] 57)) st2 from ⟨HWd.out.S.below hb1, HWd.out.N.below hb1, HWd.out.P.below hb1, Upd.refl _ _⟩)
          have hlb : t.nb < wr.heap.size ∧ t.rb < wr.heap.size := by
            have hk := F.may.K1
            exact ⟨World.block_lt_of_cell? wr _ (HWd.out.N 0 0 0 (by omega) (by omega) (by omega) (by omega) (by omega)).1, World.block_lt_of_cell? wr _ (HWd.out.P _ 0 0 (off_lt HPL.out) (by omega) (by omega) (by omega) (by omega)).1⟩
          obtain ⟨bp, hbp⟩ : ∃ bp, bp = wr.heap.size := ⟨_, rfl⟩
          rw [← hbp] at B1 hlb
          have HPN := Lib.hid (show ¬ (bp = t.nb ∨ bp = t.rb) by omega)
          have HBP := Lib.hid B1
          go_wp2_with fail
          rw [← hbp]
          clear hbp B1 hb1 hlb g3
          generalize wr.alloc (Obj.cells #[Value.int .i64 r, Value.int .i64 c, Value.int .i64 q] 57) = w1 at HU1 HW1 HBP ⊢
          go_loopw [11, 5] (fun cnt ch wr => FR3 w1 t T lev L r x st0 c q cnt ch wr) (fun cnt _ _ => (t.W.size + 1 - intOf cnt).toNat)
          case atStart => exact ⟨0, chg2, st2, rfl, rfl, by omega, by omega, HF.out, HW1.out⟩
          case round =>
            clear HF
            obtain ⟨a, chg3, st3, rfl, rfl, ha0, ha1, hfr, hw⟩ := hrel
            have HF := Lib.hid hfr
            have HW3 := Lib.hid hw
            clear hfr hw
            by_cases ham : a ≤ t.W.size
            · have da : decide (a ≤ (t.W.size : Int)) = true := decide_eq_true ham
              go_wp2_with fail
              go_loopw [12, 5] (fun cnt ch wr => FR4 w1 t T lev L r x st0 c q a cnt ch wr) (fun cnt _ _ => (t.W.size + 1 - intOf cnt).toNat)
              case atStart => exact ⟨a, chg3, st3, rfl, rfl, by omega, by omega, HF.out, HW3.out⟩
              case round =>
                clear HF HW3
                obtain ⟨b, chg4, st4, rfl, rfl, hb0, hb1, hfr, hw⟩ := hrel
                have HF := Lib.hid hfr
                have HW4 := Lib.hid hw
                clear hfr hw
                by_cases hbm : b ≤ t.W.size
                · have db : decide (b ≤ (t.W.size : Int)) = true := decide_eq_true hbm
                  have hoq := off_lt HPL.out
                  have hX4 := (HW4.out.U.block bp (blk_lt HBP.out) HPN.out).trans HBP.out
                  have y0 : wr.cell? ⟨bp, 0, none⟩ = some (.int .i64 r) := blk_cell hX4 0
                  have y1 : wr.cell? ⟨bp, 1, none⟩ = some (.int .i64 c) := blk_cell hX4 1
                  have y2 : wr.cell? ⟨bp, 2, none⟩ = some (.int .i64 q) := blk_cell hX4 2
                  have HX4 := Lib.hid hX4
                  clear hX4
                  obtain ⟨b4, hb4⟩ : ∃ v, v = decide (0 < st4.2 (offG t.G r c + q) a b) := ⟨_, rfl⟩
                  obtain ⟨b5, hb5⟩ : ∃ v, v = restR t.W st4.1 st4.2 y.seq (offG t.G r c) q a b := ⟨_, rfl⟩
                  have HR1 := Lib.hid (show Calls Tryz.prog 31 #[.pointer (some ⟨t.p, 0, none⟩), .agg #[.int .i64 r, .int .i64 c, .int .i64 q], .int .i64 a, .int .i64 b] wr fun e w' => e = .returned (.bool b4) ∧ Below wr.heap.size wr w' by
                    have := rrestHas_any HW4.out.S.now F HW4.out.P r c q a b
                    rw [rrestRank_at HPL.out ha0 hb0 hbm, ← hb4] at this
                    exact this)
                  have HR2 := Lib.hid (show ∀ w5, Below wr.heap.size wr w5 → Calls Tryz.prog 65 #[.pointer (some ⟨t.p, 0, none⟩), .agg #[.int .i64 r, .int .i64 c, .int .i64 q], .int .i64 a, .int .i64 b] w5 fun e w' => e = .returned (.bool b5) ∧ Below w5.heap.size w5 w' from fun w5 h5 => by
                    rw [hb5]
                    exact rrest_any (HW4.out.S.below h5).now F (HW4.out.N.below h5) (HW4.out.P.below h5) HPL.out ha0 hb0 hbm)
                  have H4 := Lib.hid hb4
                  have H5 := Lib.hid hb5
                  clear hb4 hb5
                  cases b4 with
                  | true =>
                    go_wp2_with (first | (go_at_call 31; refine HR1.out.mono ?_; rintro e w5 ⟨rfl, hb5⟩; have HB5 := Lib.hid hb5; clear hb5) | fail)
                    go_roundw
                    case rel => exact ⟨b + 1, chg4, st4, by go_num, rfl, by omega, by omega, HF.out.pass H hg hl F.may rfl HPL.out ha0 hb0 hbm (fun hz => by have := H4.out; rw [hz] at this; simp at this), HW4.out.below HB5.out⟩
                    case measure => simp [intOf]; omega
                  | false =>
                    cases b5 with
                    | false =>
                      go_wp2_with (first | (go_at_call 31; refine HR1.out.mono ?_; rintro e w5 ⟨rfl, hb5⟩; have HB5 := Lib.hid hb5; have hX5 := blk_below HX4.out hb5; have z0 : w5.cell? ⟨bp, 0, none⟩ = some (.int .i64 r) := blk_cell hX5 0; have z1 : w5.cell? ⟨bp, 1, none⟩ = some (.int .i64 c) := blk_cell hX5 1; have z2 : w5.cell? ⟨bp, 2, none⟩ = some (.int .i64 q) := blk_cell hX5 2; clear hb5 hX5) | (go_at_call 65; refine (HR2.out w5 HB5.out).mono ?_; rintro e w6 ⟨rfl, hb6⟩; have HB6 := Lib.hid (below_trans HB5.out hb6); clear hb6) | fail)
                      go_roundw
                      case rel => exact ⟨b + 1, chg4, st4, by go_num, rfl, by omega, by omega, HF.out.pass H hg hl F.may rfl HPL.out ha0 hb0 hbm (fun _ => H5.out.symm), HW4.out.below HB6.out⟩
                      case measure => simp [intOf]; omega
                    | true =>
                      go_wp2_with (first | (go_at_call 31; refine HR1.out.mono ?_; rintro e w5 ⟨rfl, hb5⟩; have HB5 := Lib.hid hb5; have hX5 := blk_below HX4.out hb5; have z0 : w5.cell? ⟨bp, 0, none⟩ = some (.int .i64 r) := blk_cell hX5 0; have z1 : w5.cell? ⟨bp, 1, none⟩ = some (.int .i64 c) := blk_cell hX5 1; have z2 : w5.cell? ⟨bp, 2, none⟩ = some (.int .i64 q) := blk_cell hX5 2; clear hb5 hX5) | (go_at_call 65; refine (HR2.out w5 HB5.out).mono ?_; rintro e w6 ⟨rfl, hb6⟩; have HB6 := Lib.hid (below_trans HB5.out hb6); clear hb6) | fail)
                      have hz4 : st4.2 (offG t.G r c + q) a b = 0 := by
                        have h1 := H4.out
                        have h2 := HF.out.I.v2 (offG t.G r c + q) a b
                        rcases h2 with h2 | h2
                        · exact h2
                        · rw [h2] at h1; simp at h1
                      obtain ⟨P, sv, FF⟩ := flat_facts hW hQ hoq ha0 hb0 hbm
                      have HFP := Lib.hid (HF.out.put H rfl HPL.out hoq ha0 hb0 hbm hz4 H5.out.symm)
                      have HW6 := Lib.hid (HW4.out.below HB6.out)
                      have hX6 := blk_below HX4.out HB6.out
                      have j0 : w6.cell? ⟨bp, 0, none⟩ = some (.int .i64 r) := blk_cell hX6 0
                      have j1 : w6.cell? ⟨bp, 1, none⟩ = some (.int .i64 c) := blk_cell hX6 1
                      have j2 : w6.cell? ⟨bp, 2, none⟩ = some (.int .i64 q) := blk_cell hX6 2
                      have j4 := HW6.out.S.now.c4
                      have j7 := HW6.out.S.now.c7
                      obtain ⟨j8, j9⟩ := HW6.out.P (offG t.G r c + q) a b hoq ha0 (by omega) (by omega) hbm
                      rw [FF.ix] at j8 j9
                      obtain ⟨LL, hLL⟩ : ∃ LL, LL = qG t.G * t.S := ⟨_, rfl⟩
                      have b7 : (P : Int) + sv < LL := by rw [hLL]; exact FF.b1
                      rw [← hLL] at j7
                      have b8 : 0 ≤ (P : Int) + sv := by have := FF.s0; omega
                      have e1 := FF.e1
                      have e2 := FF.e2
                      obtain ⟨pl, hpl⟩ : ∃ pl, pl = offG t.G r c + q := ⟨_, rfl⟩
                      rw [← hpl] at e1
                      have HPC := Lib.hid (show ∀ w5, RTAt w5 t → Calls Tryz.prog 66 #[.pointer (some ⟨t.p, 0, none⟩), .agg #[.int .i64 r, .int .i64 c, .int .i64 q]] w5 fun e w' => e = .returned (.int .i64 (pl : Int)) ∧ Below w5.heap.size w5 w' from fun w5 h5 => by rw [hpl]; exact rplace_at h5 F HPL.out)
                      have HSP := Lib.hid (show ∀ w5, RTAt w5 t → Calls Tryz.prog 45 #[.pointer (some ⟨t.p, 0, none⟩), .int .i64 a, .int .i64 b] w5 fun e w' => e = .returned (.int .i64 sv) ∧ w' = w5 from fun w5 h5 => by rw [← FF.sp]; exact rspan_any h5 hW a b)
                      have HAd := Lib.hid (show RTAt w6.drew t from HW6.out.S.now.below (below_drew' (below_refl _)))
                      have HIX := Lib.hid FF.ix
                      have HPL2 := Lib.hid hpl
                      have NE := Lib.hid (show t.rb ≠ bp from fun e => HPN.out (.inr e.symm))
                      have HLL := Lib.hid hLL
                      clear hLL hpl FF hX6 z0 z1 z2 y0 y1 y2
                      go_region_held3 (fun w' => w'.cell? ⟨bp, 0, none⟩ = some (.int .i64 r) ∧ w'.cell? ⟨bp, 1, none⟩ = some (.int .i64 c) ∧ w'.cell? ⟨bp, 2, none⟩ = some (.int .i64 q) ∧ w'.cell? ⟨t.p, 4, none⟩ = some (.int .i64 t.S) ∧ w'.cell? ⟨t.p, 7, none⟩ = some (.slice (some ⟨t.rb, 0, none⟩) LL t.xR)) (first | exact ⟨keep_set k0 NE.out, keep_set k1 NE.out, keep_set k2 NE.out, (HS7.out.upd ((Upd.refl _ _).setCell (.inr rfl) _)).now.c4, by have h9 := (HS7.out.upd ((Upd.refl _ _).setCell (p := ⟨t.rb, ((P : Int) + sv).toNat, none⟩) (.inr rfl) (.int .i64 1))).now.c7; rw [← HLL.out] at h9; exact h9⟩ | exact ⟨k0, k1, k2, k4, k7⟩ | exact ⟨j0, j1, j2, j4, j7⟩)
                        (first | (go_at_call 66; refine (HPC.out _ HAd.out).mono ?_; rintro e w7 ⟨rfl, hb7⟩; have HA7 := Lib.hid (HAd.out.below hb7); have HS7 := Lib.hid ((HW6.out.S.below (below_drew' (below_refl _))).below hb7); have HB7 := Lib.hid hb7; have k0 := below_cell (w := w6.drew) hb7 j0; have k1 := below_cell (w := w6.drew) hb7 j1; have k2 := below_cell (w := w6.drew) hb7 j2; have k4 := below_cell (w := w6.drew) hb7 j4; have k7 := below_cell (w := w6.drew) hb7 j7; have k8 := below_cell (w := w6.drew) hb7 j8; have k9 := below_froz (w := w6.drew) hb7 j8 j9; clear hb7) | (go_at_call 45; first | (refine (HSP.out _ HA7.out).mono ?_; rintro e w8 ⟨rfl, rfl⟩) | (refine (HSP.out _ HAd.out).mono ?_; rintro e w8 ⟨rfl, rfl⟩)))
                      all_goals
                        go_wp2
                        go_roundw
                        case rel =>
                          have u7 : Upd (fun b => b = t.nb ∨ b = t.rb) w6 _ := (Upd.of_below (below_then (below_drew' (below_refl _)) HB7.out)).trans ((Upd.refl _ _).setCell (p := ⟨t.rb, ((P : Int) + sv).toNat, none⟩) (.inr rfl) (.int .i64 1))
                          refine ⟨b + 1, true, _, by go_num, rfl, by omega, by omega, HFP.out, HW6.out.S.upd u7, ?_, ?_, HW6.out.U.trans u7⟩
                          · exact ((HW6.out.N.below (below_drew' (below_refl _))).below HB7.out).other (fun e => HNE.out e.symm) _
                          · have h9 := ((HW6.out.P.below (below_drew' (below_refl _))).below HB7.out).put hoq ha0 (by omega) (by omega) hbm 1
                            rw [HIX.out] at h9
                            exact h9
                        case measure => simp [intOf]; omega
                · have hbe : b = t.W.size + 1 := by omega
                  have db : decide (b ≤ (t.W.size : Int)) = false := decide_eq_false (by omega)
                  go_wp2_with fail
                  go_roundw
                  case rel => exact ⟨a + 1, chg4, st4, by go_num, rfl, by omega, by omega, HF.out.nextA hbe, HW4.out⟩
                  case measure => simp [intOf]; omega
            · have hae : a = t.W.size + 1 := by omega
              have da : decide (a ≤ (t.W.size : Int)) = false := decide_eq_false (by omega)
              go_wp2_with fail
              go_roundw
              case rel => exact ⟨(q : Int) - 1, chg3, st3, by go_num, rfl, by omega, by omega, HF.out.nextK hae, ⟨HW3.out.S, HW3.out.N, HW3.out.P, HU1.out.trans HW3.out.U⟩⟩
              case measure => simp [intOf] <;> omega
        · have hke : k = -1 := by omega
          subst hke
          go_wp2_with fail
          go_roundw
          case rel => exact ⟨c + 1, chg2, st2, by go_num, rfl, by omega, HF.out.nextC rfl (fun y' hy' => by have := F.may.seq r x (c + 1) y' HXX.out hy'; omega), HWd.out⟩
          case measure => simp [intOf]; omega
    · have hce : c = x.conj.length := by omega
      have HH0 := Lib.hid (HF.out.head hce)
      have HHD := Lib.hid (F.may.head r x HXX.out)
      subst hce
      clear HF hCC2
      go_wp2_with fail
      clear q1
      go_loopw [13, 5] (fun cnt ch wr => FH1 w0 t T lev L r x st0 cnt ch wr) (fun cnt _ _ => (t.W.size + 1 - intOf cnt).toNat)
      case atStart => exact ⟨0, chg, st, rfl, rfl, by omega, by omega, HH0.out, HWd.out⟩
      case round =>
        clear HH0 HWd
        obtain ⟨a, chg3, st3, rfl, rfl, ha0, ha1, hfr, hw⟩ := hrel
        have HF := Lib.hid hfr
        have HW3 := Lib.hid hw
        clear hfr hw
        by_cases ham : a ≤ t.W.size
        · have da : decide (a ≤ (t.W.size : Int)) = true := decide_eq_true ham
          go_wp2_with fail
          go_loopw [14, 5] (fun cnt ch wr => FH2 w0 t T lev L r x st0 a cnt ch wr) (fun cnt _ _ => (t.W.size + 1 - intOf cnt).toNat)
          case atStart => exact ⟨a, chg3, st3, rfl, rfl, by omega, by omega, HF.out, HW3.out⟩
          case round =>
            clear HF HW3
            obtain ⟨b, chg4, st4, rfl, rfl, hb0, hb1, hfr, hw⟩ := hrel
            have HF := Lib.hid hfr
            have HW4 := Lib.hid hw
            clear hfr hw
            by_cases hbm : b ≤ t.W.size
            · have db : decide (b ≤ (t.W.size : Int)) = true := decide_eq_true hbm
              have hhd := HHD.out
              obtain ⟨h, hh⟩ : ∃ h : Nat, x.head = (h : Int) := ⟨x.head.toNat, by omega⟩
              have hhn : x.head.toNat = h := by omega
              have hhk : h < t.G.names.length := by omega
              have HHN := Lib.hid hhn
              have hX4 := (HW4.out.U.block bx (blk_lt HX.out) HBN.out).trans HX.out
              have y0 : wr.cell? ⟨bx, 0, none⟩ = some (.int .i64 h) := by rw [← hh]; exact blk_cell hX4 0
              have HX4 := Lib.hid hX4
              obtain ⟨b4, hb4⟩ : ∃ v, v = decide (0 < st4.1 h a b) := ⟨_, rfl⟩
              obtain ⟨b5, hb5⟩ : ∃ v, v = holdsR (offG t.G r) st4.2 x.conj a b := ⟨_, rfl⟩
              have HR1 := Lib.hid (show Calls Tryz.prog 15 #[.pointer (some ⟨t.p, 0, none⟩), .int .i64 h, .int .i64 a, .int .i64 b] wr fun e w' => e = .returned (.bool b4) ∧ Below wr.heap.size wr w' by
                have := rhas_any HW4.out.S.now F HW4.out.N h a b
                rw [rrank_at hhk ha0 hb0 hbm, ← hb4] at this
                exact this)
              have HR2 := Lib.hid (show ∀ w5, Below wr.heap.size wr w5 → Calls Tryz.prog 16 #[.pointer (some ⟨t.p, 0, none⟩), .int .i64 r, .int .i64 a, .int .i64 b] w5 fun e w' => e = .returned (.bool b5) ∧ Below w5.heap.size w5 w' from fun w5 h5 => by
                rw [hb5]
                exact rholds_any (HW4.out.S.below h5).now F (HW4.out.P.below h5) HXX.out ha0 hb0 hbm)
              have H4 := Lib.hid hb4
              have H5 := Lib.hid hb5
              clear hb4 hb5 hh hhn hhd hX4
              cases b4 with
              | true =>
                go_wp2_with (first | (go_at_call 15; refine HR1.out.mono ?_; rintro e w5 ⟨rfl, hb5⟩; have HB5 := Lib.hid hb5; clear hb5) | fail)
                go_roundw
                case rel =>
                  exact ⟨b + 1, chg4, st4, by go_num, rfl, by omega, by omega, HF.out.pass (fun hz => by have := H4.out; rw [HHN.out] at hz; rw [hz] at this; simp at this), HW4.out.below HB5.out⟩
                case measure => simp [intOf]; omega
              | false =>
                cases b5 with
                | false =>
                  go_wp2_with (first | (go_at_call 15; refine HR1.out.mono ?_; rintro e w5 ⟨rfl, hb5⟩; have HB5 := Lib.hid hb5; clear hb5) | (go_at_call 16; refine (HR2.out w5 HB5.out).mono ?_; rintro e w6 ⟨rfl, hb6⟩; have HB6 := Lib.hid (below_trans HB5.out hb6); clear hb6) | fail)
                  go_roundw
                  case rel =>
                    exact ⟨b + 1, chg4, st4, by go_num, rfl, by omega, by omega, HF.out.pass (fun _ => H5.out.symm), HW4.out.below HB6.out⟩
                  case measure => simp [intOf]; omega
                | true =>
                  go_wp2_with (first | (go_at_call 15; refine HR1.out.mono ?_; rintro e w5 ⟨rfl, hb5⟩; have HB5 := Lib.hid hb5; clear hb5) | (go_at_call 16; refine (HR2.out w5 HB5.out).mono ?_; rintro e w6 ⟨rfl, hb6⟩; have HB6 := Lib.hid (below_trans HB5.out hb6); clear hb6) | fail)
                  have hz4 : st4.1 h a b = 0 := by
                    have h1 := H4.out
                    have h2 := HF.out.I.v1 h a b
                    rcases h2 with h2 | h2
                    · exact h2
                    · rw [h2] at h1; simp at h1
                  obtain ⟨P, sv, FF⟩ := flat_facts hW (show t.G.names.length ≤ 100000 by have := F.may.K64; omega) hhk ha0 hb0 hbm
                  have HFP := Lib.hid (show FH t.G t.W T lev L r x st0 a (b + 1) true (putR st4.1 h a b 1, st4.2) by
                    have := HF.out.put H HXX.out (by rw [HHN.out]; exact hhk) ha0 hb0 hbm (by rw [HHN.out]; exact hz4) H5.out.symm
                    rw [HHN.out] at this
                    exact this)
                  have HW6 := Lib.hid (HW4.out.below HB6.out)
                  have hX6 := blk_below HX4.out HB6.out
                  have j0 : w6.cell? ⟨bx, 0, none⟩ = some (.int .i64 h) := by
                    have := blk_cell hX6 0
                    rw [show x.head = (h : Int) from (by have := HHD.out; have := HHN.out; omega)] at this
                    exact this
                  have j4 := HW6.out.S.now.c4
                  have j5 := HW6.out.S.now.c5
                  obtain ⟨j8, j9⟩ := HW6.out.N h a b hhk ha0 (by omega) (by omega) hbm
                  rw [FF.ix] at j8 j9
                  obtain ⟨LL, hLL⟩ : ∃ LL, LL = t.G.names.length * t.S := ⟨_, rfl⟩
                  have b7 : (P : Int) + sv < LL := by rw [hLL]; exact FF.b1
                  rw [← hLL] at j5
                  have b8 : 0 ≤ (P : Int) + sv := by have := FF.s0; omega
                  have e1 := FF.e1
                  have e2 := FF.e2
                  have HSP := Lib.hid (show ∀ w5, RTAt w5 t → Calls Tryz.prog 45 #[.pointer (some ⟨t.p, 0, none⟩), .int .i64 a, .int .i64 b] w5 fun e w' => e = .returned (.int .i64 sv) ∧ w' = w5 from fun w5 h5 => by rw [← FF.sp]; exact rspan_any h5 hW a b)
                  have HAd := Lib.hid (show RTAt w6.drew t from HW6.out.S.now.below (below_drew' (below_refl _)))
                  have HSd := Lib.hid (show RStat w6.drew t from HW6.out.S.below (below_drew' (below_refl _)))
                  have HIX := Lib.hid FF.ix
                  have NE := Lib.hid (show t.nb ≠ bx from fun e => HBN.out (.inl e.symm))
                  have HLL := Lib.hid hLL
                  clear hLL FF hX6 y0
                  go_region_held3 (fun w' => w'.cell? ⟨bx, 0, none⟩ = some (.int .i64 h) ∧ w'.cell? ⟨t.p, 4, none⟩ = some (.int .i64 t.S) ∧ w'.cell? ⟨t.p, 5, none⟩ = some (.slice (some ⟨t.nb, 0, none⟩) LL t.xN)) (first | exact ⟨keep_set j0 NE.out, (HSd.out.upd ((Upd.refl _ _).setCell (.inl rfl) _)).now.c4, by have h9 := (HSd.out.upd ((Upd.refl _ _).setCell (p := ⟨t.nb, ((P : Int) + sv).toNat, none⟩) (.inl rfl) (.int .i64 1))).now.c5; rw [← HLL.out] at h9; exact h9⟩ | exact ⟨j0, j4, j5⟩)
                    (first | (go_at_call 45; refine (HSP.out _ HAd.out).mono ?_; rintro e w8 ⟨rfl, rfl⟩) | fail)
                  all_goals
                    go_wp2
                    go_roundw
                    case rel =>
                      have u7 : Upd (fun b => b = t.nb ∨ b = t.rb) w6 _ := (Upd.of_below (below_drew' (below_refl _))).trans ((Upd.refl _ _).setCell (p := ⟨t.nb, ((P : Int) + sv).toNat, none⟩) (.inl rfl) (.int .i64 1))
                      refine ⟨b + 1, true, _, by go_num, rfl, by omega, by omega, HFP.out, HW6.out.S.upd u7, ?_, ?_, HW6.out.U.trans u7⟩
                      · have h9 := (HW6.out.N.below (below_drew' (below_refl _))).put hhk ha0 (by omega) (by omega) hbm 1
                        rw [HIX.out] at h9
                        exact h9
                      · exact (HW6.out.P.below (below_drew' (below_refl _))).other (fun e => HNE.out e) _
                    case measure => simp [intOf]; omega
            · have hbe : b = t.W.size + 1 := by omega
              have db : decide (b ≤ (t.W.size : Int)) = false := decide_eq_false (by omega)
              go_wp2_with fail
              go_roundw
              case rel => exact ⟨a + 1, chg4, st4, by go_num, rfl, by omega, by omega, HF.out.nextA hbe, HW4.out⟩
              case measure => simp [intOf]; omega
        · have hae : a = t.W.size + 1 := by omega
          have da : decide (a ≤ (t.W.size : Int)) = false := decide_eq_false (by omega)
          subst hae
          go_wp2_with fail
          go_ret
          exact ⟨chg3, st3, rfl, HF.out, ⟨HW3.out.S, HW3.out.N, HW3.out.P, HU0.out.trans HW3.out.U⟩⟩
end Go.Proofs.YtbidpeggdhkahaaGreat
